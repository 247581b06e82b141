/- A part of the proofs: what stands below it, told in lemmas. No condition. -/
import Derived.Test.YtcnllmjkankflaaDoorP1
set_option linter.all false

/- Ob2 -/
namespace Go.Proofs.Gong
open Go Go.Sx Go.Proofs
set_option maxRecDepth 100000
abbrev kO (n : Int) : Value := .int .i64 n
theorem KIO : KeyT Tryd.prog 3 kO := KeyT.int (by kernel_rfl)
@[reducible] def cLt (y : Tk × Int × Int) : List Value := [.int .i64 y.1.seq, .int .i64 y.1.what, .int .i64 y.1.r.id, .string (bs y.1.r.e.node), .string (bs y.1.r.e.cls), .string (bs y.1.r.e.key), .int .i64 y.1.r.e.level, .string (bs y.1.r.e.text), .int .i64 y.1.r.tally, .int .i64 y.1.r.first, .int .i64 y.1.r.last, .bool y.1.r.acked, .string (bs y.1.r.who), .int .i64 y.2.1, .int .i64 y.2.2]
abbrev ltV (y : Tk × Int × Int) : Value := .agg (cLt y).toArray
abbrev zeroTk : Tk := ⟨0, 0, ⟨0, ⟨[], [], [], 0, []⟩, 0, 0, 0, false, []⟩⟩
abbrev zeroLt : Tk × Int × Int := (zeroTk, 0, 0)
theorem zLt : fZero Tryd.prog 63 = some (ltV zeroLt) := z63
def lVal (base top : Int) (x : Ltr) : Tk × Int × Int := (x.t, pauseN base top x.sent, x.at_)
abbrev LMap := List (Int × (Tk × Int × Int))
abbrev OCl (p : Nat) (o : Ob) (m : Value) : HP := Cl p #[.int .i64 o.most, .int .i64 o.base, .int .i64 o.top, .int .i64 o.last, .int .i64 o.refused, .int .i64 o.mark, m] 57
def OutA (v : Value) (o : Ob) : HP := HEx fun M => HEx fun p => HEx fun m => HPr (v = ptr p ∧ KInv ltI lKey (lVal o.base o.top) M o.ls ∧ OOk o) (HSt (OCl p o m) (MapH kO ltV m M))
theorem fbTk (n what : Int) (r : Row) : fBuild Tryd.prog 61 [(0, .int .i64 n), (1, .int .i64 what), (2, .agg (cRow r).toArray)] = some (tkV ⟨n, what, r⟩) := by kernel_rfl
theorem fbLt (t : Tk) (b : Int) : fBuild Tryd.prog 63 [(0, .agg (cTk t).toArray), (1, .int .i64 b)] = some (ltV (t, b, 0)) := by kernel_rfl
attribute [local irreducible] fBuild fLook fZero eqv bEqv Cl MapH LsH SlH ld1 ldN st callP eBox eAlloc lenM lenL eMapSet eDelete eAppend eBuildSl eRange eNext
section
variable {w0 w : World} {L : List HP} {K : Value → World → Prop} {v : Value} {o : Ob} {n : Int} {M : LMap}
theorem outA_iff : Sat w0 (OutA v o :: L) w ↔ ∃ M p m, (v = ptr p ∧ KInv ltI lKey (lVal o.base o.top) M o.ls ∧ OOk o) ∧ Sat w0 (OCl p o m :: MapH kO ltV m M :: L) w := by
  simp only [OutA, Sat.ex_iff, Sat.pr_iff, Sat.star_iff]
theorem outA_open (h : Sat w0 (OutA v o :: L) w) : ∃ p m M, v = ptr p ∧ KInv ltI lKey (lVal o.base o.top) M o.ls ∧ OOk o ∧ Sat w0 (OCl p o m :: MapH kO ltV m M :: L) w := by
  obtain ⟨M, p, m, ⟨h1, h2, h3⟩, h⟩ := outA_iff.1 h
  exact ⟨p, m, M, h1, h2, h3, h⟩
theorem outA_close {p : Nat} {m : Value} (H : KInv ltI lKey (lVal o.base o.top) M o.ls) (ok : OOk o) (h : Sat w0 (OCl p o m :: MapH kO ltV m M :: L) w) : Sat w0 (OutA (ptr p) o :: L) w :=
  outA_iff.2 ⟨M, p, m, ⟨rfl, H, ok⟩, h⟩
theorem outA_ok (h : Sat w0 (OutA v o :: L) w) : OOk o := by
  obtain ⟨_, _, _, _, _, h, _⟩ := outA_open h
  exact h
theorem onew_spec {m b t : Int} (h1 : 1 ≤ m ∧ m ≤ 65536) (h2 : 1 ≤ b ∧ b ≤ t ∧ t ≤ 144115188075855872) (h : Sat w0 L w) (hK : ∀ p w', Sat w0 (OutA (ptr p) (newO m b t) :: L) w' → K (.tuple #[ptr p, .int .i64 0]) w') : callP G5 [.int .i64 m, .int .i64 b, .int .i64 t] w K := by
  refine c5 ?_
  unfold F5
  have g1 : decide (m < 1) = false := by simp; omega
  have g2 : decide (m > 65536) = false := by simp; omega
  have g3 : decide (b < 1) = false := by simp; omega
  have g4 : decide (b > t) = false := by simp; omega
  have g5 : decide (t > 144115188075855872) = false := by simp; omega
  (repeat (first
 | (simp (disch := omega) only [evA, evB, evC, bAdd_i64, bSub_i64, g1, g2, g3, g4, g5])
 | (with_reducible apply go_ld1 h)
 | ((with_reducible first | apply go_ldA h | apply go_rd h | apply go_rdN h | apply go_rlen h); rfl)
 | (with_reducible first | apply go_ldN h | apply go_lenL h)
 | ((with_reducible apply go_st h); intro _ h)
 | ((with_reducible apply go_stA h); rfl; rfl; (first | rfl | simp [OneV.o]); intro _ h)
 | ((with_reducible apply go_stN h); rfl; (first | rfl | simp [OneV.o]); intro _ h)
 | ((with_reducible apply go_box h); rfl; intro _ _ h)
 | ((with_reducible apply go_ix h); omega)
 | ((with_reducible first | apply go_elN h | apply go_f1 h | apply go_rf1 h | apply go_rel h); (case hi => omega); (try case hx => exact inferInstance); (try case hv => rfl))
 | ((with_reducible apply go_fa h); omega; omega)
))
  refine eMakeMap_sat kO ltV h fun mv w h => ?_
  obtain ⟨r1, _, _, ⟨rfl, _⟩, _⟩ := map_iff.1 h
  have eb : fBuild Tryd.prog 57 [(0, .int .i64 m), (1, .int .i64 b), (2, .int .i64 t), (6, .map (some r1))] = some (.agg #[.int .i64 m, .int .i64 b, .int .i64 t, .int .i64 0, .int .i64 0, .int .i64 0, .map (some r1)]) := by kernel_rfl
  (repeat (first
 | (simp (disch := omega) only [evA, evB, evC, bAdd_i64, bSub_i64])
 | (refine go_some (eb ..) ?_)
 | (with_reducible apply go_ld1 h)
 | ((with_reducible first | apply go_ldA h | apply go_rd h | apply go_rdN h | apply go_rlen h); rfl)
 | (with_reducible first | apply go_ldN h | apply go_lenL h)
 | ((with_reducible apply go_st h); intro _ h)
 | ((with_reducible apply go_stA h); rfl; rfl; (first | rfl | simp [OneV.o]); intro _ h)
 | ((with_reducible apply go_stN h); rfl; (first | rfl | simp [OneV.o]); intro _ h)
 | ((with_reducible apply go_box h); rfl; intro _ _ h)
 | ((with_reducible apply go_ix h); omega)
 | ((with_reducible first | apply go_elN h | apply go_f1 h | apply go_rf1 h | apply go_rel h); (case hi => omega); (try case hx => exact inferInstance); (try case hv => rfl))
 | ((with_reducible apply go_fa h); omega; omega)
))
  exact hK _ _ (outA_close (o := newO m b t) .nil (newO_ok h1 h2) h)
theorem olast_spec (h : Sat w0 (OutA v o :: L) w) (hK : K (.int .i64 o.last) w) : callP G13 [v] w K := by
  obtain ⟨p, m, M, rfl, H, ok, h⟩ := outA_open h
  refine c13 ?_
  unfold F13
  (repeat (first
 | (simp (disch := omega) only [evA, evB, evC, bAdd_i64, bSub_i64])
 | (with_reducible apply go_ld1 h)
 | ((with_reducible first | apply go_ldA h | apply go_rd h | apply go_rdN h | apply go_rlen h); rfl)
 | (with_reducible first | apply go_ldN h | apply go_lenL h)
 | ((with_reducible apply go_st h); intro _ h)
 | ((with_reducible apply go_stA h); rfl; rfl; (first | rfl | simp [OneV.o]); intro _ h)
 | ((with_reducible apply go_stN h); rfl; (first | rfl | simp [OneV.o]); intro _ h)
 | ((with_reducible apply go_box h); rfl; intro _ _ h)
 | ((with_reducible apply go_ix h); omega)
 | ((with_reducible first | apply go_elN h | apply go_f1 h | apply go_rf1 h | apply go_rel h); (case hi => omega); (try case hx => exact inferInstance); (try case hv => rfl))
 | ((with_reducible apply go_fa h); omega; omega)
))
  exact hK
theorem orefused_spec (h : Sat w0 (OutA v o :: L) w) (hK : K (.int .i64 o.refused) w) : callP G14 [v] w K := by
  obtain ⟨p, m, M, rfl, H, ok, h⟩ := outA_open h
  refine c14 ?_
  unfold F14
  (repeat (first
 | (simp (disch := omega) only [evA, evB, evC, bAdd_i64, bSub_i64])
 | (with_reducible apply go_ld1 h)
 | ((with_reducible first | apply go_ldA h | apply go_rd h | apply go_rdN h | apply go_rlen h); rfl)
 | (with_reducible first | apply go_ldN h | apply go_lenL h)
 | ((with_reducible apply go_st h); intro _ h)
 | ((with_reducible apply go_stA h); rfl; rfl; (first | rfl | simp [OneV.o]); intro _ h)
 | ((with_reducible apply go_stN h); rfl; (first | rfl | simp [OneV.o]); intro _ h)
 | ((with_reducible apply go_box h); rfl; intro _ _ h)
 | ((with_reducible apply go_ix h); omega)
 | ((with_reducible first | apply go_elN h | apply go_f1 h | apply go_rf1 h | apply go_rel h); (case hi => omega); (try case hx => exact inferInstance); (try case hv => rfl))
 | ((with_reducible apply go_fa h); omega; omega)
))
  exact hK
theorem omark_spec (h : Sat w0 (OutA v o :: L) w) (hK : ∀ w', Sat w0 (OutA v (markO n o).2 :: L) w' → K (.int .i64 (markO n o).1) w') : callP G21 [v, .int .i64 n] w K := by
  have oka := markO_ok (outA_ok h) (n := n)
  unfold markO at oka hK
  obtain ⟨p, m, M, rfl, H, ok, h2⟩ := outA_open h
  refine c21 ?_
  unfold F21
  have h0 := h
  clear h
  have h := h2
  clear h2
  by_cases g1 : n < o.mark
  · have g1' : decide (n < o.mark) = true := by simpa using g1
    rw [if_pos (.inl g1)] at hK
    (repeat (first
 | (simp (disch := omega) only [evA, evB, evC, bAdd_i64, bSub_i64, g1'])
 | (with_reducible apply go_ld1 h)
 | ((with_reducible first | apply go_ldA h | apply go_rd h | apply go_rdN h | apply go_rlen h); rfl)
 | (with_reducible first | apply go_ldN h | apply go_lenL h)
 | ((with_reducible apply go_st h); intro _ h)
 | ((with_reducible apply go_stA h); rfl; rfl; (first | rfl | simp [OneV.o]); intro _ h)
 | ((with_reducible apply go_stN h); rfl; (first | rfl | simp [OneV.o]); intro _ h)
 | ((with_reducible apply go_box h); rfl; intro _ _ h)
 | ((with_reducible apply go_ix h); omega)
 | ((with_reducible first | apply go_elN h | apply go_f1 h | apply go_rf1 h | apply go_rel h); (case hi => omega); (try case hx => exact inferInstance); (try case hv => rfl))
 | ((with_reducible apply go_fa h); omega; omega)
))
    exact hK _ h0
  have g1' : decide (n < o.mark) = false := by simpa using g1
  by_cases g2 : o.last < n
  · have g2' : decide (n > o.last) = true := by simpa using g2
    rw [if_pos (.inr g2)] at hK
    (repeat (first
 | (simp (disch := omega) only [evA, evB, evC, bAdd_i64, bSub_i64, g1', g2'])
 | (with_reducible apply go_ld1 h)
 | ((with_reducible first | apply go_ldA h | apply go_rd h | apply go_rdN h | apply go_rlen h); rfl)
 | (with_reducible first | apply go_ldN h | apply go_lenL h)
 | ((with_reducible apply go_st h); intro _ h)
 | ((with_reducible apply go_stA h); rfl; rfl; (first | rfl | simp [OneV.o]); intro _ h)
 | ((with_reducible apply go_stN h); rfl; (first | rfl | simp [OneV.o]); intro _ h)
 | ((with_reducible apply go_box h); rfl; intro _ _ h)
 | ((with_reducible apply go_ix h); omega)
 | ((with_reducible first | apply go_elN h | apply go_f1 h | apply go_rf1 h | apply go_rel h); (case hi => omega); (try case hx => exact inferInstance); (try case hv => rfl))
 | ((with_reducible apply go_fa h); omega; omega)
))
    exact hK _ h0
  have g2' : decide (n > o.last) = false := by simpa using g2
  rw [if_neg (by omega)] at hK oka
  (repeat (first
 | (simp (disch := omega) only [evA, evB, evC, bAdd_i64, bSub_i64, g1', g2'])
 | (with_reducible apply go_ld1 h)
 | ((with_reducible first | apply go_ldA h | apply go_rd h | apply go_rdN h | apply go_rlen h); rfl)
 | (with_reducible first | apply go_ldN h | apply go_lenL h)
 | ((with_reducible apply go_st h); intro _ h)
 | ((with_reducible apply go_stA h); rfl; rfl; (first | rfl | simp [OneV.o]); intro _ h)
 | ((with_reducible apply go_stN h); rfl; (first | rfl | simp [OneV.o]); intro _ h)
 | ((with_reducible apply go_box h); rfl; intro _ _ h)
 | ((with_reducible apply go_ix h); omega)
 | ((with_reducible first | apply go_elN h | apply go_f1 h | apply go_rf1 h | apply go_rel h); (case hi => omega); (try case hx => exact inferInstance); (try case hv => rfl))
 | ((with_reducible apply go_fa h); omega; omega)
))
  exact hK _ (outA_close (o := { o with mark := n }) H oka (h.got))
theorem oack_spec (h : Sat w0 (OutA v o :: L) w) (hK : ∀ w', Sat w0 (OutA v (ackO n o).2 :: L) w' → K (.int .i64 (ackO n o).1) w') : callP G9 [v, .int .i64 n] w K := by
  have oka := ackO_ok (outA_ok h) (n := n)
  unfold ackO at oka hK
  obtain ⟨p, m, M, rfl, H, ok, h2⟩ := outA_open h
  refine c9 ?_
  unfold F9
  clear h
  have h := h2
  clear h2
  have := map_one (h.frt (A := MapH kO ltV m M))
  (repeat (first
 | (simp (disch := omega) only [evA, evB, evC, bAdd_i64, bSub_i64])
 | (with_reducible apply go_ld1 h)
 | ((with_reducible first | apply go_ldA h | apply go_rd h | apply go_rdN h | apply go_rlen h); rfl)
 | (with_reducible first | apply go_ldN h | apply go_lenL h)
 | ((with_reducible apply go_st h); intro _ h)
 | ((with_reducible apply go_stA h); rfl; rfl; (first | rfl | simp [OneV.o]); intro _ h)
 | ((with_reducible apply go_stN h); rfl; (first | rfl | simp [OneV.o]); intro _ h)
 | ((with_reducible apply go_box h); rfl; intro _ _ h)
 | ((with_reducible apply go_ix h); omega)
 | ((with_reducible first | apply go_elN h | apply go_f1 h | apply go_rf1 h | apply go_rel h); (case hi => omega); (try case hx => exact inferInstance); (try case hv => rfl))
 | ((with_reducible apply go_fa h); omega; omega)
))
  refine go_look2 h (by repeat (first | exact .here | apply Fnt.there)) KIO um55 zLt n ?_
  rw [show aGet n M = _ from H.get STO.int n]
  cases hg : kGet lKey n o.ls with
  | none =>
    rw [show lGet n o.ls = none from hg] at hK oka
    rw [show Option.map (lVal o.base o.top) (none : Option Ltr) = none from rfl]
    simp only [Option.elim_none]
    (repeat (first
 | (simp (disch := omega) only [evA, evB, evC, bAdd_i64, bSub_i64])
 | (with_reducible apply go_ld1 h)
 | ((with_reducible first | apply go_ldA h | apply go_rd h | apply go_rdN h | apply go_rlen h); rfl)
 | (with_reducible first | apply go_ldN h | apply go_lenL h)
 | ((with_reducible apply go_st h); intro _ h)
 | ((with_reducible apply go_stA h); rfl; rfl; (first | rfl | simp [OneV.o]); intro _ h)
 | ((with_reducible apply go_stN h); rfl; (first | rfl | simp [OneV.o]); intro _ h)
 | ((with_reducible apply go_box h); rfl; intro _ _ h)
 | ((with_reducible apply go_ix h); omega)
 | ((with_reducible first | apply go_elN h | apply go_f1 h | apply go_rf1 h | apply go_rel h); (case hi => omega); (try case hx => exact inferInstance); (try case hv => rfl))
 | ((with_reducible apply go_fa h); omega; omega)
))
    refine go_alloc h zLt rfl fun q _ h => ?_
    rw [if_neg (by simp)] at hK oka
    (repeat (first
 | (simp (disch := omega) only [evA, evB, evC, bAdd_i64, bSub_i64])
 | (with_reducible apply go_ld1 h)
 | ((with_reducible first | apply go_ldA h | apply go_rd h | apply go_rdN h | apply go_rlen h); rfl)
 | (with_reducible first | apply go_ldN h | apply go_lenL h)
 | ((with_reducible apply go_st h); intro _ h)
 | ((with_reducible apply go_stA h); rfl; rfl; (first | rfl | simp [OneV.o]); intro _ h)
 | ((with_reducible apply go_stN h); rfl; (first | rfl | simp [OneV.o]); intro _ h)
 | ((with_reducible apply go_box h); rfl; intro _ _ h)
 | ((with_reducible apply go_ix h); omega)
 | ((with_reducible first | apply go_elN h | apply go_f1 h | apply go_rf1 h | apply go_rel h); (case hi => omega); (try case hx => exact inferInstance); (try case hv => rfl))
 | ((with_reducible apply go_fa h); omega; omega)
))
    exact hK _ (outA_close H ok (h.got))
  | some x =>
    rw [show lGet n o.ls = some x from hg] at hK oka
    rw [show Option.map (lVal o.base o.top) (some x) = some (lVal o.base o.top x) from rfl]
    simp only [Option.elim_some]
    (repeat (first
 | (simp (disch := omega) only [evA, evB, evC, bAdd_i64, bSub_i64])
 | (with_reducible apply go_ld1 h)
 | ((with_reducible first | apply go_ldA h | apply go_rd h | apply go_rdN h | apply go_rlen h); rfl)
 | (with_reducible first | apply go_ldN h | apply go_lenL h)
 | ((with_reducible apply go_st h); intro _ h)
 | ((with_reducible apply go_stA h); rfl; rfl; (first | rfl | simp [OneV.o]); intro _ h)
 | ((with_reducible apply go_stN h); rfl; (first | rfl | simp [OneV.o]); intro _ h)
 | ((with_reducible apply go_box h); rfl; intro _ _ h)
 | ((with_reducible apply go_ix h); omega)
 | ((with_reducible first | apply go_elN h | apply go_f1 h | apply go_rf1 h | apply go_rel h); (case hi => omega); (try case hx => exact inferInstance); (try case hv => rfl))
 | ((with_reducible apply go_fa h); omega; omega)
))
    refine go_alloc h zLt rfl fun q _ h => ?_
    rw [if_pos (by simp)] at hK oka
    (repeat (first
 | (simp (disch := omega) only [evA, evB, evC, bAdd_i64, bSub_i64])
 | (with_reducible apply go_ld1 h)
 | ((with_reducible first | apply go_ldA h | apply go_rd h | apply go_rdN h | apply go_rlen h); rfl)
 | (with_reducible first | apply go_ldN h | apply go_lenL h)
 | ((with_reducible apply go_st h); intro _ h)
 | ((with_reducible apply go_stA h); rfl; rfl; (first | rfl | simp [OneV.o]); intro _ h)
 | ((with_reducible apply go_stN h); rfl; (first | rfl | simp [OneV.o]); intro _ h)
 | ((with_reducible apply go_box h); rfl; intro _ _ h)
 | ((with_reducible apply go_ix h); omega)
 | ((with_reducible first | apply go_elN h | apply go_f1 h | apply go_rf1 h | apply go_rel h); (case hi => omega); (try case hx => exact inferInstance); (try case hv => rfl))
 | ((with_reducible apply go_fa h); omega; omega)
))
    refine eDelete_sat (h.frt (A := MapH kO ltV m M)) KIO um55 n fun w h => ?_
    (repeat (first
 | (simp (disch := omega) only [evA, evB, evC, bAdd_i64, bSub_i64])
 | (with_reducible apply go_ld1 h)
 | ((with_reducible first | apply go_ldA h | apply go_rd h | apply go_rdN h | apply go_rlen h); rfl)
 | (with_reducible first | apply go_ldN h | apply go_lenL h)
 | ((with_reducible apply go_st h); intro _ h)
 | ((with_reducible apply go_stA h); rfl; rfl; (first | rfl | simp [OneV.o]); intro _ h)
 | ((with_reducible apply go_stN h); rfl; (first | rfl | simp [OneV.o]); intro _ h)
 | ((with_reducible apply go_box h); rfl; intro _ _ h)
 | ((with_reducible apply go_ix h); omega)
 | ((with_reducible first | apply go_elN h | apply go_f1 h | apply go_rf1 h | apply go_rel h); (case hi => omega); (try case hx => exact inferInstance); (try case hv => rfl))
 | ((with_reducible apply go_fa h); omega; omega)
))
    exact hK _ (outA_close (o := { o with ls := lDel n o.ls }) (H.del STO.int n) oka (h.got))
theorem oput_spec {what : Int} {r : Row} (hl : o.last < 2305843009213693952) (hr : o.refused < 2305843009213693952) (he : r.e.fits) (hw : r.who.length < 1073741824) (h : Sat w0 (OutA v o :: L) w)
    (hK : ∀ w', Sat w0 (OutA v (putO what r o).2 :: L) w' → K (.tuple #[.int .i64 (putO what r o).1.1, .int .i64 (putO what r o).1.2]) w') : callP G7 [v, .int .i64 what, rowV r] w K := by
  have oka := putO_ok (outA_ok h) hl hr (what := what) (r := r)
  unfold putO at oka hK
  obtain ⟨p, m, M, rfl, H, ok, h2⟩ := outA_open h
  refine c7 ?_
  unfold F7
  clear h
  have h := h2
  clear h2
  have := map_one (h.frt (A := MapH kO ltV m M))
  have hlb := ok.last
  have hrb := ok.refused
  have hln := ok.len
  have hmb := ok.most
  by_cases g1 : what < 1
  · have g1' : decide (what < 1) = true := by simpa using g1
    rw [if_pos (by rw [g1']; rfl)] at hK
    (repeat (first
 | (simp (disch := omega) only [evA, evB, evC, bAdd_i64, bSub_i64, g1'])
 | (with_reducible apply go_ld1 h)
 | ((with_reducible first | apply go_ldA h | apply go_rd h | apply go_rdN h | apply go_rlen h); rfl)
 | (with_reducible first | apply go_ldN h | apply go_lenL h)
 | ((with_reducible apply go_st h); intro _ h)
 | ((with_reducible apply go_stA h); rfl; rfl; (first | rfl | simp [OneV.o]); intro _ h)
 | ((with_reducible apply go_stN h); rfl; (first | rfl | simp [OneV.o]); intro _ h)
 | ((with_reducible apply go_box h); rfl; intro _ _ h)
 | ((with_reducible apply go_ix h); omega)
 | ((with_reducible first | apply go_elN h | apply go_f1 h | apply go_rf1 h | apply go_rel h); (case hi => omega); (try case hx => exact inferInstance); (try case hv => rfl))
 | ((with_reducible apply go_fa h); omega; omega)
))
    exact hK _ (outA_close H ok (h.got))
  have g1' : decide (what < 1) = false := by simpa using g1
  by_cases g2 : 5 < what
  · have g2' : decide (what > 5) = true := by simpa using g2
    rw [if_pos (by rw [show decide (5 < what) = true from g2']; simp)] at hK
    (repeat (first
 | (simp (disch := omega) only [evA, evB, evC, bAdd_i64, bSub_i64, g1', g2'])
 | (with_reducible apply go_ld1 h)
 | ((with_reducible first | apply go_ldA h | apply go_rd h | apply go_rdN h | apply go_rlen h); rfl)
 | (with_reducible first | apply go_ldN h | apply go_lenL h)
 | ((with_reducible apply go_st h); intro _ h)
 | ((with_reducible apply go_stA h); rfl; rfl; (first | rfl | simp [OneV.o]); intro _ h)
 | ((with_reducible apply go_stN h); rfl; (first | rfl | simp [OneV.o]); intro _ h)
 | ((with_reducible apply go_box h); rfl; intro _ _ h)
 | ((with_reducible apply go_ix h); omega)
 | ((with_reducible first | apply go_elN h | apply go_f1 h | apply go_rf1 h | apply go_rel h); (case hi => omega); (try case hx => exact inferInstance); (try case hv => rfl))
 | ((with_reducible apply go_fa h); omega; omega)
))
    exact hK _ (outA_close H ok (h.got))
  have g2' : decide (what > 5) = false := by simpa using g2
  (repeat (first
 | (simp (disch := omega) only [evA, evB, evC, bAdd_i64, bSub_i64, g1', g2'])
 | (with_reducible apply go_ld1 h)
 | ((with_reducible first | apply go_ldA h | apply go_rd h | apply go_rdN h | apply go_rlen h); rfl)
 | (with_reducible first | apply go_ldN h | apply go_lenL h)
 | ((with_reducible apply go_st h); intro _ h)
 | ((with_reducible apply go_stA h); rfl; rfl; (first | rfl | simp [OneV.o]); intro _ h)
 | ((with_reducible apply go_stN h); rfl; (first | rfl | simp [OneV.o]); intro _ h)
 | ((with_reducible apply go_box h); rfl; intro _ _ h)
 | ((with_reducible apply go_ix h); omega)
 | ((with_reducible first | apply go_elN h | apply go_f1 h | apply go_rf1 h | apply go_rel h); (case hi => omega); (try case hx => exact inferInstance); (try case hv => rfl))
 | ((with_reducible apply go_fa h); omega; omega)
))
  refine bcheck_spec he hw h fun w h => ?_
  unfold chkR
  cases g3 : okR r
  · rw [if_pos (by simp [g3])] at hK
    rw [if_neg (by simp)]
    (repeat (first
 | (simp (disch := omega) only [evA, evB, evC, bAdd_i64, bSub_i64, Int.reduceEq])
 | (with_reducible apply go_ld1 h)
 | ((with_reducible first | apply go_ldA h | apply go_rd h | apply go_rdN h | apply go_rlen h); rfl)
 | (with_reducible first | apply go_ldN h | apply go_lenL h)
 | ((with_reducible apply go_st h); intro _ h)
 | ((with_reducible apply go_stA h); rfl; rfl; (first | rfl | simp [OneV.o]); intro _ h)
 | ((with_reducible apply go_stN h); rfl; (first | rfl | simp [OneV.o]); intro _ h)
 | ((with_reducible apply go_box h); rfl; intro _ _ h)
 | ((with_reducible apply go_ix h); omega)
 | ((with_reducible first | apply go_elN h | apply go_f1 h | apply go_rf1 h | apply go_rel h); (case hi => omega); (try case hx => exact inferInstance); (try case hv => rfl))
 | ((with_reducible apply go_fa h); omega; omega)
))
    exact hK _ (outA_close H ok (h.got))
  rw [if_neg (by rw [g1', show decide (5 < what) = false from g2', g3]; simp)] at hK oka
  rw [if_pos rfl]
  (repeat (first
 | (simp (disch := omega) only [evA, evB, evC, bAdd_i64, bSub_i64, Int.reduceEq])
 | (with_reducible apply go_ld1 h)
 | ((with_reducible first | apply go_ldA h | apply go_rd h | apply go_rdN h | apply go_rlen h); rfl)
 | (with_reducible first | apply go_ldN h | apply go_lenL h)
 | ((with_reducible apply go_st h); intro _ h)
 | ((with_reducible apply go_stA h); rfl; rfl; (first | rfl | simp [OneV.o]); intro _ h)
 | ((with_reducible apply go_stN h); rfl; (first | rfl | simp [OneV.o]); intro _ h)
 | ((with_reducible apply go_box h); rfl; intro _ _ h)
 | ((with_reducible apply go_ix h); omega)
 | ((with_reducible first | apply go_elN h | apply go_f1 h | apply go_rf1 h | apply go_rel h); (case hi => omega); (try case hx => exact inferInstance); (try case hv => rfl))
 | ((with_reducible apply go_fa h); omega; omega)
))
  refine go_lenM h (by repeat (first | exact .here | apply Fnt.there)) ?_
  rw [H.len]
  (repeat (first
 | (simp (disch := omega) only [evA, evB, evC, bAdd_i64, bSub_i64])
 | (with_reducible apply go_ld1 h)
 | ((with_reducible first | apply go_ldA h | apply go_rd h | apply go_rdN h | apply go_rlen h); rfl)
 | (with_reducible first | apply go_ldN h | apply go_lenL h)
 | ((with_reducible apply go_st h); intro _ h)
 | ((with_reducible apply go_stA h); rfl; rfl; (first | rfl | simp [OneV.o]); intro _ h)
 | ((with_reducible apply go_stN h); rfl; (first | rfl | simp [OneV.o]); intro _ h)
 | ((with_reducible apply go_box h); rfl; intro _ _ h)
 | ((with_reducible apply go_ix h); omega)
 | ((with_reducible first | apply go_elN h | apply go_f1 h | apply go_rf1 h | apply go_rel h); (case hi => omega); (try case hx => exact inferInstance); (try case hv => rfl))
 | ((with_reducible apply go_fa h); omega; omega)
))
  by_cases g4 : o.most ≤ (o.ls.length : Int)
  · have g4' : decide ((o.ls.length : Int) ≥ o.most) = true := by simpa using g4
    rw [if_pos g4] at hK oka
    (repeat (first
 | (simp (disch := omega) only [evA, evB, evC, bAdd_i64, bSub_i64, g4'])
 | (with_reducible apply go_ld1 h)
 | ((with_reducible first | apply go_ldA h | apply go_rd h | apply go_rdN h | apply go_rlen h); rfl)
 | (with_reducible first | apply go_ldN h | apply go_lenL h)
 | ((with_reducible apply go_st h); intro _ h)
 | ((with_reducible apply go_stA h); rfl; rfl; (first | rfl | simp [OneV.o]); intro _ h)
 | ((with_reducible apply go_stN h); rfl; (first | rfl | simp [OneV.o]); intro _ h)
 | ((with_reducible apply go_box h); rfl; intro _ _ h)
 | ((with_reducible apply go_ix h); omega)
 | ((with_reducible first | apply go_elN h | apply go_f1 h | apply go_rf1 h | apply go_rel h); (case hi => omega); (try case hx => exact inferInstance); (try case hv => rfl))
 | ((with_reducible apply go_fa h); omega; omega)
))
    exact hK _ (outA_close (o := { o with refused := o.refused + 1 }) H oka (h.got))
  have g4' : decide ((o.ls.length : Int) ≥ o.most) = false := by simp; omega
  rw [if_neg g4] at hK oka
  (repeat (first
 | (simp (disch := omega) only [evA, evB, evC, bAdd_i64, bSub_i64, g4'])
 | (with_reducible apply go_ld1 h)
 | ((with_reducible first | apply go_ldA h | apply go_rd h | apply go_rdN h | apply go_rlen h); rfl)
 | (with_reducible first | apply go_ldN h | apply go_lenL h)
 | ((with_reducible apply go_st h); intro _ h)
 | ((with_reducible apply go_stA h); rfl; rfl; (first | rfl | simp [OneV.o]); intro _ h)
 | ((with_reducible apply go_stN h); rfl; (first | rfl | simp [OneV.o]); intro _ h)
 | ((with_reducible apply go_box h); rfl; intro _ _ h)
 | ((with_reducible apply go_ix h); omega)
 | ((with_reducible first | apply go_elN h | apply go_f1 h | apply go_rf1 h | apply go_rel h); (case hi => omega); (try case hx => exact inferInstance); (try case hv => rfl))
 | ((with_reducible apply go_fa h); omega; omega)
))
  refine go_some (fbTk (o.last + 1) what r) ?_
  refine c23 ?_
  unfold F23
  (repeat (first
 | (simp (disch := omega) only [evA, evB, evC, bAdd_i64, bSub_i64])
 | (with_reducible apply go_ld1 h)
 | ((with_reducible first | apply go_ldA h | apply go_rd h | apply go_rdN h | apply go_rlen h); rfl)
 | (with_reducible first | apply go_ldN h | apply go_lenL h)
 | ((with_reducible apply go_st h); intro _ h)
 | ((with_reducible apply go_stA h); rfl; rfl; (first | rfl | simp [OneV.o]); intro _ h)
 | ((with_reducible apply go_stN h); rfl; (first | rfl | simp [OneV.o]); intro _ h)
 | ((with_reducible apply go_box h); rfl; intro _ _ h)
 | ((with_reducible apply go_ix h); omega)
 | ((with_reducible first | apply go_elN h | apply go_f1 h | apply go_rf1 h | apply go_rel h); (case hi => omega); (try case hx => exact inferInstance); (try case hv => rfl))
 | ((with_reducible apply go_fa h); omega; omega)
))
  refine go_some (fbLt ⟨o.last + 1, what, r⟩ o.base) ?_
  refine eMapSet_sat (h.drew.frt (A := MapH kO ltV m M)) KIO um55 (o.last + 1) ((⟨o.last + 1, what, r⟩, o.base, 0) : Tk × Int × Int) fun w h => ?_
  (repeat (first
 | (simp (disch := omega) only [evA, evB, evC, bAdd_i64, bSub_i64])
 | (with_reducible apply go_ld1 h)
 | ((with_reducible first | apply go_ldA h | apply go_rd h | apply go_rdN h | apply go_rlen h); rfl)
 | (with_reducible first | apply go_ldN h | apply go_lenL h)
 | ((with_reducible apply go_st h); intro _ h)
 | ((with_reducible apply go_stA h); rfl; rfl; (first | rfl | simp [OneV.o]); intro _ h)
 | ((with_reducible apply go_stN h); rfl; (first | rfl | simp [OneV.o]); intro _ h)
 | ((with_reducible apply go_box h); rfl; intro _ _ h)
 | ((with_reducible apply go_ix h); omega)
 | ((with_reducible first | apply go_elN h | apply go_f1 h | apply go_rf1 h | apply go_rel h); (case hi => omega); (try case hx => exact inferInstance); (try case hv => rfl))
 | ((with_reducible apply go_fa h); omega; omega)
))
  refine hK _ (outA_close (o := { o with last := o.last + 1, ls := o.ls ++ [⟨⟨o.last + 1, what, r⟩, 0, 0⟩] }) ?_ oka (h.got))
  have h1 := H.put STO.int ⟨⟨o.last + 1, what, r⟩, 0, 0⟩
  rw [kPut_last STO.int fun d hd => by have := ok.ok d hd; simp [ltI, lKey]; omega] at h1
  exact h1
end
end Go.Proofs.Gong

/- Ob3 -/
namespace Go.Proofs.Gong
open Go Go.Sx Go.Proofs
set_option maxRecDepth 100000
theorem CTk : Cod cTk 13 := ⟨fun _ => rfl, fun _ => rfl, by omega⟩
instance : CodC cTk 13 := ⟨CTk⟩
theorem fbTkS (x : Tk) : fBuildSl Tryd.prog 61 1 [(0, .agg (cTk x).toArray)] = some (cTk x).toArray := by kernel_rfl
theorem ffLt (y : Tk × Int × Int) : fField Tryd.prog 63 (ltV y) 0 = some (tkV y.1) := by kernel_rfl
theorem lkey_at {l : List Ltr} {i : Nat} (hi : i < l.length) (h : i < (l.map lKey).length) : (l.map lKey)[i] = l[i].t.seq := by simp
attribute [local irreducible] fBuild fLook fZero eqv bEqv Cl MapH LsH SlH ld1 ldN st callP eBox eAlloc lenM lenL eMapSet eDelete eAppend eBuildSl eRange eNext
section
variable {w0 w : World} {L : List HP} {K : Value → World → Prop} {v : Value} {o : Ob} {n now : Int} {M : LMap}
theorem onums_spec (h : Sat w0 (OutA v o :: L) w) (hK : ∀ s w', Sat w0 (LsH cI 1 3 s (o.ls.map lKey) :: OutA v o :: L) w' → K s w') : callP G24 [v] w K := by
  obtain ⟨p, m, M, rfl, H, ok, h2⟩ := outA_open h
  refine c24 ?_
  unfold F24
  clear h
  have h := h2
  clear h2
  obtain ⟨r1, _, _, ⟨rfl, _⟩, _⟩ := map_iff.1 (h.frt (A := MapH kO ltV m M))
  (repeat (first
 | (simp (disch := omega) only [evA, evB, evC, bAdd_i64, bSub_i64])
 | (with_reducible apply go_ld1 h)
 | ((with_reducible first | apply go_ldA h | apply go_rd h | apply go_rdN h | apply go_rlen h); rfl)
 | (with_reducible first | apply go_ldN h | apply go_lenL h)
 | ((with_reducible apply go_st h); intro _ h)
 | ((with_reducible apply go_stA h); rfl; rfl; (first | rfl | simp [OneV.o]); intro _ h)
 | ((with_reducible apply go_stN h); rfl; (first | rfl | simp [OneV.o]); intro _ h)
 | ((with_reducible apply go_box h); rfl; intro _ _ h)
 | ((with_reducible apply go_ix h); omega)
 | ((with_reducible first | apply go_elN h | apply go_f1 h | apply go_rf1 h | apply go_rel h); (case hi => omega); (try case hx => exact inferInstance); (try case hv => rfl))
 | ((with_reducible apply go_fa h); omega; omega)
))
  refine c40 ?_
  unfold F40
  (repeat (first
 | (simp (disch := omega) only [evA, evB, evC, bAdd_i64, bSub_i64])
 | (with_reducible apply go_ld1 h)
 | ((with_reducible first | apply go_ldA h | apply go_rd h | apply go_rdN h | apply go_rlen h); rfl)
 | (with_reducible first | apply go_ldN h | apply go_lenL h)
 | ((with_reducible apply go_st h); intro _ h)
 | ((with_reducible apply go_stA h); rfl; rfl; (first | rfl | simp [OneV.o]); intro _ h)
 | ((with_reducible apply go_stN h); rfl; (first | rfl | simp [OneV.o]); intro _ h)
 | ((with_reducible apply go_box h); rfl; intro _ _ h)
 | ((with_reducible apply go_ix h); omega)
 | ((with_reducible first | apply go_elN h | apply go_f1 h | apply go_rf1 h | apply go_rel h); (case hi => omega); (try case hx => exact inferInstance); (try case hv => rfl))
 | ((with_reducible apply go_fa h); omega; omega)
))
  refine sortedI_sat (m := M) (ev := ltV) (L := OCl p o (.map (some r1)) :: L) (h.got) ?_ ?_ fun l s w hp hs h => ?_
  · intro x hx
    obtain ⟨y, hy, e⟩ := List.mem_map.1 (H.pm.mem_iff.1 hx)
    have h1 := ok.ok y hy
    have h2 := ok.last
    rw [← e]
    show -9223372036854775808 ≤ y.t.seq ∧ y.t.seq ≤ 9223372036854775807
    omega
  · rw [H.len]; have := ok.len; have := ok.most; omega
  have el : l = o.ls.map lKey := H.sorted STO.int hp (hs.imp fun h => by
    simp only [ltI, decide_eq_false_iff_not]; omega)
  subst el
  exact hK _ _ (Sat.f1 (outA_close H ok (h.got)))
theorem oall_loop {p : Nat} {m nv : Value} (H : KInv ltI lKey (lVal o.base o.top) M o.ls) (ok : OOk o) (hK : ∀ s w', Sat w0 (LsH cTk 13 61 s (allO o) :: OutA (ptr p) o :: L) w' → K s w') :
    ∀ (k i : Nat) (s3 : Value) (w : World), o.ls.length - i < k → i ≤ o.ls.length → Sat w0 (LsH cTk 13 61 s3 ((o.ls.take i).map (·.t)) :: OCl p o m :: MapH kO ltV m M :: LsH cI 1 3 nv (o.ls.map lKey) :: L) w →
      F11_2L k (ptr p) s3 nv (.int .i64 (o.ls.length : Nat)) (.int .i64 i) w K := by
  intro k
  induction k with
  | zero => intro i s3 w hd; omega
  | succ k ih =>
    intro i s3 w hd hi h
    rw [F11_2L]
    unfold F11_2b
    have hln := ok.len
    have hmb := ok.most
    have := map_one (h.frt (A := MapH kO ltV m M))
    by_cases g : i < o.ls.length
    · have g' : decide ((i : Int) < (o.ls.length : Int)) = true := by simpa using g
      have hil : i < (o.ls.map lKey).length := by simpa using g
      have hnm := lkey_at g hil
      have ht : (o.ls.take (i + 1)).map (·.t) = (o.ls.take i).map (·.t) ++ [o.ls[i].t] := by rw [List.take_succ_eq_append_getElem g, List.map_append]; rfl
      have hget : aGet o.ls[i].t.seq M = some (lVal o.base o.top o.ls[i]) := by
        rw [show aGet o.ls[i].t.seq M = _ from H.get STO.int _, show kGet lKey o.ls[i].t.seq _ = some o.ls[i] from kGet_of STO.int ok.asc (List.getElem_mem g)]
        rfl
      (repeat (first
 | (simp (disch := omega) only [evA, evB, evC, bAdd_i64, bSub_i64, g', hnm])
 | (with_reducible apply go_ld1 h)
 | ((with_reducible first | apply go_ldA h | apply go_rd h | apply go_rdN h); rfl)
 | (with_reducible first | apply go_ldN h | apply go_lenR h)
 | ((with_reducible apply go_st h); intro _ h)
 | ((with_reducible apply go_stA h); rfl; rfl; (first | rfl | simp [OneV.o]); intro _ h)
 | ((with_reducible apply go_stN h); rfl; (first | rfl | simp [OneV.o]); intro _ h)
 | ((with_reducible apply go_box h); rfl; intro _ _ h)
 | ((with_reducible apply go_ixR h); omega)
 | ((with_reducible first | apply go_elR h | apply go_f1R h | apply go_rf1R h | apply go_relR h | apply go_e1R h | apply go_re1R h); (case hc => exact inferInstance); (case hi => omega); (try case hx => exact inferInstance); (try case hv => rfl))
 | ((with_reducible apply go_fNR h); (case hc => exact inferInstance); (case hi => omega); (try case hp => exact inferInstance); (try case hv => rfl))
 | ((with_reducible apply go_faR h); (case hc => exact inferInstance); omega; omega)
 | ((with_reducible apply go_rlenR h); rfl)
))
      refine go_look1 h (by repeat (first | exact .here | apply Fnt.there)) KIO um55 zLt o.ls[i].t.seq ?_
      rw [hget]
      simp only [Option.elim_some]
      refine go_some (ffLt _) ?_
      refine go_lit1 (x := o.ls[i].t) CTk h u37 (fbTkS o.ls[i].t) rfl fun s1 w h => ?_
      (repeat (first
 | (simp (disch := omega) only [evA, evB, evC, bAdd_i64, bSub_i64])
 | (with_reducible apply go_ld1 h)
 | ((with_reducible first | apply go_ldA h | apply go_rd h | apply go_rdN h | apply go_rlen h); rfl)
 | (with_reducible first | apply go_ldN h | apply go_lenL h)
 | ((with_reducible apply go_st h); intro _ h)
 | ((with_reducible apply go_stA h); rfl; rfl; (first | rfl | simp [OneV.o]); intro _ h)
 | ((with_reducible apply go_stN h); rfl; (first | rfl | simp [OneV.o]); intro _ h)
 | ((with_reducible apply go_box h); rfl; intro _ _ h)
 | ((with_reducible apply go_ix h); omega)
 | ((with_reducible first | apply go_elN h | apply go_f1 h | apply go_rf1 h | apply go_rel h); (case hi => omega); (try case hx => exact inferInstance); (try case hv => rfl))
 | ((with_reducible apply go_fa h); omega; omega)
 | ((with_reducible first | apply go_lit0 CTk h u37 (by kernel_rfl) | apply go_lit1 CTk h u37 (fbTkS _) rfl); intro _ _ h)
 | ((with_reducible apply go_app h sl37 ss37); (case hm => repeat (first | exact .here | apply Fnt.there)); (case hb => first | omega | (simp; omega)); intro _ _ _ h)
))
      exact ih (i + 1) _ _ (by omega) (by omega) (by rw [ht]; exact h.got)
    · have g' : decide ((i : Int) < (o.ls.length : Int)) = false := by simpa using g
      have e : i = o.ls.length := by omega
      subst e
      rw [List.take_length] at h
      (repeat (first
 | (simp (disch := omega) only [evA, evB, evC, bAdd_i64, bSub_i64, g'])
 | (with_reducible apply go_ld1 h)
 | ((with_reducible first | apply go_ldA h | apply go_rd h | apply go_rdN h | apply go_rlen h); rfl)
 | (with_reducible first | apply go_ldN h | apply go_lenL h)
 | ((with_reducible apply go_st h); intro _ h)
 | ((with_reducible apply go_stA h); rfl; rfl; (first | rfl | simp [OneV.o]); intro _ h)
 | ((with_reducible apply go_stN h); rfl; (first | rfl | simp [OneV.o]); intro _ h)
 | ((with_reducible apply go_box h); rfl; intro _ _ h)
 | ((with_reducible apply go_ix h); omega)
 | ((with_reducible first | apply go_elN h | apply go_f1 h | apply go_rf1 h | apply go_rel h); (case hi => omega); (try case hx => exact inferInstance); (try case hv => rfl))
 | ((with_reducible apply go_fa h); omega; omega)
))
      unfold F11_3 F11_3b
      exact hK _ _ (Sat.f1 (outA_close H ok (h.got)))
theorem oall_spec (h : Sat w0 (OutA v o :: L) w) (hK : ∀ s w', Sat w0 (LsH cTk 13 61 s (allO o) :: OutA v o :: L) w' → K s w') : callP G11 [v] w K := by
  refine c11 ?_
  unfold F11 F11_1 F11_1b
  refine onums_spec h fun nv w h => ?_
  obtain ⟨p, m, M, rfl, H, ok, h2⟩ := outA_open (h.frt (A := OutA v o))
  clear h
  have h := h2
  clear h2
  (repeat (first
 | (simp (disch := omega) only [evA, evB, evC, bAdd_i64, bSub_i64])
 | (with_reducible apply go_ld1 h)
 | ((with_reducible first | apply go_ldA h | apply go_rd h | apply go_rdN h | apply go_rlen h); rfl)
 | (with_reducible first | apply go_ldN h | apply go_lenL h)
 | ((with_reducible apply go_st h); intro _ h)
 | ((with_reducible apply go_stA h); rfl; rfl; (first | rfl | simp [OneV.o]); intro _ h)
 | ((with_reducible apply go_stN h); rfl; (first | rfl | simp [OneV.o]); intro _ h)
 | ((with_reducible apply go_box h); rfl; intro _ _ h)
 | ((with_reducible apply go_ix h); omega)
 | ((with_reducible first | apply go_elN h | apply go_f1 h | apply go_rf1 h | apply go_rel h); (case hi => omega); (try case hx => exact inferInstance); (try case hv => rfl))
 | ((with_reducible apply go_fa h); omega; omega)
))
  rw [List.length_map]
  unfold F11_2
  have h := Sat.nilLs cTk 13 61 h
  exact oall_loop H ok hK fuel 0 _ _ (by have := ok.len; have := ok.most; unfold fuel; omega) (by omega) h
theorem odue_loop {p : Nat} {m nv : Value} (ht : 0 ≤ now ∧ now ≤ 2305843009213693952) (ok : OOk o) (hok : OOk { o with ls := o.ls.map (stepO o now) })
    (hK : ∀ s w', Sat w0 (LsH cTk 13 61 s ((o.ls.filter (mayO o now)).map (·.t)) :: OutA (ptr p) { o with ls := o.ls.map (stepO o now) } :: L) w' → K (.tuple #[s, .int .i64 0]) w') :
    ∀ (k i : Nat) (s6 : Value) (M : LMap) (w : World), o.ls.length - i < k → i ≤ o.ls.length → KInv ltI lKey (lVal o.base o.top) M ((o.ls.take i).map (stepO o now) ++ o.ls.drop i) →
      Sat w0 (LsH cTk 13 61 s6 (((o.ls.take i).filter (mayO o now)).map (·.t)) :: OCl p o m :: MapH kO ltV m M :: LsH cI 1 3 nv (o.ls.map lKey) :: L) w →
      F15_2L k (ptr p) (.int .i64 now) s6 nv (.int .i64 (o.ls.length : Nat)) (.int .i64 i) w K := by
  intro k
  induction k with
  | zero => intro i s6 M w hd; omega
  | succ k ih =>
    intro i s6 M w hd hi H h
    rw [F15_2L]
    unfold F15_4 F15_4b
    have hln := ok.len
    have hmb := ok.most
    have hbt := ok.base
    have hone := map_one (h.frt (A := MapH kO ltV m M))
    by_cases g : i < o.ls.length
    · have g' : decide ((i : Int) < (o.ls.length : Int)) = true := by simpa using g
      have hil : i < (o.ls.map lKey).length := by simpa using g
      have hnm := lkey_at g hil
      have hcur : (o.ls.take i).map (stepO o now) ++ o.ls.drop i = (o.ls.take i).map (stepO o now) ++ o.ls[i] :: o.ls.drop (i + 1) := by rw [List.drop_eq_getElem_cons g]
      rw [hcur] at H
      have hxo := ok.ok _ (List.getElem_mem g)
      have ht1 : (o.ls.take (i + 1)).map (stepO o now) ++ o.ls.drop (i + 1) = (o.ls.take i).map (stepO o now) ++ stepO o now o.ls[i] :: o.ls.drop (i + 1) := by
        rw [List.take_succ_eq_append_getElem g, List.map_append, List.append_assoc]; rfl
      have ht2 : ((o.ls.take (i + 1)).filter (mayO o now)).map (·.t) = ((o.ls.take i).filter (mayO o now)).map (·.t) ++ if mayO o now o.ls[i] = true then [o.ls[i].t] else [] := by
        rw [List.take_succ_eq_append_getElem g, List.filter_append, List.map_append]
        congr 1
        by_cases hm : mayO o now o.ls[i] = true <;> simp [hm]
      obtain ⟨x, hx⟩ : ∃ x, o.ls[i] = x := ⟨_, rfl⟩
      have hlen2 : (((o.ls.take i).filter (mayO o now)).map (·.t)).length ≤ 65536 := by
        rw [List.length_map]
        have := List.length_filter_le (mayO o now) (o.ls.take i)
        rw [List.length_take] at this
        omega
      have hlen3 : ((o.ls.take i).filter (mayO o now)).length ≤ 65536 := by rw [List.length_map] at hlen2; exact hlen2
      rw [hx] at hnm H hxo ht1 ht2
      have hget : aGet x.t.seq M = some (lVal o.base o.top x) := by
        rw [show aGet x.t.seq M = _ from H.get STO.int _, show kGet lKey x.t.seq _ = some x from kGet_of STO.int H.asc (by simp)]
        rfl
      have hp1 := pauseN_bd (base := o.base) (top := o.top) ⟨hbt.1, hbt.2.1⟩ x.sent
      (repeat (first
 | (simp (disch := omega) only [evA, evB, evC, bAdd_i64, bSub_i64, g', hnm])
 | (with_reducible apply go_ld1 h)
 | ((with_reducible first | apply go_ldA h | apply go_rd h | apply go_rdN h); rfl)
 | (with_reducible first | apply go_ldN h | apply go_lenR h)
 | ((with_reducible apply go_st h); intro _ h)
 | ((with_reducible apply go_stA h); rfl; rfl; (first | rfl | simp [OneV.o]); intro _ h)
 | ((with_reducible apply go_stN h); rfl; (first | rfl | simp [OneV.o]); intro _ h)
 | ((with_reducible apply go_box h); rfl; intro _ _ h)
 | ((with_reducible apply go_ixR h); omega)
 | ((with_reducible first | apply go_elR h | apply go_f1R h | apply go_rf1R h | apply go_relR h | apply go_e1R h | apply go_re1R h); (case hc => exact inferInstance); (case hi => omega); (try case hx => exact inferInstance); (try case hv => rfl))
 | ((with_reducible apply go_fNR h); (case hc => exact inferInstance); (case hi => omega); (try case hp => exact inferInstance); (try case hv => rfl))
 | ((with_reducible apply go_faR h); (case hc => exact inferInstance); omega; omega)
 | ((with_reducible apply go_rlenR h); rfl)
))
      refine go_look1 h (by repeat (first | exact .here | apply Fnt.there)) KIO um55 zLt x.t.seq ?_
      rw [hget]
      simp only [Option.elim_some]
      unfold lVal
      refine go_alloc h zLt rfl fun q _ h => ?_
      by_cases g1 : x.t.seq ≤ o.mark
      case neg =>
        have g1' : decide (x.t.seq > o.mark) = true := by simp; omega
        have hm : mayO o now x = false := by unfold mayO; rw [decide_eq_false g1]; rfl
        have es : stepO o now x = x := by unfold stepO; rw [if_neg (by simp [hm])]
        rw [es] at ht1
        rw [if_neg (by simp [hm]), List.append_nil] at ht2
        (repeat (first
 | (simp (disch := omega) only [evA, evB, evC, bAdd_i64, bSub_i64, g1'])
 | (with_reducible apply go_ld1 h)
 | ((with_reducible first | apply go_ldA h | apply go_rd h | apply go_rdN h | apply go_rlen h); rfl)
 | (with_reducible first | apply go_ldN h | apply go_lenL h)
 | ((with_reducible apply go_st h); intro _ h)
 | ((with_reducible apply go_stA h); rfl; rfl; (first | rfl | simp [OneV.o]); intro _ h)
 | ((with_reducible apply go_stN h); rfl; (first | rfl | simp [OneV.o]); intro _ h)
 | ((with_reducible apply go_box h); rfl; intro _ _ h)
 | ((with_reducible apply go_ix h); omega)
 | ((with_reducible first | apply go_elN h | apply go_f1 h | apply go_rf1 h | apply go_rel h); (case hi => omega); (try case hx => exact inferInstance); (try case hv => rfl))
 | ((with_reducible apply go_fa h); omega; omega)
))
        unfold F15_5 F15_5b
        (repeat (first
 | (simp (disch := omega) only [evA, evB, evC, bAdd_i64, bSub_i64])
 | (with_reducible apply go_ld1 h)
 | ((with_reducible first | apply go_ldA h | apply go_rd h | apply go_rdN h | apply go_rlen h); rfl)
 | (with_reducible first | apply go_ldN h | apply go_lenL h)
 | ((with_reducible apply go_st h); intro _ h)
 | ((with_reducible apply go_stA h); rfl; rfl; (first | rfl | simp [OneV.o]); intro _ h)
 | ((with_reducible apply go_stN h); rfl; (first | rfl | simp [OneV.o]); intro _ h)
 | ((with_reducible apply go_box h); rfl; intro _ _ h)
 | ((with_reducible apply go_ix h); omega)
 | ((with_reducible first | apply go_elN h | apply go_f1 h | apply go_rf1 h | apply go_rel h); (case hi => omega); (try case hx => exact inferInstance); (try case hv => rfl))
 | ((with_reducible apply go_fa h); omega; omega)
))
        exact ih (i + 1) _ M _ (by omega) (by omega) (by rw [ht1]; exact H) (by rw [ht2]; exact h.got)
      have g1' : decide (x.t.seq > o.mark) = false := by simp; omega
      by_cases g2 : x.at_ ≤ now
      case neg =>
        have g2' : decide (x.at_ > now) = true := by simp; omega
        have hm : mayO o now x = false := by unfold mayO; rw [decide_eq_false g2]; simp
        have es : stepO o now x = x := by unfold stepO; rw [if_neg (by simp [hm])]
        rw [es] at ht1
        rw [if_neg (by simp [hm]), List.append_nil] at ht2
        (repeat (first
 | (simp (disch := omega) only [evA, evB, evC, bAdd_i64, bSub_i64, g1', g2'])
 | (with_reducible apply go_ld1 h)
 | ((with_reducible first | apply go_ldA h | apply go_rd h | apply go_rdN h | apply go_rlen h); rfl)
 | (with_reducible first | apply go_ldN h | apply go_lenL h)
 | ((with_reducible apply go_st h); intro _ h)
 | ((with_reducible apply go_stA h); rfl; rfl; (first | rfl | simp [OneV.o]); intro _ h)
 | ((with_reducible apply go_stN h); rfl; (first | rfl | simp [OneV.o]); intro _ h)
 | ((with_reducible apply go_box h); rfl; intro _ _ h)
 | ((with_reducible apply go_ix h); omega)
 | ((with_reducible first | apply go_elN h | apply go_f1 h | apply go_rf1 h | apply go_rel h); (case hi => omega); (try case hx => exact inferInstance); (try case hv => rfl))
 | ((with_reducible apply go_fa h); omega; omega)
))
        unfold F15_5 F15_5b
        (repeat (first
 | (simp (disch := omega) only [evA, evB, evC, bAdd_i64, bSub_i64])
 | (with_reducible apply go_ld1 h)
 | ((with_reducible first | apply go_ldA h | apply go_rd h | apply go_rdN h | apply go_rlen h); rfl)
 | (with_reducible first | apply go_ldN h | apply go_lenL h)
 | ((with_reducible apply go_st h); intro _ h)
 | ((with_reducible apply go_stA h); rfl; rfl; (first | rfl | simp [OneV.o]); intro _ h)
 | ((with_reducible apply go_stN h); rfl; (first | rfl | simp [OneV.o]); intro _ h)
 | ((with_reducible apply go_box h); rfl; intro _ _ h)
 | ((with_reducible apply go_ix h); omega)
 | ((with_reducible first | apply go_elN h | apply go_f1 h | apply go_rf1 h | apply go_rel h); (case hi => omega); (try case hx => exact inferInstance); (try case hv => rfl))
 | ((with_reducible apply go_fa h); omega; omega)
))
        exact ih (i + 1) _ M _ (by omega) (by omega) (by rw [ht1]; exact H) (by rw [ht2]; exact h.got)
      have g2' : decide (x.at_ > now) = false := by simp; omega
      have hm : mayO o now x = true := by unfold mayO; rw [decide_eq_true g1, decide_eq_true g2]; rfl
      have es : stepO o now x = sendO o now x := by unfold stepO; rw [if_pos hm]
      rw [es] at ht1
      rw [if_pos hm] at ht2
      (repeat (first
 | (simp (disch := omega) only [evA, evB, evC, bAdd_i64, bSub_i64, g1', g2'])
 | (with_reducible apply go_ld1 h)
 | ((with_reducible first | apply go_ldA h | apply go_rd h | apply go_rdN h | apply go_rlen h); rfl)
 | (with_reducible first | apply go_ldN h | apply go_lenL h)
 | ((with_reducible apply go_st h); intro _ h)
 | ((with_reducible apply go_stA h); rfl; rfl; (first | rfl | simp [OneV.o]); intro _ h)
 | ((with_reducible apply go_stN h); rfl; (first | rfl | simp [OneV.o]); intro _ h)
 | ((with_reducible apply go_box h); rfl; intro _ _ h)
 | ((with_reducible apply go_ix h); omega)
 | ((with_reducible first | apply go_elN h | apply go_f1 h | apply go_rf1 h | apply go_rel h); (case hi => omega); (try case hx => exact inferInstance); (try case hv => rfl))
 | ((with_reducible apply go_fa h); omega; omega)
))
      refine go_lit1 (x := x.t) CTk h u37 (fbTkS x.t) rfl fun s1 w h => ?_
      have emul : bMul (.int .i64 2) (.int .i64 (pauseN o.base o.top x.sent)) = some (.int .i64 (2 * pauseN o.base o.top x.sent)) := by rw [bMul_int, wrap_id (by omega)]
      (repeat (first
 | (simp (disch := omega) only [evA, evB, evC, bAdd_i64, bSub_i64, emul])
 | (with_reducible apply go_ld1 h)
 | ((with_reducible first | apply go_ldA h | apply go_rd h | apply go_rdN h | apply go_rlen h); rfl)
 | (with_reducible first | apply go_ldN h | apply go_lenL h)
 | ((with_reducible apply go_st h); intro _ h)
 | ((with_reducible apply go_stA h); rfl; rfl; (first | rfl | simp [OneV.o]); intro _ h)
 | ((with_reducible apply go_stN h); rfl; (first | rfl | simp [OneV.o]); intro _ h)
 | ((with_reducible apply go_box h); rfl; intro _ _ h)
 | ((with_reducible apply go_ix h); omega)
 | ((with_reducible first | apply go_elN h | apply go_f1 h | apply go_rf1 h | apply go_rel h); (case hi => omega); (try case hx => exact inferInstance); (try case hv => rfl))
 | ((with_reducible apply go_fa h); omega; omega)
 | ((with_reducible first | apply go_lit0 CTk h u37 (by kernel_rfl) | apply go_lit1 CTk h u37 (fbTkS _) rfl); intro _ _ h)
 | ((with_reducible apply go_app h sl37 ss37); (case hm => repeat (first | exact .here | apply Fnt.there)); (case hb => first | omega | (simp; omega)); intro _ _ _ h)
))
      refine eMapSet_sat (h.drew.frt (A := MapH kO ltV m M)) KIO um55 x.t.seq ((x.t, min (2 * pauseN o.base o.top x.sent) o.top, min (now + pauseN o.base o.top x.sent) 2305843009213693952) : Tk × Int × Int) fun w h => ?_
      unfold F15_5 F15_5b
      (repeat (first
 | (simp (disch := omega) only [evA, evB, evC, bAdd_i64, bSub_i64])
 | (with_reducible apply go_ld1 h)
 | ((with_reducible first | apply go_ldA h | apply go_rd h | apply go_rdN h | apply go_rlen h); rfl)
 | (with_reducible first | apply go_ldN h | apply go_lenL h)
 | ((with_reducible apply go_st h); intro _ h)
 | ((with_reducible apply go_stA h); rfl; rfl; (first | rfl | simp [OneV.o]); intro _ h)
 | ((with_reducible apply go_stN h); rfl; (first | rfl | simp [OneV.o]); intro _ h)
 | ((with_reducible apply go_box h); rfl; intro _ _ h)
 | ((with_reducible apply go_ix h); omega)
 | ((with_reducible first | apply go_elN h | apply go_f1 h | apply go_rf1 h | apply go_rel h); (case hi => omega); (try case hx => exact inferInstance); (try case hv => rfl))
 | ((with_reducible apply go_fa h); omega; omega)
))
      refine ih (i + 1) _ _ w (by omega) (by omega) ?_ (by rw [ht2]; exact h.got)
      have h1 := H.put STO.int (sendO o now x)
      have hsp := H.asc.ne STO.int
      rw [List.pairwise_append, List.pairwise_cons] at hsp
      have e2 : kPut ltI lKey (sendO o now x) ((o.ls.take i).map (stepO o now) ++ x :: o.ls.drop (i + 1)) = (o.ls.take i).map (stepO o now) ++ sendO o now x :: o.ls.drop (i + 1) := by
        rw [kPut_rep STO.int H.asc (x := sendO o now x) (b := x) (by simp) rfl]
        exact kRep_split (b := x) rfl (fun d hd => hsp.2.2 d hd x (by simp)) (fun d hd e => hsp.2.1.1 d hd e.symm)
      rw [e2] at h1
      rw [ht1]
      exact h1
    · have g' : decide ((i : Int) < (o.ls.length : Int)) = false := by simpa using g
      have e : i = o.ls.length := by omega
      subst e
      rw [List.take_length] at h
      rw [List.take_length, List.drop_length, List.append_nil] at H
      (repeat (first
 | (simp (disch := omega) only [evA, evB, evC, bAdd_i64, bSub_i64, g'])
 | (with_reducible apply go_ld1 h)
 | ((with_reducible first | apply go_ldA h | apply go_rd h | apply go_rdN h | apply go_rlen h); rfl)
 | (with_reducible first | apply go_ldN h | apply go_lenL h)
 | ((with_reducible apply go_st h); intro _ h)
 | ((with_reducible apply go_stA h); rfl; rfl; (first | rfl | simp [OneV.o]); intro _ h)
 | ((with_reducible apply go_stN h); rfl; (first | rfl | simp [OneV.o]); intro _ h)
 | ((with_reducible apply go_box h); rfl; intro _ _ h)
 | ((with_reducible apply go_ix h); omega)
 | ((with_reducible first | apply go_elN h | apply go_f1 h | apply go_rf1 h | apply go_rel h); (case hi => omega); (try case hx => exact inferInstance); (try case hv => rfl))
 | ((with_reducible apply go_fa h); omega; omega)
))
      unfold F15_3 F15_3b
      exact hK _ _ (Sat.f1 (outA_close (o := { o with ls := o.ls.map (stepO o now) }) H hok (h.got)))
theorem odue_spec (h : Sat w0 (OutA v o :: L) w) (hK0 : timeP now = false → ∀ w', Sat w0 (OutA v o :: L) w' → K (.tuple #[.slice none 0 0, .int .i64 1]) w')
    (hK1 : timeP now = true → ∀ s w', Sat w0 (LsH cTk 13 61 s ((o.ls.filter (mayO o now)).map (·.t)) :: OutA v { o with ls := o.ls.map (stepO o now) } :: L) w' → K (.tuple #[s, .int .i64 0]) w') : callP G15 [v, .int .i64 now] w K := by
  refine c15 ?_
  unfold F15 F15_1 F15_1b
  by_cases g1 : now < 0
  · have g1' : decide (now < 0) = true := by simpa using g1
    (repeat (first
 | (simp (disch := omega) only [evA, evB, evC, bAdd_i64, bSub_i64, g1'])
 | (with_reducible apply go_ld1 h)
 | ((with_reducible first | apply go_ldA h | apply go_rd h | apply go_rdN h | apply go_rlen h); rfl)
 | (with_reducible first | apply go_ldN h | apply go_lenL h)
 | ((with_reducible apply go_st h); intro _ h)
 | ((with_reducible apply go_stA h); rfl; rfl; (first | rfl | simp [OneV.o]); intro _ h)
 | ((with_reducible apply go_stN h); rfl; (first | rfl | simp [OneV.o]); intro _ h)
 | ((with_reducible apply go_box h); rfl; intro _ _ h)
 | ((with_reducible apply go_ix h); omega)
 | ((with_reducible first | apply go_elN h | apply go_f1 h | apply go_rf1 h | apply go_rel h); (case hi => omega); (try case hx => exact inferInstance); (try case hv => rfl))
 | ((with_reducible apply go_fa h); omega; omega)
))
    exact hK0 (by unfold timeP; simp; omega) _ h
  have g1' : decide (now < 0) = false := by simpa using g1
  by_cases g2 : now > 2305843009213693952
  · have g2' : decide (now > 2305843009213693952) = true := by simpa using g2
    (repeat (first
 | (simp (disch := omega) only [evA, evB, evC, bAdd_i64, bSub_i64, g1', g2'])
 | (with_reducible apply go_ld1 h)
 | ((with_reducible first | apply go_ldA h | apply go_rd h | apply go_rdN h | apply go_rlen h); rfl)
 | (with_reducible first | apply go_ldN h | apply go_lenL h)
 | ((with_reducible apply go_st h); intro _ h)
 | ((with_reducible apply go_stA h); rfl; rfl; (first | rfl | simp [OneV.o]); intro _ h)
 | ((with_reducible apply go_stN h); rfl; (first | rfl | simp [OneV.o]); intro _ h)
 | ((with_reducible apply go_box h); rfl; intro _ _ h)
 | ((with_reducible apply go_ix h); omega)
 | ((with_reducible first | apply go_elN h | apply go_f1 h | apply go_rf1 h | apply go_rel h); (case hi => omega); (try case hx => exact inferInstance); (try case hv => rfl))
 | ((with_reducible apply go_fa h); omega; omega)
))
    exact hK0 (by unfold timeP; simp; omega) _ h
  have g2' : decide (now > 2305843009213693952) = false := by simpa using g2
  have htp : timeP now = true := by unfold timeP; simp; omega
  (repeat (first
 | (simp (disch := omega) only [evA, evB, evC, bAdd_i64, bSub_i64, g1', g2'])
 | (with_reducible apply go_ld1 h)
 | ((with_reducible first | apply go_ldA h | apply go_rd h | apply go_rdN h | apply go_rlen h); rfl)
 | (with_reducible first | apply go_ldN h | apply go_lenL h)
 | ((with_reducible apply go_st h); intro _ h)
 | ((with_reducible apply go_stA h); rfl; rfl; (first | rfl | simp [OneV.o]); intro _ h)
 | ((with_reducible apply go_stN h); rfl; (first | rfl | simp [OneV.o]); intro _ h)
 | ((with_reducible apply go_box h); rfl; intro _ _ h)
 | ((with_reducible apply go_ix h); omega)
 | ((with_reducible first | apply go_elN h | apply go_f1 h | apply go_rf1 h | apply go_rel h); (case hi => omega); (try case hx => exact inferInstance); (try case hv => rfl))
 | ((with_reducible apply go_fa h); omega; omega)
))
  have oka := dueO_ok (outA_ok h) (now := now)
  unfold dueO at oka
  rw [if_neg (by rw [htp]; simp)] at oka
  refine onums_spec h fun nv w h => ?_
  obtain ⟨p, m, M, rfl, H, ok, h2⟩ := outA_open (h.frt (A := OutA v o))
  clear h
  have h := h2
  clear h2
  (repeat (first
 | (simp (disch := omega) only [evA, evB, evC, bAdd_i64, bSub_i64])
 | (with_reducible apply go_ld1 h)
 | ((with_reducible first | apply go_ldA h | apply go_rd h | apply go_rdN h | apply go_rlen h); rfl)
 | (with_reducible first | apply go_ldN h | apply go_lenL h)
 | ((with_reducible apply go_st h); intro _ h)
 | ((with_reducible apply go_stA h); rfl; rfl; (first | rfl | simp [OneV.o]); intro _ h)
 | ((with_reducible apply go_stN h); rfl; (first | rfl | simp [OneV.o]); intro _ h)
 | ((with_reducible apply go_box h); rfl; intro _ _ h)
 | ((with_reducible apply go_ix h); omega)
 | ((with_reducible first | apply go_elN h | apply go_f1 h | apply go_rf1 h | apply go_rel h); (case hi => omega); (try case hx => exact inferInstance); (try case hv => rfl))
 | ((with_reducible apply go_fa h); omega; omega)
))
  rw [List.length_map]
  unfold F15_2
  have h := Sat.nilLs cTk 13 61 h
  exact odue_loop (by omega) ok oka (hK1 htp) fuel 0 _ M _ (by have := ok.len; have := ok.most; unfold fuel; omega) (by omega) (by simpa using H) h
end
end Go.Proofs.Gong

/- Ob4 -/
namespace Go.Proofs.Gong
open Go Go.Sx Go.Proofs
set_option maxRecDepth 100000
theorem tdiv50 {n : Int} (hn : -9223372036854775808 ≤ n ∧ n ≤ 9223372036854775807) : -9223372036854775808 ≤ n.tdiv 50 ∧ n.tdiv 50 ≤ 9223372036854775807 := by
  have e := Int.mul_tdiv_add_tmod n 50
  have h1 := Int.tmod_lt_of_pos n (b := 50) (by decide)
  have h2 := Int.lt_tmod_of_pos n (b := 50) (by decide)
  omega
attribute [local irreducible] fBuild fLook fZero eqv bEqv Cl MapH LsH SlH ld1 ldN st callP eBox eAlloc lenM lenL eMapSet eDelete eAppend eBuildSl eRange eNext
section
variable {w0 w : World} {L : List HP} {K : Value → World → Prop} {v : Value} {o : Ob} {n now : Int} {M : LMap}
theorem orow_spec (hn : -9223372036854775808 ≤ n ∧ n ≤ 9223372036854775807) (h : Sat w0 L w) (hK : ∀ w', Sat w0 L w' → K (rowV (rowO n)) w') : callP G8 [.int .i64 n] w K := by
  refine c8 ?_
  unfold F8
  have zRo : fZero Tryd.prog 33 = some (rowV zeroTk.r) := z33
  refine go_alloc h zRo rfl fun q _ h => ?_
  refine Below_spec (by decide) (by decide) fun r h1 h2 er => ?_
  have e1 : fBuild Tryd.prog 31 [(0, .string ⟨#[110]⟩), (1, .string ⟨#[99]⟩), (3, .int .i64 3)] = some (.agg (cEv evO1).toArray) := by kernel_rfl
  have hq := tdiv50 hn
  have e2 : bQuo (.int .i64 n) (.int .i64 50) = some (.int .i64 (n.tdiv 50)) := by rw [bQuo_int _ _ _ (by decide), wrap_id (by omega)]
  (repeat (first
 | (simp (disch := omega) only [evA, evB, evC, bAdd_i64, bSub_i64])
 | (refine go_some (e1 ..) ?_)
 | (refine go_some (e2 ..) ?_)
 | (with_reducible apply go_ld1 h)
 | ((with_reducible first | apply go_ldA h | apply go_rd h | apply go_rdN h | apply go_rlen h); rfl)
 | (with_reducible first | apply go_ldN h | apply go_lenL h)
 | ((with_reducible apply go_st h); intro _ h)
 | ((with_reducible apply go_stA h); rfl; rfl; (first | rfl | simp [OneV.o]); intro _ h)
 | ((with_reducible apply go_stN h); rfl; (first | rfl | simp [OneV.o]); intro _ h)
 | ((with_reducible apply go_box h); rfl; intro _ _ h)
 | ((with_reducible apply go_ix h); omega)
 | ((with_reducible first | apply go_elN h | apply go_f1 h | apply go_rf1 h | apply go_rel h); (case hi => omega); (try case hx => exact inferInstance); (try case hv => rfl))
 | ((with_reducible apply go_fa h); omega; omega)
))
  refine Below_spec (by decide) (by decide) fun s h3 h4 es => ?_
  have e3 : fBuild Tryd.prog 33 [(0, .int .i64 (1 + r)), (1, .agg (cEv evO1).toArray), (2, .int .i64 (1 + s))] = some (rowV (rowO n)) := by
    rw [er, es]; kernel_rfl
  (repeat (first
 | (simp (disch := omega) only [evA, evB, evC, bAdd_i64, bSub_i64])
 | (refine go_some (e3 ..) ?_)
 | (with_reducible apply go_ld1 h)
 | ((with_reducible first | apply go_ldA h | apply go_rd h | apply go_rdN h | apply go_rlen h); rfl)
 | (with_reducible first | apply go_ldN h | apply go_lenL h)
 | ((with_reducible apply go_st h); intro _ h)
 | ((with_reducible apply go_stA h); rfl; rfl; (first | rfl | simp [OneV.o]); intro _ h)
 | ((with_reducible apply go_stN h); rfl; (first | rfl | simp [OneV.o]); intro _ h)
 | ((with_reducible apply go_box h); rfl; intro _ _ h)
 | ((with_reducible apply go_ix h); omega)
 | ((with_reducible first | apply go_elN h | apply go_f1 h | apply go_rf1 h | apply go_rel h); (case hi => omega); (try case hx => exact inferInstance); (try case hv => rfl))
 | ((with_reducible apply go_fa h); omega; omega)
))
  exact hK _ (h.got)
end
end Go.Proofs.Gong

/- Ob5 -/
namespace Go.Proofs.Gong
open Go Go.Sx Go.Proofs
set_option maxRecDepth 100000
theorem neTk' (x y : Operand) (a : Tk) : bNe Tryd.prog 61 x y (tkV a) (tkV a) = some (.bool false) := by
  rw [ne61]; simp [bs_sEq]
def wTk : Tk := ⟨1, 1, rowO 1⟩
def wO (s : Nat) (a : Int) : Ob := ⟨5, 1000000000, 4000000000, 1, 0, 1, [⟨wTk, s, a⟩]⟩
theorem w_put : putO 1 (rowO 1) (newO 5 1000000000 4000000000) = ((1, 0), ⟨5, 1000000000, 4000000000, 1, 0, 0, [⟨wTk, 0, 0⟩]⟩) := by
  unfold putO newO
  rw [okR_O]
  rfl
theorem w_mark : markO 1 ⟨5, 1000000000, 4000000000, 1, 0, 0, [⟨wTk, 0, 0⟩]⟩ = (0, wO 0 0) := by
  unfold markO
  rw [if_neg (by simp)]
  rfl
theorem w_no {s : Nat} {a now : Int} (h : now < a) : ((wO s a).ls.filter (mayO (wO s a) now)).map (·.t) = [] ∧ ({ wO s a with ls := (wO s a).ls.map (stepO (wO s a) now) } : Ob) = wO s a := by
  have hm : mayO (wO s a) now ⟨wTk, s, a⟩ = false := by unfold mayO; simp [h]
  constructor
  · show ([⟨wTk, s, a⟩].filter (mayO (wO s a) now)).map (·.t) = _
    simp only [List.filter_cons, List.filter_nil, hm]
    rfl
  · show Ob.mk _ _ _ _ _ _ ([⟨wTk, s, a⟩].map (stepO (wO s a) now)) = _
    simp only [List.map_cons, List.map_nil, stepO, hm]
    rfl
theorem w_yes {s : Nat} {a now : Int} (h : a ≤ now) : ((wO s a).ls.filter (mayO (wO s a) now)).map (·.t) = [wTk] ∧
    ({ wO s a with ls := (wO s a).ls.map (stepO (wO s a) now) } : Ob) = wO (s + 1) (min (now + pauseN 1000000000 4000000000 s) 2305843009213693952) := by
  have hm : mayO (wO s a) now ⟨wTk, s, a⟩ = true := by unfold mayO; simp [wO, wTk]; omega
  constructor
  · show ([⟨wTk, s, a⟩].filter (mayO (wO s a) now)).map (·.t) = _
    simp only [List.filter_cons, List.filter_nil, hm, if_true]
    rfl
  · show Ob.mk _ _ _ _ _ _ ([⟨wTk, s, a⟩].map (stepO (wO s a) now)) = _
    simp only [List.map_cons, List.map_nil, stepO, hm]
    rfl
abbrev wGaps : List Int := [0, 1, 2, 4, 4]
attribute [local irreducible] fBuild fLook fZero eqv bEqv Cl MapH LsH SlH ld1 ldN st callP eBox eAlloc lenM lenL eMapSet eDelete eAppend eBuildSl eRange eNext
section
variable {w0 w : World} {L : List HP} {K : Value → World → Prop} {v : Value} {o : Ob} {n now : Int} {M : LMap}
theorem works24_round {p k i s : Nat} {nv : Value} {t a : Int} (hi : i < wGaps.length) (ha : 0 < a ∧ a ≤ 1000000000000) (ht : 0 ≤ t) (hg : t + wGaps[i] * 1000000000 = a) (hw : wGaps[i] * 1000000000 ≤ 10000000000 ∧ 0 ≤ wGaps[i] * 1000000000) (h : Sat w0 (LsH cI 1 3 nv wGaps :: OutA (ptr p) (wO s a) :: L) w)
    (hE : ∀ w', Sat w0 (LsH cI 1 3 nv wGaps :: OutA (ptr p) (wO (s + 1) (min (a + pauseN 1000000000 4000000000 s) 2305843009213693952)) :: L) w' → F6_2L k (ptr p) (.int .i64 a) nv (.int .i64 5) (.int .i64 ((i + 1 : Nat) : Int)) w' K) :
    F6_2L (k + 1) (ptr p) (.int .i64 t) nv (.int .i64 5) (.int .i64 (i : Nat)) w K := by
  rw [F6_2L]
  unfold F6_2b
  have hi5 : i < 5 := hi
  have g' : decide ((i : Int) < 5) = true := by simp; omega
  have emul : bMul (.int .i64 wGaps[i]) (.int .i64 1000000000) = some (.int .i64 (wGaps[i] * 1000000000)) := by rw [bMul_int, wrap_id (by omega)]
  have ga : decide (a > 0) = true := by simp; omega
  (repeat (first
 | (simp (disch := omega) only [evA, evB, evC, bAdd_i64, bSub_i64, g', emul, hg])
 | (with_reducible apply go_ld1 h)
 | ((with_reducible first | apply go_ldA h | apply go_rd h | apply go_rdN h); rfl)
 | (with_reducible first | apply go_ldN h | apply go_lenR h)
 | ((with_reducible apply go_st h); intro _ h)
 | ((with_reducible apply go_stA h); rfl; rfl; (first | rfl | simp [OneV.o]); intro _ h)
 | ((with_reducible apply go_stN h); rfl; (first | rfl | simp [OneV.o]); intro _ h)
 | ((with_reducible apply go_box h); rfl; intro _ _ h)
 | ((with_reducible apply go_ixR h); omega)
 | ((with_reducible first | apply go_elR h | apply go_f1R h | apply go_rf1R h | apply go_relR h | apply go_e1R h | apply go_re1R h); (case hc => exact inferInstance); (case hi => omega); (try case hx => exact inferInstance); (try case hv => rfl))
 | ((with_reducible apply go_fNR h); (case hc => exact inferInstance); (case hi => omega); (try case hp => exact inferInstance); (try case hv => rfl))
 | ((with_reducible apply go_faR h); (case hc => exact inferInstance); omega; omega)
 | ((with_reducible apply go_rlenR h); rfl)
))
  refine odue_spec (v := ptr p) (o := wO s a) (now := a - 1) (h.frt (A := OutA (ptr p) (wO s a))) (fun ht => ?_) (fun _ s1 w h => ?_)
  · exfalso; unfold timeP at ht; simp at ht; omega
  obtain ⟨e1, e2⟩ := w_no (s := s) (a := a) (now := a - 1) (by omega)
  rw [e1, e2] at h
  (repeat (first
 | (simp (disch := omega) only [evA, evB, evC, bAdd_i64, bSub_i64])
 | (with_reducible apply go_ld1 h)
 | ((with_reducible first | apply go_ldA h | apply go_rd h | apply go_rdN h | apply go_rlen h); rfl)
 | (with_reducible first | apply go_ldN h | apply go_lenL h)
 | ((with_reducible apply go_st h); intro _ h)
 | ((with_reducible apply go_stA h); rfl; rfl; (first | rfl | simp [OneV.o]); intro _ h)
 | ((with_reducible apply go_stN h); rfl; (first | rfl | simp [OneV.o]); intro _ h)
 | ((with_reducible apply go_box h); rfl; intro _ _ h)
 | ((with_reducible apply go_ix h); omega)
 | ((with_reducible first | apply go_elN h | apply go_f1 h | apply go_rf1 h | apply go_rel h); (case hi => omega); (try case hx => exact inferInstance); (try case hv => rfl))
 | ((with_reducible apply go_fa h); omega; omega)
))
  refine odue_spec (v := ptr p) (o := wO s a) (now := a) (h.frt (A := OutA (ptr p) (wO s a))) (fun ht => ?_) (fun _ s2 w h => ?_)
  · exfalso; unfold timeP at ht; simp at ht; omega
  obtain ⟨e1, e2⟩ := w_yes (s := s) (a := a) (now := a) (by omega)
  rw [e1, e2] at h
  have l0 : ((([] : List Tk).length : Nat) : Int) = 0 := rfl
  have l1 : ((([wTk] : List Tk).length : Nat) : Int) = 1 := rfl
  (repeat (first
 | (simp (disch := omega) only [evA, evB, evC, bAdd_i64, bSub_i64, ga, l0, l1, Int.reduceEq])
 | (with_reducible apply go_ld1 h)
 | ((with_reducible first | apply go_ldA h | apply go_rd h | apply go_rdN h | apply go_rlen h); rfl)
 | (with_reducible first | apply go_ldN h | apply go_lenL h)
 | ((with_reducible apply go_st h); intro _ h)
 | ((with_reducible apply go_stA h); rfl; rfl; (first | rfl | simp [OneV.o]); intro _ h)
 | ((with_reducible apply go_stN h); rfl; (first | rfl | simp [OneV.o]); intro _ h)
 | ((with_reducible apply go_box h); rfl; intro _ _ h)
 | ((with_reducible apply go_ix h); omega)
 | ((with_reducible first | apply go_elN h | apply go_f1 h | apply go_rf1 h | apply go_rel h); (case hi => omega); (try case hx => exact inferInstance); (try case hv => rfl))
 | ((with_reducible apply go_fa h); omega; omega)
))
  exact hE _ (h.got)
theorem works24_spec (h : Sat w0 L w) (hK : ∀ w', Sat w0 L w' → K (.bool true) w') : callP G6 [] w K := by
  refine c6 ?_
  unfold F6 F6_1 F6_1b
  refine onew_spec (m := 5) (b := 1000000000) (t := 4000000000) (by omega) (by omega) h fun p w h => ?_
  (repeat (first
 | (simp (disch := omega) only [evA, evB, evC, bAdd_i64, bSub_i64, Int.reduceEq])
 | (refine go_some (bEq_nilp up23   ..) ?_)
 | (with_reducible apply go_ld1 h)
 | ((with_reducible first | apply go_ldA h | apply go_rd h | apply go_rdN h | apply go_rlen h); rfl)
 | (with_reducible first | apply go_ldN h | apply go_lenL h)
 | ((with_reducible apply go_st h); intro _ h)
 | ((with_reducible apply go_stA h); rfl; rfl; (first | rfl | simp [OneV.o]); intro _ h)
 | ((with_reducible apply go_stN h); rfl; (first | rfl | simp [OneV.o]); intro _ h)
 | ((with_reducible apply go_box h); rfl; intro _ _ h)
 | ((with_reducible apply go_ix h); omega)
 | ((with_reducible first | apply go_elN h | apply go_f1 h | apply go_rf1 h | apply go_rel h); (case hi => omega); (try case hx => exact inferInstance); (try case hv => rfl))
 | ((with_reducible apply go_fa h); omega; omega)
))
  refine orow_spec (n := 1) (by omega) h fun w h => ?_
  refine oput_spec (v := ptr p) (what := 1) (r := rowO 1) (o := newO 5 1000000000 4000000000) (by simp [newO]) (by simp [newO]) (rowO_fits 1).1 (rowO_fits 1).2 h fun w h => ?_
  rw [w_put] at h ⊢
  (repeat (first
 | (simp (disch := omega) only [evA, evB, evC, bAdd_i64, bSub_i64, Int.reduceEq])
 | (with_reducible apply go_ld1 h)
 | ((with_reducible first | apply go_ldA h | apply go_rd h | apply go_rdN h | apply go_rlen h); rfl)
 | (with_reducible first | apply go_ldN h | apply go_lenL h)
 | ((with_reducible apply go_st h); intro _ h)
 | ((with_reducible apply go_stA h); rfl; rfl; (first | rfl | simp [OneV.o]); intro _ h)
 | ((with_reducible apply go_stN h); rfl; (first | rfl | simp [OneV.o]); intro _ h)
 | ((with_reducible apply go_box h); rfl; intro _ _ h)
 | ((with_reducible apply go_ix h); omega)
 | ((with_reducible first | apply go_elN h | apply go_f1 h | apply go_rf1 h | apply go_rel h); (case hi => omega); (try case hx => exact inferInstance); (try case hv => rfl))
 | ((with_reducible apply go_fa h); omega; omega)
))
  refine omark_spec (v := ptr p) (n := 1) h fun w h => ?_
  rw [w_mark] at h ⊢
  (repeat (first
 | (simp (disch := omega) only [evA, evB, evC, bAdd_i64, bSub_i64, Int.reduceEq])
 | (with_reducible apply go_ld1 h)
 | ((with_reducible first | apply go_ldA h | apply go_rd h | apply go_rdN h | apply go_rlen h); rfl)
 | (with_reducible first | apply go_ldN h | apply go_lenL h)
 | ((with_reducible apply go_st h); intro _ h)
 | ((with_reducible apply go_stA h); rfl; rfl; (first | rfl | simp [OneV.o]); intro _ h)
 | ((with_reducible apply go_stN h); rfl; (first | rfl | simp [OneV.o]); intro _ h)
 | ((with_reducible apply go_box h); rfl; intro _ _ h)
 | ((with_reducible apply go_ix h); omega)
 | ((with_reducible first | apply go_elN h | apply go_f1 h | apply go_rf1 h | apply go_rel h); (case hi => omega); (try case hx => exact inferInstance); (try case hv => rfl))
 | ((with_reducible apply go_fa h); omega; omega)
))
  refine ls_lit (m := wGaps) (f := cI) (es := 1) (c := #[.int .i64 0, .int .i64 1, .int .i64 2, .int .i64 4, .int .i64 4]) CI h u22 (by kernel_rfl) rfl fun nv w h => ?_
  have l5 : ((wGaps.length : Nat) : Int) = 5 := rfl
  (repeat (first
 | (simp (disch := omega) only [evA, evB, evC, bAdd_i64, bSub_i64, l5])
 | (with_reducible apply go_ld1 h)
 | ((with_reducible first | apply go_ldA h | apply go_rd h | apply go_rdN h | apply go_rlen h); rfl)
 | (with_reducible first | apply go_ldN h | apply go_lenL h)
 | ((with_reducible apply go_st h); intro _ h)
 | ((with_reducible apply go_stA h); rfl; rfl; (first | rfl | simp [OneV.o]); intro _ h)
 | ((with_reducible apply go_stN h); rfl; (first | rfl | simp [OneV.o]); intro _ h)
 | ((with_reducible apply go_box h); rfl; intro _ _ h)
 | ((with_reducible apply go_ix h); omega)
 | ((with_reducible first | apply go_elN h | apply go_f1 h | apply go_rf1 h | apply go_rel h); (case hi => omega); (try case hx => exact inferInstance); (try case hv => rfl))
 | ((with_reducible apply go_fa h); omega; omega)
))
  unfold F6_2
  show F6_2L ((fuel - 6) + 1 + 1 + 1 + 1 + 1 + 1) _ _ _ _ (.int .i64 ((0 : Nat) : Int)) _ _
  have first : ∀ w', Sat w0 (LsH cI 1 3 nv wGaps :: OutA (ptr p) (wO 1 1000000000) :: L) w' → F6_2L ((fuel - 6) + 1 + 1 + 1 + 1 + 1) (ptr p) (.int .i64 0) nv (.int .i64 5) (.int .i64 ((0 + 1 : Nat) : Int)) w' K := by
    intro w h
    refine works24_round (i := 1) (s := 1) (t := 0) (a := 1000000000) (by decide) (by decide) (by decide) (by decide) (by decide) h fun w h => ?_
    rw [show min ((1000000000 : Int) + pauseN 1000000000 4000000000 1) 2305843009213693952 = 3000000000 from by decide] at h
    refine works24_round (i := 2) (s := 2) (t := 1000000000) (a := 3000000000) (by decide) (by decide) (by decide) (by decide) (by decide) h fun w h => ?_
    rw [show min ((3000000000 : Int) + pauseN 1000000000 4000000000 2) 2305843009213693952 = 7000000000 from by decide] at h
    refine works24_round (i := 3) (s := 3) (t := 3000000000) (a := 7000000000) (by decide) (by decide) (by decide) (by decide) (by decide) h fun w h => ?_
    rw [show min ((7000000000 : Int) + pauseN 1000000000 4000000000 3) 2305843009213693952 = 11000000000 from by decide] at h
    refine works24_round (i := 4) (s := 4) (t := 7000000000) (a := 11000000000) (by decide) (by decide) (by decide) (by decide) (by decide) h fun w h => ?_
    rw [F6_2L]
    unfold F6_2b
    (repeat (first
 | (simp (disch := omega) only [evA, evB, evC, bAdd_i64, bSub_i64, Int.reduceLT, Int.cast_ofNat_Int, Nat.reduceAdd])
 | (with_reducible apply go_ld1 h)
 | ((with_reducible first | apply go_ldA h | apply go_rd h | apply go_rdN h | apply go_rlen h); rfl)
 | (with_reducible first | apply go_ldN h | apply go_lenL h)
 | ((with_reducible apply go_st h); intro _ h)
 | ((with_reducible apply go_stA h); rfl; rfl; (first | rfl | simp [OneV.o]); intro _ h)
 | ((with_reducible apply go_stN h); rfl; (first | rfl | simp [OneV.o]); intro _ h)
 | ((with_reducible apply go_box h); rfl; intro _ _ h)
 | ((with_reducible apply go_ix h); omega)
 | ((with_reducible first | apply go_elN h | apply go_f1 h | apply go_rf1 h | apply go_rel h); (case hi => omega); (try case hx => exact inferInstance); (try case hv => rfl))
 | ((with_reducible apply go_fa h); omega; omega)
))
    unfold F6_3 F6_3b
    exact hK _ (h.got)
  rw [F6_2L]
  unfold F6_2b
  have g0 : decide (((0 : Nat) : Int) < 5) = true := by decide
  have z0 : wGaps[0] = 0 := rfl
  have m0 : bMul (.int .i64 0) (.int .i64 1000000000) = some (.int .i64 0) := by rw [bMul_int, wrap_id (by omega)]; rfl
  have m1 : bAdd (.int .i64 0) (.int .i64 0) = some (.int .i64 0) := by rw [bAdd_int, wrap_id (by omega)]; rfl
  have m2 : bSub (.int .i64 0) (.int .i64 1) = some (.int .i64 (-1)) := by rw [bSub_int, wrap_id (by omega)]; rfl
  (repeat (first
 | (simp (disch := omega) only [evA, evB, evC, bAdd_i64, bSub_i64, g0, z0, m0, m1, m2])
 | (with_reducible apply go_ld1 h)
 | ((with_reducible first | apply go_ldA h | apply go_rd h | apply go_rdN h); rfl)
 | (with_reducible first | apply go_ldN h | apply go_lenR h)
 | ((with_reducible apply go_st h); intro _ h)
 | ((with_reducible apply go_stA h); rfl; rfl; (first | rfl | simp [OneV.o]); intro _ h)
 | ((with_reducible apply go_stN h); rfl; (first | rfl | simp [OneV.o]); intro _ h)
 | ((with_reducible apply go_box h); rfl; intro _ _ h)
 | ((with_reducible apply go_ixR h); omega)
 | ((with_reducible first | apply go_elR h | apply go_f1R h | apply go_rf1R h | apply go_relR h | apply go_e1R h | apply go_re1R h); (case hc => exact inferInstance); (case hi => omega); (try case hx => exact inferInstance); (try case hv => rfl))
 | ((with_reducible apply go_fNR h); (case hc => exact inferInstance); (case hi => omega); (try case hp => exact inferInstance); (try case hv => rfl))
 | ((with_reducible apply go_faR h); (case hc => exact inferInstance); omega; omega)
 | ((with_reducible apply go_rlenR h); rfl)
))
  refine odue_spec (v := ptr p) (o := wO 0 0) (now := -1) (h.frt (A := OutA (ptr p) (wO 0 0))) (fun _ w h => ?_) (fun ht => ?_)
  case refine_2 => exfalso; unfold timeP at ht; simp at ht
  (repeat (first
 | (simp (disch := omega) only [evA, evB, evC, bAdd_i64, bSub_i64])
 | (with_reducible apply go_ld1 h)
 | ((with_reducible first | apply go_ldA h | apply go_rd h | apply go_rdN h | apply go_rlen h); rfl)
 | (with_reducible first | apply go_ldN h | apply go_lenL h)
 | ((with_reducible apply go_st h); intro _ h)
 | ((with_reducible apply go_stA h); rfl; rfl; (first | rfl | simp [OneV.o]); intro _ h)
 | ((with_reducible apply go_stN h); rfl; (first | rfl | simp [OneV.o]); intro _ h)
 | ((with_reducible apply go_box h); rfl; intro _ _ h)
 | ((with_reducible apply go_ix h); omega)
 | ((with_reducible first | apply go_elN h | apply go_f1 h | apply go_rf1 h | apply go_rel h); (case hi => omega); (try case hx => exact inferInstance); (try case hv => rfl))
 | ((with_reducible apply go_fa h); omega; omega)
))
  refine odue_spec (v := ptr p) (o := wO 0 0) (now := 0) (h.frt (A := OutA (ptr p) (wO 0 0))) (fun ht => ?_) (fun _ s2 w h => ?_)
  · exfalso; unfold timeP at ht; simp at ht
  obtain ⟨e1, e2⟩ := w_yes (s := 0) (a := 0) (now := 0) (by omega)
  rw [e1, e2, show min ((0 : Int) + pauseN 1000000000 4000000000 0) 2305843009213693952 = 1000000000 from by decide] at h
  have l1 : ((([wTk] : List Tk).length : Nat) : Int) = 1 := rfl
  have ga : decide ((0 : Int) > 0) = false := by decide
  (repeat (first
 | (simp (disch := omega) only [evA, evB, evC, bAdd_i64, bSub_i64, ga, l1, Int.reduceEq])
 | (with_reducible apply go_ld1 h)
 | ((with_reducible first | apply go_ldA h | apply go_rd h | apply go_rdN h | apply go_rlen h); rfl)
 | (with_reducible first | apply go_ldN h | apply go_lenL h)
 | ((with_reducible apply go_st h); intro _ h)
 | ((with_reducible apply go_stA h); rfl; rfl; (first | rfl | simp [OneV.o]); intro _ h)
 | ((with_reducible apply go_stN h); rfl; (first | rfl | simp [OneV.o]); intro _ h)
 | ((with_reducible apply go_box h); rfl; intro _ _ h)
 | ((with_reducible apply go_ix h); omega)
 | ((with_reducible first | apply go_elN h | apply go_f1 h | apply go_rf1 h | apply go_rel h); (case hi => omega); (try case hx => exact inferInstance); (try case hv => rfl))
 | ((with_reducible apply go_fa h); omega; omega)
))
  exact first _ (h.got)
end
end Go.Proofs.Gong

/- Oa0 -/
namespace Go.Proofs.Gong
open Go Go.Sx Go.Proofs
set_option maxRecDepth 100000
abbrev freshL (t : Tk) : Ltr := ⟨t, 0, 0⟩
theorem kIns_map {α β κ : Type} {lt : κ → κ → Bool} {key : α → κ} {key' : β → κ} {f : α → β} (hk : ∀ y, key' (f y) = key y) (x : α) (l : List α) : kIns lt key' (f x) (l.map f) = (kIns lt key x l).map f := by
  unfold kIns
  have e : ((fun d => lt (key' d) (key' (f x))) ∘ f) = fun d => lt (key d) (key x) := by funext d; simp [hk]
  rw [List.takeWhile_map, List.dropWhile_map, e]
  simp
theorem freshL_put {b : Int} {M : List (Int × (Tk × Int × Int))} {lv : Ltr → Tk × Int × Int} (hv : ∀ t, lv (freshL t) = (t, b, 0)) {ts : List Tk} {t : Tk} (H : KInv ltI lKey lv M (ts.map freshL)) (hn : ∀ d ∈ ts, d.seq ≠ t.seq) :
    KInv ltI lKey lv (aSet t.seq (t, b, 0) M) ((kIns ltI tKey t ts).map freshL) := by
  have h := H.put STO.int (freshL t)
  rw [hv] at h
  have e : kPut ltI lKey (freshL t) (ts.map freshL) = (kIns ltI tKey t ts).map freshL := by
    unfold kPut
    rw [kDel_id (by intro d hd; obtain ⟨x, hx, rfl⟩ := List.mem_map.1 hd; exact hn x hx)]
    exact kIns_map (fun _ => rfl) t ts
  rw [e] at h
  exact h
theorem loadT_some {last : Int} : ∀ {l ts : List Tk}, (∀ t ∈ l, okTk t = true ∧ t.seq ≤ last) → (ts ++ l).Pairwise (fun a b => a.seq ≠ b.seq) → KAsc ltI tKey ts → ∃ ds, loadT last l ts = some ds
  | [], ts, _, _, _ => ⟨ts, rfl⟩
  | t :: l, ts, h, h1, ha => by
    have g1 : ∀ d ∈ ts, d.seq ≠ t.seq := fun d hd => (List.pairwise_append.1 h1).2.2 d hd t (by simp)
    have hc := h t (by simp)
    have hp : (kIns ltI tKey t ts ++ l).Perm (ts ++ t :: l) := ((kIns_perm t ts).append_right l).trans List.perm_middle.symm
    obtain ⟨ds, e⟩ := loadT_some (last := last) (l := l) (ts := kIns ltI tKey t ts) (fun d hd => h d (List.mem_cons_of_mem _ hd)) (hp.symm.pairwise h1 fun h => h.symm) (kIns_asc STO.int ha g1)
    refine ⟨ds, ?_⟩
    unfold loadT loadStepO
    rw [if_pos ⟨hc.1, hc.2, g1⟩]
    exact e
theorem loadT_all {last : Int} {l all : List Tk} (hp : l.Perm all) (h : ∀ t ∈ all, okTk t = true ∧ t.seq ≤ last) (ha : KAsc ltI tKey all) : loadT last l [] = some all := by
  obtain ⟨ds, e⟩ := loadT_some (last := last) (l := l) (ts := []) (fun c hc => h c (hp.mem_iff.1 hc)) (hp.symm.pairwise (ha.ne STO.int) fun h => h.symm) .nil
  rw [e]
  have hq := loadT_perm e
  rw [List.nil_append] at hq
  exact congrArg some (kasc_unique STO.int (loadT_asc .nil e).1 ha (hq.trans hp))
section
variable {o : Ob} (H : OOk o)
include H
theorem allO_asc : KAsc ltI tKey (allO o) := by
  unfold allO KAsc
  rw [List.pairwise_map]
  exact H.asc
theorem allO_ok (hl : o.last ≤ 1152921504606846976) : ∀ t ∈ allO o, okTk t = true ∧ t.seq ≤ o.last := by
  intro t ht
  obtain ⟨x, hx, rfl⟩ := List.mem_map.1 ht
  have h := H.ok x hx
  refine ⟨?_, h.2.1⟩
  unfold okTk
  simp only [Bool.and_eq_true, decide_eq_true_eq]
  exact ⟨⟨⟨⟨h.1, by omega⟩, h.2.2.2.2.2.1⟩, h.2.2.2.2.2.2⟩, h.2.2.2.2.1⟩
end
def loadedO (o : Ob) (last refused : Int) (ds : List Tk) : Ob := { o with last := last, refused := refused, mark := last, ls := ds.map freshL }
theorem loadO_some {o : Ob} {l ds : List Tk} {last refused : Int} (h1 : 0 ≤ last ∧ last ≤ 1152921504606846976) (h2 : 0 ≤ refused ∧ refused ≤ 1152921504606846976) (hd : loadT last l [] = some ds) (hm : (l.length : Int) ≤ o.most) :
    loadO l last refused o = (0, loadedO o last refused ds) := by
  unfold loadO
  rw [if_neg (by omega), hd]
  simp only []
  rw [if_neg (by omega)]
  rfl
theorem loadedO_due {o : Ob} {last refused : Int} {ds : List Tk} (h : ∀ t ∈ ds, t.seq ≤ last) : ((loadedO o last refused ds).ls.filter (mayO (loadedO o last refused ds) 0)).map (·.t) = ds := by
  have e : (loadedO o last refused ds).ls.filter (mayO (loadedO o last refused ds) 0) = ds.map freshL := by
    refine List.filter_eq_self.2 fun x hx => ?_
    obtain ⟨t, ht, rfl⟩ := List.mem_map.1 hx
    have := h t ht
    unfold mayO loadedO
    simp; exact this
  rw [e, List.map_map]
  exact List.map_id' ds |>.trans rfl
theorem loadedO_all {o : Ob} {last refused : Int} {ds : List Tk} {now : Int} : allO { loadedO o last refused ds with ls := (loadedO o last refused ds).ls.map (stepO (loadedO o last refused ds) now) } = ds := by
  unfold allO
  simp only [List.map_map]
  show (((ds.map freshL)).map ((fun x : Ltr => x.t) ∘ stepO (loadedO o last refused ds) now)) = ds
  rw [List.map_map]
  have : (((fun x : Ltr => x.t) ∘ stepO (loadedO o last refused ds) now) ∘ freshL) = id := by funext t; simp [stepO_t]
  rw [this, List.map_id]
structure Nine (i : Nat) (o : Ob) : Prop where
  most : o.most = 9 ∧ o.base = 1 ∧ o.top = 1
  last : 0 ≤ o.last ∧ o.last ≤ i
  refused : 0 ≤ o.refused ∧ o.refused ≤ i
  rows : ∀ x ∈ o.ls, ∃ n, x.t.r = rowO n
theorem Nine.new : Nine 0 (newO 9 1 1) := ⟨⟨rfl, rfl, rfl⟩, by simp [newO], by simp [newO], by simp [newO]⟩
theorem Nine.put {i : Nat} {o : Ob} (h : Nine i o) (n : Int) : Nine (i + 1) (putO 1 (rowO n) o).2 := by
  have h1 := h.last
  have h2 := h.refused
  unfold putO
  split
  · exact ⟨h.most, by show 0 ≤ o.last ∧ o.last ≤ _; omega, by show 0 ≤ o.refused ∧ o.refused ≤ _; omega, h.rows⟩
  split
  · exact ⟨h.most, by show 0 ≤ o.last ∧ o.last ≤ _; omega, by show 0 ≤ o.refused + 1 ∧ o.refused + 1 ≤ _; omega, h.rows⟩
  · refine ⟨h.most, by show 0 ≤ o.last + 1 ∧ o.last + 1 ≤ _; omega, by show 0 ≤ o.refused ∧ o.refused ≤ _; omega, fun x hx => ?_⟩
    rcases List.mem_append.1 hx with hx | hx
    · exact h.rows x hx
    · simp at hx; subst hx; exact ⟨n, rfl⟩
theorem Nine.ack {i : Nat} {o : Ob} (h : Nine i o) (n : Int) : Nine i (ackO n o).2 := by
  unfold ackO
  split
  · exact ⟨h.most, h.last, h.refused, fun x hx => h.rows x (kDel_sub x hx)⟩
  · exact h
theorem putO_same {a b : Ob} {what : Int} {r : Row} (h1 : a.most = b.most) (h2 : a.ls.length = b.ls.length) (h3 : a.last = b.last) : (putO what r a).1 = (putO what r b).1 := by
  unfold putO
  rw [h1, h2, h3]
  split
  · rfl
  split <;> rfl
end Go.Proofs.Gong

/- Outbox2 -/
namespace Go.Proofs.Gong
open Go Go.Sx Go.Proofs
set_option linter.all false
set_option maxRecDepth 100000
variable {kn kr : ET} {ke : JT}
def T25 : List (Nat × FnT) := [(22, G22)]
def F25 (x0 : Value) (w : World) (K : V1) : Prop :=
eBox 61 x0 w fun v2 w1 =>
bindP (pFieldAddr 1 v2) fun v3 =>
bindP (ld1 v3 w1) fun v4 =>
bindP (bGe v4 (.int .i64 0)) fun v5 =>
Sx.stepG (gd true v5) (pFieldAddr 1 v2) fun v6 =>
Sx.stepG (gd true v5) (ld1 v6 w1) fun v7 =>
Sx.stepG (gd true v5) (bLt v7 (.int .i64 256)) fun v8 =>
bindP (pPick v5 v8 (.bool false)) fun v9 =>
Sx.stepG (gd true v9) (pFieldAddr 1 v2) fun v10 =>
Sx.stepG (gd true v9) (ld1 v10 w1) fun v11 =>
Sx.stepG (gd true v9) (pIndexP 256 1 (.pointer (some ⟨0, 0, none⟩)) v11) fun v12 =>
Sx.stepG (gd true v9) (ld1 v12 w1) fun v13 =>
bindP (pPick v9 v13 (.bool false)) fun v14 =>
bindP (pFieldAddr 0 v2) fun v15 =>
bindP (ld1 v15 w1) fun v16 =>
bindP (bLt v16 (.int .i64 1)) fun v17 =>
Sx.stepG (gd false v17) (pFieldAddr 0 v2) fun v18 =>
Sx.stepG (gd false v17) (ld1 v18 w1) fun v19 =>
Sx.stepG (gd false v17) (bGt v19 (.int .i64 1152921504606846976)) fun v20 =>
bindP (pPick v17 (.bool true) v20) fun v21 =>
stepM (gd false v21) v14 fun v22 =>
Sx.stepG (gd false v21) (uNot v22) fun v23 =>
bindP (pPick v21 (.bool true) v23) fun v24 =>
Sx.stepG (gd false v24) (pFieldAddr 2 v2) fun v25 =>
Sx.stepG (gd false v24) (ldN 11 v25 w1) fun v26 =>
stepE (gd false v24) (fun k => callP G22 [v26] w1 k) w1 fun v28 w27 =>
Sx.stepG (gd false v24) (bNe Tryd.prog 24 (.tmp 33) (.const (.int .i64 0)) v28 (.int .i64 0)) fun v29 =>
bindP (pPick v24 (.bool true) v29) fun v30 =>
ifB v30 (
K (.int .i64 230) w27) (
K (.int .i64 0) w27)
def G25 : FnT := fun args w K => on1 (fun x0 => F25 x0 w K) args
theorem c25 {x0 : Value} {w : World} {K : V1} (h : F25 x0 w K) : callP G25 [x0] w K := callP_intro (on1_mk (p := fun x0 => F25 x0 w K) h)
theorem ok25 : OkF Tryd.prog 25 G25 := by
  refine okF_of (tab_ok (l := T25) ⟨ok22, trivial⟩) mixed (n := fuel) Tryd.func25 Tryd.call25 fun args w K h => ?_
  obtain ⟨x0, rfl, hh⟩ := of_on1 h
  exact fnD_list (c := bodyOf Tryd.f25) (by kernel_rfl) (by kernel_rfl) (Eq.mp (by kernel_rfl) hh)
def T12 : List (Nat × FnT) := [(23, G23), (25, G25)]
def F12_3b (s0 s1 s9 : Value) (w : World) (K : V1) : Prop :=
bindP (lenL s1) fun v1 =>
bindP (pNil s0) fun v2 =>
bindP (pFieldAddr 0 v2) fun v3 =>
bindP (ld1 v3 w) fun v4 =>
bindP (bGt v1 v4) fun v5 =>
ifB v5 (
K (.int .i64 200) w) (
bindP (pNil s9) fun v6 =>
bindP (ldN 7 v6 w) fun v7 =>
bindP (pNil s0) fun v8 =>
bindW (st 7 v8 v7 w) fun w9 =>
K (.int .i64 0) w9)
def F12_3 (s0 s1 s9 : Value) (w : World) (K : V1) : Prop := F12_3b s0 s1 s9 w K
theorem ok12_3 {K : V1}
    (hn : HN (fun e w => K (e 8) w) kn) (hr : HR Tryd.prog [.tmp 8] K kr) (he : HE noE ke) :
    ∀ e w, F12_3 (e 0) (e 1) (e 9) w K → denL Tryd.prog (tabOf T12) 90 fuel ((flat (bodyOf Tryd.f12)).drop 6) e w kn kr ke := by
  intro e w h
  unfold F12_3 at h
  have e1 : ∀ (_ : Unit), F12_3b (e 0) (e 1) (e 9) w K = denL Tryd.prog (tabOf T12) 90 fuel ((flat (bodyOf Tryd.f12)).drop 6) e w (fun e w => K (e 8) w) (endD Tryd.prog [.tmp 8] K) noE := by intro _; kernel_rfl
  exact seg_end (Eq.mp (e1 ()) h) hn hr he
def F12_2b (s0 s1 s2 s9 s46 s47 s48 : Value) (w : World) (K : V1) (Y0 : V7) (Y1 : V3) : Prop :=
bindP (bLt s48 s47) fun v11 =>
ifB v11 (
bindP (pIndexL 13 s46 s48) fun v12 =>
bindP (ldN 13 v12 w) fun v13 =>
eAlloc Tryd.prog 61 w fun v15 w14 =>
bindW (st 13 v15 v13 w14) fun w16 =>
bindP (pNil s9) fun v18 =>
bindP (pFieldAddr 6 v18) fun v19 =>
bindP (ld1 v19 w16.drew) fun v20 =>
bindP (pFieldAddr 0 v15) fun v21 =>
bindP (ld1 v21 w16.drew) fun v22 =>
bindP (fLook Tryd.prog 55 v20 v22 true w16.drew) fun v23 =>
bindP (pTuple v23 0) fun v24 =>
bindP (pTuple v23 1) fun v25 =>
eAlloc Tryd.prog 63 w16.drew fun v27 w26 =>
(fok true (ld1 v19 w26) v20 ∧ fok true (ld1 v21 w26) v22 ∧ fok true (fLook Tryd.prog 55 v20 v22 true w26) v23) ∧ (bindW (st 15 v27 v24 w26) fun w28 =>
bindP (ldN 13 v15 w28) fun v30 =>
callP G25 [v30] w28 fun v32 w31 =>
bindP (bNe Tryd.prog 24 (.tmp 63) (.const (.int .i64 0)) v32 (.int .i64 0)) fun v33 =>
Sx.stepG (gd false v33) (pFieldAddr 0 v15) fun v34 =>
Sx.stepG (gd false v33) (ld1 v34 w31) fun v35 =>
stepM (gd false v33) s2 fun v36 =>
Sx.stepG (gd false v33) (bGt v35 v36) fun v37 =>
bindP (pPick v33 (.bool true) v37) fun v38 =>
stepM (gd false v38) v25 fun v39 =>
bindP (pPick v38 (.bool true) v39) fun v40 =>
ifB v40 (
K (.int .i64 4) w31) (
bindP (ldN 13 v15 w31) fun v41 =>
callP G23 [s9, v41] w31 fun _ w42 =>
bindP (bAdd s48 (.int .i64 1)) fun v44 =>
Y0 s0 s1 s2 s9 s46 s47 v44 w42))) (
Y1 s0 s1 s9 w)
def F12_2L : Nat → Value → Value → Value → Value → Value → Value → Value → World → (V1) → Prop
  | 0, _, _, _, _, _, _, _, _, _ => False
  | n + 1, s0, s1, s2, s9, s46, s47, s48, w, K => F12_2b s0 s1 s2 s9 s46 s47 s48 w K (fun a0 a1 a2 a9 a46 a47 a48 w => F12_2L n a0 a1 a2 a9 a46 a47 a48 w K) (fun a0 a1 a9 w => F12_3 a0 a1 a9 w K)
def F12_2 (s0 s1 s2 s9 s46 s47 s48 : Value) (w : World) (K : V1) : Prop := F12_2L fuel s0 s1 s2 s9 s46 s47 s48 w K
theorem ok12_2 {K : V1}
    (hn : HN (fun e w => K (e 8) w) kn) (hr : HR Tryd.prog [.tmp 8] K kr) (he : HE noE ke) :
    ∀ e w, F12_2 (e 0) (e 1) (e 2) (e 9) (e 46) (e 47) (e 48) w K → denL Tryd.prog (tabOf T12) 90 fuel ((flat (bodyOf Tryd.f12)).drop 5) e w kn kr ke := by
  intro e w h
  unfold F12_2 at h
  refine seg_loop (id := 0) (body := (loopB (blkB (nthC (flat (bodyOf Tryd.f12)) 5)))) (l2 := (flat (bodyOf Tryd.f12)).drop 6) (by kernel_rfl) ?_
  refine loop_ok (FL := fun m e w => F12_2L m (e 0) (e 1) (e 2) (e 9) (e 46) (e 47) (e 48) w K) (fr := endD Tryd.prog [.tmp 8] K) (fe := (blkK 0 (fun e w => F12_3 (e 0) (e 1) (e 9) w K) noE)) (fun _ _ h => h) ?_ hr (blkK_mono (fun e w h => ok12_3 hn hr he e w h) he) fuel e w h
  intro m e w h
  have h : F12_2L (m + 1) (e 0) (e 1) (e 2) (e 9) (e 46) (e 47) (e 48) w K := h
  rw [F12_2L] at h
  have e1 : ∀ (Y0 : V7) (Y1 : V3), F12_2b (e 0) (e 1) (e 2) (e 9) (e 46) (e 47) (e 48) w K Y0 Y1 = denL Tryd.prog (tabOf T12) 90 fuel (flat (loopB (blkB (nthC (flat (bodyOf Tryd.f12)) 5)))) e w (fun e w => Y0 (e 0) (e 1) (e 2) (e 9) (e 46) (e 47) (e 48) w) (endD Tryd.prog [.tmp 8] K) (blkK 0 (fun e w => Y1 (e 0) (e 1) (e 9) w) noE) := by intro Y0 Y1; kernel_rfl
  exact Eq.mp (e1 (fun a0 a1 a2 a9 a46 a47 a48 w => F12_2L m a0 a1 a2 a9 a46 a47 a48 w K) (fun a0 a1 a9 w => F12_3 a0 a1 a9 w K)) h
def F12_1b (s0 s1 s2 s3 : Value) (w : World) (K : V1) (Y0 : V7) : Prop :=
bindP (bLt s2 (.int .i64 0)) fun v45 =>
stepM (gd false v45) s2 fun v46 =>
Sx.stepG (gd false v45) (bGt v46 (.int .i64 1152921504606846976)) fun v47 =>
bindP (pPick v45 (.bool true) v47) fun v48 =>
stepM (gd false v48) s3 fun v49 =>
Sx.stepG (gd false v48) (bLt v49 (.int .i64 0)) fun v50 =>
bindP (pPick v48 (.bool true) v50) fun v51 =>
stepM (gd false v51) s3 fun v52 =>
Sx.stepG (gd false v51) (bGt v52 (.int .i64 1152921504606846976)) fun v53 =>
bindP (pPick v51 (.bool true) v53) fun v54 =>
ifB v54 (
K (.int .i64 4) w) (
bindP (pNil s0) fun v55 =>
bindP (pFieldAddr 0 v55) fun v56 =>
bindP (ld1 v56 w.drew) fun v57 =>
bindP (pNil s0) fun v58 =>
bindP (pFieldAddr 1 v58) fun v59 =>
bindP (ld1 v59 w.drew) fun v60 =>
bindP (pNil s0) fun v61 =>
bindP (pFieldAddr 2 v61) fun v62 =>
bindP (ld1 v62 w.drew) fun v63 =>
eMakeMap none w.drew fun v65 w64 =>
(fok true (ld1 v56 w64) v57 ∧ fok true (ld1 v59 w64) v60 ∧ fok true (ld1 v62 w64) v63) ∧ (bindP (fBuild Tryd.prog 57 [(0, v57), (1, v60), (2, v63), (3, s2), (4, s3), (5, s2), (6, v65)]) fun v66 =>
eBox 57 v66 w64 fun v68 w67 =>
bindP (lenL s1) fun v69 =>
Y0 s0 s1 s2 v68 s1 v69 (.int .i64 0) w67))
def F12_1 (s0 s1 s2 s3 : Value) (w : World) (K : V1) : Prop := F12_1b s0 s1 s2 s3 w K (fun a0 a1 a2 a9 a46 a47 a48 w => F12_2 a0 a1 a2 a9 a46 a47 a48 w K)
theorem ok12_1 {K : V1}
    (hn : HN (fun e w => K (e 8) w) kn) (hr : HR Tryd.prog [.tmp 8] K kr) (he : HE noE ke) :
    ∀ e w, F12_1 (e 0) (e 1) (e 2) (e 3) w K → denL Tryd.prog (tabOf T12) 90 fuel ((flat (bodyOf Tryd.f12)).drop 0) e w kn kr ke := by
  intro e w h
  unfold F12_1 at h
  have e1 : ∀ (Y0 : V7), F12_1b (e 0) (e 1) (e 2) (e 3) w K Y0 = denL Tryd.prog (tabOf T12) 90 fuel (((flat (bodyOf Tryd.f12)).drop 0).take 5) e w (fun e w => Y0 (e 0) (e 1) (e 2) (e 9) (e 46) (e 47) (e 48) w) (endD Tryd.prog [.tmp 8] K) noE := by intro Y0; kernel_rfl
  exact seg 5 (Eq.mp (e1 (fun a0 a1 a2 a9 a46 a47 a48 w => F12_2 a0 a1 a2 a9 a46 a47 a48 w K)) h) (fun e w h => ok12_2 hn hr he e w h) hr he
def F12 (x0 x1 x2 x3 : Value) (w : World) (K : V1) : Prop := F12_1 x0 x1 x2 x3 w K
def G12 : FnT := fun args w K => on4 (fun x0 x1 x2 x3 => F12 x0 x1 x2 x3 w K) args
theorem c12 {x0 x1 x2 x3 : Value} {w : World} {K : V1} (h : F12 x0 x1 x2 x3 w K) : callP G12 [x0, x1, x2, x3] w K := callP_intro (on4_mk (p := fun x0 x1 x2 x3 => F12 x0 x1 x2 x3 w K) h)
theorem ok12 : OkF Tryd.prog 12 G12 := by
  refine okF_of (tab_ok (l := T12) ⟨ok23, ok25, trivial⟩) mixed (n := fuel) Tryd.func12 Tryd.call12 fun args w K h => ?_
  obtain ⟨x0, x1, x2, x3, rfl, hh⟩ := of_on4 h
  unfold F12 at hh
  exact fnD_list (c := bodyOf Tryd.f12) (by kernel_rfl) (by kernel_rfl) (ok12_1 (fun _ _ h => h) (fun _ _ h => h) (fun _ _ _ h => h) (initE [x0, x1, x2, x3]) w hh)
def T16 : List (Nat × FnT) := []
def F16_3b (w : World) (K : V1) : Prop :=
K (.bool true) w
def F16_3 (w : World) (K : V1) : Prop := F16_3b w K
theorem ok16_3 {K : V1}
    (hn : HN (fun e w => K (e 4) w) kn) (hr : HR Tryd.prog [.tmp 4] K kr) (he : HE noE ke) :
    ∀ e w, F16_3 w K → denL Tryd.prog (tabOf T16) 26 fuel ((flat (bodyOf Tryd.f16)).drop 5) e w kn kr ke := by
  intro e w h
  unfold F16_3 at h
  have e1 : ∀ (_ : Unit), F16_3b w K = denL Tryd.prog (tabOf T16) 26 fuel ((flat (bodyOf Tryd.f16)).drop 5) e w (fun e w => K (e 4) w) (endD Tryd.prog [.tmp 4] K) noE := by intro _; kernel_rfl
  exact seg_end (Eq.mp (e1 ()) h) hn hr he
def F16_2b (s0 s1 s5 : Value) (w : World) (K : V1) (Y0 : V3) (Y1 : V0) : Prop :=
bindP (lenL s0) fun v1 =>
bindP (bLt s5 v1) fun v2 =>
ifB v2 (
bindP (pIndexL 13 s0 s5) fun v3 =>
bindP (ldN 13 v3 w.drew) fun v4 =>
bindP (pIndexL 13 s1 s5) fun v5 =>
bindP (ldN 13 v5 w.drew) fun v6 =>
bindP (bNe Tryd.prog 61 (.tmp 20) (.tmp 24) v4 v6) fun v7 =>
ifB v7 (
K (.bool false) w.drew) (
bindP (bAdd s5 (.int .i64 1)) fun v8 =>
Y0 s0 s1 v8 w.drew)) (
Y1 w)
def F16_2L : Nat → Value → Value → Value → World → (V1) → Prop
  | 0, _, _, _, _, _ => False
  | n + 1, s0, s1, s5, w, K => F16_2b s0 s1 s5 w K (fun a0 a1 a5 w => F16_2L n a0 a1 a5 w K) (fun w => F16_3 w K)
def F16_2 (s0 s1 s5 : Value) (w : World) (K : V1) : Prop := F16_2L fuel s0 s1 s5 w K
theorem ok16_2 {K : V1}
    (hn : HN (fun e w => K (e 4) w) kn) (hr : HR Tryd.prog [.tmp 4] K kr) (he : HE noE ke) :
    ∀ e w, F16_2 (e 0) (e 1) (e 5) w K → denL Tryd.prog (tabOf T16) 26 fuel ((flat (bodyOf Tryd.f16)).drop 4) e w kn kr ke := by
  intro e w h
  unfold F16_2 at h
  refine seg_loop (id := 0) (body := (loopB (blkB (nthC (flat (bodyOf Tryd.f16)) 4)))) (l2 := (flat (bodyOf Tryd.f16)).drop 5) (by kernel_rfl) ?_
  refine loop_ok (FL := fun m e w => F16_2L m (e 0) (e 1) (e 5) w K) (fr := endD Tryd.prog [.tmp 4] K) (fe := (blkK 0 (fun e w => F16_3 w K) noE)) (fun _ _ h => h) ?_ hr (blkK_mono (fun e w h => ok16_3 hn hr he e w h) he) fuel e w h
  intro m e w h
  have h : F16_2L (m + 1) (e 0) (e 1) (e 5) w K := h
  rw [F16_2L] at h
  have e1 : ∀ (Y0 : V3) (Y1 : V0), F16_2b (e 0) (e 1) (e 5) w K Y0 Y1 = denL Tryd.prog (tabOf T16) 26 fuel (flat (loopB (blkB (nthC (flat (bodyOf Tryd.f16)) 4)))) e w (fun e w => Y0 (e 0) (e 1) (e 5) w) (endD Tryd.prog [.tmp 4] K) (blkK 0 (fun e w => Y1 w) noE) := by intro Y0 Y1; kernel_rfl
  exact Eq.mp (e1 (fun a0 a1 a5 w => F16_2L m a0 a1 a5 w K) (fun w => F16_3 w K)) h
def F16_1b (s0 s1 : Value) (w : World) (K : V1) (Y0 : V3) : Prop :=
bindP (lenL s0) fun v9 =>
bindP (lenL s1) fun v10 =>
bindP (bNe Tryd.prog 3 (.tmp 7) (.tmp 9) v9 v10) fun v11 =>
ifB v11 (
K (.bool false) w) (
Y0 s0 s1 (.int .i64 0) w)
def F16_1 (s0 s1 : Value) (w : World) (K : V1) : Prop := F16_1b s0 s1 w K (fun a0 a1 a5 w => F16_2 a0 a1 a5 w K)
theorem ok16_1 {K : V1}
    (hn : HN (fun e w => K (e 4) w) kn) (hr : HR Tryd.prog [.tmp 4] K kr) (he : HE noE ke) :
    ∀ e w, F16_1 (e 0) (e 1) w K → denL Tryd.prog (tabOf T16) 26 fuel ((flat (bodyOf Tryd.f16)).drop 0) e w kn kr ke := by
  intro e w h
  unfold F16_1 at h
  have e1 : ∀ (Y0 : V3), F16_1b (e 0) (e 1) w K Y0 = denL Tryd.prog (tabOf T16) 26 fuel (((flat (bodyOf Tryd.f16)).drop 0).take 4) e w (fun e w => Y0 (e 0) (e 1) (e 5) w) (endD Tryd.prog [.tmp 4] K) noE := by intro Y0; kernel_rfl
  exact seg 4 (Eq.mp (e1 (fun a0 a1 a5 w => F16_2 a0 a1 a5 w K)) h) (fun e w h => ok16_2 hn hr he e w h) hr he
def F16 (x0 x1 : Value) (w : World) (K : V1) : Prop := F16_1 x0 x1 w K
def G16 : FnT := fun args w K => on2 (fun x0 x1 => F16 x0 x1 w K) args
theorem c16 {x0 x1 : Value} {w : World} {K : V1} (h : F16 x0 x1 w K) : callP G16 [x0, x1] w K := callP_intro (on2_mk (p := fun x0 x1 => F16 x0 x1 w K) h)
theorem ok16 : OkF Tryd.prog 16 G16 := by
  refine okF_of (tab_ok (l := T16) trivial) mixed (n := fuel) Tryd.func16 Tryd.call16 fun args w K h => ?_
  obtain ⟨x0, x1, rfl, hh⟩ := of_on2 h
  unfold F16 at hh
  exact fnD_list (c := bodyOf Tryd.f16) (by kernel_rfl) (by kernel_rfl) (ok16_1 (fun _ _ h => h) (fun _ _ h => h) (fun _ _ _ h => h) (initE [x0, x1]) w hh)
def T17 : List (Nat × FnT) := []
def F17 (x0 : Value) (w : World) (K : V1) : Prop :=
bindP (pNil x0) fun v1 =>
bindP (pFieldAddr 5 v1) fun v2 =>
bindP (ld1 v2 w) fun v3 =>
K v3 w
def G17 : FnT := fun args w K => on1 (fun x0 => F17 x0 w K) args
theorem c17 {x0 : Value} {w : World} {K : V1} (h : F17 x0 w K) : callP G17 [x0] w K := callP_intro (on1_mk (p := fun x0 => F17 x0 w K) h)
theorem ok17 : OkF Tryd.prog 17 G17 := by
  refine okF_of (tab_ok (l := T17) trivial) mixed (n := fuel) Tryd.func17 Tryd.call17 fun args w K h => ?_
  obtain ⟨x0, rfl, hh⟩ := of_on1 h
  exact fnD_list (c := bodyOf Tryd.f17) (by kernel_rfl) (by kernel_rfl) (Eq.mp (by kernel_rfl) hh)
def T3 : List (Nat × FnT) := [(5, G5), (6, G6), (7, G7), (8, G8), (9, G9), (10, G10), (11, G11), (12, G12), (13, G13), (14, G14), (15, G15), (16, G16), (17, G17)]
def F3_3b (s1 s5 s7 : Value) (w : World) (K : V1) : Prop :=
callP G11 [s5] w fun v2 w1 =>
bindP (lenL v2) fun v3 =>
bindP (bAdd v3 (.int .i64 1)) fun v4 =>
callP G10 [s1, v4] w1 fun v6 w5 =>
bindP (pSliceL 13 v2 (some v6) none none) fun v7 =>
bindP (pSliceL 13 v2 none (some v6) none) fun v8 =>
eBuildSl Tryd.prog 37 0 [] w5.drew fun v10 w9 =>
eAppend Tryd.prog 37 37 v10 v7 w9 fun v12 w11 =>
eAppend Tryd.prog 37 37 v12 v8 w11 fun v14 w13 =>
callP G13 [s5] w13 fun v16 w15 =>
callP G14 [s5] w15 fun v18 w17 =>
callP G12 [s7, v14, v16, v18] w17 fun v20 w19 =>
bindP (bNe Tryd.prog 24 (.tmp 95) (.const (.int .i64 0)) v20 (.int .i64 0)) fun v21 =>
ifB v21 (
K (.bool false) w19) (
callP G15 [s7, (.int .i64 0)] w19 fun v23 w22 =>
bindP (pTuple v23 0) fun v24 =>
bindP (pTuple v23 1) fun v25 =>
bindP (bNe Tryd.prog 24 (.tmp 102) (.const (.int .i64 0)) v25 (.int .i64 0)) fun v26 =>
stepM (gd false v26) v24 fun v27 =>
stepM (gd false v26) v2 fun v28 =>
stepE (gd false v26) (fun k => callP G16 [v27, v28] w22 k) w22 fun v30 w29 =>
Sx.stepG (gd false v26) (uNot v30) fun v31 =>
bindP (pPick v26 (.bool true) v31) fun v32 =>
stepM (gd false v32) s7 fun v33 =>
stepE (gd false v32) (fun k => callP G11 [v33] w29 k) w29 fun v35 w34 =>
stepM (gd false v32) v2 fun v36 =>
stepE (gd false v32) (fun k => callP G16 [v35, v36] w34 k) w34 fun v38 w37 =>
Sx.stepG (gd false v32) (uNot v38) fun v39 =>
bindP (pPick v32 (.bool true) v39) fun v40 =>
stepM (gd false v40) s7 fun v41 =>
stepE (gd false v40) (fun k => callP G13 [v41] w37 k) w37 fun v43 w42 =>
stepM (gd false v40) s5 fun v44 =>
stepE (gd false v40) (fun k => callP G13 [v44] w42 k) w42 fun v46 w45 =>
Sx.stepG (gd false v40) (bNe Tryd.prog 3 (.tmp 119) (.tmp 121) v43 v46) fun v47 =>
bindP (pPick v40 (.bool true) v47) fun v48 =>
stepM (gd false v48) s7 fun v49 =>
stepE (gd false v48) (fun k => callP G14 [v49] w45 k) w45 fun v51 w50 =>
stepM (gd false v48) s5 fun v52 =>
stepE (gd false v48) (fun k => callP G14 [v52] w50 k) w50 fun v54 w53 =>
Sx.stepG (gd false v48) (bNe Tryd.prog 3 (.tmp 126) (.tmp 128) v51 v54) fun v55 =>
bindP (pPick v48 (.bool true) v55) fun v56 =>
stepM (gd false v56) s7 fun v57 =>
stepE (gd false v56) (fun k => callP G17 [v57] w53 k) w53 fun v59 w58 =>
stepM (gd false v56) s5 fun v60 =>
stepE (gd false v56) (fun k => callP G13 [v60] w58 k) w58 fun v62 w61 =>
Sx.stepG (gd false v56) (bNe Tryd.prog 3 (.tmp 133) (.tmp 135) v59 v62) fun v63 =>
bindP (pPick v56 (.bool true) v63) fun v64 =>
ifB v64 (
K (.bool false) w61) (
callP G8 [(.int .i64 1)] w61 fun v66 w65 =>
callP G7 [s5, (.int .i64 3), v66] w65 fun v68 w67 =>
bindP (pTuple v68 0) fun v69 =>
bindP (pTuple v68 1) fun v70 =>
callP G8 [(.int .i64 1)] w67 fun v72 w71 =>
callP G7 [s7, (.int .i64 3), v72] w71 fun v74 w73 =>
bindP (pTuple v74 0) fun v75 =>
bindP (pTuple v74 1) fun v76 =>
bindP (bEq Tryd.prog 3 (.tmp 150) (.tmp 151) v69 v75) fun v77 =>
stepM (gd true v77) v70 fun v78 =>
stepM (gd true v77) v76 fun v79 =>
Sx.stepG (gd true v77) (bEq Tryd.prog 24 (.tmp 154) (.tmp 155) v78 v79) fun v80 =>
bindP (pPick v77 v80 (.bool false)) fun v81 =>
K v81 w73))
def F3_3 (s1 s5 s7 : Value) (w : World) (K : V1) : Prop := F3_3b s1 s5 s7 w K
theorem ok3_3 {K : V1}
    (hn : HN (fun e w => K (e 4) w) kn) (hr : HR Tryd.prog [.tmp 4] K kr) (he : HE noE ke) :
    ∀ e w, F3_3 (e 1) (e 5) (e 7) w K → denL Tryd.prog (tabOf T3) 158 fuel ((flat (bodyOf Tryd.f3)).drop 7) e w kn kr ke := by
  intro e w h
  unfold F3_3 at h
  have e1 : ∀ (_ : Unit), F3_3b (e 1) (e 5) (e 7) w K = denL Tryd.prog (tabOf T3) 158 fuel ((flat (bodyOf Tryd.f3)).drop 7) e w (fun e w => K (e 4) w) (endD Tryd.prog [.tmp 4] K) noE := by intro _; kernel_rfl
  exact seg_end (Eq.mp (e1 ()) h) hn hr he
def F3_5b (s0 s1 s5 s7 s9 : Value) (w : World) (_K : V1) (R3 : V5) : Prop :=
bindP (bAdd s9 (.int .i64 1)) fun v82 =>
R3 s0 s1 s5 s7 v82 w
def F3_5 (s0 s1 s5 s7 s9 : Value) (w : World) (K : V1) (R3 : V5) : Prop := F3_5b s0 s1 s5 s7 s9 w K R3
theorem ok3_5 (R3 : V5) {K : V1}
    (hn : HN (fun e w => R3 (e 0) (e 1) (e 5) (e 7) (e 9) w) kn) (hr : HR Tryd.prog [.tmp 4] K kr) (he : HE (blkK 0 (fun e w => F3_3 (e 1) (e 5) (e 7) w K) noE) ke) :
    ∀ e w, F3_5 (e 0) (e 1) (e 5) (e 7) (e 9) w K R3 → denL Tryd.prog (tabOf T3) 158 fuel ((flat (loopB (blkB (nthC (flat (bodyOf Tryd.f3)) 6)))).drop 3) e w kn kr ke := by
  intro e w h
  unfold F3_5 at h
  have e1 : ∀ (_ : Unit), F3_5b (e 0) (e 1) (e 5) (e 7) (e 9) w K R3 = denL Tryd.prog (tabOf T3) 158 fuel ((flat (loopB (blkB (nthC (flat (bodyOf Tryd.f3)) 6)))).drop 3) e w (fun e w => R3 (e 0) (e 1) (e 5) (e 7) (e 9) w) (endD Tryd.prog [.tmp 4] K) (blkK 0 (fun e w => F3_3 (e 1) (e 5) (e 7) w K) noE) := by intro _; kernel_rfl
  exact seg_end (Eq.mp (e1 ()) h) hn hr he
def F3_4b (s0 s1 s5 s7 s9 : Value) (w : World) (_K : V1) (R3 : V5) (Y0 : V5) (Y1 : V3) : Prop :=
bindP (lenL s0) fun v83 =>
bindP (bLt s9 v83) fun v84 =>
stepM (gd true v84) s9 fun v85 =>
Sx.stepG (gd true v84) (bLt v85 (.int .i64 40)) fun v86 =>
bindP (pPick v84 v86 (.bool false)) fun v87 =>
ifB v87 (
bindP (pIndexL 1 s0 s9) fun v88 =>
bindP (ld1 v88 w) fun v89 =>
callP G8 [v89] w fun v91 w90 =>
callP G7 [s5, (.int .i64 1), v91] w90 fun _ w92 =>
bindP (pIndexL 1 s0 s9) fun v94 =>
bindP (ld1 v94 w92) fun v95 =>
bindP (bRem v95 (.int .i64 3)) fun v96 =>
bindP (bEq Tryd.prog 3 (.tmp 64) (.const (.int .i64 0)) v96 (.int .i64 0)) fun v97 =>
ifB v97 (
bindP (pIndexL 1 s0 s9) fun v98 =>
bindP (ld1 v98 w92) fun v99 =>
bindP (bQuo v99 (.int .i64 3)) fun v100 =>
callP G10 [v100, (.int .i64 30)] w92 fun v102 w101 =>
callP G9 [s5, v102] w101 fun _ w103 =>
Y0 s0 s1 s5 s7 s9 w103) (
Y0 s0 s1 s5 s7 s9 w92)) (
Y1 s1 s5 s7 w)
def F3_4 (s0 s1 s5 s7 s9 : Value) (w : World) (K : V1) (R3 : V5) : Prop := F3_4b s0 s1 s5 s7 s9 w K R3 (fun a0 a1 a5 a7 a9 w => F3_5 a0 a1 a5 a7 a9 w K R3) (fun a1 a5 a7 w => F3_3 a1 a5 a7 w K)
theorem ok3_4 (R3 : V5) {K : V1}
    (hn : HN (fun e w => R3 (e 0) (e 1) (e 5) (e 7) (e 9) w) kn) (hr : HR Tryd.prog [.tmp 4] K kr) (he : HE (blkK 0 (fun e w => F3_3 (e 1) (e 5) (e 7) w K) noE) ke) :
    ∀ e w, F3_4 (e 0) (e 1) (e 5) (e 7) (e 9) w K R3 → denL Tryd.prog (tabOf T3) 158 fuel ((flat (loopB (blkB (nthC (flat (bodyOf Tryd.f3)) 6)))).drop 0) e w kn kr ke := by
  intro e w h
  unfold F3_4 at h
  have e1 : ∀ (Y0 : V5) (Y1 : V3), F3_4b (e 0) (e 1) (e 5) (e 7) (e 9) w K R3 Y0 Y1 = denL Tryd.prog (tabOf T3) 158 fuel (((flat (loopB (blkB (nthC (flat (bodyOf Tryd.f3)) 6)))).drop 0).take 3) e w (fun e w => Y0 (e 0) (e 1) (e 5) (e 7) (e 9) w) (endD Tryd.prog [.tmp 4] K) (blkK 0 (fun e w => Y1 (e 1) (e 5) (e 7) w) noE) := by intro Y0 Y1; kernel_rfl
  exact seg 3 (Eq.mp (e1 (fun a0 a1 a5 a7 a9 w => F3_5 a0 a1 a5 a7 a9 w K R3) (fun a1 a5 a7 w => F3_3 a1 a5 a7 w K)) h) (fun e w h => ok3_5 R3 hn hr he e w h) hr he
def F3_2L : Nat → Value → Value → Value → Value → Value → World → (V1) → Prop
  | 0, _, _, _, _, _, _, _ => False
  | n + 1, s0, s1, s5, s7, s9, w, K => F3_4 s0 s1 s5 s7 s9 w K (fun a0 a1 a5 a7 a9 w => F3_2L n a0 a1 a5 a7 a9 w K)
def F3_2 (s0 s1 s5 s7 s9 : Value) (w : World) (K : V1) : Prop := F3_2L fuel s0 s1 s5 s7 s9 w K
theorem ok3_2 {K : V1}
    (hn : HN (fun e w => K (e 4) w) kn) (hr : HR Tryd.prog [.tmp 4] K kr) (he : HE noE ke) :
    ∀ e w, F3_2 (e 0) (e 1) (e 5) (e 7) (e 9) w K → denL Tryd.prog (tabOf T3) 158 fuel ((flat (bodyOf Tryd.f3)).drop 6) e w kn kr ke := by
  intro e w h
  unfold F3_2 at h
  refine seg_loop (id := 0) (body := (loopB (blkB (nthC (flat (bodyOf Tryd.f3)) 6)))) (l2 := (flat (bodyOf Tryd.f3)).drop 7) (by kernel_rfl) ?_
  refine loop_ok (FL := fun m e w => F3_2L m (e 0) (e 1) (e 5) (e 7) (e 9) w K) (fr := endD Tryd.prog [.tmp 4] K) (fe := (blkK 0 (fun e w => F3_3 (e 1) (e 5) (e 7) w K) noE)) (fun _ _ h => h) ?_ hr (blkK_mono (fun e w h => ok3_3 hn hr he e w h) he) fuel e w h
  intro m e w h
  have h : F3_2L (m + 1) (e 0) (e 1) (e 5) (e 7) (e 9) w K := h
  rw [F3_2L] at h
  exact ok3_4 (fun a0 a1 a5 a7 a9 w => F3_2L m a0 a1 a5 a7 a9 w K) (fun _ _ h => h) (fun _ _ h => h) (fun _ _ _ h => h) e w h
def F3_1b (s0 s1 : Value) (w : World) (K : V1) (Y0 : V5) : Prop :=
callP G5 [(.int .i64 9), (.int .i64 1), (.int .i64 1)] w fun v106 w105 =>
bindP (pTuple v106 0) fun v107 =>
bindP (pTuple v106 1) fun v108 =>
callP G5 [(.int .i64 9), (.int .i64 1), (.int .i64 1)] w105 fun v110 w109 =>
bindP (pTuple v110 0) fun v111 =>
bindP (pTuple v110 1) fun v112 =>
bindP (bEq Tryd.prog 23 (.tmp 25) (.const (.pointer none)) v107 (.pointer none)) fun v113 =>
stepM (gd false v113) v111 fun v114 =>
Sx.stepG (gd false v113) (bEq Tryd.prog 23 (.tmp 28) (.const (.pointer none)) v114 (.pointer none)) fun v115 =>
bindP (pPick v113 (.bool true) v115) fun v116 =>
stepM (gd false v116) v108 fun v117 =>
Sx.stepG (gd false v116) (bNe Tryd.prog 24 (.tmp 32) (.const (.int .i64 0)) v117 (.int .i64 0)) fun v118 =>
bindP (pPick v116 (.bool true) v118) fun v119 =>
stepM (gd false v119) v112 fun v120 =>
Sx.stepG (gd false v119) (bNe Tryd.prog 24 (.tmp 36) (.const (.int .i64 0)) v120 (.int .i64 0)) fun v121 =>
bindP (pPick v119 (.bool true) v121) fun v122 =>
stepE (gd false v122) (fun k => callP G6 [] w109 k) w109 fun v124 w123 =>
Sx.stepG (gd false v122) (uNot v124) fun v125 =>
bindP (pPick v122 (.bool true) v125) fun v126 =>
ifB v126 (
K (.bool false) w123) (
Y0 s0 s1 v107 v111 (.int .i64 0) w123)
def F3_1 (s0 s1 : Value) (w : World) (K : V1) : Prop := F3_1b s0 s1 w K (fun a0 a1 a5 a7 a9 w => F3_2 a0 a1 a5 a7 a9 w K)
theorem ok3_1 {K : V1}
    (hn : HN (fun e w => K (e 4) w) kn) (hr : HR Tryd.prog [.tmp 4] K kr) (he : HE noE ke) :
    ∀ e w, F3_1 (e 0) (e 1) w K → denL Tryd.prog (tabOf T3) 158 fuel ((flat (bodyOf Tryd.f3)).drop 0) e w kn kr ke := by
  intro e w h
  unfold F3_1 at h
  have e1 : ∀ (Y0 : V5), F3_1b (e 0) (e 1) w K Y0 = denL Tryd.prog (tabOf T3) 158 fuel (((flat (bodyOf Tryd.f3)).drop 0).take 6) e w (fun e w => Y0 (e 0) (e 1) (e 5) (e 7) (e 9) w) (endD Tryd.prog [.tmp 4] K) noE := by intro Y0; kernel_rfl
  exact seg 6 (Eq.mp (e1 (fun a0 a1 a5 a7 a9 w => F3_2 a0 a1 a5 a7 a9 w K)) h) (fun e w h => ok3_2 hn hr he e w h) hr he
def F3 (x0 x1 : Value) (w : World) (K : V1) : Prop := F3_1 x0 x1 w K
def G3 : FnT := fun args w K => on2 (fun x0 x1 => F3 x0 x1 w K) args
theorem c3 {x0 x1 : Value} {w : World} {K : V1} (h : F3 x0 x1 w K) : callP G3 [x0, x1] w K := callP_intro (on2_mk (p := fun x0 x1 => F3 x0 x1 w K) h)
theorem ok3 : OkF Tryd.prog 3 G3 := by
  refine okF_of (tab_ok (l := T3) ⟨ok5, ok6, ok7, ok8, ok9, ok10, ok11, ok12, ok13, ok14, ok15, ok16, ok17, trivial⟩) mixed (n := fuel) Tryd.func3 Tryd.call3 fun args w K h => ?_
  obtain ⟨x0, x1, rfl, hh⟩ := of_on2 h
  unfold F3 at hh
  exact fnD_list (c := bodyOf Tryd.f3) (by kernel_rfl) (by kernel_rfl) (ok3_1 (fun _ _ h => h) (fun _ _ h => h) (fun _ _ _ h => h) (initE [x0, x1]) w hh)
end Go.Proofs.Gong

/- Oa1 -/
namespace Go.Proofs.Gong
open Go Go.Sx Go.Proofs
set_option maxRecDepth 100000
def Whats (w : World) : Prop := ∀ i : Nat, i < 256 → w.cell? ⟨0, i, none⟩ = some (.bool (decide (1 ≤ i) && decide (i ≤ 5)))
def chkT (t : Tk) : Int := if okTk t = true then 0 else 230
def TFit (t : Tk) : Prop := t.r.e.fits ∧ t.r.who.length < 1073741824
theorem elimLt {q : Option (Tk × Int × Int)} : q.elim (ltV zeroLt) ltV = ltV (q.getD zeroLt) := by cases q <;> rfl
theorem whats_ix {n : Int} (h : 0 ≤ n ∧ n < 256) : pIndexP 256 1 (.pointer (some ⟨0, 0, none⟩)) (.int .i64 n) = some (.pointer (some ⟨0, n.toNat, none⟩)) := by
  unfold pIndexP
  simp only []
  rw [if_pos (by omega)]
  simp
theorem zTk1 : fZero Tryd.prog 61 = some (tkV zeroTk) := z61
attribute [local irreducible] fBuild fLook fZero eqv bEqv Cl MapH LsH SlH ld1 ldN st callP eBox eAlloc lenM lenL eMapSet eDelete eAppend eBuildSl eRange eNext
section
variable {w0 w : World} {L : List HP} {K : Value → World → Prop} {v : Value} {o : Ob} {n now last refused : Int} {M : LMap} {t : Tk}
theorem whats_at (W : Whats w0) {w1 : World} (h : Sat w0 L w1) {n : Int} (hn : 0 ≤ n ∧ n < 256) : ld1 (.pointer (some ⟨0, n.toNat, none⟩)) w1 = some (.bool (decide (1 ≤ n) && decide (n ≤ 5))) := by
  rw [ld1_ptr, h.cellOld (W n.toNat (by omega))]
  congr 3
  · exact decide_eq_decide.2 (by omega)
  · exact decide_eq_decide.2 (by omega)
theorem tcheck_spec (W : Whats w0) (hf : TFit t) (h : Sat w0 L w) (hK : ∀ w', Sat w0 L w' → K (.int .i64 (chkT t)) w') : callP G25 [tkV t] w K := by
  unfold chkT okTk at hK
  refine c25 ?_
  unfold F25
  have e5 : ∀ b : Bool, uNot (.bool b) = some (.bool (!b)) := fun b => rfl
  cases g1 : decide (t.what ≥ 0)
  · have h1 : decide (1 ≤ t.what) = false := by simp at g1 ⊢; omega
    rw [h1, if_neg (by simp)] at hK
    cases g3 : decide (t.seq < 1) <;> cases g4 : decide (t.seq > 1152921504606846976) <;>
    · (repeat (first
 | (simp (disch := omega) only [evA, evB, evC, bAdd_i64, bSub_i64, g1, g3, g4])
 | (with_reducible apply go_ld1 h)
 | ((with_reducible first | apply go_ldA h | apply go_rd h | apply go_rdN h | apply go_rlen h); rfl)
 | (with_reducible first | apply go_ldN h | apply go_lenL h)
 | ((with_reducible apply go_st h); intro _ h)
 | ((with_reducible apply go_stA h); rfl; rfl; (first | rfl | simp [OneV.o]); intro _ h)
 | ((with_reducible apply go_stN h); rfl; (first | rfl | simp [OneV.o]); intro _ h)
 | ((with_reducible apply go_box h); rfl; intro _ _ h)
 | ((with_reducible apply go_ix h); omega)
 | ((with_reducible first | apply go_elN h | apply go_f1 h | apply go_rf1 h | apply go_rel h); (case hi => omega); (try case hx => exact inferInstance); (try case hv => rfl))
 | ((with_reducible apply go_fa h); omega; omega)
))
      exact hK _ (h.got)
  cases g2 : decide (t.what < 256)
  · have h1 : decide (t.what ≤ 5) = false := by simp at g2 ⊢; omega
    rw [h1, if_neg (by simp)] at hK
    cases g3 : decide (t.seq < 1) <;> cases g4 : decide (t.seq > 1152921504606846976) <;>
    · (repeat (first
 | (simp (disch := omega) only [evA, evB, evC, bAdd_i64, bSub_i64, g1, g2, g3, g4])
 | (with_reducible apply go_ld1 h)
 | ((with_reducible first | apply go_ldA h | apply go_rd h | apply go_rdN h | apply go_rlen h); rfl)
 | (with_reducible first | apply go_ldN h | apply go_lenL h)
 | ((with_reducible apply go_st h); intro _ h)
 | ((with_reducible apply go_stA h); rfl; rfl; (first | rfl | simp [OneV.o]); intro _ h)
 | ((with_reducible apply go_stN h); rfl; (first | rfl | simp [OneV.o]); intro _ h)
 | ((with_reducible apply go_box h); rfl; intro _ _ h)
 | ((with_reducible apply go_ix h); omega)
 | ((with_reducible first | apply go_elN h | apply go_f1 h | apply go_rf1 h | apply go_rel h); (case hi => omega); (try case hx => exact inferInstance); (try case hv => rfl))
 | ((with_reducible apply go_fa h); omega; omega)
))
      exact hK _ (h.got)
  have hn : 0 ≤ t.what ∧ t.what < 256 := by simp at g1 g2; omega
  (repeat (first
 | (simp (disch := omega) only [evA, evB, evC, bAdd_i64, bSub_i64, g1, g2])
 | (with_reducible apply go_ld1 h)
 | ((with_reducible first | apply go_ldA h | apply go_rd h | apply go_rdN h | apply go_rlen h); rfl)
 | (with_reducible first | apply go_ldN h | apply go_lenL h)
 | ((with_reducible apply go_st h); intro _ h)
 | ((with_reducible apply go_stA h); rfl; rfl; (first | rfl | simp [OneV.o]); intro _ h)
 | ((with_reducible apply go_stN h); rfl; (first | rfl | simp [OneV.o]); intro _ h)
 | ((with_reducible apply go_box h); rfl; intro _ _ h)
 | ((with_reducible apply go_ix h); omega)
 | ((with_reducible first | apply go_elN h | apply go_f1 h | apply go_rf1 h | apply go_rel h); (case hi => omega); (try case hx => exact inferInstance); (try case hv => rfl))
 | ((with_reducible apply go_fa h); omega; omega)
))
  refine go_some (whats_ix hn) ?_
  refine go_some (whats_at W h hn) ?_
  cases g3 : decide (t.seq < 1)
  case true =>
    have h1 : decide (1 ≤ t.seq) = false := by simp at g3 ⊢; omega
    rw [h1, if_neg (by simp)] at hK
    (repeat (first
 | (simp (disch := omega) only [evA, evB, evC, bAdd_i64, bSub_i64, g3])
 | (with_reducible apply go_ld1 h)
 | ((with_reducible first | apply go_ldA h | apply go_rd h | apply go_rdN h | apply go_rlen h); rfl)
 | (with_reducible first | apply go_ldN h | apply go_lenL h)
 | ((with_reducible apply go_st h); intro _ h)
 | ((with_reducible apply go_stA h); rfl; rfl; (first | rfl | simp [OneV.o]); intro _ h)
 | ((with_reducible apply go_stN h); rfl; (first | rfl | simp [OneV.o]); intro _ h)
 | ((with_reducible apply go_box h); rfl; intro _ _ h)
 | ((with_reducible apply go_ix h); omega)
 | ((with_reducible first | apply go_elN h | apply go_f1 h | apply go_rf1 h | apply go_rel h); (case hi => omega); (try case hx => exact inferInstance); (try case hv => rfl))
 | ((with_reducible apply go_fa h); omega; omega)
))
    exact hK _ (h.got)
  have h3 : decide (1 ≤ t.seq) = true := by simp at g3 ⊢; omega
  cases g4 : decide (t.seq > 1152921504606846976)
  case true =>
    have h1 : decide (t.seq ≤ 1152921504606846976) = false := by simp at g4 ⊢; omega
    rw [h1, if_neg (by simp)] at hK
    (repeat (first
 | (simp (disch := omega) only [evA, evB, evC, bAdd_i64, bSub_i64, g3, g4])
 | (with_reducible apply go_ld1 h)
 | ((with_reducible first | apply go_ldA h | apply go_rd h | apply go_rdN h | apply go_rlen h); rfl)
 | (with_reducible first | apply go_ldN h | apply go_lenL h)
 | ((with_reducible apply go_st h); intro _ h)
 | ((with_reducible apply go_stA h); rfl; rfl; (first | rfl | simp [OneV.o]); intro _ h)
 | ((with_reducible apply go_stN h); rfl; (first | rfl | simp [OneV.o]); intro _ h)
 | ((with_reducible apply go_box h); rfl; intro _ _ h)
 | ((with_reducible apply go_ix h); omega)
 | ((with_reducible first | apply go_elN h | apply go_f1 h | apply go_rf1 h | apply go_rel h); (case hi => omega); (try case hx => exact inferInstance); (try case hv => rfl))
 | ((with_reducible apply go_fa h); omega; omega)
))
    exact hK _ (h.got)
  have h4 : decide (t.seq ≤ 1152921504606846976) = true := by simp at g4 ⊢; omega
  rw [h3, h4] at hK
  cases g5 : (decide (1 ≤ t.what) && decide (t.what ≤ 5))
  case false =>
    rw [Bool.true_and, Bool.true_and, g5, if_neg (by simp)] at hK
    (repeat (first
 | (simp (disch := omega) only [evA, evB, evC, bAdd_i64, bSub_i64, g3, g4])
 | (with_reducible apply go_ld1 h)
 | ((with_reducible first | apply go_ldA h | apply go_rd h | apply go_rdN h | apply go_rlen h); rfl)
 | (with_reducible first | apply go_ldN h | apply go_lenL h)
 | ((with_reducible apply go_st h); intro _ h)
 | ((with_reducible apply go_stA h); rfl; rfl; (first | rfl | simp [OneV.o]); intro _ h)
 | ((with_reducible apply go_stN h); rfl; (first | rfl | simp [OneV.o]); intro _ h)
 | ((with_reducible apply go_box h); rfl; intro _ _ h)
 | ((with_reducible apply go_ix h); omega)
 | ((with_reducible first | apply go_elN h | apply go_f1 h | apply go_rf1 h | apply go_rel h); (case hi => omega); (try case hx => exact inferInstance); (try case hv => rfl))
 | ((with_reducible apply go_fa h); omega; omega)
))
    exact hK _ (h.got)
  rw [Bool.true_and, Bool.true_and, g5, Bool.true_and] at hK
  (repeat (first
 | (simp (disch := omega) only [evA, evB, evC, bAdd_i64, bSub_i64, g3, g4])
 | (with_reducible apply go_ld1 h)
 | ((with_reducible first | apply go_ldA h | apply go_rd h | apply go_rdN h | apply go_rlen h); rfl)
 | (with_reducible first | apply go_ldN h | apply go_lenL h)
 | ((with_reducible apply go_st h); intro _ h)
 | ((with_reducible apply go_stA h); rfl; rfl; (first | rfl | simp [OneV.o]); intro _ h)
 | ((with_reducible apply go_stN h); rfl; (first | rfl | simp [OneV.o]); intro _ h)
 | ((with_reducible apply go_box h); rfl; intro _ _ h)
 | ((with_reducible apply go_ix h); omega)
 | ((with_reducible first | apply go_elN h | apply go_f1 h | apply go_rf1 h | apply go_rel h); (case hi => omega); (try case hx => exact inferInstance); (try case hv => rfl))
 | ((with_reducible apply go_fa h); omega; omega)
))
  refine bcheck_spec (r := t.r) hf.1 hf.2 h fun w h => ?_
  unfold chkR
  cases g6 : okR t.r
  · rw [g6, if_neg (by simp)] at hK
    (repeat (first
 | (simp (disch := omega) only [evA, evB, evC, bAdd_i64, bSub_i64, Bool.false_eq_true, if_false, Int.reduceEq])
 | (with_reducible apply go_ld1 h)
 | ((with_reducible first | apply go_ldA h | apply go_rd h | apply go_rdN h | apply go_rlen h); rfl)
 | (with_reducible first | apply go_ldN h | apply go_lenL h)
 | ((with_reducible apply go_st h); intro _ h)
 | ((with_reducible apply go_stA h); rfl; rfl; (first | rfl | simp [OneV.o]); intro _ h)
 | ((with_reducible apply go_stN h); rfl; (first | rfl | simp [OneV.o]); intro _ h)
 | ((with_reducible apply go_box h); rfl; intro _ _ h)
 | ((with_reducible apply go_ix h); omega)
 | ((with_reducible first | apply go_elN h | apply go_f1 h | apply go_rf1 h | apply go_rel h); (case hi => omega); (try case hx => exact inferInstance); (try case hv => rfl))
 | ((with_reducible apply go_fa h); omega; omega)
))
    exact hK _ (h.got)
  · rw [g6, if_pos rfl] at hK
    (repeat (first
 | (simp (disch := omega) only [evA, evB, evC, bAdd_i64, bSub_i64, if_true, Int.reduceEq])
 | (with_reducible apply go_ld1 h)
 | ((with_reducible first | apply go_ldA h | apply go_rd h | apply go_rdN h | apply go_rlen h); rfl)
 | (with_reducible first | apply go_ldN h | apply go_lenL h)
 | ((with_reducible apply go_st h); intro _ h)
 | ((with_reducible apply go_stA h); rfl; rfl; (first | rfl | simp [OneV.o]); intro _ h)
 | ((with_reducible apply go_stN h); rfl; (first | rfl | simp [OneV.o]); intro _ h)
 | ((with_reducible apply go_box h); rfl; intro _ _ h)
 | ((with_reducible apply go_ix h); omega)
 | ((with_reducible first | apply go_elN h | apply go_f1 h | apply go_rf1 h | apply go_rel h); (case hi => omega); (try case hx => exact inferInstance); (try case hv => rfl))
 | ((with_reducible apply go_fa h); omega; omega)
))
    exact hK _ (h.got)
theorem omarked_spec (h : Sat w0 (OutA v o :: L) w) (hK : K (.int .i64 o.mark) w) : callP G17 [v] w K := by
  obtain ⟨p, m, M, rfl, H, ok, h⟩ := outA_open h
  refine c17 ?_
  unfold F17
  (repeat (first
 | (simp (disch := omega) only [evA, evB, evC, bAdd_i64, bSub_i64])
 | (with_reducible apply go_ld1 h)
 | ((with_reducible first | apply go_ldA h | apply go_rd h | apply go_rdN h | apply go_rlen h); rfl)
 | (with_reducible first | apply go_ldN h | apply go_lenL h)
 | ((with_reducible apply go_st h); intro _ h)
 | ((with_reducible apply go_stA h); rfl; rfl; (first | rfl | simp [OneV.o]); intro _ h)
 | ((with_reducible apply go_stN h); rfl; (first | rfl | simp [OneV.o]); intro _ h)
 | ((with_reducible apply go_box h); rfl; intro _ _ h)
 | ((with_reducible apply go_ix h); omega)
 | ((with_reducible first | apply go_elN h | apply go_f1 h | apply go_rf1 h | apply go_rel h); (case hi => omega); (try case hx => exact inferInstance); (try case hv => rfl))
 | ((with_reducible apply go_fa h); omega; omega)
))
  exact hK
theorem tickets_loop {a b : Value} {l : List Tk} [ra : RdIn w0 L a Tk cTk 13 l] [rb : RdIn w0 L b Tk cTk 13 l] (hl : l.length ≤ 1073741824) (hK : ∀ w', Sat w0 L w' → K (.bool true) w') :
    ∀ (d i : Nat) (w : World), l.length - i < d → i ≤ l.length → Sat w0 L w → F16_2L d a b (.int .i64 i) w K := by
  intro d
  induction d with
  | zero => intro i w hd; omega
  | succ d ih =>
    intro i w hd hi h
    rw [F16_2L]
    unfold F16_2b
    by_cases g : i < l.length
    · have g' : decide ((i : Int) < (l.length : Int)) = true := by simpa using g
      refine go_some (ra.rd w h).len ?_
      (repeat (first
 | (simp (disch := omega) only [evA, evB, evC, bAdd_i64, bSub_i64, g'])
 | (with_reducible apply go_ld1 h)
 | ((with_reducible first | apply go_ldA h | apply go_rd h | apply go_rdN h | apply go_rlen h); rfl)
 | (with_reducible first | apply go_ldN h | apply go_lenL h)
 | ((with_reducible apply go_st h); intro _ h)
 | ((with_reducible apply go_stA h); rfl; rfl; (first | rfl | simp [OneV.o]); intro _ h)
 | ((with_reducible apply go_stN h); rfl; (first | rfl | simp [OneV.o]); intro _ h)
 | ((with_reducible apply go_box h); rfl; intro _ _ h)
 | ((with_reducible apply go_ix h); omega)
 | ((with_reducible first | apply go_elN h | apply go_f1 h | apply go_rf1 h | apply go_rel h); (case hi => omega); (try case hx => exact inferInstance); (try case hv => rfl))
 | ((with_reducible apply go_fa h); omega; omega)
))
      refine go_some (ix_el (ra.rd w h) g) ?_
      refine go_some (rd_ld CTk (ra.rd w h) g) ?_
      refine go_some (ix_el (rb.rd w h) g) ?_
      refine go_some (rd_ld CTk (rb.rd w h) g) ?_
      (repeat (first
 | (simp (disch := omega) only [evA, evB, evC, bAdd_i64, bSub_i64, neTk'])
 | (with_reducible apply go_ld1 h)
 | ((with_reducible first | apply go_ldA h | apply go_rd h | apply go_rdN h | apply go_rlen h); rfl)
 | (with_reducible first | apply go_ldN h | apply go_lenL h)
 | ((with_reducible apply go_st h); intro _ h)
 | ((with_reducible apply go_stA h); rfl; rfl; (first | rfl | simp [OneV.o]); intro _ h)
 | ((with_reducible apply go_stN h); rfl; (first | rfl | simp [OneV.o]); intro _ h)
 | ((with_reducible apply go_box h); rfl; intro _ _ h)
 | ((with_reducible apply go_ix h); omega)
 | ((with_reducible first | apply go_elN h | apply go_f1 h | apply go_rf1 h | apply go_rel h); (case hi => omega); (try case hx => exact inferInstance); (try case hv => rfl))
 | ((with_reducible apply go_fa h); omega; omega)
))
      exact ih (i + 1) _ (by omega) (by omega) h.drew
    · have g' : decide ((i : Int) < (l.length : Int)) = false := by simpa using g
      refine go_some (ra.rd w h).len ?_
      (repeat (first
 | (simp (disch := omega) only [evA, evB, evC, bAdd_i64, bSub_i64, g'])
 | (with_reducible apply go_ld1 h)
 | ((with_reducible first | apply go_ldA h | apply go_rd h | apply go_rdN h | apply go_rlen h); rfl)
 | (with_reducible first | apply go_ldN h | apply go_lenL h)
 | ((with_reducible apply go_st h); intro _ h)
 | ((with_reducible apply go_stA h); rfl; rfl; (first | rfl | simp [OneV.o]); intro _ h)
 | ((with_reducible apply go_stN h); rfl; (first | rfl | simp [OneV.o]); intro _ h)
 | ((with_reducible apply go_box h); rfl; intro _ _ h)
 | ((with_reducible apply go_ix h); omega)
 | ((with_reducible first | apply go_elN h | apply go_f1 h | apply go_rf1 h | apply go_rel h); (case hi => omega); (try case hx => exact inferInstance); (try case hv => rfl))
 | ((with_reducible apply go_fa h); omega; omega)
))
      unfold F16_3 F16_3b
      exact hK _ h
theorem tickets_same {a b : Value} {l : List Tk} [ra : RdIn w0 L a Tk cTk 13 l] [rb : RdIn w0 L b Tk cTk 13 l] (hl : l.length ≤ 1073741824) (h : Sat w0 L w) (hK : ∀ w', Sat w0 L w' → K (.bool true) w') : callP G16 [a, b] w K := by
  refine c16 ?_
  unfold F16 F16_1 F16_1b
  refine go_some (ra.rd w h).len ?_
  refine go_some (rb.rd w h).len ?_
  (repeat (first
 | (simp (disch := omega) only [evA, evB, evC, bAdd_i64, bSub_i64])
 | (with_reducible apply go_ld1 h)
 | ((with_reducible first | apply go_ldA h | apply go_rd h | apply go_rdN h | apply go_rlen h); rfl)
 | (with_reducible first | apply go_ldN h | apply go_lenL h)
 | ((with_reducible apply go_st h); intro _ h)
 | ((with_reducible apply go_stA h); rfl; rfl; (first | rfl | simp [OneV.o]); intro _ h)
 | ((with_reducible apply go_stN h); rfl; (first | rfl | simp [OneV.o]); intro _ h)
 | ((with_reducible apply go_box h); rfl; intro _ _ h)
 | ((with_reducible apply go_ix h); omega)
 | ((with_reducible first | apply go_elN h | apply go_f1 h | apply go_rf1 h | apply go_rel h); (case hi => omega); (try case hx => exact inferInstance); (try case hv => rfl))
 | ((with_reducible apply go_fa h); omega; omega)
))
  unfold F16_2
  exact tickets_loop hl hK fuel 0 w (by unfold fuel; omega) (by omega) h
theorem oput1_spec {q : Nat} {m : Value} (h : Sat w0 (OCl q o m :: MapH kO ltV m M :: L) w) (hK : ∀ w', Sat w0 (OCl q o m :: MapH kO ltV m (aSet t.seq (t, o.base, 0) M) :: L) w' → K (.tuple #[]) w') : callP G23 [ptr q, tkV t] w K := by
  refine c23 ?_
  unfold F23
  have := map_one (h.frt (A := MapH kO ltV m M))
  (repeat (first
 | (simp (disch := omega) only [evA, evB, evC, bAdd_i64, bSub_i64])
 | (with_reducible apply go_ld1 h)
 | ((with_reducible first | apply go_ldA h | apply go_rd h | apply go_rdN h | apply go_rlen h); rfl)
 | (with_reducible first | apply go_ldN h | apply go_lenL h)
 | ((with_reducible apply go_st h); intro _ h)
 | ((with_reducible apply go_stA h); rfl; rfl; (first | rfl | simp [OneV.o]); intro _ h)
 | ((with_reducible apply go_stN h); rfl; (first | rfl | simp [OneV.o]); intro _ h)
 | ((with_reducible apply go_box h); rfl; intro _ _ h)
 | ((with_reducible apply go_ix h); omega)
 | ((with_reducible first | apply go_elN h | apply go_f1 h | apply go_rf1 h | apply go_rel h); (case hi => omega); (try case hx => exact inferInstance); (try case hv => rfl))
 | ((with_reducible apply go_fa h); omega; omega)
))
  refine go_some (fbLt t o.base) ?_
  refine eMapSet_sat (h.drew.frt (A := MapH kO ltV m M)) KIO um55 t.seq ((t, o.base, 0) : Tk × Int × Int) fun w h => ?_
  exact hK _ (h.got)
theorem oload_loop {p q : Nat} {sv m : Value} {l : List Tk} [rs : RdIn w0 L sv Tk cTk 13 l] (W : Whats w0) (hf : ∀ t ∈ l, TFit t) (hll : l.length ≤ 1073741824)
    (hK0 : loadT last l [] = none → ∀ w', Sat w0 L w' → K (.int .i64 4) w')
    (hK1 : ∀ ds, loadT last l [] = some ds → ∀ M w', KInv ltI lKey (lVal o.base o.top) M (ds.map freshL) → Sat w0 (OCl q o m :: MapH kO ltV m M :: L) w' → F12_3 (ptr p) sv (ptr q) w' K) :
    ∀ (d i : Nat) (ts : List Tk) (M : LMap) (w : World), l.length - i < d → i ≤ l.length → loadT last l [] = loadT last (l.drop i) ts → KInv ltI lKey (lVal o.base o.top) M (ts.map freshL) →
      Sat w0 (OCl q o m :: MapH kO ltV m M :: L) w → F12_2L d (ptr p) sv (.int .i64 last) (ptr q) sv (.int .i64 (l.length : Nat)) (.int .i64 i) w K := by
  intro d
  induction d with
  | zero => intro i _ _ _ hd; omega
  | succ d ih =>
    intro i ts M w hd hi he H h
    rw [F12_2L]
    unfold F12_2b
    have hm1 := map_one (h.frt (A := MapH kO ltV m M))
    by_cases g : i < l.length
    · have g' : decide ((i : Int) < (l.length : Int)) = true := by simpa using g
      rw [List.drop_eq_getElem_cons g] at he
      have hft := hf _ (List.getElem_mem g)
      (repeat (first
 | (simp (disch := omega) only [evA, evB, evC, bAdd_i64, bSub_i64, g'])
 | (with_reducible apply go_ld1 h)
 | ((with_reducible first | apply go_ldA h | apply go_rd h | apply go_rdN h | apply go_rlen h); rfl)
 | (with_reducible first | apply go_ldN h | apply go_lenL h)
 | ((with_reducible apply go_st h); intro _ h)
 | ((with_reducible apply go_stA h); rfl; rfl; (first | rfl | simp [OneV.o]); intro _ h)
 | ((with_reducible apply go_stN h); rfl; (first | rfl | simp [OneV.o]); intro _ h)
 | ((with_reducible apply go_box h); rfl; intro _ _ h)
 | ((with_reducible apply go_ix h); omega)
 | ((with_reducible first | apply go_elN h | apply go_f1 h | apply go_rf1 h | apply go_rel h); (case hi => omega); (try case hx => exact inferInstance); (try case hv => rfl))
 | ((with_reducible apply go_fa h); omega; omega)
))
      refine go_some (ix_el (rs.rd w h.drop.drop) g) ?_
      refine go_some (rd_ld CTk (rs.rd w h.drop.drop) g) ?_
      obtain ⟨t, ht⟩ : ∃ t, l[i] = t := ⟨_, rfl⟩
      rw [ht] at he hft ⊢
      have hbad : loadStepO last ts t = none → loadT last l [] = none := fun h => by rw [he]; simp [loadT, h]
      refine go_alloc h zTk1 rfl fun qa _ h => ?_
      (repeat (first
 | (simp (disch := omega) only [evA, evB, evC, bAdd_i64, bSub_i64])
 | (with_reducible apply go_ld1 h)
 | ((with_reducible first | apply go_ldA h | apply go_rd h | apply go_rdN h | apply go_rlen h); rfl)
 | (with_reducible first | apply go_ldN h | apply go_lenL h)
 | ((with_reducible apply go_st h); intro _ h)
 | ((with_reducible apply go_stA h); rfl; rfl; (first | rfl | simp [OneV.o]); intro _ h)
 | ((with_reducible apply go_stN h); rfl; (first | rfl | simp [OneV.o]); intro _ h)
 | ((with_reducible apply go_box h); rfl; intro _ _ h)
 | ((with_reducible apply go_ix h); omega)
 | ((with_reducible first | apply go_elN h | apply go_f1 h | apply go_rf1 h | apply go_rel h); (case hi => omega); (try case hx => exact inferInstance); (try case hv => rfl))
 | ((with_reducible apply go_fa h); omega; omega)
))
      refine go_look2 h (by repeat (first | exact .here | apply Fnt.there)) KIO um55 zLt t.seq ?_
      rw [elimLt]
      (repeat (first
 | (simp (disch := omega) only [evA, evB, evC, bAdd_i64, bSub_i64])
 | (with_reducible apply go_ld1 h)
 | ((with_reducible first | apply go_ldA h | apply go_rd h | apply go_rdN h | apply go_rlen h); rfl)
 | (with_reducible first | apply go_ldN h | apply go_lenL h)
 | ((with_reducible apply go_st h); intro _ h)
 | ((with_reducible apply go_stA h); rfl; rfl; (first | rfl | simp [OneV.o]); intro _ h)
 | ((with_reducible apply go_stN h); rfl; (first | rfl | simp [OneV.o]); intro _ h)
 | ((with_reducible apply go_box h); rfl; intro _ _ h)
 | ((with_reducible apply go_ix h); omega)
 | ((with_reducible first | apply go_elN h | apply go_f1 h | apply go_rf1 h | apply go_rel h); (case hi => omega); (try case hx => exact inferInstance); (try case hv => rfl))
 | ((with_reducible apply go_fa h); omega; omega)
))
      refine go_alloc h zLt rfl fun qb _ h => ?_
      (repeat (first
 | (simp (disch := omega) only [evA, evB, evC, bAdd_i64, bSub_i64])
 | (with_reducible apply go_ld1 h)
 | ((with_reducible first | apply go_ldA h | apply go_rd h | apply go_rdN h | apply go_rlen h); rfl)
 | (with_reducible first | apply go_ldN h | apply go_lenL h)
 | ((with_reducible apply go_st h); intro _ h)
 | ((with_reducible apply go_stA h); rfl; rfl; (first | rfl | simp [OneV.o]); intro _ h)
 | ((with_reducible apply go_stN h); rfl; (first | rfl | simp [OneV.o]); intro _ h)
 | ((with_reducible apply go_box h); rfl; intro _ _ h)
 | ((with_reducible apply go_ix h); omega)
 | ((with_reducible first | apply go_elN h | apply go_f1 h | apply go_rf1 h | apply go_rel h); (case hi => omega); (try case hx => exact inferInstance); (try case hv => rfl))
 | ((with_reducible apply go_fa h); omega; omega)
))
      refine go_fok ((look2 (h.frt) KIO um55 zLt t.seq).trans (by rw [elimLt])) ?_
      (repeat (first
 | (simp (disch := omega) only [evA, evB, evC, bAdd_i64, bSub_i64])
 | (with_reducible apply go_ld1 h)
 | ((with_reducible first | apply go_ldA h | apply go_rd h | apply go_rdN h | apply go_rlen h); rfl)
 | (with_reducible first | apply go_ldN h | apply go_lenL h)
 | ((with_reducible apply go_st h); intro _ h)
 | ((with_reducible apply go_stA h); rfl; rfl; (first | rfl | simp [OneV.o]); intro _ h)
 | ((with_reducible apply go_stN h); rfl; (first | rfl | simp [OneV.o]); intro _ h)
 | ((with_reducible apply go_box h); rfl; intro _ _ h)
 | ((with_reducible apply go_ix h); omega)
 | ((with_reducible first | apply go_elN h | apply go_f1 h | apply go_rf1 h | apply go_rel h); (case hi => omega); (try case hx => exact inferInstance); (try case hv => rfl))
 | ((with_reducible apply go_fa h); omega; omega)
))
      have hget : aGet t.seq M = (kGet lKey t.seq (ts.map freshL)).map (lVal o.base o.top) := H.get STO.int _
      refine tcheck_spec (t := t) W hft h fun w h => ?_
      unfold chkT
      cases g1 : okTk t
      · (repeat (first
 | (simp (disch := omega) only [evA, evB, evC, bAdd_i64, bSub_i64, Bool.false_eq_true, if_false, Int.reduceEq])
 | (with_reducible apply go_ld1 h)
 | ((with_reducible first | apply go_ldA h | apply go_rd h | apply go_rdN h | apply go_rlen h); rfl)
 | (with_reducible first | apply go_ldN h | apply go_lenL h)
 | ((with_reducible apply go_st h); intro _ h)
 | ((with_reducible apply go_stA h); rfl; rfl; (first | rfl | simp [OneV.o]); intro _ h)
 | ((with_reducible apply go_stN h); rfl; (first | rfl | simp [OneV.o]); intro _ h)
 | ((with_reducible apply go_box h); rfl; intro _ _ h)
 | ((with_reducible apply go_ix h); omega)
 | ((with_reducible first | apply go_elN h | apply go_f1 h | apply go_rf1 h | apply go_rel h); (case hi => omega); (try case hx => exact inferInstance); (try case hv => rfl))
 | ((with_reducible apply go_fa h); omega; omega)
))
        exact hK0 (hbad (by unfold loadStepO; rw [if_neg]; simp [g1])) _ (h.got)
      by_cases g3 : t.seq > last
      · have g3' : decide (t.seq > last) = true := by simpa using g3
        (repeat (first
 | (simp (disch := omega) only [evA, evB, evC, bAdd_i64, bSub_i64, if_true, g3', Int.reduceEq])
 | (with_reducible apply go_ld1 h)
 | ((with_reducible first | apply go_ldA h | apply go_rd h | apply go_rdN h | apply go_rlen h); rfl)
 | (with_reducible first | apply go_ldN h | apply go_lenL h)
 | ((with_reducible apply go_st h); intro _ h)
 | ((with_reducible apply go_stA h); rfl; rfl; (first | rfl | simp [OneV.o]); intro _ h)
 | ((with_reducible apply go_stN h); rfl; (first | rfl | simp [OneV.o]); intro _ h)
 | ((with_reducible apply go_box h); rfl; intro _ _ h)
 | ((with_reducible apply go_ix h); omega)
 | ((with_reducible first | apply go_elN h | apply go_f1 h | apply go_rf1 h | apply go_rel h); (case hi => omega); (try case hx => exact inferInstance); (try case hv => rfl))
 | ((with_reducible apply go_fa h); omega; omega)
))
        exact hK0 (hbad (by unfold loadStepO; rw [if_neg]; omega)) _ (h.got)
      have g3' : decide (t.seq > last) = false := by simpa using g3
      cases g4 : (aGet t.seq M).isSome
      case true =>
        (repeat (first
 | (simp (disch := omega) only [evA, evB, evC, bAdd_i64, bSub_i64, if_true, g3', Int.reduceEq])
 | (with_reducible apply go_ld1 h)
 | ((with_reducible first | apply go_ldA h | apply go_rd h | apply go_rdN h | apply go_rlen h); rfl)
 | (with_reducible first | apply go_ldN h | apply go_lenL h)
 | ((with_reducible apply go_st h); intro _ h)
 | ((with_reducible apply go_stA h); rfl; rfl; (first | rfl | simp [OneV.o]); intro _ h)
 | ((with_reducible apply go_stN h); rfl; (first | rfl | simp [OneV.o]); intro _ h)
 | ((with_reducible apply go_box h); rfl; intro _ _ h)
 | ((with_reducible apply go_ix h); omega)
 | ((with_reducible first | apply go_elN h | apply go_f1 h | apply go_rf1 h | apply go_rel h); (case hi => omega); (try case hx => exact inferInstance); (try case hv => rfl))
 | ((with_reducible apply go_fa h); omega; omega)
))
        refine hK0 (hbad ?_) _ (h.got)
        unfold loadStepO
        rw [if_neg]
        intro hh
        rw [hget, kGet_none.2 (by intro x hx; obtain ⟨y, hy, rfl⟩ := List.mem_map.1 hx; exact hh.2.2 y hy)] at g4
        cases g4
      have hn : ∀ d ∈ ts, d.seq ≠ t.seq := fun d hd e => by
        rw [hget] at g4
        cases hk : kGet lKey t.seq (ts.map freshL) with
        | none => exact kGet_none.1 hk (freshL d) (List.mem_map.2 ⟨d, hd, rfl⟩) e
        | some x => rw [hk] at g4; cases g4
      have hstep : loadStepO last ts t = some (kIns ltI tKey t ts) := by
        unfold loadStepO
        rw [if_pos ⟨g1, by omega, hn⟩]
      (repeat (first
 | (simp (disch := omega) only [evA, evB, evC, bAdd_i64, bSub_i64, if_true, g3', Int.reduceEq])
 | (with_reducible apply go_ld1 h)
 | ((with_reducible first | apply go_ldA h | apply go_rd h | apply go_rdN h | apply go_rlen h); rfl)
 | (with_reducible first | apply go_ldN h | apply go_lenL h)
 | ((with_reducible apply go_st h); intro _ h)
 | ((with_reducible apply go_stA h); rfl; rfl; (first | rfl | simp [OneV.o]); intro _ h)
 | ((with_reducible apply go_stN h); rfl; (first | rfl | simp [OneV.o]); intro _ h)
 | ((with_reducible apply go_box h); rfl; intro _ _ h)
 | ((with_reducible apply go_ix h); omega)
 | ((with_reducible first | apply go_elN h | apply go_f1 h | apply go_rf1 h | apply go_rel h); (case hi => omega); (try case hx => exact inferInstance); (try case hv => rfl))
 | ((with_reducible apply go_fa h); omega; omega)
))
      refine oput1_spec (t := t) (o := o) (q := q) (m := m) (M := M) (h.got) fun w h => ?_
      (repeat (first
 | (simp (disch := omega) only [evA, evB, evC, bAdd_i64, bSub_i64])
 | (with_reducible apply go_ld1 h)
 | ((with_reducible first | apply go_ldA h | apply go_rd h | apply go_rdN h | apply go_rlen h); rfl)
 | (with_reducible first | apply go_ldN h | apply go_lenL h)
 | ((with_reducible apply go_st h); intro _ h)
 | ((with_reducible apply go_stA h); rfl; rfl; (first | rfl | simp [OneV.o]); intro _ h)
 | ((with_reducible apply go_stN h); rfl; (first | rfl | simp [OneV.o]); intro _ h)
 | ((with_reducible apply go_box h); rfl; intro _ _ h)
 | ((with_reducible apply go_ix h); omega)
 | ((with_reducible first | apply go_elN h | apply go_f1 h | apply go_rf1 h | apply go_rel h); (case hi => omega); (try case hx => exact inferInstance); (try case hv => rfl))
 | ((with_reducible apply go_fa h); omega; omega)
))
      exact ih (i + 1) (kIns ltI tKey t ts) _ w (by omega) (by omega) (by rw [he]; simp [loadT, hstep]) (freshL_put (fun _ => rfl) H hn) h
    · have g' : decide ((i : Int) < (l.length : Int)) = false := by simpa using g
      (repeat (first
 | (simp (disch := omega) only [evA, evB, evC, bAdd_i64, bSub_i64, g'])
 | (with_reducible apply go_ld1 h)
 | ((with_reducible first | apply go_ldA h | apply go_rd h | apply go_rdN h | apply go_rlen h); rfl)
 | (with_reducible first | apply go_ldN h | apply go_lenL h)
 | ((with_reducible apply go_st h); intro _ h)
 | ((with_reducible apply go_stA h); rfl; rfl; (first | rfl | simp [OneV.o]); intro _ h)
 | ((with_reducible apply go_stN h); rfl; (first | rfl | simp [OneV.o]); intro _ h)
 | ((with_reducible apply go_box h); rfl; intro _ _ h)
 | ((with_reducible apply go_ix h); omega)
 | ((with_reducible first | apply go_elN h | apply go_f1 h | apply go_rf1 h | apply go_rel h); (case hi => omega); (try case hx => exact inferInstance); (try case hv => rfl))
 | ((with_reducible apply go_fa h); omega; omega)
))
      refine hK1 ts ?_ M w H h
      rw [he, List.drop_eq_nil_of_le (by omega)]; rfl
theorem oload_spec {sv : Value} {l : List Tk} [rs : RdIn w0 L sv Tk cTk 13 l] (W : Whats w0) (hf : ∀ t ∈ l, TFit t) (hll : l.length ≤ 1073741824) (h : Sat w0 (OutA v o :: L) w)
    (hK : ∀ w', Sat w0 (OutA v (loadO l last refused o).2 :: L) w' → K (.int .i64 (loadO l last refused o).1) w') : callP G12 [v, sv, .int .i64 last, .int .i64 refused] w K := by
  have okl := loadO_ok (outA_ok h) (l := l) (last := last) (refused := refused)
  unfold loadO at hK okl
  refine c12 ?_
  unfold F12 F12_1 F12_1b
  by_cases g1 : last < 0
  · have g1' : decide (last < 0) = true := by simpa using g1
    rw [if_pos (.inl g1)] at hK
    (repeat (first
 | (simp (disch := omega) only [evA, evB, evC, bAdd_i64, bSub_i64, g1'])
 | (with_reducible apply go_ld1 h)
 | ((with_reducible first | apply go_ldA h | apply go_rd h | apply go_rdN h | apply go_rlen h); rfl)
 | (with_reducible first | apply go_ldN h | apply go_lenL h)
 | ((with_reducible apply go_st h); intro _ h)
 | ((with_reducible apply go_stA h); rfl; rfl; (first | rfl | simp [OneV.o]); intro _ h)
 | ((with_reducible apply go_stN h); rfl; (first | rfl | simp [OneV.o]); intro _ h)
 | ((with_reducible apply go_box h); rfl; intro _ _ h)
 | ((with_reducible apply go_ix h); omega)
 | ((with_reducible first | apply go_elN h | apply go_f1 h | apply go_rf1 h | apply go_rel h); (case hi => omega); (try case hx => exact inferInstance); (try case hv => rfl))
 | ((with_reducible apply go_fa h); omega; omega)
))
    exact hK _ h
  have g1' : decide (last < 0) = false := by simpa using g1
  by_cases g2 : last > 1152921504606846976
  · have g2' : decide (last > 1152921504606846976) = true := by simpa using g2
    rw [if_pos (.inr (.inl g2))] at hK
    (repeat (first
 | (simp (disch := omega) only [evA, evB, evC, bAdd_i64, bSub_i64, g1', g2'])
 | (with_reducible apply go_ld1 h)
 | ((with_reducible first | apply go_ldA h | apply go_rd h | apply go_rdN h | apply go_rlen h); rfl)
 | (with_reducible first | apply go_ldN h | apply go_lenL h)
 | ((with_reducible apply go_st h); intro _ h)
 | ((with_reducible apply go_stA h); rfl; rfl; (first | rfl | simp [OneV.o]); intro _ h)
 | ((with_reducible apply go_stN h); rfl; (first | rfl | simp [OneV.o]); intro _ h)
 | ((with_reducible apply go_box h); rfl; intro _ _ h)
 | ((with_reducible apply go_ix h); omega)
 | ((with_reducible first | apply go_elN h | apply go_f1 h | apply go_rf1 h | apply go_rel h); (case hi => omega); (try case hx => exact inferInstance); (try case hv => rfl))
 | ((with_reducible apply go_fa h); omega; omega)
))
    exact hK _ h
  have g2' : decide (last > 1152921504606846976) = false := by simpa using g2
  by_cases g3 : refused < 0
  · have g3' : decide (refused < 0) = true := by simpa using g3
    rw [if_pos (.inr (.inr (.inl g3)))] at hK
    (repeat (first
 | (simp (disch := omega) only [evA, evB, evC, bAdd_i64, bSub_i64, g1', g2', g3'])
 | (with_reducible apply go_ld1 h)
 | ((with_reducible first | apply go_ldA h | apply go_rd h | apply go_rdN h | apply go_rlen h); rfl)
 | (with_reducible first | apply go_ldN h | apply go_lenL h)
 | ((with_reducible apply go_st h); intro _ h)
 | ((with_reducible apply go_stA h); rfl; rfl; (first | rfl | simp [OneV.o]); intro _ h)
 | ((with_reducible apply go_stN h); rfl; (first | rfl | simp [OneV.o]); intro _ h)
 | ((with_reducible apply go_box h); rfl; intro _ _ h)
 | ((with_reducible apply go_ix h); omega)
 | ((with_reducible first | apply go_elN h | apply go_f1 h | apply go_rf1 h | apply go_rel h); (case hi => omega); (try case hx => exact inferInstance); (try case hv => rfl))
 | ((with_reducible apply go_fa h); omega; omega)
))
    exact hK _ h
  have g3' : decide (refused < 0) = false := by simpa using g3
  by_cases g4 : refused > 1152921504606846976
  · have g4' : decide (refused > 1152921504606846976) = true := by simpa using g4
    rw [if_pos (.inr (.inr (.inr g4)))] at hK
    (repeat (first
 | (simp (disch := omega) only [evA, evB, evC, bAdd_i64, bSub_i64, g1', g2', g3', g4'])
 | (with_reducible apply go_ld1 h)
 | ((with_reducible first | apply go_ldA h | apply go_rd h | apply go_rdN h | apply go_rlen h); rfl)
 | (with_reducible first | apply go_ldN h | apply go_lenL h)
 | ((with_reducible apply go_st h); intro _ h)
 | ((with_reducible apply go_stA h); rfl; rfl; (first | rfl | simp [OneV.o]); intro _ h)
 | ((with_reducible apply go_stN h); rfl; (first | rfl | simp [OneV.o]); intro _ h)
 | ((with_reducible apply go_box h); rfl; intro _ _ h)
 | ((with_reducible apply go_ix h); omega)
 | ((with_reducible first | apply go_elN h | apply go_f1 h | apply go_rf1 h | apply go_rel h); (case hi => omega); (try case hx => exact inferInstance); (try case hv => rfl))
 | ((with_reducible apply go_fa h); omega; omega)
))
    exact hK _ h
  have g4' : decide (refused > 1152921504606846976) = false := by simpa using g4
  rw [if_neg (by omega)] at hK okl
  have ok0 := outA_ok h
  obtain ⟨p, m, M0, rfl, H, ok, h2⟩ := outA_open h
  clear h
  have h := h2
  clear h2
  (repeat (first
 | (simp (disch := omega) only [evA, evB, evC, bAdd_i64, bSub_i64, g1', g2', g3', g4'])
 | (with_reducible apply go_ld1 h)
 | ((with_reducible first | apply go_ldA h | apply go_rd h | apply go_rdN h | apply go_rlen h); rfl)
 | (with_reducible first | apply go_ldN h | apply go_lenL h)
 | ((with_reducible apply go_st h); intro _ h)
 | ((with_reducible apply go_stA h); rfl; rfl; (first | rfl | simp [OneV.o]); intro _ h)
 | ((with_reducible apply go_stN h); rfl; (first | rfl | simp [OneV.o]); intro _ h)
 | ((with_reducible apply go_box h); rfl; intro _ _ h)
 | ((with_reducible apply go_ix h); omega)
 | ((with_reducible first | apply go_elN h | apply go_f1 h | apply go_rf1 h | apply go_rel h); (case hi => omega); (try case hx => exact inferInstance); (try case hv => rfl))
 | ((with_reducible apply go_fa h); omega; omega)
))
  refine eMakeMap_sat kO ltV h.drew fun mv w h => ?_
  obtain ⟨r1, _, _, ⟨rfl, _⟩, _⟩ := map_iff.1 h
  have eb : fBuild Tryd.prog 57 [(0, .int .i64 o.most), (1, .int .i64 o.base), (2, .int .i64 o.top), (3, .int .i64 last), (4, .int .i64 refused), (5, .int .i64 last), (6, .map (some r1))] = some (.agg #[.int .i64 o.most, .int .i64 o.base, .int .i64 o.top, .int .i64 last, .int .i64 refused, .int .i64 last, .map (some r1)]) := by kernel_rfl
  (repeat (first
 | (simp (disch := omega) only [evA, evB, evC, bAdd_i64, bSub_i64])
 | (with_reducible apply go_ld1 h)
 | ((with_reducible first | apply go_ldA h | apply go_rd h | apply go_rdN h | apply go_rlen h); rfl)
 | (with_reducible first | apply go_ldN h | apply go_lenL h)
 | ((with_reducible apply go_st h); intro _ h)
 | ((with_reducible apply go_stA h); rfl; rfl; (first | rfl | simp [OneV.o]); intro _ h)
 | ((with_reducible apply go_stN h); rfl; (first | rfl | simp [OneV.o]); intro _ h)
 | ((with_reducible apply go_box h); rfl; intro _ _ h)
 | ((with_reducible apply go_ix h); omega)
 | ((with_reducible first | apply go_elN h | apply go_f1 h | apply go_rf1 h | apply go_rel h); (case hi => omega); (try case hx => exact inferInstance); (try case hv => rfl))
 | ((with_reducible apply go_fa h); omega; omega)
))
  refine go_some eb ?_
  refine eBox_sat h fun q w h => ?_
  simp only [cells_agg] at h
  refine go_some (rs.rd w (h.got)).len ?_
  unfold F12_2
  have ha : Sat w0 (OutA (ptr p) o :: OCl q { o with last := last, refused := refused, mark := last } (.map (some r1)) :: MapH kO ltV (.map (some r1)) [] :: L) w := outA_close (o := o) H ok0 (h.got)
  have hb : Sat w0 (OCl q { o with last := last, refused := refused, mark := last } (.map (some r1)) :: MapH kO ltV (.map (some r1)) [] :: OutA (ptr p) o :: L) w := ha.got
  refine oload_loop (o := { o with last := last, refused := refused, mark := last }) (L := OutA (ptr p) o :: L) (l := l) W hf hll (fun hn w h => ?_) (fun ds hd M w HM h => ?_) fuel 0 [] [] _ (by unfold fuel; omega) (by omega) rfl .nil hb
  · rw [hn] at hK
    exact hK _ h
  · rw [hd] at hK okl
    unfold F12_3 F12_3b
    obtain ⟨p2, m2, M2, e2, H2, ok2, h2⟩ := outA_open (h.frt (A := OutA (ptr p) o))
    cases e2
    clear h
    have h := h2
    clear h2
    refine go_some (rs.rd w (h.got)).len ?_
    simp only [] at hK okl
    by_cases g5 : o.most < (l.length : Int)
    · have g5' : decide ((l.length : Int) > o.most) = true := by simpa using g5
      rw [if_pos g5] at hK
      (repeat (first
 | (simp (disch := omega) only [evA, evB, evC, bAdd_i64, bSub_i64, g5'])
 | (with_reducible apply go_ld1 h)
 | ((with_reducible first | apply go_ldA h | apply go_rd h | apply go_rdN h | apply go_rlen h); rfl)
 | (with_reducible first | apply go_ldN h | apply go_lenL h)
 | ((with_reducible apply go_st h); intro _ h)
 | ((with_reducible apply go_stA h); rfl; rfl; (first | rfl | simp [OneV.o]); intro _ h)
 | ((with_reducible apply go_stN h); rfl; (first | rfl | simp [OneV.o]); intro _ h)
 | ((with_reducible apply go_box h); rfl; intro _ _ h)
 | ((with_reducible apply go_ix h); omega)
 | ((with_reducible first | apply go_elN h | apply go_f1 h | apply go_rf1 h | apply go_rel h); (case hi => omega); (try case hx => exact inferInstance); (try case hv => rfl))
 | ((with_reducible apply go_fa h); omega; omega)
))
      exact hK _ (outA_close (o := o) H2 ok2 (h.got))
    · have g5' : decide ((l.length : Int) > o.most) = false := by simp; omega
      rw [if_neg g5] at hK okl
      (repeat (first
 | (simp (disch := omega) only [evA, evB, evC, bAdd_i64, bSub_i64, g5'])
 | (with_reducible apply go_ld1 h)
 | ((with_reducible first | apply go_ldA h | apply go_rd h | apply go_rdN h | apply go_rlen h); rfl)
 | (with_reducible first | apply go_ldN h | apply go_lenL h)
 | ((with_reducible apply go_st h); intro _ h)
 | ((with_reducible apply go_stA h); rfl; rfl; (first | rfl | simp [OneV.o]); intro _ h)
 | ((with_reducible apply go_stN h); rfl; (first | rfl | simp [OneV.o]); intro _ h)
 | ((with_reducible apply go_box h); rfl; intro _ _ h)
 | ((with_reducible apply go_ix h); omega)
 | ((with_reducible first | apply go_elN h | apply go_f1 h | apply go_rf1 h | apply go_rel h); (case hi => omega); (try case hx => exact inferInstance); (try case hv => rfl))
 | ((with_reducible apply go_fa h); omega; omega)
))
      exact hK _ (outA_close (o := { o with last := last, refused := refused, mark := last, ls := ds.map freshL }) HM okl (h.got))
end
end Go.Proofs.Gong

/- Oa2 -/
namespace Go.Proofs.Gong
open Go Go.Sx Go.Proofs
set_option maxRecDepth 100000
theorem tdiv3' {n : Int} (hn : -9223372036854775808 ≤ n ∧ n ≤ 9223372036854775807) : -9223372036854775808 ≤ n.tdiv 3 ∧ n.tdiv 3 ≤ 9223372036854775807 := by
  have e := Int.mul_tdiv_add_tmod n 3
  have h1 := Int.tmod_lt_of_pos n (b := 3) (by decide)
  have h2 := Int.lt_tmod_of_pos n (b := 3) (by decide)
  omega
theorem fit_intB {W : World} {B : Nat} {c : List Value} (h : FitL2 W B [.int .i64] c) : ∃ n : Int, c = cI n ∧ -9223372036854775808 ≤ n ∧ n ≤ 9223372036854775807 := by
  obtain ⟨n, vs, rfl, b, h2⟩ := fitL2_int h
  rw [fitL2_nil h2]
  simp [Lit.wf, IntKind.min, IntKind.max, IntKind.signed, IntKind.bits] at b
  exact ⟨n, rfl, by omega⟩
attribute [local irreducible] fBuild fLook fZero eqv bEqv Cl MapH LsH SlH ld1 ldN st callP eBox eAlloc lenM lenL eMapSet eDelete eAppend eBuildSl eRange eNext
section
variable {w0 w : World} {L : List HP} {K : Value → World → Prop} {s0 : Value} {l : List Int} {p q : Nat} {o : Ob} {turn : Int}
theorem loads_end {ov : Ob} (W : Whats w0) (H : Nine 40 o) (h : Sat w0 (OutA (ptr p) o :: OutA (ptr q) (newO 9 1 1) :: L) w) (hK : ∀ w', Sat w0 L w' → K (.bool true) w') : F3_3 (.int .i64 turn) (ptr p) (ptr q) w K := by
  unfold F3_3 F3_3b
  have ok := outA_ok h
  have hlb := H.last
  have hrb := H.refused
  have hmo := H.most
  have hlen := ok.len
  obtain ⟨all, hall⟩ : ∃ all, allO o = all := ⟨_, rfl⟩
  have hal : all.length = o.ls.length := by rw [← hall]; unfold allO; simp
  have hasc : KAsc ltI tKey all := by rw [← hall]; exact allO_asc ok
  have haok : ∀ t ∈ all, okTk t = true ∧ t.seq ≤ o.last := by rw [← hall]; exact allO_ok ok (by omega)
  have hfit : ∀ t ∈ all, TFit t := by
    intro t ht
    rw [← hall] at ht
    obtain ⟨x, hx, rfl⟩ := List.mem_map.1 ht
    obtain ⟨n, hn⟩ := H.rows x hx
    unfold TFit
    rw [hn]
    exact rowO_fits n
  refine oall_spec h fun sa w h => ?_
  rw [hall] at h
  (repeat (first
 | (simp (disch := omega) only [evA, evB, evC, bAdd_i64, bSub_i64])
 | (with_reducible apply go_ld1 h)
 | ((with_reducible first | apply go_ldA h | apply go_rd h | apply go_rdN h | apply go_rlen h); rfl)
 | (with_reducible first | apply go_ldN h | apply go_lenL h)
 | ((with_reducible apply go_st h); intro _ h)
 | ((with_reducible apply go_stA h); rfl; rfl; (first | rfl | simp [OneV.o]); intro _ h)
 | ((with_reducible apply go_stN h); rfl; (first | rfl | simp [OneV.o]); intro _ h)
 | ((with_reducible apply go_box h); rfl; intro _ _ h)
 | ((with_reducible apply go_ix h); omega)
 | ((with_reducible first | apply go_elN h | apply go_f1 h | apply go_rf1 h | apply go_rel h); (case hi => omega); (try case hx => exact inferInstance); (try case hv => rfl))
 | ((with_reducible apply go_fa h); omega; omega)
))
  refine Below_spec (by omega) (by omega) fun k h1 h2 _ => ?_
  obtain ⟨k, rfl⟩ : ∃ j : Nat, k = j := ⟨k.toNat, by omega⟩
  refine go_subFrom' h (i := k) (by omega) fun v1 r1 => ?_
  refine go_subTo' h (i := k) (by omega) fun v2 r2 => ?_
  (repeat (first
 | (simp (disch := omega) only [evA, evB, evC, bAdd_i64, bSub_i64])
 | (with_reducible apply go_ld1 h)
 | ((with_reducible first | apply go_ldA h | apply go_rd h | apply go_rdN h | apply go_rlen h); rfl)
 | (with_reducible first | apply go_ldN h | apply go_lenL h)
 | ((with_reducible apply go_st h); intro _ h)
 | ((with_reducible apply go_stA h); rfl; rfl; (first | rfl | simp [OneV.o]); intro _ h)
 | ((with_reducible apply go_stN h); rfl; (first | rfl | simp [OneV.o]); intro _ h)
 | ((with_reducible apply go_box h); rfl; intro _ _ h)
 | ((with_reducible apply go_ix h); omega)
 | ((with_reducible first | apply go_elN h | apply go_f1 h | apply go_rf1 h | apply go_rel h); (case hi => omega); (try case hx => exact inferInstance); (try case hv => rfl))
 | ((with_reducible apply go_fa h); omega; omega)
))
  refine go_lit0 CTk h u37 (by kernel_rfl) fun s2 w h => ?_
  refine ls_app (l := []) (m := all.drop k) CTk h sl37 ss37 (r1 h inferInstance) (by simp; omega) fun s3 w h => ?_
  rw [List.nil_append] at h
  refine ls_app (l := all.drop k) (m := all.take k) CTk h sl37 ss37 (r2 h inferInstance) (by simp; omega) fun s4 w h => ?_
  have hp : (all.drop k ++ all.take k).Perm all := List.perm_append_comm.trans (by rw [List.take_append_drop])
  generalize all.drop k ++ all.take k = tl at hp h
  have htl := hp.length_eq
  refine olast_spec (v := ptr p) (o := o) (h.frt (A := OutA (ptr p) o)) ?_
  refine orefused_spec (v := ptr p) (o := o) (h.frt (A := OutA (ptr p) o)) ?_
  have hd := loadT_all hp haok hasc
  have hsome := loadO_some (o := newO 9 1 1) (l := tl) (ds := all) (last := o.last) (refused := o.refused) (by omega) (by omega) hd (by show (tl.length : Int) ≤ 9; omega)
  refine oload_spec (v := ptr q) (o := newO 9 1 1) (l := tl) (sv := s4) (last := o.last) (refused := o.refused) (L := LsH cTk 13 61 s4 tl :: LsH cTk 13 61 sa all :: OutA (ptr p) o :: L) W (fun t ht => hfit t (hp.mem_iff.1 ht)) (by omega) (h.got) fun w h => ?_
  rw [hsome] at h ⊢
  (repeat (first
 | (simp (disch := omega) only [evA, evB, evC, bAdd_i64, bSub_i64, Int.reduceEq])
 | (with_reducible apply go_ld1 h)
 | ((with_reducible first | apply go_ldA h | apply go_rd h | apply go_rdN h | apply go_rlen h); rfl)
 | (with_reducible first | apply go_ldN h | apply go_lenL h)
 | ((with_reducible apply go_st h); intro _ h)
 | ((with_reducible apply go_stA h); rfl; rfl; (first | rfl | simp [OneV.o]); intro _ h)
 | ((with_reducible apply go_stN h); rfl; (first | rfl | simp [OneV.o]); intro _ h)
 | ((with_reducible apply go_box h); rfl; intro _ _ h)
 | ((with_reducible apply go_ix h); omega)
 | ((with_reducible first | apply go_elN h | apply go_f1 h | apply go_rf1 h | apply go_rel h); (case hi => omega); (try case hx => exact inferInstance); (try case hv => rfl))
 | ((with_reducible apply go_fa h); omega; omega)
))
  refine odue_spec (v := ptr q) (o := loadedO (newO 9 1 1) o.last o.refused all) (now := 0) (h.frt) (fun ht => by simp [timeP] at ht) (fun _ s5 w h => ?_)
  rw [loadedO_due (fun t ht => (haok t ht).2)] at h
  have hallb := loadedO_all (o := newO 9 1 1) (last := o.last) (refused := o.refused) (ds := all) (now := 0)
  obtain ⟨o2, ho2⟩ : ∃ o2 : Ob, { loadedO (newO 9 1 1) o.last o.refused all with ls := (loadedO (newO 9 1 1) o.last o.refused all).ls.map (stepO (loadedO (newO 9 1 1) o.last o.refused all) 0) } = o2 := ⟨_, rfl⟩
  have e2 : o2.last = o.last ∧ o2.refused = o.refused ∧ o2.mark = o.last ∧ o2.most = 9 := by rw [← ho2]; exact ⟨rfl, rfl, rfl, rfl⟩
  rw [ho2] at h hallb
  have hl2 : o2.ls.length = o.ls.length := by rw [← hal, ← hallb]; unfold allO; simp
  (repeat (first
 | (simp (disch := omega) only [evA, evB, evC, bAdd_i64, bSub_i64, Int.reduceEq])
 | (with_reducible apply go_ld1 h)
 | ((with_reducible first | apply go_ldA h | apply go_rd h | apply go_rdN h | apply go_rlen h); rfl)
 | (with_reducible first | apply go_ldN h | apply go_lenL h)
 | ((with_reducible apply go_st h); intro _ h)
 | ((with_reducible apply go_stA h); rfl; rfl; (first | rfl | simp [OneV.o]); intro _ h)
 | ((with_reducible apply go_stN h); rfl; (first | rfl | simp [OneV.o]); intro _ h)
 | ((with_reducible apply go_box h); rfl; intro _ _ h)
 | ((with_reducible apply go_ix h); omega)
 | ((with_reducible first | apply go_elN h | apply go_f1 h | apply go_rf1 h | apply go_rel h); (case hi => omega); (try case hx => exact inferInstance); (try case hv => rfl))
 | ((with_reducible apply go_fa h); omega; omega)
))
  have : RdIn w0 (OutA (ptr q) o2 :: LsH cTk 13 61 s4 tl :: LsH cTk 13 61 sa all :: OutA (ptr p) o :: L) sa Tk cTk 13 all := inferInstance
  refine tickets_same (a := s5) (b := sa) (l := all) (by omega) h fun w h => ?_
  (repeat (first
 | (simp (disch := omega) only [evA, evB, evC, bAdd_i64, bSub_i64])
 | (with_reducible apply go_ld1 h)
 | ((with_reducible first | apply go_ldA h | apply go_rd h | apply go_rdN h | apply go_rlen h); rfl)
 | (with_reducible first | apply go_ldN h | apply go_lenL h)
 | ((with_reducible apply go_st h); intro _ h)
 | ((with_reducible apply go_stA h); rfl; rfl; (first | rfl | simp [OneV.o]); intro _ h)
 | ((with_reducible apply go_stN h); rfl; (first | rfl | simp [OneV.o]); intro _ h)
 | ((with_reducible apply go_box h); rfl; intro _ _ h)
 | ((with_reducible apply go_ix h); omega)
 | ((with_reducible first | apply go_elN h | apply go_f1 h | apply go_rf1 h | apply go_rel h); (case hi => omega); (try case hx => exact inferInstance); (try case hv => rfl))
 | ((with_reducible apply go_fa h); omega; omega)
))
  refine oall_spec (v := ptr q) (o := o2) (h.frt (A := OutA (ptr q) o2)) fun s6 w h => ?_
  rw [hallb] at h
  (repeat (first
 | (simp (disch := omega) only [evA, evB, evC, bAdd_i64, bSub_i64])
 | (with_reducible apply go_ld1 h)
 | ((with_reducible first | apply go_ldA h | apply go_rd h | apply go_rdN h | apply go_rlen h); rfl)
 | (with_reducible first | apply go_ldN h | apply go_lenL h)
 | ((with_reducible apply go_st h); intro _ h)
 | ((with_reducible apply go_stA h); rfl; rfl; (first | rfl | simp [OneV.o]); intro _ h)
 | ((with_reducible apply go_stN h); rfl; (first | rfl | simp [OneV.o]); intro _ h)
 | ((with_reducible apply go_box h); rfl; intro _ _ h)
 | ((with_reducible apply go_ix h); omega)
 | ((with_reducible first | apply go_elN h | apply go_f1 h | apply go_rf1 h | apply go_rel h); (case hi => omega); (try case hx => exact inferInstance); (try case hv => rfl))
 | ((with_reducible apply go_fa h); omega; omega)
))
  refine tickets_same (a := s6) (b := sa) (l := all) (by omega) h fun w h => ?_
  (repeat (first
 | (simp (disch := omega) only [evA, evB, evC, bAdd_i64, bSub_i64])
 | (with_reducible apply go_ld1 h)
 | ((with_reducible first | apply go_ldA h | apply go_rd h | apply go_rdN h | apply go_rlen h); rfl)
 | (with_reducible first | apply go_ldN h | apply go_lenL h)
 | ((with_reducible apply go_st h); intro _ h)
 | ((with_reducible apply go_stA h); rfl; rfl; (first | rfl | simp [OneV.o]); intro _ h)
 | ((with_reducible apply go_stN h); rfl; (first | rfl | simp [OneV.o]); intro _ h)
 | ((with_reducible apply go_box h); rfl; intro _ _ h)
 | ((with_reducible apply go_ix h); omega)
 | ((with_reducible first | apply go_elN h | apply go_f1 h | apply go_rf1 h | apply go_rel h); (case hi => omega); (try case hx => exact inferInstance); (try case hv => rfl))
 | ((with_reducible apply go_fa h); omega; omega)
))
  refine olast_spec (v := ptr q) (o := o2) (h.frt (A := OutA (ptr q) o2)) ?_
  refine olast_spec (v := ptr p) (o := o) (h.frt (A := OutA (ptr p) o)) ?_
  rw [e2.1]
  (repeat (first
 | (simp (disch := omega) only [evA, evB, evC, bAdd_i64, bSub_i64])
 | (with_reducible apply go_ld1 h)
 | ((with_reducible first | apply go_ldA h | apply go_rd h | apply go_rdN h | apply go_rlen h); rfl)
 | (with_reducible first | apply go_ldN h | apply go_lenL h)
 | ((with_reducible apply go_st h); intro _ h)
 | ((with_reducible apply go_stA h); rfl; rfl; (first | rfl | simp [OneV.o]); intro _ h)
 | ((with_reducible apply go_stN h); rfl; (first | rfl | simp [OneV.o]); intro _ h)
 | ((with_reducible apply go_box h); rfl; intro _ _ h)
 | ((with_reducible apply go_ix h); omega)
 | ((with_reducible first | apply go_elN h | apply go_f1 h | apply go_rf1 h | apply go_rel h); (case hi => omega); (try case hx => exact inferInstance); (try case hv => rfl))
 | ((with_reducible apply go_fa h); omega; omega)
))
  refine orefused_spec (v := ptr q) (o := o2) (h.frt (A := OutA (ptr q) o2)) ?_
  refine orefused_spec (v := ptr p) (o := o) (h.frt (A := OutA (ptr p) o)) ?_
  rw [e2.2.1]
  (repeat (first
 | (simp (disch := omega) only [evA, evB, evC, bAdd_i64, bSub_i64])
 | (with_reducible apply go_ld1 h)
 | ((with_reducible first | apply go_ldA h | apply go_rd h | apply go_rdN h | apply go_rlen h); rfl)
 | (with_reducible first | apply go_ldN h | apply go_lenL h)
 | ((with_reducible apply go_st h); intro _ h)
 | ((with_reducible apply go_stA h); rfl; rfl; (first | rfl | simp [OneV.o]); intro _ h)
 | ((with_reducible apply go_stN h); rfl; (first | rfl | simp [OneV.o]); intro _ h)
 | ((with_reducible apply go_box h); rfl; intro _ _ h)
 | ((with_reducible apply go_ix h); omega)
 | ((with_reducible first | apply go_elN h | apply go_f1 h | apply go_rf1 h | apply go_rel h); (case hi => omega); (try case hx => exact inferInstance); (try case hv => rfl))
 | ((with_reducible apply go_fa h); omega; omega)
))
  refine omarked_spec (v := ptr q) (o := o2) (h.frt (A := OutA (ptr q) o2)) ?_
  refine olast_spec (v := ptr p) (o := o) (h.frt (A := OutA (ptr p) o)) ?_
  rw [e2.2.2.1]
  (repeat (first
 | (simp (disch := omega) only [evA, evB, evC, bAdd_i64, bSub_i64])
 | (with_reducible apply go_ld1 h)
 | ((with_reducible first | apply go_ldA h | apply go_rd h | apply go_rdN h | apply go_rlen h); rfl)
 | (with_reducible first | apply go_ldN h | apply go_lenL h)
 | ((with_reducible apply go_st h); intro _ h)
 | ((with_reducible apply go_stA h); rfl; rfl; (first | rfl | simp [OneV.o]); intro _ h)
 | ((with_reducible apply go_stN h); rfl; (first | rfl | simp [OneV.o]); intro _ h)
 | ((with_reducible apply go_box h); rfl; intro _ _ h)
 | ((with_reducible apply go_ix h); omega)
 | ((with_reducible first | apply go_elN h | apply go_f1 h | apply go_rf1 h | apply go_rel h); (case hi => omega); (try case hx => exact inferInstance); (try case hv => rfl))
 | ((with_reducible apply go_fa h); omega; omega)
))
  refine orow_spec (n := 1) (by omega) h fun w h => ?_
  refine oput_spec (v := ptr p) (what := 3) (r := rowO 1) (o := o) (by omega) (by omega) (rowO_fits _).1 (rowO_fits _).2 (h.frt (A := OutA (ptr p) o)) fun w h => ?_
  (repeat (first
 | (simp (disch := omega) only [evA, evB, evC, bAdd_i64, bSub_i64])
 | (with_reducible apply go_ld1 h)
 | ((with_reducible first | apply go_ldA h | apply go_rd h | apply go_rdN h | apply go_rlen h); rfl)
 | (with_reducible first | apply go_ldN h | apply go_lenL h)
 | ((with_reducible apply go_st h); intro _ h)
 | ((with_reducible apply go_stA h); rfl; rfl; (first | rfl | simp [OneV.o]); intro _ h)
 | ((with_reducible apply go_stN h); rfl; (first | rfl | simp [OneV.o]); intro _ h)
 | ((with_reducible apply go_box h); rfl; intro _ _ h)
 | ((with_reducible apply go_ix h); omega)
 | ((with_reducible first | apply go_elN h | apply go_f1 h | apply go_rf1 h | apply go_rel h); (case hi => omega); (try case hx => exact inferInstance); (try case hv => rfl))
 | ((with_reducible apply go_fa h); omega; omega)
))
  refine orow_spec (n := 1) (by omega) h fun w h => ?_
  refine oput_spec (v := ptr q) (what := 3) (r := rowO 1) (o := o2) (by omega) (by omega) (rowO_fits _).1 (rowO_fits _).2 (h.frt (A := OutA (ptr q) o2)) fun w h => ?_
  have es := putO_same (a := o) (b := o2) (what := 3) (r := rowO 1) (by omega) hl2.symm e2.1.symm
  rw [← es]
  (repeat (first
 | (simp (disch := omega) only [evA, evB, evC, bAdd_i64, bSub_i64, decide_eq_true_eq])
 | (with_reducible apply go_ld1 h)
 | ((with_reducible first | apply go_ldA h | apply go_rd h | apply go_rdN h | apply go_rlen h); rfl)
 | (with_reducible first | apply go_ldN h | apply go_lenL h)
 | ((with_reducible apply go_st h); intro _ h)
 | ((with_reducible apply go_stA h); rfl; rfl; (first | rfl | simp [OneV.o]); intro _ h)
 | ((with_reducible apply go_stN h); rfl; (first | rfl | simp [OneV.o]); intro _ h)
 | ((with_reducible apply go_box h); rfl; intro _ _ h)
 | ((with_reducible apply go_ix h); omega)
 | ((with_reducible first | apply go_elN h | apply go_f1 h | apply go_rf1 h | apply go_rel h); (case hi => omega); (try case hx => exact inferInstance); (try case hv => rfl))
 | ((with_reducible apply go_fa h); omega; omega)
))
  exact hK _ (h.got)
theorem loads_loop [hrd : RdIn w0 L s0 Int cI 1 l] (W : Whats w0) (hx : ∀ x ∈ l, -9223372036854775808 ≤ x ∧ x ≤ 9223372036854775807) (hK : ∀ w', Sat w0 L w' → K (.bool true) w') :
    ∀ (k i : Nat) (o : Ob) (w : World), 40 - i < k → i ≤ 40 → Nine i o → Sat w0 (OutA (ptr p) o :: OutA (ptr q) (newO 9 1 1) :: L) w →
      F3_2L k s0 (.int .i64 turn) (ptr p) (ptr q) (.int .i64 (i : Nat)) w K := by
  intro k
  induction k with
  | zero => intro i o w hd; omega
  | succ k ih =>
    intro i o w hd hi S h
    rw [F3_2L]
    unfold F3_4 F3_4b
    have hlb := S.last
    have hrb := S.refused
    have S40 : Nine 40 o := ⟨S.most, by omega, by omega, S.rows⟩
    have fin : F3_3 (.int .i64 turn) (ptr p) (ptr q) w K := loads_end (ov := o) W S40 h hK
    by_cases g : i < l.length
    case neg =>
      have g' : decide ((i : Int) < (l.length : Int)) = false := by simpa using g
      (repeat (first
 | (simp (disch := omega) only [evA, evB, evC, bAdd_i64, bSub_i64, g'])
 | (with_reducible apply go_ld1 h)
 | ((with_reducible first | apply go_ldA h | apply go_rd h | apply go_rdN h); rfl)
 | (with_reducible first | apply go_ldN h | apply go_lenR h)
 | ((with_reducible apply go_st h); intro _ h)
 | ((with_reducible apply go_stA h); rfl; rfl; (first | rfl | simp [OneV.o]); intro _ h)
 | ((with_reducible apply go_stN h); rfl; (first | rfl | simp [OneV.o]); intro _ h)
 | ((with_reducible apply go_box h); rfl; intro _ _ h)
 | ((with_reducible apply go_ixR h); omega)
 | ((with_reducible first | apply go_elR h | apply go_f1R h | apply go_rf1R h | apply go_relR h | apply go_e1R h | apply go_re1R h); (case hc => exact inferInstance); (case hi => omega); (try case hx => exact inferInstance); (try case hv => rfl))
 | ((with_reducible apply go_fNR h); (case hc => exact inferInstance); (case hi => omega); (try case hp => exact inferInstance); (try case hv => rfl))
 | ((with_reducible apply go_faR h); (case hc => exact inferInstance); omega; omega)
 | ((with_reducible apply go_rlenR h); rfl)
))
      exact fin
    have g' : decide ((i : Int) < (l.length : Int)) = true := by simpa using g
    by_cases g2 : i < 40
    case neg =>
      have g2' : decide ((i : Int) < 40) = false := by simp; omega
      (repeat (first
 | (simp (disch := omega) only [evA, evB, evC, bAdd_i64, bSub_i64, g', g2'])
 | (with_reducible apply go_ld1 h)
 | ((with_reducible first | apply go_ldA h | apply go_rd h | apply go_rdN h); rfl)
 | (with_reducible first | apply go_ldN h | apply go_lenR h)
 | ((with_reducible apply go_st h); intro _ h)
 | ((with_reducible apply go_stA h); rfl; rfl; (first | rfl | simp [OneV.o]); intro _ h)
 | ((with_reducible apply go_stN h); rfl; (first | rfl | simp [OneV.o]); intro _ h)
 | ((with_reducible apply go_box h); rfl; intro _ _ h)
 | ((with_reducible apply go_ixR h); omega)
 | ((with_reducible first | apply go_elR h | apply go_f1R h | apply go_rf1R h | apply go_relR h | apply go_e1R h | apply go_re1R h); (case hc => exact inferInstance); (case hi => omega); (try case hx => exact inferInstance); (try case hv => rfl))
 | ((with_reducible apply go_fNR h); (case hc => exact inferInstance); (case hi => omega); (try case hp => exact inferInstance); (try case hv => rfl))
 | ((with_reducible apply go_faR h); (case hc => exact inferInstance); omega; omega)
 | ((with_reducible apply go_rlenR h); rfl)
))
      exact fin
    have g2' : decide ((i : Int) < 40) = true := by simp; omega
    have hxi := hx _ (List.getElem_mem g)
    (repeat (first
 | (simp (disch := omega) only [evA, evB, evC, bAdd_i64, bSub_i64, g', g2'])
 | (with_reducible apply go_ld1 h)
 | ((with_reducible first | apply go_ldA h | apply go_rd h | apply go_rdN h); rfl)
 | (with_reducible first | apply go_ldN h | apply go_lenR h)
 | ((with_reducible apply go_st h); intro _ h)
 | ((with_reducible apply go_stA h); rfl; rfl; (first | rfl | simp [OneV.o]); intro _ h)
 | ((with_reducible apply go_stN h); rfl; (first | rfl | simp [OneV.o]); intro _ h)
 | ((with_reducible apply go_box h); rfl; intro _ _ h)
 | ((with_reducible apply go_ixR h); omega)
 | ((with_reducible first | apply go_elR h | apply go_f1R h | apply go_rf1R h | apply go_relR h | apply go_e1R h | apply go_re1R h); (case hc => exact inferInstance); (case hi => omega); (try case hx => exact inferInstance); (try case hv => rfl))
 | ((with_reducible apply go_fNR h); (case hc => exact inferInstance); (case hi => omega); (try case hp => exact inferInstance); (try case hv => rfl))
 | ((with_reducible apply go_faR h); (case hc => exact inferInstance); omega; omega)
 | ((with_reducible apply go_rlenR h); rfl)
))
    refine orow_spec (n := l[i]) hxi h fun w h => ?_
    refine oput_spec (v := ptr p) (what := 1) (r := rowO l[i]) (o := o) (by omega) (by omega) (rowO_fits _).1 (rowO_fits _).2 h fun w h => ?_
    have S2 := S.put l[i]
    generalize (putO 1 (rowO l[i]) o).2 = o2 at h S2
    have e1 : bRem (.int .i64 l[i]) (.int .i64 3) = some (.int .i64 (l[i].tmod 3)) := bRem_int _ _ _ (by decide)
    cases g3 : decide (l[i].tmod 3 = 0)
    case true =>
      have hq := tdiv3' hxi
      have e2 : bQuo (.int .i64 l[i]) (.int .i64 3) = some (.int .i64 (l[i].tdiv 3)) := by rw [bQuo_int _ _ _ (by decide), wrap_id (by omega)]
      (repeat (first
 | (simp (disch := omega) only [evA, evB, evC, bAdd_i64, bSub_i64, g3])
 | (refine go_some (e1 ..) ?_)
 | (refine go_some (e2 ..) ?_)
 | (with_reducible apply go_ld1 h)
 | ((with_reducible first | apply go_ldA h | apply go_rd h | apply go_rdN h); rfl)
 | (with_reducible first | apply go_ldN h | apply go_lenR h)
 | ((with_reducible apply go_st h); intro _ h)
 | ((with_reducible apply go_stA h); rfl; rfl; (first | rfl | simp [OneV.o]); intro _ h)
 | ((with_reducible apply go_stN h); rfl; (first | rfl | simp [OneV.o]); intro _ h)
 | ((with_reducible apply go_box h); rfl; intro _ _ h)
 | ((with_reducible apply go_ixR h); omega)
 | ((with_reducible first | apply go_elR h | apply go_f1R h | apply go_rf1R h | apply go_relR h | apply go_e1R h | apply go_re1R h); (case hc => exact inferInstance); (case hi => omega); (try case hx => exact inferInstance); (try case hv => rfl))
 | ((with_reducible apply go_fNR h); (case hc => exact inferInstance); (case hi => omega); (try case hp => exact inferInstance); (try case hv => rfl))
 | ((with_reducible apply go_faR h); (case hc => exact inferInstance); omega; omega)
 | ((with_reducible apply go_rlenR h); rfl)
))
      refine Below_spec (by decide) (by decide) fun n h1 h2 _ => ?_
      refine oack_spec (v := ptr p) (o := o2) (n := n) h fun w h => ?_
      unfold F3_5 F3_5b
      (repeat (first
 | (simp (disch := omega) only [evA, evB, evC, bAdd_i64, bSub_i64])
 | (with_reducible apply go_ld1 h)
 | ((with_reducible first | apply go_ldA h | apply go_rd h | apply go_rdN h | apply go_rlen h); rfl)
 | (with_reducible first | apply go_ldN h | apply go_lenL h)
 | ((with_reducible apply go_st h); intro _ h)
 | ((with_reducible apply go_stA h); rfl; rfl; (first | rfl | simp [OneV.o]); intro _ h)
 | ((with_reducible apply go_stN h); rfl; (first | rfl | simp [OneV.o]); intro _ h)
 | ((with_reducible apply go_box h); rfl; intro _ _ h)
 | ((with_reducible apply go_ix h); omega)
 | ((with_reducible first | apply go_elN h | apply go_f1 h | apply go_rf1 h | apply go_rel h); (case hi => omega); (try case hx => exact inferInstance); (try case hv => rfl))
 | ((with_reducible apply go_fa h); omega; omega)
))
      exact ih (i + 1) _ w (by omega) (by omega) (S2.ack n) h
    case false =>
      (repeat (first
 | (simp (disch := omega) only [evA, evB, evC, bAdd_i64, bSub_i64, g3])
 | (refine go_some (e1 ..) ?_)
 | (with_reducible apply go_ld1 h)
 | ((with_reducible first | apply go_ldA h | apply go_rd h | apply go_rdN h); rfl)
 | (with_reducible first | apply go_ldN h | apply go_lenR h)
 | ((with_reducible apply go_st h); intro _ h)
 | ((with_reducible apply go_stA h); rfl; rfl; (first | rfl | simp [OneV.o]); intro _ h)
 | ((with_reducible apply go_stN h); rfl; (first | rfl | simp [OneV.o]); intro _ h)
 | ((with_reducible apply go_box h); rfl; intro _ _ h)
 | ((with_reducible apply go_ixR h); omega)
 | ((with_reducible first | apply go_elR h | apply go_f1R h | apply go_rf1R h | apply go_relR h | apply go_e1R h | apply go_re1R h); (case hc => exact inferInstance); (case hi => omega); (try case hx => exact inferInstance); (try case hv => rfl))
 | ((with_reducible apply go_fNR h); (case hc => exact inferInstance); (case hi => omega); (try case hp => exact inferInstance); (try case hv => rfl))
 | ((with_reducible apply go_faR h); (case hc => exact inferInstance); omega; omega)
 | ((with_reducible apply go_rlenR h); rfl)
))
      unfold F3_5 F3_5b
      (repeat (first
 | (simp (disch := omega) only [evA, evB, evC, bAdd_i64, bSub_i64])
 | (with_reducible apply go_ld1 h)
 | ((with_reducible first | apply go_ldA h | apply go_rd h | apply go_rdN h | apply go_rlen h); rfl)
 | (with_reducible first | apply go_ldN h | apply go_lenL h)
 | ((with_reducible apply go_st h); intro _ h)
 | ((with_reducible apply go_stA h); rfl; rfl; (first | rfl | simp [OneV.o]); intro _ h)
 | ((with_reducible apply go_stN h); rfl; (first | rfl | simp [OneV.o]); intro _ h)
 | ((with_reducible apply go_box h); rfl; intro _ _ h)
 | ((with_reducible apply go_ix h); omega)
 | ((with_reducible first | apply go_elN h | apply go_f1 h | apply go_rf1 h | apply go_rel h); (case hi => omega); (try case hx => exact inferInstance); (try case hv => rfl))
 | ((with_reducible apply go_fa h); omega; omega)
))
      exact ih (i + 1) _ w (by omega) (by omega) S2 h
theorem outboxLoads_spec (W : Whats w0) (hrd : Rd w0 1 s0 l.length (l.flatMap cI)) (hx : ∀ x ∈ l, -9223372036854775808 ≤ x ∧ x ≤ 9223372036854775807) (h : Sat w0 L w) (hK : ∀ w', Sat w0 L w' → K (.bool true) w') : callP G3 [s0, .int .i64 turn] w K := by
  refine c3 ?_
  unfold F3 F3_1 F3_1b
  refine onew_spec (m := 9) (b := 1) (t := 1) (by omega) (by omega) h fun p w h => ?_
  (repeat (first
 | (simp (disch := omega) only [evA, evB, evC, bAdd_i64, bSub_i64])
 | (with_reducible apply go_ld1 h)
 | ((with_reducible first | apply go_ldA h | apply go_rd h | apply go_rdN h | apply go_rlen h); rfl)
 | (with_reducible first | apply go_ldN h | apply go_lenL h)
 | ((with_reducible apply go_st h); intro _ h)
 | ((with_reducible apply go_stA h); rfl; rfl; (first | rfl | simp [OneV.o]); intro _ h)
 | ((with_reducible apply go_stN h); rfl; (first | rfl | simp [OneV.o]); intro _ h)
 | ((with_reducible apply go_box h); rfl; intro _ _ h)
 | ((with_reducible apply go_ix h); omega)
 | ((with_reducible first | apply go_elN h | apply go_f1 h | apply go_rf1 h | apply go_rel h); (case hi => omega); (try case hx => exact inferInstance); (try case hv => rfl))
 | ((with_reducible apply go_fa h); omega; omega)
))
  refine onew_spec (m := 9) (b := 1) (t := 1) (by omega) (by omega) h fun q w h => ?_
  (repeat (first
 | (simp (disch := omega) only [evA, evB, evC, bAdd_i64, bSub_i64, Int.reduceEq])
 | (refine go_some (bEq_nilp up23   ..) ?_)
 | (with_reducible apply go_ld1 h)
 | ((with_reducible first | apply go_ldA h | apply go_rd h | apply go_rdN h | apply go_rlen h); rfl)
 | (with_reducible first | apply go_ldN h | apply go_lenL h)
 | ((with_reducible apply go_st h); intro _ h)
 | ((with_reducible apply go_stA h); rfl; rfl; (first | rfl | simp [OneV.o]); intro _ h)
 | ((with_reducible apply go_stN h); rfl; (first | rfl | simp [OneV.o]); intro _ h)
 | ((with_reducible apply go_box h); rfl; intro _ _ h)
 | ((with_reducible apply go_ix h); omega)
 | ((with_reducible first | apply go_elN h | apply go_f1 h | apply go_rf1 h | apply go_rel h); (case hi => omega); (try case hx => exact inferInstance); (try case hv => rfl))
 | ((with_reducible apply go_fa h); omega; omega)
))
  refine works24_spec h fun w h => ?_
  (repeat (first
 | (simp (disch := omega) only [evA, evB, evC, bAdd_i64, bSub_i64])
 | (with_reducible apply go_ld1 h)
 | ((with_reducible first | apply go_ldA h | apply go_rd h | apply go_rdN h | apply go_rlen h); rfl)
 | (with_reducible first | apply go_ldN h | apply go_lenL h)
 | ((with_reducible apply go_st h); intro _ h)
 | ((with_reducible apply go_stA h); rfl; rfl; (first | rfl | simp [OneV.o]); intro _ h)
 | ((with_reducible apply go_stN h); rfl; (first | rfl | simp [OneV.o]); intro _ h)
 | ((with_reducible apply go_box h); rfl; intro _ _ h)
 | ((with_reducible apply go_ix h); omega)
 | ((with_reducible first | apply go_elN h | apply go_f1 h | apply go_rf1 h | apply go_rel h); (case hi => omega); (try case hx => exact inferInstance); (try case hv => rfl))
 | ((with_reducible apply go_fa h); omega; omega)
))
  unfold F3_2
  have : RdIn w0 L s0 Int cI 1 l := RdIn.arg hrd
  exact loads_loop (l := l) W hx hK fuel 0 (newO 9 1 1) w (by unfold fuel; omega) (by omega) .new (h.got)
end
theorem lawOutboxLoads {W : World} (hw : Whats W) {v : Value} {n : Nat} {cs : List Value} (rd : Rd W 1 v n cs) (hn : n ≤ 140737488351232) (ft : ∀ i, i < n → FitL2 W 140737488351232 [.int .i64] ((cs.drop (i * 1)).take 1)) (b : Int) (_ : (Lit.int .i64 b).wf = true) :
    callP G3 [v, .int .i64 b] W fun v w' => v = .bool true ∧ Sat W [] w' := by
  obtain ⟨l, rfl, rfl, hg⟩ := fit_list2 (fun c h => fit_intB h) n cs rd.length ft
  exact outboxLoads_spec hw rd hg (Sat.start W) fun w' h => ⟨rfl, h⟩
end Go.Proofs.Gong
