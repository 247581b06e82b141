/- A part of the proofs: what stands below it, told in lemmas. No condition. -/
import Derived.Test.YtcnllmjkankflaaDoorP2
import Derived.Test.YtcnllmjkankflaaDoorP1
set_option linter.all false

/- Oa1 -/
namespace Go.Proofs.Gong
open Go Go.Sx Go.Proofs
set_option maxRecDepth 100000
def Whats (w : World) : Prop := ∀ i : Nat, i < 256 → w.cell? ⟨0, i, none⟩ = some (.bool (decide (1 ≤ i) && decide (i ≤ 5)))
def chkT (t : Tk) : Int := if okTk t = true then 0 else 230
def TFit (t : Tk) : Prop := t.r.e.fits ∧ t.r.who.length < 1073741824
theorem elimLt {q : Option (Tk × Int × Int)} : q.elim (ltV zeroLt) ltV = ltV (q.getD zeroLt) := by cases q <;> rfl
theorem whats_ix {n : Int} (h : 0 ≤ n ∧ n < 256) : pIndexP 256 1 (.pointer (some ⟨0, 0, none⟩)) (.int .i64 n) = some (.pointer (some ⟨0, n.toNat, none⟩)) := by
  unfold pIndexP
  simp only []
  rw [if_pos (by omega)]
  simp
theorem zTk1 : fZero Tryd.prog 61 = some (tkV zeroTk) := z61
attribute [local irreducible] fBuild fLook fZero eqv bEqv Cl MapH LsH SlH ld1 ldN st callP eBox eAlloc lenM lenL eMapSet eDelete eAppend eBuildSl eRange eNext
section
variable {w0 w : World} {L : List HP} {K : Value → World → Prop} {v : Value} {o : Ob} {n now last refused : Int} {M : LMap} {t : Tk}
theorem whats_at (W : Whats w0) {w1 : World} (h : Sat w0 L w1) {n : Int} (hn : 0 ≤ n ∧ n < 256) : ld1 (.pointer (some ⟨0, n.toNat, none⟩)) w1 = some (.bool (decide (1 ≤ n) && decide (n ≤ 5))) := by
  rw [ld1_ptr, h.cellOld (W n.toNat (by omega))]
  congr 3
  · exact decide_eq_decide.2 (by omega)
  · exact decide_eq_decide.2 (by omega)
theorem tcheck_spec (W : Whats w0) (hf : TFit t) (h : Sat w0 L w) (hK : ∀ w', Sat w0 L w' → K (.int .i64 (chkT t)) w') : callP G25 [tkV t] w K := by
  unfold chkT okTk at hK
  refine c25 ?_
  unfold F25
  have e5 : ∀ b : Bool, uNot (.bool b) = some (.bool (!b)) := fun b => rfl
  cases g1 : decide (t.what ≥ 0)
  · have h1 : decide (1 ≤ t.what) = false := by simp at g1 ⊢; omega
    rw [h1, if_neg (by simp)] at hK
    cases g3 : decide (t.seq < 1) <;> cases g4 : decide (t.seq > 1152921504606846976) <;>
    · (repeat (first
 | (simp (disch := omega) only [evA, evB, evC, bAdd_i64, bSub_i64, g1, g3, g4])
 | (with_reducible apply go_ld1 h)
 | ((with_reducible first | apply go_ldA h | apply go_rd h | apply go_rdN h | apply go_rlen h); rfl)
 | (with_reducible first | apply go_ldN h | apply go_lenL h)
 | ((with_reducible apply go_st h); intro _ h)
 | ((with_reducible apply go_stA h); rfl; rfl; (first | rfl | simp [OneV.o]); intro _ h)
 | ((with_reducible apply go_stN h); rfl; (first | rfl | simp [OneV.o]); intro _ h)
 | ((with_reducible apply go_box h); rfl; intro _ _ h)
 | ((with_reducible apply go_ix h); omega)
 | ((with_reducible first | apply go_elN h | apply go_f1 h | apply go_rf1 h | apply go_rel h); (case hi => omega); (try case hx => exact inferInstance); (try case hv => rfl))
 | ((with_reducible apply go_fa h); omega; omega)
))
      exact hK _ (h.got)
  cases g2 : decide (t.what < 256)
  · have h1 : decide (t.what ≤ 5) = false := by simp at g2 ⊢; omega
    rw [h1, if_neg (by simp)] at hK
    cases g3 : decide (t.seq < 1) <;> cases g4 : decide (t.seq > 1152921504606846976) <;>
    · (repeat (first
 | (simp (disch := omega) only [evA, evB, evC, bAdd_i64, bSub_i64, g1, g2, g3, g4])
 | (with_reducible apply go_ld1 h)
 | ((with_reducible first | apply go_ldA h | apply go_rd h | apply go_rdN h | apply go_rlen h); rfl)
 | (with_reducible first | apply go_ldN h | apply go_lenL h)
 | ((with_reducible apply go_st h); intro _ h)
 | ((with_reducible apply go_stA h); rfl; rfl; (first | rfl | simp [OneV.o]); intro _ h)
 | ((with_reducible apply go_stN h); rfl; (first | rfl | simp [OneV.o]); intro _ h)
 | ((with_reducible apply go_box h); rfl; intro _ _ h)
 | ((with_reducible apply go_ix h); omega)
 | ((with_reducible first | apply go_elN h | apply go_f1 h | apply go_rf1 h | apply go_rel h); (case hi => omega); (try case hx => exact inferInstance); (try case hv => rfl))
 | ((with_reducible apply go_fa h); omega; omega)
))
      exact hK _ (h.got)
  have hn : 0 ≤ t.what ∧ t.what < 256 := by simp at g1 g2; omega
  (repeat (first
 | (simp (disch := omega) only [evA, evB, evC, bAdd_i64, bSub_i64, g1, g2])
 | (with_reducible apply go_ld1 h)
 | ((with_reducible first | apply go_ldA h | apply go_rd h | apply go_rdN h | apply go_rlen h); rfl)
 | (with_reducible first | apply go_ldN h | apply go_lenL h)
 | ((with_reducible apply go_st h); intro _ h)
 | ((with_reducible apply go_stA h); rfl; rfl; (first | rfl | simp [OneV.o]); intro _ h)
 | ((with_reducible apply go_stN h); rfl; (first | rfl | simp [OneV.o]); intro _ h)
 | ((with_reducible apply go_box h); rfl; intro _ _ h)
 | ((with_reducible apply go_ix h); omega)
 | ((with_reducible first | apply go_elN h | apply go_f1 h | apply go_rf1 h | apply go_rel h); (case hi => omega); (try case hx => exact inferInstance); (try case hv => rfl))
 | ((with_reducible apply go_fa h); omega; omega)
))
  refine go_some (whats_ix hn) ?_
  refine go_some (whats_at W h hn) ?_
  cases g3 : decide (t.seq < 1)
  case true =>
    have h1 : decide (1 ≤ t.seq) = false := by simp at g3 ⊢; omega
    rw [h1, if_neg (by simp)] at hK
    (repeat (first
 | (simp (disch := omega) only [evA, evB, evC, bAdd_i64, bSub_i64, g3])
 | (with_reducible apply go_ld1 h)
 | ((with_reducible first | apply go_ldA h | apply go_rd h | apply go_rdN h | apply go_rlen h); rfl)
 | (with_reducible first | apply go_ldN h | apply go_lenL h)
 | ((with_reducible apply go_st h); intro _ h)
 | ((with_reducible apply go_stA h); rfl; rfl; (first | rfl | simp [OneV.o]); intro _ h)
 | ((with_reducible apply go_stN h); rfl; (first | rfl | simp [OneV.o]); intro _ h)
 | ((with_reducible apply go_box h); rfl; intro _ _ h)
 | ((with_reducible apply go_ix h); omega)
 | ((with_reducible first | apply go_elN h | apply go_f1 h | apply go_rf1 h | apply go_rel h); (case hi => omega); (try case hx => exact inferInstance); (try case hv => rfl))
 | ((with_reducible apply go_fa h); omega; omega)
))
    exact hK _ (h.got)
  have h3 : decide (1 ≤ t.seq) = true := by simp at g3 ⊢; omega
  cases g4 : decide (t.seq > 1152921504606846976)
  case true =>
    have h1 : decide (t.seq ≤ 1152921504606846976) = false := by simp at g4 ⊢; omega
    rw [h1, if_neg (by simp)] at hK
    (repeat (first
 | (simp (disch := omega) only [evA, evB, evC, bAdd_i64, bSub_i64, g3, g4])
 | (with_reducible apply go_ld1 h)
 | ((with_reducible first | apply go_ldA h | apply go_rd h | apply go_rdN h | apply go_rlen h); rfl)
 | (with_reducible first | apply go_ldN h | apply go_lenL h)
 | ((with_reducible apply go_st h); intro _ h)
 | ((with_reducible apply go_stA h); rfl; rfl; (first | rfl | simp [OneV.o]); intro _ h)
 | ((with_reducible apply go_stN h); rfl; (first | rfl | simp [OneV.o]); intro _ h)
 | ((with_reducible apply go_box h); rfl; intro _ _ h)
 | ((with_reducible apply go_ix h); omega)
 | ((with_reducible first | apply go_elN h | apply go_f1 h | apply go_rf1 h | apply go_rel h); (case hi => omega); (try case hx => exact inferInstance); (try case hv => rfl))
 | ((with_reducible apply go_fa h); omega; omega)
))
    exact hK _ (h.got)
  have h4 : decide (t.seq ≤ 1152921504606846976) = true := by simp at g4 ⊢; omega
  rw [h3, h4] at hK
  cases g5 : (decide (1 ≤ t.what) && decide (t.what ≤ 5))
  case false =>
    rw [Bool.true_and, Bool.true_and, g5, if_neg (by simp)] at hK
    (repeat (first
 | (simp (disch := omega) only [evA, evB, evC, bAdd_i64, bSub_i64, g3, g4])
 | (with_reducible apply go_ld1 h)
 | ((with_reducible first | apply go_ldA h | apply go_rd h | apply go_rdN h | apply go_rlen h); rfl)
 | (with_reducible first | apply go_ldN h | apply go_lenL h)
 | ((with_reducible apply go_st h); intro _ h)
 | ((with_reducible apply go_stA h); rfl; rfl; (first | rfl | simp [OneV.o]); intro _ h)
 | ((with_reducible apply go_stN h); rfl; (first | rfl | simp [OneV.o]); intro _ h)
 | ((with_reducible apply go_box h); rfl; intro _ _ h)
 | ((with_reducible apply go_ix h); omega)
 | ((with_reducible first | apply go_elN h | apply go_f1 h | apply go_rf1 h | apply go_rel h); (case hi => omega); (try case hx => exact inferInstance); (try case hv => rfl))
 | ((with_reducible apply go_fa h); omega; omega)
))
    exact hK _ (h.got)
  rw [Bool.true_and, Bool.true_and, g5, Bool.true_and] at hK
  (repeat (first
 | (simp (disch := omega) only [evA, evB, evC, bAdd_i64, bSub_i64, g3, g4])
 | (with_reducible apply go_ld1 h)
 | ((with_reducible first | apply go_ldA h | apply go_rd h | apply go_rdN h | apply go_rlen h); rfl)
 | (with_reducible first | apply go_ldN h | apply go_lenL h)
 | ((with_reducible apply go_st h); intro _ h)
 | ((with_reducible apply go_stA h); rfl; rfl; (first | rfl | simp [OneV.o]); intro _ h)
 | ((with_reducible apply go_stN h); rfl; (first | rfl | simp [OneV.o]); intro _ h)
 | ((with_reducible apply go_box h); rfl; intro _ _ h)
 | ((with_reducible apply go_ix h); omega)
 | ((with_reducible first | apply go_elN h | apply go_f1 h | apply go_rf1 h | apply go_rel h); (case hi => omega); (try case hx => exact inferInstance); (try case hv => rfl))
 | ((with_reducible apply go_fa h); omega; omega)
))
  refine bcheck_spec (r := t.r) hf.1 hf.2 h fun w h => ?_
  unfold chkR
  cases g6 : okR t.r
  · rw [g6, if_neg (by simp)] at hK
    (repeat (first
 | (simp (disch := omega) only [evA, evB, evC, bAdd_i64, bSub_i64, Bool.false_eq_true, if_false, Int.reduceEq])
 | (with_reducible apply go_ld1 h)
 | ((with_reducible first | apply go_ldA h | apply go_rd h | apply go_rdN h | apply go_rlen h); rfl)
 | (with_reducible first | apply go_ldN h | apply go_lenL h)
 | ((with_reducible apply go_st h); intro _ h)
 | ((with_reducible apply go_stA h); rfl; rfl; (first | rfl | simp [OneV.o]); intro _ h)
 | ((with_reducible apply go_stN h); rfl; (first | rfl | simp [OneV.o]); intro _ h)
 | ((with_reducible apply go_box h); rfl; intro _ _ h)
 | ((with_reducible apply go_ix h); omega)
 | ((with_reducible first | apply go_elN h | apply go_f1 h | apply go_rf1 h | apply go_rel h); (case hi => omega); (try case hx => exact inferInstance); (try case hv => rfl))
 | ((with_reducible apply go_fa h); omega; omega)
))
    exact hK _ (h.got)
  · rw [g6, if_pos rfl] at hK
    (repeat (first
 | (simp (disch := omega) only [evA, evB, evC, bAdd_i64, bSub_i64, if_true, Int.reduceEq])
 | (with_reducible apply go_ld1 h)
 | ((with_reducible first | apply go_ldA h | apply go_rd h | apply go_rdN h | apply go_rlen h); rfl)
 | (with_reducible first | apply go_ldN h | apply go_lenL h)
 | ((with_reducible apply go_st h); intro _ h)
 | ((with_reducible apply go_stA h); rfl; rfl; (first | rfl | simp [OneV.o]); intro _ h)
 | ((with_reducible apply go_stN h); rfl; (first | rfl | simp [OneV.o]); intro _ h)
 | ((with_reducible apply go_box h); rfl; intro _ _ h)
 | ((with_reducible apply go_ix h); omega)
 | ((with_reducible first | apply go_elN h | apply go_f1 h | apply go_rf1 h | apply go_rel h); (case hi => omega); (try case hx => exact inferInstance); (try case hv => rfl))
 | ((with_reducible apply go_fa h); omega; omega)
))
    exact hK _ (h.got)
theorem omarked_spec (h : Sat w0 (OutA v o :: L) w) (hK : K (.int .i64 o.mark) w) : callP G17 [v] w K := by
  obtain ⟨p, m, M, rfl, H, ok, h⟩ := outA_open h
  refine c17 ?_
  unfold F17
  (repeat (first
 | (simp (disch := omega) only [evA, evB, evC, bAdd_i64, bSub_i64])
 | (with_reducible apply go_ld1 h)
 | ((with_reducible first | apply go_ldA h | apply go_rd h | apply go_rdN h | apply go_rlen h); rfl)
 | (with_reducible first | apply go_ldN h | apply go_lenL h)
 | ((with_reducible apply go_st h); intro _ h)
 | ((with_reducible apply go_stA h); rfl; rfl; (first | rfl | simp [OneV.o]); intro _ h)
 | ((with_reducible apply go_stN h); rfl; (first | rfl | simp [OneV.o]); intro _ h)
 | ((with_reducible apply go_box h); rfl; intro _ _ h)
 | ((with_reducible apply go_ix h); omega)
 | ((with_reducible first | apply go_elN h | apply go_f1 h | apply go_rf1 h | apply go_rel h); (case hi => omega); (try case hx => exact inferInstance); (try case hv => rfl))
 | ((with_reducible apply go_fa h); omega; omega)
))
  exact hK
theorem tickets_loop {a b : Value} {l : List Tk} [ra : RdIn w0 L a Tk cTk 13 l] [rb : RdIn w0 L b Tk cTk 13 l] (hl : l.length ≤ 1073741824) (hK : ∀ w', Sat w0 L w' → K (.bool true) w') :
    ∀ (d i : Nat) (w : World), l.length - i < d → i ≤ l.length → Sat w0 L w → F16_2L d a b (.int .i64 i) w K := by
  intro d
  induction d with
  | zero => intro i w hd; omega
  | succ d ih =>
    intro i w hd hi h
    rw [F16_2L]
    unfold F16_2b
    by_cases g : i < l.length
    · have g' : decide ((i : Int) < (l.length : Int)) = true := by simpa using g
      refine go_some (ra.rd w h).len ?_
      (repeat (first
 | (simp (disch := omega) only [evA, evB, evC, bAdd_i64, bSub_i64, g'])
 | (with_reducible apply go_ld1 h)
 | ((with_reducible first | apply go_ldA h | apply go_rd h | apply go_rdN h | apply go_rlen h); rfl)
 | (with_reducible first | apply go_ldN h | apply go_lenL h)
 | ((with_reducible apply go_st h); intro _ h)
 | ((with_reducible apply go_stA h); rfl; rfl; (first | rfl | simp [OneV.o]); intro _ h)
 | ((with_reducible apply go_stN h); rfl; (first | rfl | simp [OneV.o]); intro _ h)
 | ((with_reducible apply go_box h); rfl; intro _ _ h)
 | ((with_reducible apply go_ix h); omega)
 | ((with_reducible first | apply go_elN h | apply go_f1 h | apply go_rf1 h | apply go_rel h); (case hi => omega); (try case hx => exact inferInstance); (try case hv => rfl))
 | ((with_reducible apply go_fa h); omega; omega)
))
      refine go_some (ix_el (ra.rd w h) g) ?_
      refine go_some (rd_ld CTk (ra.rd w h) g) ?_
      refine go_some (ix_el (rb.rd w h) g) ?_
      refine go_some (rd_ld CTk (rb.rd w h) g) ?_
      (repeat (first
 | (simp (disch := omega) only [evA, evB, evC, bAdd_i64, bSub_i64, neTk'])
 | (with_reducible apply go_ld1 h)
 | ((with_reducible first | apply go_ldA h | apply go_rd h | apply go_rdN h | apply go_rlen h); rfl)
 | (with_reducible first | apply go_ldN h | apply go_lenL h)
 | ((with_reducible apply go_st h); intro _ h)
 | ((with_reducible apply go_stA h); rfl; rfl; (first | rfl | simp [OneV.o]); intro _ h)
 | ((with_reducible apply go_stN h); rfl; (first | rfl | simp [OneV.o]); intro _ h)
 | ((with_reducible apply go_box h); rfl; intro _ _ h)
 | ((with_reducible apply go_ix h); omega)
 | ((with_reducible first | apply go_elN h | apply go_f1 h | apply go_rf1 h | apply go_rel h); (case hi => omega); (try case hx => exact inferInstance); (try case hv => rfl))
 | ((with_reducible apply go_fa h); omega; omega)
))
      exact ih (i + 1) _ (by omega) (by omega) h.drew
    · have g' : decide ((i : Int) < (l.length : Int)) = false := by simpa using g
      refine go_some (ra.rd w h).len ?_
      (repeat (first
 | (simp (disch := omega) only [evA, evB, evC, bAdd_i64, bSub_i64, g'])
 | (with_reducible apply go_ld1 h)
 | ((with_reducible first | apply go_ldA h | apply go_rd h | apply go_rdN h | apply go_rlen h); rfl)
 | (with_reducible first | apply go_ldN h | apply go_lenL h)
 | ((with_reducible apply go_st h); intro _ h)
 | ((with_reducible apply go_stA h); rfl; rfl; (first | rfl | simp [OneV.o]); intro _ h)
 | ((with_reducible apply go_stN h); rfl; (first | rfl | simp [OneV.o]); intro _ h)
 | ((with_reducible apply go_box h); rfl; intro _ _ h)
 | ((with_reducible apply go_ix h); omega)
 | ((with_reducible first | apply go_elN h | apply go_f1 h | apply go_rf1 h | apply go_rel h); (case hi => omega); (try case hx => exact inferInstance); (try case hv => rfl))
 | ((with_reducible apply go_fa h); omega; omega)
))
      unfold F16_3 F16_3b
      exact hK _ h
theorem tickets_same {a b : Value} {l : List Tk} [ra : RdIn w0 L a Tk cTk 13 l] [rb : RdIn w0 L b Tk cTk 13 l] (hl : l.length ≤ 1073741824) (h : Sat w0 L w) (hK : ∀ w', Sat w0 L w' → K (.bool true) w') : callP G16 [a, b] w K := by
  refine c16 ?_
  unfold F16 F16_1 F16_1b
  refine go_some (ra.rd w h).len ?_
  refine go_some (rb.rd w h).len ?_
  (repeat (first
 | (simp (disch := omega) only [evA, evB, evC, bAdd_i64, bSub_i64])
 | (with_reducible apply go_ld1 h)
 | ((with_reducible first | apply go_ldA h | apply go_rd h | apply go_rdN h | apply go_rlen h); rfl)
 | (with_reducible first | apply go_ldN h | apply go_lenL h)
 | ((with_reducible apply go_st h); intro _ h)
 | ((with_reducible apply go_stA h); rfl; rfl; (first | rfl | simp [OneV.o]); intro _ h)
 | ((with_reducible apply go_stN h); rfl; (first | rfl | simp [OneV.o]); intro _ h)
 | ((with_reducible apply go_box h); rfl; intro _ _ h)
 | ((with_reducible apply go_ix h); omega)
 | ((with_reducible first | apply go_elN h | apply go_f1 h | apply go_rf1 h | apply go_rel h); (case hi => omega); (try case hx => exact inferInstance); (try case hv => rfl))
 | ((with_reducible apply go_fa h); omega; omega)
))
  unfold F16_2
  exact tickets_loop hl hK fuel 0 w (by unfold fuel; omega) (by omega) h
theorem oput1_spec {q : Nat} {m : Value} (h : Sat w0 (OCl q o m :: MapH kO ltV m M :: L) w) (hK : ∀ w', Sat w0 (OCl q o m :: MapH kO ltV m (aSet t.seq (t, o.base, 0) M) :: L) w' → K (.tuple #[]) w') : callP G23 [ptr q, tkV t] w K := by
  refine c23 ?_
  unfold F23
  have := map_one (h.frt (A := MapH kO ltV m M))
  (repeat (first
 | (simp (disch := omega) only [evA, evB, evC, bAdd_i64, bSub_i64])
 | (with_reducible apply go_ld1 h)
 | ((with_reducible first | apply go_ldA h | apply go_rd h | apply go_rdN h | apply go_rlen h); rfl)
 | (with_reducible first | apply go_ldN h | apply go_lenL h)
 | ((with_reducible apply go_st h); intro _ h)
 | ((with_reducible apply go_stA h); rfl; rfl; (first | rfl | simp [OneV.o]); intro _ h)
 | ((with_reducible apply go_stN h); rfl; (first | rfl | simp [OneV.o]); intro _ h)
 | ((with_reducible apply go_box h); rfl; intro _ _ h)
 | ((with_reducible apply go_ix h); omega)
 | ((with_reducible first | apply go_elN h | apply go_f1 h | apply go_rf1 h | apply go_rel h); (case hi => omega); (try case hx => exact inferInstance); (try case hv => rfl))
 | ((with_reducible apply go_fa h); omega; omega)
))
  refine go_some (fbLt t o.base) ?_
  refine eMapSet_sat (h.drew.frt (A := MapH kO ltV m M)) KIO um55 t.seq ((t, o.base, 0) : Tk × Int × Int) fun w h => ?_
  exact hK _ (h.got)
theorem oload_loop {p q : Nat} {sv m : Value} {l : List Tk} [rs : RdIn w0 L sv Tk cTk 13 l] (W : Whats w0) (hf : ∀ t ∈ l, TFit t) (hll : l.length ≤ 1073741824)
    (hK0 : loadT last l [] = none → ∀ w', Sat w0 L w' → K (.int .i64 4) w')
    (hK1 : ∀ ds, loadT last l [] = some ds → ∀ M w', KInv ltI lKey (lVal o.base o.top) M (ds.map freshL) → Sat w0 (OCl q o m :: MapH kO ltV m M :: L) w' → F12_3 (ptr p) sv (ptr q) w' K) :
    ∀ (d i : Nat) (ts : List Tk) (M : LMap) (w : World), l.length - i < d → i ≤ l.length → loadT last l [] = loadT last (l.drop i) ts → KInv ltI lKey (lVal o.base o.top) M (ts.map freshL) →
      Sat w0 (OCl q o m :: MapH kO ltV m M :: L) w → F12_2L d (ptr p) sv (.int .i64 last) (ptr q) sv (.int .i64 (l.length : Nat)) (.int .i64 i) w K := by
  intro d
  induction d with
  | zero => intro i _ _ _ hd; omega
  | succ d ih =>
    intro i ts M w hd hi he H h
    rw [F12_2L]
    unfold F12_2b
    have hm1 := map_one (h.frt (A := MapH kO ltV m M))
    by_cases g : i < l.length
    · have g' : decide ((i : Int) < (l.length : Int)) = true := by simpa using g
      rw [List.drop_eq_getElem_cons g] at he
      have hft := hf _ (List.getElem_mem g)
      (repeat (first
 | (simp (disch := omega) only [evA, evB, evC, bAdd_i64, bSub_i64, g'])
 | (with_reducible apply go_ld1 h)
 | ((with_reducible first | apply go_ldA h | apply go_rd h | apply go_rdN h | apply go_rlen h); rfl)
 | (with_reducible first | apply go_ldN h | apply go_lenL h)
 | ((with_reducible apply go_st h); intro _ h)
 | ((with_reducible apply go_stA h); rfl; rfl; (first | rfl | simp [OneV.o]); intro _ h)
 | ((with_reducible apply go_stN h); rfl; (first | rfl | simp [OneV.o]); intro _ h)
 | ((with_reducible apply go_box h); rfl; intro _ _ h)
 | ((with_reducible apply go_ix h); omega)
 | ((with_reducible first | apply go_elN h | apply go_f1 h | apply go_rf1 h | apply go_rel h); (case hi => omega); (try case hx => exact inferInstance); (try case hv => rfl))
 | ((with_reducible apply go_fa h); omega; omega)
))
      refine go_some (ix_el (rs.rd w h.drop.drop) g) ?_
      refine go_some (rd_ld CTk (rs.rd w h.drop.drop) g) ?_
      obtain ⟨t, ht⟩ : ∃ t, l[i] = t := ⟨_, rfl⟩
      rw [ht] at he hft ⊢
      have hbad : loadStepO last ts t = none → loadT last l [] = none := fun h => by rw [he]; simp [loadT, h]
      refine go_alloc h zTk1 rfl fun qa _ h => ?_
      (repeat (first
 | (simp (disch := omega) only [evA, evB, evC, bAdd_i64, bSub_i64])
 | (with_reducible apply go_ld1 h)
 | ((with_reducible first | apply go_ldA h | apply go_rd h | apply go_rdN h | apply go_rlen h); rfl)
 | (with_reducible first | apply go_ldN h | apply go_lenL h)
 | ((with_reducible apply go_st h); intro _ h)
 | ((with_reducible apply go_stA h); rfl; rfl; (first | rfl | simp [OneV.o]); intro _ h)
 | ((with_reducible apply go_stN h); rfl; (first | rfl | simp [OneV.o]); intro _ h)
 | ((with_reducible apply go_box h); rfl; intro _ _ h)
 | ((with_reducible apply go_ix h); omega)
 | ((with_reducible first | apply go_elN h | apply go_f1 h | apply go_rf1 h | apply go_rel h); (case hi => omega); (try case hx => exact inferInstance); (try case hv => rfl))
 | ((with_reducible apply go_fa h); omega; omega)
))
      refine go_look2 h (by repeat (first | exact .here | apply Fnt.there)) KIO um55 zLt t.seq ?_
      rw [elimLt]
      (repeat (first
 | (simp (disch := omega) only [evA, evB, evC, bAdd_i64, bSub_i64])
 | (with_reducible apply go_ld1 h)
 | ((with_reducible first | apply go_ldA h | apply go_rd h | apply go_rdN h | apply go_rlen h); rfl)
 | (with_reducible first | apply go_ldN h | apply go_lenL h)
 | ((with_reducible apply go_st h); intro _ h)
 | ((with_reducible apply go_stA h); rfl; rfl; (first | rfl | simp [OneV.o]); intro _ h)
 | ((with_reducible apply go_stN h); rfl; (first | rfl | simp [OneV.o]); intro _ h)
 | ((with_reducible apply go_box h); rfl; intro _ _ h)
 | ((with_reducible apply go_ix h); omega)
 | ((with_reducible first | apply go_elN h | apply go_f1 h | apply go_rf1 h | apply go_rel h); (case hi => omega); (try case hx => exact inferInstance); (try case hv => rfl))
 | ((with_reducible apply go_fa h); omega; omega)
))
      refine go_alloc h zLt rfl fun qb _ h => ?_
      (repeat (first
 | (simp (disch := omega) only [evA, evB, evC, bAdd_i64, bSub_i64])
 | (with_reducible apply go_ld1 h)
 | ((with_reducible first | apply go_ldA h | apply go_rd h | apply go_rdN h | apply go_rlen h); rfl)
 | (with_reducible first | apply go_ldN h | apply go_lenL h)
 | ((with_reducible apply go_st h); intro _ h)
 | ((with_reducible apply go_stA h); rfl; rfl; (first | rfl | simp [OneV.o]); intro _ h)
 | ((with_reducible apply go_stN h); rfl; (first | rfl | simp [OneV.o]); intro _ h)
 | ((with_reducible apply go_box h); rfl; intro _ _ h)
 | ((with_reducible apply go_ix h); omega)
 | ((with_reducible first | apply go_elN h | apply go_f1 h | apply go_rf1 h | apply go_rel h); (case hi => omega); (try case hx => exact inferInstance); (try case hv => rfl))
 | ((with_reducible apply go_fa h); omega; omega)
))
      refine go_fok ((look2 (h.frt) KIO um55 zLt t.seq).trans (by rw [elimLt])) ?_
      (repeat (first
 | (simp (disch := omega) only [evA, evB, evC, bAdd_i64, bSub_i64])
 | (with_reducible apply go_ld1 h)
 | ((with_reducible first | apply go_ldA h | apply go_rd h | apply go_rdN h | apply go_rlen h); rfl)
 | (with_reducible first | apply go_ldN h | apply go_lenL h)
 | ((with_reducible apply go_st h); intro _ h)
 | ((with_reducible apply go_stA h); rfl; rfl; (first | rfl | simp [OneV.o]); intro _ h)
 | ((with_reducible apply go_stN h); rfl; (first | rfl | simp [OneV.o]); intro _ h)
 | ((with_reducible apply go_box h); rfl; intro _ _ h)
 | ((with_reducible apply go_ix h); omega)
 | ((with_reducible first | apply go_elN h | apply go_f1 h | apply go_rf1 h | apply go_rel h); (case hi => omega); (try case hx => exact inferInstance); (try case hv => rfl))
 | ((with_reducible apply go_fa h); omega; omega)
))
      have hget : aGet t.seq M = (kGet lKey t.seq (ts.map freshL)).map (lVal o.base o.top) := H.get STO.int _
      refine tcheck_spec (t := t) W hft h fun w h => ?_
      unfold chkT
      cases g1 : okTk t
      · (repeat (first
 | (simp (disch := omega) only [evA, evB, evC, bAdd_i64, bSub_i64, Bool.false_eq_true, if_false, Int.reduceEq])
 | (with_reducible apply go_ld1 h)
 | ((with_reducible first | apply go_ldA h | apply go_rd h | apply go_rdN h | apply go_rlen h); rfl)
 | (with_reducible first | apply go_ldN h | apply go_lenL h)
 | ((with_reducible apply go_st h); intro _ h)
 | ((with_reducible apply go_stA h); rfl; rfl; (first | rfl | simp [OneV.o]); intro _ h)
 | ((with_reducible apply go_stN h); rfl; (first | rfl | simp [OneV.o]); intro _ h)
 | ((with_reducible apply go_box h); rfl; intro _ _ h)
 | ((with_reducible apply go_ix h); omega)
 | ((with_reducible first | apply go_elN h | apply go_f1 h | apply go_rf1 h | apply go_rel h); (case hi => omega); (try case hx => exact inferInstance); (try case hv => rfl))
 | ((with_reducible apply go_fa h); omega; omega)
))
        exact hK0 (hbad (by unfold loadStepO; rw [if_neg]; simp [g1])) _ (h.got)
      by_cases g3 : t.seq > last
      · have g3' : decide (t.seq > last) = true := by simpa using g3
        (repeat (first
 | (simp (disch := omega) only [evA, evB, evC, bAdd_i64, bSub_i64, if_true, g3', Int.reduceEq])
 | (with_reducible apply go_ld1 h)
 | ((with_reducible first | apply go_ldA h | apply go_rd h | apply go_rdN h | apply go_rlen h); rfl)
 | (with_reducible first | apply go_ldN h | apply go_lenL h)
 | ((with_reducible apply go_st h); intro _ h)
 | ((with_reducible apply go_stA h); rfl; rfl; (first | rfl | simp [OneV.o]); intro _ h)
 | ((with_reducible apply go_stN h); rfl; (first | rfl | simp [OneV.o]); intro _ h)
 | ((with_reducible apply go_box h); rfl; intro _ _ h)
 | ((with_reducible apply go_ix h); omega)
 | ((with_reducible first | apply go_elN h | apply go_f1 h | apply go_rf1 h | apply go_rel h); (case hi => omega); (try case hx => exact inferInstance); (try case hv => rfl))
 | ((with_reducible apply go_fa h); omega; omega)
))
        exact hK0 (hbad (by unfold loadStepO; rw [if_neg]; omega)) _ (h.got)
      have g3' : decide (t.seq > last) = false := by simpa using g3
      cases g4 : (aGet t.seq M).isSome
      case true =>
        (repeat (first
 | (simp (disch := omega) only [evA, evB, evC, bAdd_i64, bSub_i64, if_true, g3', Int.reduceEq])
 | (with_reducible apply go_ld1 h)
 | ((with_reducible first | apply go_ldA h | apply go_rd h | apply go_rdN h | apply go_rlen h); rfl)
 | (with_reducible first | apply go_ldN h | apply go_lenL h)
 | ((with_reducible apply go_st h); intro _ h)
 | ((with_reducible apply go_stA h); rfl; rfl; (first | rfl | simp [OneV.o]); intro _ h)
 | ((with_reducible apply go_stN h); rfl; (first | rfl | simp [OneV.o]); intro _ h)
 | ((with_reducible apply go_box h); rfl; intro _ _ h)
 | ((with_reducible apply go_ix h); omega)
 | ((with_reducible first | apply go_elN h | apply go_f1 h | apply go_rf1 h | apply go_rel h); (case hi => omega); (try case hx => exact inferInstance); (try case hv => rfl))
 | ((with_reducible apply go_fa h); omega; omega)
))
        refine hK0 (hbad ?_) _ (h.got)
        unfold loadStepO
        rw [if_neg]
        intro hh
        rw [hget, kGet_none.2 (by intro x hx; obtain ⟨y, hy, rfl⟩ := List.mem_map.1 hx; exact hh.2.2 y hy)] at g4
        cases g4
      have hn : ∀ d ∈ ts, d.seq ≠ t.seq := fun d hd e => by
        rw [hget] at g4
        cases hk : kGet lKey t.seq (ts.map freshL) with
        | none => exact kGet_none.1 hk (freshL d) (List.mem_map.2 ⟨d, hd, rfl⟩) e
        | some x => rw [hk] at g4; cases g4
      have hstep : loadStepO last ts t = some (kIns ltI tKey t ts) := by
        unfold loadStepO
        rw [if_pos ⟨g1, by omega, hn⟩]
      (repeat (first
 | (simp (disch := omega) only [evA, evB, evC, bAdd_i64, bSub_i64, if_true, g3', Int.reduceEq])
 | (with_reducible apply go_ld1 h)
 | ((with_reducible first | apply go_ldA h | apply go_rd h | apply go_rdN h | apply go_rlen h); rfl)
 | (with_reducible first | apply go_ldN h | apply go_lenL h)
 | ((with_reducible apply go_st h); intro _ h)
 | ((with_reducible apply go_stA h); rfl; rfl; (first | rfl | simp [OneV.o]); intro _ h)
 | ((with_reducible apply go_stN h); rfl; (first | rfl | simp [OneV.o]); intro _ h)
 | ((with_reducible apply go_box h); rfl; intro _ _ h)
 | ((with_reducible apply go_ix h); omega)
 | ((with_reducible first | apply go_elN h | apply go_f1 h | apply go_rf1 h | apply go_rel h); (case hi => omega); (try case hx => exact inferInstance); (try case hv => rfl))
 | ((with_reducible apply go_fa h); omega; omega)
))
      refine oput1_spec (t := t) (o := o) (q := q) (m := m) (M := M) (h.got) fun w h => ?_
      (repeat (first
 | (simp (disch := omega) only [evA, evB, evC, bAdd_i64, bSub_i64])
 | (with_reducible apply go_ld1 h)
 | ((with_reducible first | apply go_ldA h | apply go_rd h | apply go_rdN h | apply go_rlen h); rfl)
 | (with_reducible first | apply go_ldN h | apply go_lenL h)
 | ((with_reducible apply go_st h); intro _ h)
 | ((with_reducible apply go_stA h); rfl; rfl; (first | rfl | simp [OneV.o]); intro _ h)
 | ((with_reducible apply go_stN h); rfl; (first | rfl | simp [OneV.o]); intro _ h)
 | ((with_reducible apply go_box h); rfl; intro _ _ h)
 | ((with_reducible apply go_ix h); omega)
 | ((with_reducible first | apply go_elN h | apply go_f1 h | apply go_rf1 h | apply go_rel h); (case hi => omega); (try case hx => exact inferInstance); (try case hv => rfl))
 | ((with_reducible apply go_fa h); omega; omega)
))
      exact ih (i + 1) (kIns ltI tKey t ts) _ w (by omega) (by omega) (by rw [he]; simp [loadT, hstep]) (freshL_put (fun _ => rfl) H hn) h
    · have g' : decide ((i : Int) < (l.length : Int)) = false := by simpa using g
      (repeat (first
 | (simp (disch := omega) only [evA, evB, evC, bAdd_i64, bSub_i64, g'])
 | (with_reducible apply go_ld1 h)
 | ((with_reducible first | apply go_ldA h | apply go_rd h | apply go_rdN h | apply go_rlen h); rfl)
 | (with_reducible first | apply go_ldN h | apply go_lenL h)
 | ((with_reducible apply go_st h); intro _ h)
 | ((with_reducible apply go_stA h); rfl; rfl; (first | rfl | simp [OneV.o]); intro _ h)
 | ((with_reducible apply go_stN h); rfl; (first | rfl | simp [OneV.o]); intro _ h)
 | ((with_reducible apply go_box h); rfl; intro _ _ h)
 | ((with_reducible apply go_ix h); omega)
 | ((with_reducible first | apply go_elN h | apply go_f1 h | apply go_rf1 h | apply go_rel h); (case hi => omega); (try case hx => exact inferInstance); (try case hv => rfl))
 | ((with_reducible apply go_fa h); omega; omega)
))
      refine hK1 ts ?_ M w H h
      rw [he, List.drop_eq_nil_of_le (by omega)]; rfl
theorem oload_spec {sv : Value} {l : List Tk} [rs : RdIn w0 L sv Tk cTk 13 l] (W : Whats w0) (hf : ∀ t ∈ l, TFit t) (hll : l.length ≤ 1073741824) (h : Sat w0 (OutA v o :: L) w)
    (hK : ∀ w', Sat w0 (OutA v (loadO l last refused o).2 :: L) w' → K (.int .i64 (loadO l last refused o).1) w') : callP G12 [v, sv, .int .i64 last, .int .i64 refused] w K := by
  have okl := loadO_ok (outA_ok h) (l := l) (last := last) (refused := refused)
  unfold loadO at hK okl
  refine c12 ?_
  unfold F12 F12_1 F12_1b
  by_cases g1 : last < 0
  · have g1' : decide (last < 0) = true := by simpa using g1
    rw [if_pos (.inl g1)] at hK
    (repeat (first
 | (simp (disch := omega) only [evA, evB, evC, bAdd_i64, bSub_i64, g1'])
 | (with_reducible apply go_ld1 h)
 | ((with_reducible first | apply go_ldA h | apply go_rd h | apply go_rdN h | apply go_rlen h); rfl)
 | (with_reducible first | apply go_ldN h | apply go_lenL h)
 | ((with_reducible apply go_st h); intro _ h)
 | ((with_reducible apply go_stA h); rfl; rfl; (first | rfl | simp [OneV.o]); intro _ h)
 | ((with_reducible apply go_stN h); rfl; (first | rfl | simp [OneV.o]); intro _ h)
 | ((with_reducible apply go_box h); rfl; intro _ _ h)
 | ((with_reducible apply go_ix h); omega)
 | ((with_reducible first | apply go_elN h | apply go_f1 h | apply go_rf1 h | apply go_rel h); (case hi => omega); (try case hx => exact inferInstance); (try case hv => rfl))
 | ((with_reducible apply go_fa h); omega; omega)
))
    exact hK _ h
  have g1' : decide (last < 0) = false := by simpa using g1
  by_cases g2 : last > 1152921504606846976
  · have g2' : decide (last > 1152921504606846976) = true := by simpa using g2
    rw [if_pos (.inr (.inl g2))] at hK
    (repeat (first
 | (simp (disch := omega) only [evA, evB, evC, bAdd_i64, bSub_i64, g1', g2'])
 | (with_reducible apply go_ld1 h)
 | ((with_reducible first | apply go_ldA h | apply go_rd h | apply go_rdN h | apply go_rlen h); rfl)
 | (with_reducible first | apply go_ldN h | apply go_lenL h)
 | ((with_reducible apply go_st h); intro _ h)
 | ((with_reducible apply go_stA h); rfl; rfl; (first | rfl | simp [OneV.o]); intro _ h)
 | ((with_reducible apply go_stN h); rfl; (first | rfl | simp [OneV.o]); intro _ h)
 | ((with_reducible apply go_box h); rfl; intro _ _ h)
 | ((with_reducible apply go_ix h); omega)
 | ((with_reducible first | apply go_elN h | apply go_f1 h | apply go_rf1 h | apply go_rel h); (case hi => omega); (try case hx => exact inferInstance); (try case hv => rfl))
 | ((with_reducible apply go_fa h); omega; omega)
))
    exact hK _ h
  have g2' : decide (last > 1152921504606846976) = false := by simpa using g2
  by_cases g3 : refused < 0
  · have g3' : decide (refused < 0) = true := by simpa using g3
    rw [if_pos (.inr (.inr (.inl g3)))] at hK
    (repeat (first
 | (simp (disch := omega) only [evA, evB, evC, bAdd_i64, bSub_i64, g1', g2', g3'])
 | (with_reducible apply go_ld1 h)
 | ((with_reducible first | apply go_ldA h | apply go_rd h | apply go_rdN h | apply go_rlen h); rfl)
 | (with_reducible first | apply go_ldN h | apply go_lenL h)
 | ((with_reducible apply go_st h); intro _ h)
 | ((with_reducible apply go_stA h); rfl; rfl; (first | rfl | simp [OneV.o]); intro _ h)
 | ((with_reducible apply go_stN h); rfl; (first | rfl | simp [OneV.o]); intro _ h)
 | ((with_reducible apply go_box h); rfl; intro _ _ h)
 | ((with_reducible apply go_ix h); omega)
 | ((with_reducible first | apply go_elN h | apply go_f1 h | apply go_rf1 h | apply go_rel h); (case hi => omega); (try case hx => exact inferInstance); (try case hv => rfl))
 | ((with_reducible apply go_fa h); omega; omega)
))
    exact hK _ h
  have g3' : decide (refused < 0) = false := by simpa using g3
  by_cases g4 : refused > 1152921504606846976
  · have g4' : decide (refused > 1152921504606846976) = true := by simpa using g4
    rw [if_pos (.inr (.inr (.inr g4)))] at hK
    (repeat (first
 | (simp (disch := omega) only [evA, evB, evC, bAdd_i64, bSub_i64, g1', g2', g3', g4'])
 | (with_reducible apply go_ld1 h)
 | ((with_reducible first | apply go_ldA h | apply go_rd h | apply go_rdN h | apply go_rlen h); rfl)
 | (with_reducible first | apply go_ldN h | apply go_lenL h)
 | ((with_reducible apply go_st h); intro _ h)
 | ((with_reducible apply go_stA h); rfl; rfl; (first | rfl | simp [OneV.o]); intro _ h)
 | ((with_reducible apply go_stN h); rfl; (first | rfl | simp [OneV.o]); intro _ h)
 | ((with_reducible apply go_box h); rfl; intro _ _ h)
 | ((with_reducible apply go_ix h); omega)
 | ((with_reducible first | apply go_elN h | apply go_f1 h | apply go_rf1 h | apply go_rel h); (case hi => omega); (try case hx => exact inferInstance); (try case hv => rfl))
 | ((with_reducible apply go_fa h); omega; omega)
))
    exact hK _ h
  have g4' : decide (refused > 1152921504606846976) = false := by simpa using g4
  rw [if_neg (by omega)] at hK okl
  have ok0 := outA_ok h
  obtain ⟨p, m, M0, rfl, H, ok, h2⟩ := outA_open h
  clear h
  have h := h2
  clear h2
  (repeat (first
 | (simp (disch := omega) only [evA, evB, evC, bAdd_i64, bSub_i64, g1', g2', g3', g4'])
 | (with_reducible apply go_ld1 h)
 | ((with_reducible first | apply go_ldA h | apply go_rd h | apply go_rdN h | apply go_rlen h); rfl)
 | (with_reducible first | apply go_ldN h | apply go_lenL h)
 | ((with_reducible apply go_st h); intro _ h)
 | ((with_reducible apply go_stA h); rfl; rfl; (first | rfl | simp [OneV.o]); intro _ h)
 | ((with_reducible apply go_stN h); rfl; (first | rfl | simp [OneV.o]); intro _ h)
 | ((with_reducible apply go_box h); rfl; intro _ _ h)
 | ((with_reducible apply go_ix h); omega)
 | ((with_reducible first | apply go_elN h | apply go_f1 h | apply go_rf1 h | apply go_rel h); (case hi => omega); (try case hx => exact inferInstance); (try case hv => rfl))
 | ((with_reducible apply go_fa h); omega; omega)
))
  refine eMakeMap_sat kO ltV h.drew fun mv w h => ?_
  obtain ⟨r1, _, _, ⟨rfl, _⟩, _⟩ := map_iff.1 h
  have eb : fBuild Tryd.prog 57 [(0, .int .i64 o.most), (1, .int .i64 o.base), (2, .int .i64 o.top), (3, .int .i64 last), (4, .int .i64 refused), (5, .int .i64 last), (6, .map (some r1))] = some (.agg #[.int .i64 o.most, .int .i64 o.base, .int .i64 o.top, .int .i64 last, .int .i64 refused, .int .i64 last, .map (some r1)]) := by kernel_rfl
  (repeat (first
 | (simp (disch := omega) only [evA, evB, evC, bAdd_i64, bSub_i64])
 | (with_reducible apply go_ld1 h)
 | ((with_reducible first | apply go_ldA h | apply go_rd h | apply go_rdN h | apply go_rlen h); rfl)
 | (with_reducible first | apply go_ldN h | apply go_lenL h)
 | ((with_reducible apply go_st h); intro _ h)
 | ((with_reducible apply go_stA h); rfl; rfl; (first | rfl | simp [OneV.o]); intro _ h)
 | ((with_reducible apply go_stN h); rfl; (first | rfl | simp [OneV.o]); intro _ h)
 | ((with_reducible apply go_box h); rfl; intro _ _ h)
 | ((with_reducible apply go_ix h); omega)
 | ((with_reducible first | apply go_elN h | apply go_f1 h | apply go_rf1 h | apply go_rel h); (case hi => omega); (try case hx => exact inferInstance); (try case hv => rfl))
 | ((with_reducible apply go_fa h); omega; omega)
))
  refine go_some eb ?_
  refine eBox_sat h fun q w h => ?_
  simp only [cells_agg] at h
  refine go_some (rs.rd w (h.got)).len ?_
  unfold F12_2
  have ha : Sat w0 (OutA (ptr p) o :: OCl q { o with last := last, refused := refused, mark := last } (.map (some r1)) :: MapH kO ltV (.map (some r1)) [] :: L) w := outA_close (o := o) H ok0 (h.got)
  have hb : Sat w0 (OCl q { o with last := last, refused := refused, mark := last } (.map (some r1)) :: MapH kO ltV (.map (some r1)) [] :: OutA (ptr p) o :: L) w := ha.got
  refine oload_loop (o := { o with last := last, refused := refused, mark := last }) (L := OutA (ptr p) o :: L) (l := l) W hf hll (fun hn w h => ?_) (fun ds hd M w HM h => ?_) fuel 0 [] [] _ (by unfold fuel; omega) (by omega) rfl .nil hb
  · rw [hn] at hK
    exact hK _ h
  · rw [hd] at hK okl
    unfold F12_3 F12_3b
    obtain ⟨p2, m2, M2, e2, H2, ok2, h2⟩ := outA_open (h.frt (A := OutA (ptr p) o))
    cases e2
    clear h
    have h := h2
    clear h2
    refine go_some (rs.rd w (h.got)).len ?_
    simp only [] at hK okl
    by_cases g5 : o.most < (l.length : Int)
    · have g5' : decide ((l.length : Int) > o.most) = true := by simpa using g5
      rw [if_pos g5] at hK
      (repeat (first
 | (simp (disch := omega) only [evA, evB, evC, bAdd_i64, bSub_i64, g5'])
 | (with_reducible apply go_ld1 h)
 | ((with_reducible first | apply go_ldA h | apply go_rd h | apply go_rdN h | apply go_rlen h); rfl)
 | (with_reducible first | apply go_ldN h | apply go_lenL h)
 | ((with_reducible apply go_st h); intro _ h)
 | ((with_reducible apply go_stA h); rfl; rfl; (first | rfl | simp [OneV.o]); intro _ h)
 | ((with_reducible apply go_stN h); rfl; (first | rfl | simp [OneV.o]); intro _ h)
 | ((with_reducible apply go_box h); rfl; intro _ _ h)
 | ((with_reducible apply go_ix h); omega)
 | ((with_reducible first | apply go_elN h | apply go_f1 h | apply go_rf1 h | apply go_rel h); (case hi => omega); (try case hx => exact inferInstance); (try case hv => rfl))
 | ((with_reducible apply go_fa h); omega; omega)
))
      exact hK _ (outA_close (o := o) H2 ok2 (h.got))
    · have g5' : decide ((l.length : Int) > o.most) = false := by simp; omega
      rw [if_neg g5] at hK okl
      (repeat (first
 | (simp (disch := omega) only [evA, evB, evC, bAdd_i64, bSub_i64, g5'])
 | (with_reducible apply go_ld1 h)
 | ((with_reducible first | apply go_ldA h | apply go_rd h | apply go_rdN h | apply go_rlen h); rfl)
 | (with_reducible first | apply go_ldN h | apply go_lenL h)
 | ((with_reducible apply go_st h); intro _ h)
 | ((with_reducible apply go_stA h); rfl; rfl; (first | rfl | simp [OneV.o]); intro _ h)
 | ((with_reducible apply go_stN h); rfl; (first | rfl | simp [OneV.o]); intro _ h)
 | ((with_reducible apply go_box h); rfl; intro _ _ h)
 | ((with_reducible apply go_ix h); omega)
 | ((with_reducible first | apply go_elN h | apply go_f1 h | apply go_rf1 h | apply go_rel h); (case hi => omega); (try case hx => exact inferInstance); (try case hv => rfl))
 | ((with_reducible apply go_fa h); omega; omega)
))
      exact hK _ (outA_close (o := { o with last := last, refused := refused, mark := last, ls := ds.map freshL }) HM okl (h.got))
end
end Go.Proofs.Gong

/- Outbox3 -/
namespace Go.Proofs.Gong
open Go Go.Sx Go.Proofs
set_option linter.all false
set_option maxRecDepth 100000
variable {kn kr : ET} {ke : JT}
def T18 : List (Nat × FnT) := []
def F18 (x0 x1 x2 : Value) (w : World) (K : V1) : Prop :=
bindP (bLt x0 (.int .i64 1)) fun v1 =>
stepM (gd false v1) x0 fun v2 =>
Sx.stepG (gd false v1) (bGt v2 (.int .i64 65536)) fun v3 =>
bindP (pPick v1 (.bool true) v3) fun v4 =>
stepM (gd false v4) x1 fun v5 =>
Sx.stepG (gd false v4) (bLt v5 (.int .i64 1)) fun v6 =>
bindP (pPick v4 (.bool true) v6) fun v7 =>
stepM (gd false v7) x1 fun v8 =>
stepM (gd false v7) x2 fun v9 =>
Sx.stepG (gd false v7) (bGt v8 v9) fun v10 =>
bindP (pPick v7 (.bool true) v10) fun v11 =>
stepM (gd false v11) x2 fun v12 =>
Sx.stepG (gd false v11) (bGt v12 (.int .i64 144115188075855872)) fun v13 =>
bindP (pPick v11 (.bool true) v13) fun v14 =>
ifB v14 (
K (.tuple #[(.pointer none), (.int .i64 1)]) w) (
bindP (fBuild Tryd.prog 69 [(0, x0), (1, x1), (2, x2)]) fun v15 =>
eBox 69 v15 w fun v17 w16 =>
K (.tuple #[v17, (.int .i64 0)]) w16)
def G18 : FnT := fun args w K => on3 (fun x0 x1 x2 => F18 x0 x1 x2 w K) args
theorem c18 {x0 x1 x2 : Value} {w : World} {K : V1} (h : F18 x0 x1 x2 w K) : callP G18 [x0, x1, x2] w K := callP_intro (on3_mk (p := fun x0 x1 x2 => F18 x0 x1 x2 w K) h)
theorem ok18 : OkF Tryd.prog 18 G18 := by
  refine okF_of (tab_ok (l := T18) trivial) mixed (n := fuel) Tryd.func18 Tryd.call18 fun args w K h => ?_
  obtain ⟨x0, x1, x2, rfl, hh⟩ := of_on3 h
  exact fnD_list (c := bodyOf Tryd.f18) (by kernel_rfl) (by kernel_rfl) (Eq.mp (by kernel_rfl) hh)
def T31 : List (Nat × FnT) := []
def F31_3b (s3 : Value) (w : World) (K : V1) : Prop :=
K s3 w
def F31_3 (s3 : Value) (w : World) (K : V1) : Prop := F31_3b s3 w K
theorem ok31_3 {K : V1}
    (hn : HN (fun e w => K (e 2) w) kn) (hr : HR Tryd.prog [.tmp 2] K kr) (he : HE noE ke) :
    ∀ e w, F31_3 (e 3) w K → denL Tryd.prog (tabOf T31) 26 fuel ((flat (bodyOf Tryd.f31)).drop 4) e w kn kr ke := by
  intro e w h
  unfold F31_3 at h
  have e1 : ∀ (_ : Unit), F31_3b (e 3) w K = denL Tryd.prog (tabOf T31) 26 fuel ((flat (bodyOf Tryd.f31)).drop 4) e w (fun e w => K (e 2) w) (endD Tryd.prog [.tmp 2] K) noE := by intro _; kernel_rfl
  exact seg_end (Eq.mp (e1 ()) h) hn hr he
def F31_2b (s0 s3 s4 : Value) (w : World) (_K : V1) (Y0 : V3) (Y1 : V1) : Prop :=
bindP (pNil s0) fun v1 =>
bindP (pFieldAddr 6 v1) fun v2 =>
bindP (ld1 v2 w) fun v3 =>
bindP (lenL v3) fun v4 =>
bindP (bLt s4 v4) fun v5 =>
ifB v5 (
bindP (pNil s0) fun v6 =>
bindP (pFieldAddr 6 v6) fun v7 =>
bindP (ld1 v7 w) fun v8 =>
bindP (pIndexL 15 v8 s4) fun v9 =>
bindP (pFieldAddr 0 v9) fun v10 =>
bindP (ldN 13 v10 w) fun v11 =>
eBuildSl Tryd.prog 37 1 [(0, v11)] w fun v13 w12 =>
eAppend Tryd.prog 37 37 s3 v13 w12 fun v15 w14 =>
bindP (bAdd s4 (.int .i64 1)) fun v16 =>
Y0 s0 v15 v16 w14) (
Y1 s3 w)
def F31_2L : Nat → Value → Value → Value → World → (V1) → Prop
  | 0, _, _, _, _, _ => False
  | n + 1, s0, s3, s4, w, K => F31_2b s0 s3 s4 w K (fun a0 a3 a4 w => F31_2L n a0 a3 a4 w K) (fun a3 w => F31_3 a3 w K)
def F31_2 (s0 s3 s4 : Value) (w : World) (K : V1) : Prop := F31_2L fuel s0 s3 s4 w K
theorem ok31_2 {K : V1}
    (hn : HN (fun e w => K (e 2) w) kn) (hr : HR Tryd.prog [.tmp 2] K kr) (he : HE noE ke) :
    ∀ e w, F31_2 (e 0) (e 3) (e 4) w K → denL Tryd.prog (tabOf T31) 26 fuel ((flat (bodyOf Tryd.f31)).drop 3) e w kn kr ke := by
  intro e w h
  unfold F31_2 at h
  refine seg_loop (id := 0) (body := (loopB (blkB (nthC (flat (bodyOf Tryd.f31)) 3)))) (l2 := (flat (bodyOf Tryd.f31)).drop 4) (by kernel_rfl) ?_
  refine loop_ok (FL := fun m e w => F31_2L m (e 0) (e 3) (e 4) w K) (fr := endD Tryd.prog [.tmp 2] K) (fe := (blkK 0 (fun e w => F31_3 (e 3) w K) noE)) (fun _ _ h => h) ?_ hr (blkK_mono (fun e w h => ok31_3 hn hr he e w h) he) fuel e w h
  intro m e w h
  have h : F31_2L (m + 1) (e 0) (e 3) (e 4) w K := h
  rw [F31_2L] at h
  have e1 : ∀ (Y0 : V3) (Y1 : V1), F31_2b (e 0) (e 3) (e 4) w K Y0 Y1 = denL Tryd.prog (tabOf T31) 26 fuel (flat (loopB (blkB (nthC (flat (bodyOf Tryd.f31)) 3)))) e w (fun e w => Y0 (e 0) (e 3) (e 4) w) (endD Tryd.prog [.tmp 2] K) (blkK 0 (fun e w => Y1 (e 3) w) noE) := by intro Y0 Y1; kernel_rfl
  exact Eq.mp (e1 (fun a0 a3 a4 w => F31_2L m a0 a3 a4 w K) (fun a3 w => F31_3 a3 w K)) h
def F31_1b (s0 : Value) (w : World) (_K : V1) (Y0 : V3) : Prop :=
Y0 s0 (.slice none 0 0) (.int .i64 0) w
def F31_1 (s0 : Value) (w : World) (K : V1) : Prop := F31_1b s0 w K (fun a0 a3 a4 w => F31_2 a0 a3 a4 w K)
theorem ok31_1 {K : V1}
    (hn : HN (fun e w => K (e 2) w) kn) (hr : HR Tryd.prog [.tmp 2] K kr) (he : HE noE ke) :
    ∀ e w, F31_1 (e 0) w K → denL Tryd.prog (tabOf T31) 26 fuel ((flat (bodyOf Tryd.f31)).drop 0) e w kn kr ke := by
  intro e w h
  unfold F31_1 at h
  have e1 : ∀ (Y0 : V3), F31_1b (e 0) w K Y0 = denL Tryd.prog (tabOf T31) 26 fuel (((flat (bodyOf Tryd.f31)).drop 0).take 3) e w (fun e w => Y0 (e 0) (e 3) (e 4) w) (endD Tryd.prog [.tmp 2] K) noE := by intro Y0; kernel_rfl
  exact seg 3 (Eq.mp (e1 (fun a0 a3 a4 w => F31_2 a0 a3 a4 w K)) h) (fun e w h => ok31_2 hn hr he e w h) hr he
def F31 (x0 : Value) (w : World) (K : V1) : Prop := F31_1 x0 w K
def G31 : FnT := fun args w K => on1 (fun x0 => F31 x0 w K) args
theorem c31 {x0 : Value} {w : World} {K : V1} (h : F31 x0 w K) : callP G31 [x0] w K := callP_intro (on1_mk (p := fun x0 => F31 x0 w K) h)
theorem ok31 : OkF Tryd.prog 31 G31 := by
  refine okF_of (tab_ok (l := T31) trivial) mixed (n := fuel) Tryd.func31 Tryd.call31 fun args w K h => ?_
  obtain ⟨x0, rfl, hh⟩ := of_on1 h
  unfold F31 at hh
  exact fnD_list (c := bodyOf Tryd.f31) (by kernel_rfl) (by kernel_rfl) (ok31_1 (fun _ _ h => h) (fun _ _ h => h) (fun _ _ _ h => h) (initE [x0]) w hh)
def T34 : List (Nat × FnT) := []
def F34_3b (s4 s5 : Value) (w : World) (K : V1) : Prop :=
K (.tuple #[s4, s5]) w
def F34_3 (s4 s5 : Value) (w : World) (K : V1) : Prop := F34_3b s4 s5 w K
theorem ok34_3 {K : V1}
    (hn : HN (fun e w => K (.tuple #[(e 2), (e 3)]) w) kn) (hr : HR Tryd.prog [.tmp 2, .tmp 3] K kr) (he : HE noE ke) :
    ∀ e w, F34_3 (e 4) (e 5) w K → denL Tryd.prog (tabOf T34) 56 fuel ((flat (bodyOf Tryd.f34)).drop 4) e w kn kr ke := by
  intro e w h
  unfold F34_3 at h
  have e1 : ∀ (_ : Unit), F34_3b (e 4) (e 5) w K = denL Tryd.prog (tabOf T34) 56 fuel ((flat (bodyOf Tryd.f34)).drop 4) e w (fun e w => K (.tuple #[(e 2), (e 3)]) w) (endD Tryd.prog [.tmp 2, .tmp 3] K) noE := by intro _; kernel_rfl
  exact seg_end (Eq.mp (e1 ()) h) hn hr he
def F34_5b (s0 s4 s5 s6 : Value) (w : World) (_K : V1) (R3 : V4) : Prop :=
bindP (bAdd s6 (.int .i64 1)) fun v1 =>
R3 s0 s4 s5 v1 w
def F34_5 (s0 s4 s5 s6 : Value) (w : World) (K : V1) (R3 : V4) : Prop := F34_5b s0 s4 s5 s6 w K R3
theorem ok34_5 (R3 : V4) {K : V1}
    (hn : HN (fun e w => R3 (e 0) (e 4) (e 5) (e 6) w) kn) (hr : HR Tryd.prog [.tmp 2, .tmp 3] K kr) (he : HE (blkK 0 (fun e w => F34_3 (e 4) (e 5) w K) noE) ke) :
    ∀ e w, F34_5 (e 0) (e 4) (e 5) (e 6) w K R3 → denL Tryd.prog (tabOf T34) 56 fuel ((flat (loopB (blkB (nthC (flat (bodyOf Tryd.f34)) 3)))).drop 3) e w kn kr ke := by
  intro e w h
  unfold F34_5 at h
  have e1 : ∀ (_ : Unit), F34_5b (e 0) (e 4) (e 5) (e 6) w K R3 = denL Tryd.prog (tabOf T34) 56 fuel ((flat (loopB (blkB (nthC (flat (bodyOf Tryd.f34)) 3)))).drop 3) e w (fun e w => R3 (e 0) (e 4) (e 5) (e 6) w) (endD Tryd.prog [.tmp 2, .tmp 3] K) (blkK 0 (fun e w => F34_3 (e 4) (e 5) w K) noE) := by intro _; kernel_rfl
  exact seg_end (Eq.mp (e1 ()) h) hn hr he
def F34_4b (s0 s4 s5 s6 : Value) (w : World) (_K : V1) (R3 : V4) (Y0 : V4) (Y1 : V2) : Prop :=
bindP (pNil s0) fun v2 =>
bindP (pFieldAddr 6 v2) fun v3 =>
bindP (ld1 v3 w) fun v4 =>
bindP (lenL v4) fun v5 =>
bindP (bLt s6 v5) fun v6 =>
ifB v6 (
bindP (pNil s0) fun v7 =>
bindP (pFieldAddr 6 v7) fun v8 =>
bindP (ld1 v8 w.drew) fun v9 =>
bindP (pIndexL 15 v9 s6) fun v10 =>
bindP (pFieldAddr 0 v10) fun v11 =>
bindP (pFieldAddr 0 v11) fun v12 =>
bindP (ld1 v12 w.drew) fun v13 =>
bindP (pNil s0) fun v14 =>
bindP (pFieldAddr 5 v14) fun v15 =>
bindP (ld1 v15 w.drew) fun v16 =>
bindP (bLe v13 v16) fun v17 =>
stepM (gd true v17) s5 fun v18 =>
Sx.stepG (gd true v17) (uNot v18) fun v19 =>
stepM (gd true v17) v19 fun v20 =>
stepM (gd false v20) s0 fun v21 =>
Sx.stepG (gd false v20) (pNil v21) fun v22 =>
Sx.stepG (gd false v20) (pFieldAddr 6 v22) fun v23 =>
Sx.stepG (gd false v20) (ld1 v23 w.drew) fun v24 =>
stepM (gd false v20) s6 fun v25 =>
Sx.stepG (gd false v20) (pIndexL 15 v24 v25) fun v26 =>
Sx.stepG (gd false v20) (pFieldAddr 14 v26) fun v27 =>
Sx.stepG (gd false v20) (ld1 v27 w.drew) fun v28 =>
stepM (gd false v20) s4 fun v29 =>
Sx.stepG (gd false v20) (bLt v28 v29) fun v30 =>
Sx.stepG (gd true v17) (pPick v20 (.bool true) v30) fun v31 =>
bindP (pPick v17 v31 (.bool false)) fun v32 =>
ifB v32 (
bindP (pNil s0) fun v33 =>
bindP (pFieldAddr 6 v33) fun v34 =>
bindP (ld1 v34 w.drew) fun v35 =>
bindP (pIndexL 15 v35 s6) fun v36 =>
bindP (pFieldAddr 14 v36) fun v37 =>
bindP (ld1 v37 w.drew) fun v38 =>
Y0 s0 v38 (.bool true) s6 w.drew) (
Y0 s0 s4 s5 s6 w.drew)) (
Y1 s4 s5 w)
def F34_4 (s0 s4 s5 s6 : Value) (w : World) (K : V1) (R3 : V4) : Prop := F34_4b s0 s4 s5 s6 w K R3 (fun a0 a4 a5 a6 w => F34_5 a0 a4 a5 a6 w K R3) (fun a4 a5 w => F34_3 a4 a5 w K)
theorem ok34_4 (R3 : V4) {K : V1}
    (hn : HN (fun e w => R3 (e 0) (e 4) (e 5) (e 6) w) kn) (hr : HR Tryd.prog [.tmp 2, .tmp 3] K kr) (he : HE (blkK 0 (fun e w => F34_3 (e 4) (e 5) w K) noE) ke) :
    ∀ e w, F34_4 (e 0) (e 4) (e 5) (e 6) w K R3 → denL Tryd.prog (tabOf T34) 56 fuel ((flat (loopB (blkB (nthC (flat (bodyOf Tryd.f34)) 3)))).drop 0) e w kn kr ke := by
  intro e w h
  unfold F34_4 at h
  have e1 : ∀ (Y0 : V4) (Y1 : V2), F34_4b (e 0) (e 4) (e 5) (e 6) w K R3 Y0 Y1 = denL Tryd.prog (tabOf T34) 56 fuel (((flat (loopB (blkB (nthC (flat (bodyOf Tryd.f34)) 3)))).drop 0).take 3) e w (fun e w => Y0 (e 0) (e 4) (e 5) (e 6) w) (endD Tryd.prog [.tmp 2, .tmp 3] K) (blkK 0 (fun e w => Y1 (e 4) (e 5) w) noE) := by intro Y0 Y1; kernel_rfl
  exact seg 3 (Eq.mp (e1 (fun a0 a4 a5 a6 w => F34_5 a0 a4 a5 a6 w K R3) (fun a4 a5 w => F34_3 a4 a5 w K)) h) (fun e w h => ok34_5 R3 hn hr he e w h) hr he
def F34_2L : Nat → Value → Value → Value → Value → World → (V1) → Prop
  | 0, _, _, _, _, _, _ => False
  | n + 1, s0, s4, s5, s6, w, K => F34_4 s0 s4 s5 s6 w K (fun a0 a4 a5 a6 w => F34_2L n a0 a4 a5 a6 w K)
def F34_2 (s0 s4 s5 s6 : Value) (w : World) (K : V1) : Prop := F34_2L fuel s0 s4 s5 s6 w K
theorem ok34_2 {K : V1}
    (hn : HN (fun e w => K (.tuple #[(e 2), (e 3)]) w) kn) (hr : HR Tryd.prog [.tmp 2, .tmp 3] K kr) (he : HE noE ke) :
    ∀ e w, F34_2 (e 0) (e 4) (e 5) (e 6) w K → denL Tryd.prog (tabOf T34) 56 fuel ((flat (bodyOf Tryd.f34)).drop 3) e w kn kr ke := by
  intro e w h
  unfold F34_2 at h
  refine seg_loop (id := 0) (body := (loopB (blkB (nthC (flat (bodyOf Tryd.f34)) 3)))) (l2 := (flat (bodyOf Tryd.f34)).drop 4) (by kernel_rfl) ?_
  refine loop_ok (FL := fun m e w => F34_2L m (e 0) (e 4) (e 5) (e 6) w K) (fr := endD Tryd.prog [.tmp 2, .tmp 3] K) (fe := (blkK 0 (fun e w => F34_3 (e 4) (e 5) w K) noE)) (fun _ _ h => h) ?_ hr (blkK_mono (fun e w h => ok34_3 hn hr he e w h) he) fuel e w h
  intro m e w h
  have h : F34_2L (m + 1) (e 0) (e 4) (e 5) (e 6) w K := h
  rw [F34_2L] at h
  exact ok34_4 (fun a0 a4 a5 a6 w => F34_2L m a0 a4 a5 a6 w K) (fun _ _ h => h) (fun _ _ h => h) (fun _ _ _ h => h) e w h
def F34_1b (s0 : Value) (w : World) (_K : V1) (Y0 : V4) : Prop :=
Y0 s0 (.int .i64 0) (.bool false) (.int .i64 0) w
def F34_1 (s0 : Value) (w : World) (K : V1) : Prop := F34_1b s0 w K (fun a0 a4 a5 a6 w => F34_2 a0 a4 a5 a6 w K)
theorem ok34_1 {K : V1}
    (hn : HN (fun e w => K (.tuple #[(e 2), (e 3)]) w) kn) (hr : HR Tryd.prog [.tmp 2, .tmp 3] K kr) (he : HE noE ke) :
    ∀ e w, F34_1 (e 0) w K → denL Tryd.prog (tabOf T34) 56 fuel ((flat (bodyOf Tryd.f34)).drop 0) e w kn kr ke := by
  intro e w h
  unfold F34_1 at h
  have e1 : ∀ (Y0 : V4), F34_1b (e 0) w K Y0 = denL Tryd.prog (tabOf T34) 56 fuel (((flat (bodyOf Tryd.f34)).drop 0).take 3) e w (fun e w => Y0 (e 0) (e 4) (e 5) (e 6) w) (endD Tryd.prog [.tmp 2, .tmp 3] K) noE := by intro Y0; kernel_rfl
  exact seg 3 (Eq.mp (e1 (fun a0 a4 a5 a6 w => F34_2 a0 a4 a5 a6 w K)) h) (fun e w h => ok34_2 hn hr he e w h) hr he
def F34 (x0 : Value) (w : World) (K : V1) : Prop := F34_1 x0 w K
def G34 : FnT := fun args w K => on1 (fun x0 => F34 x0 w K) args
theorem c34 {x0 : Value} {w : World} {K : V1} (h : F34 x0 w K) : callP G34 [x0] w K := callP_intro (on1_mk (p := fun x0 => F34 x0 w K) h)
theorem ok34 : OkF Tryd.prog 34 G34 := by
  refine okF_of (tab_ok (l := T34) trivial) mixed (n := fuel) Tryd.func34 Tryd.call34 fun args w K h => ?_
  obtain ⟨x0, rfl, hh⟩ := of_on1 h
  unfold F34 at hh
  exact fnD_list (c := bodyOf Tryd.f34) (by kernel_rfl) (by kernel_rfl) (ok34_1 (fun _ _ h => h) (fun _ _ h => h) (fun _ _ _ h => h) (initE [x0]) w hh)
def T20 : List (Nat × FnT) := [(11, G11), (13, G13), (14, G14), (16, G16), (17, G17), (31, G31), (33, G33), (34, G34), (35, G35)]
def F20_3b (s0 s1 s5 s6 s7 s8 s10 : Value) (w : World) (K : V1) : Prop :=
stepM (gd true s10) s0 fun v1 =>
stepM (gd true s10) s1 fun v2 =>
stepE (gd true s10) (fun k => callP G11 [v1] w.drew k) w.drew fun v4 w3 =>
stepE (gd true s10) (fun k => callP G31 [v2] w3 k) w3 fun v6 w5 =>
stepE (gd true s10) (fun k => callP G16 [v4, v6] w5 k) w5 fun v8 w7 =>
bindP (pPick s10 v8 (.bool false)) fun v9 =>
stepM (gd true v9) s5 fun v10 =>
stepM (gd true v9) s7 fun v11 =>
Sx.stepG (gd true v9) (bEq Tryd.prog 3 (.tmp 47) (.tmp 48) v10 v11) fun v12 =>
bindP (pPick v9 v12 (.bool false)) fun v13 =>
stepM (gd true v13) s6 fun v14 =>
stepM (gd true v13) s8 fun v15 =>
Sx.stepG (gd true v13) (bEq Tryd.prog 4 (.tmp 52) (.tmp 53) v14 v15) fun v16 =>
bindP (pPick v13 v16 (.bool false)) fun v17 =>
stepM (gd true v17) s0 fun v18 =>
stepM (gd true v17) s1 fun v19 =>
Sx.stepG (gd true v17) (pNil v19) fun v20 =>
Sx.stepG (gd true v17) (pFieldAddr 6 v20) fun v21 =>
Sx.stepG (gd true v17) (ld1 v21 w7) fun v22 =>
Sx.stepG (gd true v17) (lenL v22) fun v23 =>
stepE (gd true v17) (fun k => callP G35 [v18] w7 k) w7 fun v25 w24 =>
(fok (gd true v17) (ld1 v21 w24) v22 ∧ fok (gd true v17) (lenL v22) v23) ∧ (Sx.stepG (gd true v17) (bEq Tryd.prog 3 (.tmp 58) (.tmp 63) v25 v23) fun v26 =>
bindP (pPick v17 v26 (.bool false)) fun v27 =>
stepM (gd true v27) s0 fun v28 =>
stepM (gd true v27) s1 fun v29 =>
Sx.stepG (gd true v27) (pNil v29) fun v30 =>
Sx.stepG (gd true v27) (pFieldAddr 3 v30) fun v31 =>
Sx.stepG (gd true v27) (ld1 v31 w24) fun v32 =>
stepE (gd true v27) (fun k => callP G13 [v28] w24 k) w24 fun v34 w33 =>
fok (gd true v27) (ld1 v31 w33) v32 ∧ (Sx.stepG (gd true v27) (bEq Tryd.prog 3 (.tmp 68) (.tmp 72) v34 v32) fun v35 =>
bindP (pPick v27 v35 (.bool false)) fun v36 =>
stepM (gd true v36) s0 fun v37 =>
stepM (gd true v36) s1 fun v38 =>
Sx.stepG (gd true v36) (pNil v38) fun v39 =>
Sx.stepG (gd true v36) (pFieldAddr 4 v39) fun v40 =>
Sx.stepG (gd true v36) (ld1 v40 w33) fun v41 =>
stepE (gd true v36) (fun k => callP G14 [v37] w33 k) w33 fun v43 w42 =>
fok (gd true v36) (ld1 v40 w42) v41 ∧ (Sx.stepG (gd true v36) (bEq Tryd.prog 3 (.tmp 77) (.tmp 81) v43 v41) fun v44 =>
bindP (pPick v36 v44 (.bool false)) fun v45 =>
stepM (gd true v45) s0 fun v46 =>
stepM (gd true v45) s1 fun v47 =>
Sx.stepG (gd true v45) (pNil v47) fun v48 =>
Sx.stepG (gd true v45) (pFieldAddr 5 v48) fun v49 =>
Sx.stepG (gd true v45) (ld1 v49 w42) fun v50 =>
stepE (gd true v45) (fun k => callP G17 [v46] w42 k) w42 fun v52 w51 =>
fok (gd true v45) (ld1 v49 w51) v50 ∧ (Sx.stepG (gd true v45) (bEq Tryd.prog 3 (.tmp 86) (.tmp 90) v52 v50) fun v53 =>
bindP (pPick v45 v53 (.bool false)) fun v54 =>
K v54 w51))))
def F20_3 (s0 s1 s5 s6 s7 s8 s10 : Value) (w : World) (K : V1) : Prop := F20_3b s0 s1 s5 s6 s7 s8 s10 w K
theorem ok20_3 {K : V1}
    (hn : HN (fun e w => K (e 4) w) kn) (hr : HR Tryd.prog [.tmp 4] K kr) (he : HE noE ke) :
    ∀ e w, F20_3 (e 0) (e 1) (e 5) (e 6) (e 7) (e 8) (e 10) w K → denL Tryd.prog (tabOf T20) 93 fuel ((flat (bodyOf Tryd.f20)).drop 7) e w kn kr ke := by
  intro e w h
  unfold F20_3 at h
  have e1 : ∀ (_ : Unit), F20_3b (e 0) (e 1) (e 5) (e 6) (e 7) (e 8) (e 10) w K = denL Tryd.prog (tabOf T20) 93 fuel ((flat (bodyOf Tryd.f20)).drop 7) e w (fun e w => K (e 4) w) (endD Tryd.prog [.tmp 4] K) noE := by intro _; kernel_rfl
  exact seg_end (Eq.mp (e1 ()) h) hn hr he
def F20_2b (s0 s1 s5 s6 s7 s8 s9 s10 s11 : Value) (w : World) (_K : V1) (Y0 : V9) (Y1 : V7) : Prop :=
bindP (lenL s9) fun v55 =>
bindP (bLt s11 v55) fun v56 =>
ifB v56 (
bindP (pIndexL 13 s9 s11) fun v57 =>
bindP (pFieldAddr 0 v57) fun v58 =>
bindW (st 1 v58 (.int .i64 (-3)) w) fun w59 =>
bindP (bAdd s11 (.int .i64 1)) fun v61 =>
Y0 s0 s1 s5 s6 s7 s8 s9 s10 v61 w59) (
Y1 s0 s1 s5 s6 s7 s8 s10 w)
def F20_2L : Nat → Value → Value → Value → Value → Value → Value → Value → Value → Value → World → (V1) → Prop
  | 0, _, _, _, _, _, _, _, _, _, _, _ => False
  | n + 1, s0, s1, s5, s6, s7, s8, s9, s10, s11, w, K => F20_2b s0 s1 s5 s6 s7 s8 s9 s10 s11 w K (fun a0 a1 a5 a6 a7 a8 a9 a10 a11 w => F20_2L n a0 a1 a5 a6 a7 a8 a9 a10 a11 w K) (fun a0 a1 a5 a6 a7 a8 a10 w => F20_3 a0 a1 a5 a6 a7 a8 a10 w K)
def F20_2 (s0 s1 s5 s6 s7 s8 s9 s10 s11 : Value) (w : World) (K : V1) : Prop := F20_2L fuel s0 s1 s5 s6 s7 s8 s9 s10 s11 w K
theorem ok20_2 {K : V1}
    (hn : HN (fun e w => K (e 4) w) kn) (hr : HR Tryd.prog [.tmp 4] K kr) (he : HE noE ke) :
    ∀ e w, F20_2 (e 0) (e 1) (e 5) (e 6) (e 7) (e 8) (e 9) (e 10) (e 11) w K → denL Tryd.prog (tabOf T20) 93 fuel ((flat (bodyOf Tryd.f20)).drop 6) e w kn kr ke := by
  intro e w h
  unfold F20_2 at h
  refine seg_loop (id := 0) (body := (loopB (blkB (nthC (flat (bodyOf Tryd.f20)) 6)))) (l2 := (flat (bodyOf Tryd.f20)).drop 7) (by kernel_rfl) ?_
  refine loop_ok (FL := fun m e w => F20_2L m (e 0) (e 1) (e 5) (e 6) (e 7) (e 8) (e 9) (e 10) (e 11) w K) (fr := endD Tryd.prog [.tmp 4] K) (fe := (blkK 0 (fun e w => F20_3 (e 0) (e 1) (e 5) (e 6) (e 7) (e 8) (e 10) w K) noE)) (fun _ _ h => h) ?_ hr (blkK_mono (fun e w h => ok20_3 hn hr he e w h) he) fuel e w h
  intro m e w h
  have h : F20_2L (m + 1) (e 0) (e 1) (e 5) (e 6) (e 7) (e 8) (e 9) (e 10) (e 11) w K := h
  rw [F20_2L] at h
  have e1 : ∀ (Y0 : V9) (Y1 : V7), F20_2b (e 0) (e 1) (e 5) (e 6) (e 7) (e 8) (e 9) (e 10) (e 11) w K Y0 Y1 = denL Tryd.prog (tabOf T20) 93 fuel (flat (loopB (blkB (nthC (flat (bodyOf Tryd.f20)) 6)))) e w (fun e w => Y0 (e 0) (e 1) (e 5) (e 6) (e 7) (e 8) (e 9) (e 10) (e 11) w) (endD Tryd.prog [.tmp 4] K) (blkK 0 (fun e w => Y1 (e 0) (e 1) (e 5) (e 6) (e 7) (e 8) (e 10) w) noE) := by intro Y0 Y1; kernel_rfl
  exact Eq.mp (e1 (fun a0 a1 a5 a6 a7 a8 a9 a10 a11 w => F20_2L m a0 a1 a5 a6 a7 a8 a9 a10 a11 w K) (fun a0 a1 a5 a6 a7 a8 a10 w => F20_3 a0 a1 a5 a6 a7 a8 a10 w K)) h
def F20_1b (s0 s1 : Value) (w : World) (_K : V1) (Y0 : V9) : Prop :=
callP G33 [s0] w fun v63 w62 =>
bindP (pTuple v63 0) fun v64 =>
bindP (pTuple v63 1) fun v65 =>
callP G34 [s1] w62 fun v67 w66 =>
bindP (pTuple v67 0) fun v68 =>
bindP (pTuple v67 1) fun v69 =>
callP G11 [s0] w66 fun v71 w70 =>
callP G31 [s1] w70 fun v73 w72 =>
callP G16 [v71, v73] w72 fun v75 w74 =>
Y0 s0 s1 v64 v65 v68 v69 v71 v75 (.int .i64 0) w74
def F20_1 (s0 s1 : Value) (w : World) (K : V1) : Prop := F20_1b s0 s1 w K (fun a0 a1 a5 a6 a7 a8 a9 a10 a11 w => F20_2 a0 a1 a5 a6 a7 a8 a9 a10 a11 w K)
theorem ok20_1 {K : V1}
    (hn : HN (fun e w => K (e 4) w) kn) (hr : HR Tryd.prog [.tmp 4] K kr) (he : HE noE ke) :
    ∀ e w, F20_1 (e 0) (e 1) w K → denL Tryd.prog (tabOf T20) 93 fuel ((flat (bodyOf Tryd.f20)).drop 0) e w kn kr ke := by
  intro e w h
  unfold F20_1 at h
  have e1 : ∀ (Y0 : V9), F20_1b (e 0) (e 1) w K Y0 = denL Tryd.prog (tabOf T20) 93 fuel (((flat (bodyOf Tryd.f20)).drop 0).take 6) e w (fun e w => Y0 (e 0) (e 1) (e 5) (e 6) (e 7) (e 8) (e 9) (e 10) (e 11) w) (endD Tryd.prog [.tmp 4] K) noE := by intro Y0; kernel_rfl
  exact seg 6 (Eq.mp (e1 (fun a0 a1 a5 a6 a7 a8 a9 a10 a11 w => F20_2 a0 a1 a5 a6 a7 a8 a9 a10 a11 w K)) h) (fun e w h => ok20_2 hn hr he e w h) hr he
def F20 (x0 x1 : Value) (w : World) (K : V1) : Prop := F20_1 x0 x1 w K
def G20 : FnT := fun args w K => on2 (fun x0 x1 => F20 x0 x1 w K) args
theorem c20 {x0 x1 : Value} {w : World} {K : V1} (h : F20 x0 x1 w K) : callP G20 [x0, x1] w K := callP_intro (on2_mk (p := fun x0 x1 => F20 x0 x1 w K) h)
theorem ok20 : OkF Tryd.prog 20 G20 := by
  refine okF_of (tab_ok (l := T20) ⟨ok11, ok13, ok14, ok16, ok17, ok31, ok33, ok34, ok35, trivial⟩) mixed (n := fuel) Tryd.func20 Tryd.call20 fun args w K h => ?_
  obtain ⟨x0, x1, rfl, hh⟩ := of_on2 h
  unfold F20 at hh
  exact fnD_list (c := bodyOf Tryd.f20) (by kernel_rfl) (by kernel_rfl) (ok20_1 (fun _ _ h => h) (fun _ _ h => h) (fun _ _ _ h => h) (initE [x0, x1]) w hh)
def T26 : List (Nat × FnT) := [(41, G41)]
def F26 (x0 x1 x2 : Value) (w : World) (K : V1) : Prop :=
eBox 33 x2 w fun v2 w1 =>
bindP (bLt x1 (.int .i64 1)) fun v3 =>
stepM (gd false v3) x1 fun v4 =>
Sx.stepG (gd false v3) (bGt v4 (.int .i64 5)) fun v5 =>
bindP (pPick v3 (.bool true) v5) fun v6 =>
Sx.stepG (gd false v6) (ldN 11 v2 w1) fun v7 =>
stepE (gd false v6) (fun k => callP G41 [v7] w1 k) w1 fun v9 w8 =>
Sx.stepG (gd false v6) (bNe Tryd.prog 24 (.tmp 16) (.const (.int .i64 0)) v9 (.int .i64 0)) fun v10 =>
bindP (pPick v6 (.bool true) v10) fun v11 =>
ifB v11 (
K (.tuple #[(.int .i64 0), (.int .i64 4)]) w8) (
bindP (pNil x0) fun v12 =>
bindP (pFieldAddr 6 v12) fun v13 =>
bindP (ld1 v13 w8.drew) fun v14 =>
bindP (lenL v14) fun v15 =>
bindP (pNil x0) fun v16 =>
bindP (pFieldAddr 0 v16) fun v17 =>
bindP (ld1 v17 w8.drew) fun v18 =>
bindP (bGe v15 v18) fun v19 =>
ifB v19 (
bindP (pNil x0) fun v20 =>
bindP (pFieldAddr 4 v20) fun v21 =>
bindP (ld1 v21 w8.drew) fun v22 =>
bindP (bAdd v22 (.int .i64 1)) fun v23 =>
bindP (pNil x0) fun v24 =>
bindP (pFieldAddr 4 v24) fun v25 =>
bindW (st 1 v25 v23 w8.drew) fun w26 =>
K (.tuple #[(.int .i64 0), (.int .i64 200)]) w26) (
bindP (pNil x0) fun v28 =>
bindP (pFieldAddr 3 v28) fun v29 =>
bindP (ld1 v29 w8.drew) fun v30 =>
bindP (bAdd v30 (.int .i64 1)) fun v31 =>
bindP (pNil x0) fun v32 =>
bindP (pFieldAddr 3 v32) fun v33 =>
bindW (st 1 v33 v31 w8.drew) fun w34 =>
bindP (pNil x0) fun v36 =>
bindP (pFieldAddr 6 v36) fun v37 =>
bindP (ld1 v37 w34.drew) fun v38 =>
bindP (pNil x0) fun v39 =>
bindP (pFieldAddr 3 v39) fun v40 =>
bindP (ld1 v40 w34.drew) fun v41 =>
bindP (ldN 11 v2 w34.drew) fun v42 =>
bindP (fBuild Tryd.prog 61 [(0, v41), (1, x1), (2, v42)]) fun v43 =>
bindP (fBuild Tryd.prog 71 [(0, v43)]) fun v44 =>
(eBuildSl Tryd.prog 67 0 [] w34.drew fun v46 w45 =>
(fok true (ld1 v37 w45) v38 ∧ fok true (ld1 v40 w45) v41 ∧ fok true (ldN 11 v2 w45) v42) ∧ ((eAppend Tryd.prog 67 67 v46 v38 w45 fun v48 w47 =>
(fok true (ld1 v40 w47) v41 ∧ fok true (ldN 11 v2 w47) v42) ∧ (eBuildSl Tryd.prog 67 1 [(0, v44)] w47 fun v50 w49 =>
fok true (ld1 v37 w49) v38 ∧ (eAppend Tryd.prog 67 67 v48 v50 w49 fun v52 w51 =>
bindP (pNil x0) fun v53 =>
bindP (pFieldAddr 6 v53) fun v54 =>
bindW (st 1 v54 v52 w51) fun w55 =>
bindP (pNil x0) fun v57 =>
bindP (pFieldAddr 3 v57) fun v58 =>
bindP (ld1 v58 w55) fun v59 =>
K (.tuple #[v59, (.int .i64 0)]) w55))) ∧ (eBuildSl Tryd.prog 67 1 [(0, v44)] w45 fun v61 w60 =>
fok true (ld1 v37 w60) v38 ∧ (eAppend Tryd.prog 67 67 v46 v38 w60 fun v63 w62 =>
(fok true (ld1 v40 w62) v41 ∧ fok true (ldN 11 v2 w62) v42) ∧ (eAppend Tryd.prog 67 67 v63 v61 w62 fun v65 w64 =>
bindP (pNil x0) fun v66 =>
bindP (pFieldAddr 6 v66) fun v67 =>
bindW (st 1 v67 v65 w64) fun w68 =>
bindP (pNil x0) fun v70 =>
bindP (pFieldAddr 3 v70) fun v71 =>
bindP (ld1 v71 w68) fun v72 =>
K (.tuple #[v72, (.int .i64 0)]) w68))))) ∧ (eBuildSl Tryd.prog 67 1 [(0, v44)] w34.drew fun v74 w73 =>
fok true (ld1 v37 w73) v38 ∧ (eBuildSl Tryd.prog 67 0 [] w73 fun v76 w75 =>
(fok true (ld1 v37 w75) v38 ∧ fok true (ld1 v40 w75) v41 ∧ fok true (ldN 11 v2 w75) v42) ∧ (eAppend Tryd.prog 67 67 v76 v38 w75 fun v78 w77 =>
(fok true (ld1 v40 w77) v41 ∧ fok true (ldN 11 v2 w77) v42) ∧ (eAppend Tryd.prog 67 67 v78 v74 w77 fun v80 w79 =>
bindP (pNil x0) fun v81 =>
bindP (pFieldAddr 6 v81) fun v82 =>
bindW (st 1 v82 v80 w79) fun w83 =>
bindP (pNil x0) fun v85 =>
bindP (pFieldAddr 3 v85) fun v86 =>
bindP (ld1 v86 w83) fun v87 =>
K (.tuple #[v87, (.int .i64 0)]) w83))))))
def G26 : FnT := fun args w K => on3 (fun x0 x1 x2 => F26 x0 x1 x2 w K) args
theorem c26 {x0 x1 x2 : Value} {w : World} {K : V1} (h : F26 x0 x1 x2 w K) : callP G26 [x0, x1, x2] w K := callP_intro (on3_mk (p := fun x0 x1 x2 => F26 x0 x1 x2 w K) h)
theorem ok26 : OkF Tryd.prog 26 G26 := by
  refine okF_of (tab_ok (l := T26) ⟨ok41, trivial⟩) mixed (n := fuel) Tryd.func26 Tryd.call26 fun args w K h => ?_
  obtain ⟨x0, x1, x2, rfl, hh⟩ := of_on3 h
  exact fnD_list (c := bodyOf Tryd.f26) (by kernel_rfl) (by kernel_rfl) (Eq.mp (by kernel_rfl) hh)
def T27 : List (Nat × FnT) := []
def F27_3b (s0 s5 : Value) (w : World) (K : V1) : Prop :=
bindP (lenL s5) fun v1 =>
bindP (pNil s0) fun v2 =>
bindP (pFieldAddr 6 v2) fun v3 =>
bindP (ld1 v3 w) fun v4 =>
bindP (lenL v4) fun v5 =>
bindP (bEq Tryd.prog 3 (.tmp 38) (.tmp 43) v1 v5) fun v6 =>
ifB v6 (
K (.int .i64 5) w) (
bindP (pNil s0) fun v7 =>
bindP (pFieldAddr 6 v7) fun v8 =>
bindW (st 1 v8 s5 w) fun w9 =>
K (.int .i64 0) w9)
def F27_3 (s0 s5 : Value) (w : World) (K : V1) : Prop := F27_3b s0 s5 w K
theorem ok27_3 {K : V1}
    (hn : HN (fun e w => K (e 4) w) kn) (hr : HR Tryd.prog [.tmp 4] K kr) (he : HE noE ke) :
    ∀ e w, F27_3 (e 0) (e 5) w K → denL Tryd.prog (tabOf T27) 49 fuel ((flat (bodyOf Tryd.f27)).drop 4) e w kn kr ke := by
  intro e w h
  unfold F27_3 at h
  have e1 : ∀ (_ : Unit), F27_3b (e 0) (e 5) w K = denL Tryd.prog (tabOf T27) 49 fuel ((flat (bodyOf Tryd.f27)).drop 4) e w (fun e w => K (e 4) w) (endD Tryd.prog [.tmp 4] K) noE := by intro _; kernel_rfl
  exact seg_end (Eq.mp (e1 ()) h) hn hr he
def F27_5b (s0 s1 s5 s6 : Value) (w : World) (_K : V1) (R3 : V4) : Prop :=
bindP (bAdd s6 (.int .i64 1)) fun v11 =>
R3 s0 s1 s5 v11 w
def F27_5 (s0 s1 s5 s6 : Value) (w : World) (K : V1) (R3 : V4) : Prop := F27_5b s0 s1 s5 s6 w K R3
theorem ok27_5 (R3 : V4) {K : V1}
    (hn : HN (fun e w => R3 (e 0) (e 1) (e 5) (e 6) w) kn) (hr : HR Tryd.prog [.tmp 4] K kr) (he : HE (blkK 0 (fun e w => F27_3 (e 0) (e 5) w K) noE) ke) :
    ∀ e w, F27_5 (e 0) (e 1) (e 5) (e 6) w K R3 → denL Tryd.prog (tabOf T27) 49 fuel ((flat (loopB (blkB (nthC (flat (bodyOf Tryd.f27)) 3)))).drop 3) e w kn kr ke := by
  intro e w h
  unfold F27_5 at h
  have e1 : ∀ (_ : Unit), F27_5b (e 0) (e 1) (e 5) (e 6) w K R3 = denL Tryd.prog (tabOf T27) 49 fuel ((flat (loopB (blkB (nthC (flat (bodyOf Tryd.f27)) 3)))).drop 3) e w (fun e w => R3 (e 0) (e 1) (e 5) (e 6) w) (endD Tryd.prog [.tmp 4] K) (blkK 0 (fun e w => F27_3 (e 0) (e 5) w K) noE) := by intro _; kernel_rfl
  exact seg_end (Eq.mp (e1 ()) h) hn hr he
def F27_4b (s0 s1 s5 s6 : Value) (w : World) (_K : V1) (R3 : V4) (Y0 : V4) (Y1 : V2) : Prop :=
bindP (pNil s0) fun v12 =>
bindP (pFieldAddr 6 v12) fun v13 =>
bindP (ld1 v13 w) fun v14 =>
bindP (lenL v14) fun v15 =>
bindP (bLt s6 v15) fun v16 =>
ifB v16 (
bindP (pNil s0) fun v17 =>
bindP (pFieldAddr 6 v17) fun v18 =>
bindP (ld1 v18 w) fun v19 =>
bindP (pIndexL 15 v19 s6) fun v20 =>
bindP (pFieldAddr 0 v20) fun v21 =>
bindP (pFieldAddr 0 v21) fun v22 =>
bindP (ld1 v22 w) fun v23 =>
bindP (bNe Tryd.prog 3 (.tmp 24) (.tmp 25) v23 s1) fun v24 =>
ifB v24 (
bindP (pNil s0) fun v25 =>
bindP (pFieldAddr 6 v25) fun v26 =>
bindP (ld1 v26 w) fun v27 =>
bindP (pIndexL 15 v27 s6) fun v28 =>
bindP (ldN 15 v28 w) fun v29 =>
eBuildSl Tryd.prog 67 1 [(0, v29)] w fun v31 w30 =>
eAppend Tryd.prog 67 67 s5 v31 w30 fun v33 w32 =>
Y0 s0 s1 v33 s6 w32) (
Y0 s0 s1 s5 s6 w)) (
Y1 s0 s5 w)
def F27_4 (s0 s1 s5 s6 : Value) (w : World) (K : V1) (R3 : V4) : Prop := F27_4b s0 s1 s5 s6 w K R3 (fun a0 a1 a5 a6 w => F27_5 a0 a1 a5 a6 w K R3) (fun a0 a5 w => F27_3 a0 a5 w K)
theorem ok27_4 (R3 : V4) {K : V1}
    (hn : HN (fun e w => R3 (e 0) (e 1) (e 5) (e 6) w) kn) (hr : HR Tryd.prog [.tmp 4] K kr) (he : HE (blkK 0 (fun e w => F27_3 (e 0) (e 5) w K) noE) ke) :
    ∀ e w, F27_4 (e 0) (e 1) (e 5) (e 6) w K R3 → denL Tryd.prog (tabOf T27) 49 fuel ((flat (loopB (blkB (nthC (flat (bodyOf Tryd.f27)) 3)))).drop 0) e w kn kr ke := by
  intro e w h
  unfold F27_4 at h
  have e1 : ∀ (Y0 : V4) (Y1 : V2), F27_4b (e 0) (e 1) (e 5) (e 6) w K R3 Y0 Y1 = denL Tryd.prog (tabOf T27) 49 fuel (((flat (loopB (blkB (nthC (flat (bodyOf Tryd.f27)) 3)))).drop 0).take 3) e w (fun e w => Y0 (e 0) (e 1) (e 5) (e 6) w) (endD Tryd.prog [.tmp 4] K) (blkK 0 (fun e w => Y1 (e 0) (e 5) w) noE) := by intro Y0 Y1; kernel_rfl
  exact seg 3 (Eq.mp (e1 (fun a0 a1 a5 a6 w => F27_5 a0 a1 a5 a6 w K R3) (fun a0 a5 w => F27_3 a0 a5 w K)) h) (fun e w h => ok27_5 R3 hn hr he e w h) hr he
def F27_2L : Nat → Value → Value → Value → Value → World → (V1) → Prop
  | 0, _, _, _, _, _, _ => False
  | n + 1, s0, s1, s5, s6, w, K => F27_4 s0 s1 s5 s6 w K (fun a0 a1 a5 a6 w => F27_2L n a0 a1 a5 a6 w K)
def F27_2 (s0 s1 s5 s6 : Value) (w : World) (K : V1) : Prop := F27_2L fuel s0 s1 s5 s6 w K
theorem ok27_2 {K : V1}
    (hn : HN (fun e w => K (e 4) w) kn) (hr : HR Tryd.prog [.tmp 4] K kr) (he : HE noE ke) :
    ∀ e w, F27_2 (e 0) (e 1) (e 5) (e 6) w K → denL Tryd.prog (tabOf T27) 49 fuel ((flat (bodyOf Tryd.f27)).drop 3) e w kn kr ke := by
  intro e w h
  unfold F27_2 at h
  refine seg_loop (id := 0) (body := (loopB (blkB (nthC (flat (bodyOf Tryd.f27)) 3)))) (l2 := (flat (bodyOf Tryd.f27)).drop 4) (by kernel_rfl) ?_
  refine loop_ok (FL := fun m e w => F27_2L m (e 0) (e 1) (e 5) (e 6) w K) (fr := endD Tryd.prog [.tmp 4] K) (fe := (blkK 0 (fun e w => F27_3 (e 0) (e 5) w K) noE)) (fun _ _ h => h) ?_ hr (blkK_mono (fun e w h => ok27_3 hn hr he e w h) he) fuel e w h
  intro m e w h
  have h : F27_2L (m + 1) (e 0) (e 1) (e 5) (e 6) w K := h
  rw [F27_2L] at h
  exact ok27_4 (fun a0 a1 a5 a6 w => F27_2L m a0 a1 a5 a6 w K) (fun _ _ h => h) (fun _ _ h => h) (fun _ _ _ h => h) e w h
def F27_1b (s0 s1 : Value) (w : World) (_K : V1) (Y0 : V4) : Prop :=
Y0 s0 s1 (.slice none 0 0) (.int .i64 0) w
def F27_1 (s0 s1 : Value) (w : World) (K : V1) : Prop := F27_1b s0 s1 w K (fun a0 a1 a5 a6 w => F27_2 a0 a1 a5 a6 w K)
theorem ok27_1 {K : V1}
    (hn : HN (fun e w => K (e 4) w) kn) (hr : HR Tryd.prog [.tmp 4] K kr) (he : HE noE ke) :
    ∀ e w, F27_1 (e 0) (e 1) w K → denL Tryd.prog (tabOf T27) 49 fuel ((flat (bodyOf Tryd.f27)).drop 0) e w kn kr ke := by
  intro e w h
  unfold F27_1 at h
  have e1 : ∀ (Y0 : V4), F27_1b (e 0) (e 1) w K Y0 = denL Tryd.prog (tabOf T27) 49 fuel (((flat (bodyOf Tryd.f27)).drop 0).take 3) e w (fun e w => Y0 (e 0) (e 1) (e 5) (e 6) w) (endD Tryd.prog [.tmp 4] K) noE := by intro Y0; kernel_rfl
  exact seg 3 (Eq.mp (e1 (fun a0 a1 a5 a6 w => F27_2 a0 a1 a5 a6 w K)) h) (fun e w h => ok27_2 hn hr he e w h) hr he
def F27 (x0 x1 : Value) (w : World) (K : V1) : Prop := F27_1 x0 x1 w K
def G27 : FnT := fun args w K => on2 (fun x0 x1 => F27 x0 x1 w K) args
theorem c27 {x0 x1 : Value} {w : World} {K : V1} (h : F27 x0 x1 w K) : callP G27 [x0, x1] w K := callP_intro (on2_mk (p := fun x0 x1 => F27 x0 x1 w K) h)
theorem ok27 : OkF Tryd.prog 27 G27 := by
  refine okF_of (tab_ok (l := T27) trivial) mixed (n := fuel) Tryd.func27 Tryd.call27 fun args w K h => ?_
  obtain ⟨x0, x1, rfl, hh⟩ := of_on2 h
  unfold F27 at hh
  exact fnD_list (c := bodyOf Tryd.f27) (by kernel_rfl) (by kernel_rfl) (ok27_1 (fun _ _ h => h) (fun _ _ h => h) (fun _ _ _ h => h) (initE [x0, x1]) w hh)
def T28 : List (Nat × FnT) := []
def F28 (x0 x1 : Value) (w : World) (K : V1) : Prop :=
bindP (pNil x0) fun v1 =>
bindP (pFieldAddr 5 v1) fun v2 =>
bindP (ld1 v2 w) fun v3 =>
bindP (bLt x1 v3) fun v4 =>
stepM (gd false v4) x1 fun v5 =>
stepM (gd false v4) x0 fun v6 =>
Sx.stepG (gd false v4) (pNil v6) fun v7 =>
Sx.stepG (gd false v4) (pFieldAddr 3 v7) fun v8 =>
Sx.stepG (gd false v4) (ld1 v8 w) fun v9 =>
Sx.stepG (gd false v4) (bGt v5 v9) fun v10 =>
bindP (pPick v4 (.bool true) v10) fun v11 =>
ifB v11 (
K (.int .i64 1) w) (
bindP (pNil x0) fun v12 =>
bindP (pFieldAddr 5 v12) fun v13 =>
bindW (st 1 v13 x1 w) fun w14 =>
K (.int .i64 0) w14)
def G28 : FnT := fun args w K => on2 (fun x0 x1 => F28 x0 x1 w K) args
theorem c28 {x0 x1 : Value} {w : World} {K : V1} (h : F28 x0 x1 w K) : callP G28 [x0, x1] w K := callP_intro (on2_mk (p := fun x0 x1 => F28 x0 x1 w K) h)
theorem ok28 : OkF Tryd.prog 28 G28 := by
  refine okF_of (tab_ok (l := T28) trivial) mixed (n := fuel) Tryd.func28 Tryd.call28 fun args w K h => ?_
  obtain ⟨x0, x1, rfl, hh⟩ := of_on2 h
  exact fnD_list (c := bodyOf Tryd.f28) (by kernel_rfl) (by kernel_rfl) (Eq.mp (by kernel_rfl) hh)
def T43 : List (Nat × FnT) := []
def F43_3b (s5 : Value) (w : World) (K : V1) : Prop :=
K s5 w
def F43_3 (s5 : Value) (w : World) (K : V1) : Prop := F43_3b s5 w K
theorem ok43_3 {K : V1}
    (hn : HN (fun e w => K (e 4) w) kn) (hr : HR Tryd.prog [.tmp 4] K kr) (he : HE noE ke) :
    ∀ e w, F43_3 (e 5) w K → denL Tryd.prog (tabOf T43) 32 fuel ((flat (bodyOf Tryd.f43)).drop 4) e w kn kr ke := by
  intro e w h
  unfold F43_3 at h
  have e1 : ∀ (_ : Unit), F43_3b (e 5) w K = denL Tryd.prog (tabOf T43) 32 fuel ((flat (bodyOf Tryd.f43)).drop 4) e w (fun e w => K (e 4) w) (endD Tryd.prog [.tmp 4] K) noE := by intro _; kernel_rfl
  exact seg_end (Eq.mp (e1 ()) h) hn hr he
def F43_2b (s0 s1 s5 s6 : Value) (w : World) (_K : V1) (Y0 : V4) (Y1 : V1) : Prop :=
bindP (bLt s6 s1) fun v1 =>
stepM (gd true v1) s5 fun v2 =>
stepM (gd true v1) s0 fun v3 =>
Sx.stepG (gd true v1) (pNil v3) fun v4 =>
Sx.stepG (gd true v1) (pFieldAddr 2 v4) fun v5 =>
Sx.stepG (gd true v1) (ld1 v5 w) fun v6 =>
Sx.stepG (gd true v1) (bLt v2 v6) fun v7 =>
bindP (pPick v1 v7 (.bool false)) fun v8 =>
ifB v8 (
bindP (bMul (.int .i64 2) s5) fun v9 =>
bindP (pNil s0) fun v10 =>
bindP (pFieldAddr 2 v10) fun v11 =>
bindP (ld1 v11 w) fun v12 =>
bindP (pMin v9 v12) fun v13 =>
bindP (bAdd s6 (.int .i64 1)) fun v14 =>
Y0 s0 s1 v13 v14 w) (
Y1 s5 w)
def F43_2L : Nat → Value → Value → Value → Value → World → (V1) → Prop
  | 0, _, _, _, _, _, _ => False
  | n + 1, s0, s1, s5, s6, w, K => F43_2b s0 s1 s5 s6 w K (fun a0 a1 a5 a6 w => F43_2L n a0 a1 a5 a6 w K) (fun a5 w => F43_3 a5 w K)
def F43_2 (s0 s1 s5 s6 : Value) (w : World) (K : V1) : Prop := F43_2L fuel s0 s1 s5 s6 w K
theorem ok43_2 {K : V1}
    (hn : HN (fun e w => K (e 4) w) kn) (hr : HR Tryd.prog [.tmp 4] K kr) (he : HE noE ke) :
    ∀ e w, F43_2 (e 0) (e 1) (e 5) (e 6) w K → denL Tryd.prog (tabOf T43) 32 fuel ((flat (bodyOf Tryd.f43)).drop 3) e w kn kr ke := by
  intro e w h
  unfold F43_2 at h
  refine seg_loop (id := 0) (body := (loopB (blkB (nthC (flat (bodyOf Tryd.f43)) 3)))) (l2 := (flat (bodyOf Tryd.f43)).drop 4) (by kernel_rfl) ?_
  refine loop_ok (FL := fun m e w => F43_2L m (e 0) (e 1) (e 5) (e 6) w K) (fr := endD Tryd.prog [.tmp 4] K) (fe := (blkK 0 (fun e w => F43_3 (e 5) w K) noE)) (fun _ _ h => h) ?_ hr (blkK_mono (fun e w h => ok43_3 hn hr he e w h) he) fuel e w h
  intro m e w h
  have h : F43_2L (m + 1) (e 0) (e 1) (e 5) (e 6) w K := h
  rw [F43_2L] at h
  have e1 : ∀ (Y0 : V4) (Y1 : V1), F43_2b (e 0) (e 1) (e 5) (e 6) w K Y0 Y1 = denL Tryd.prog (tabOf T43) 32 fuel (flat (loopB (blkB (nthC (flat (bodyOf Tryd.f43)) 3)))) e w (fun e w => Y0 (e 0) (e 1) (e 5) (e 6) w) (endD Tryd.prog [.tmp 4] K) (blkK 0 (fun e w => Y1 (e 5) w) noE) := by intro Y0 Y1; kernel_rfl
  exact Eq.mp (e1 (fun a0 a1 a5 a6 w => F43_2L m a0 a1 a5 a6 w K) (fun a5 w => F43_3 a5 w K)) h
def F43_1b (s0 s1 : Value) (w : World) (_K : V1) (Y0 : V4) : Prop :=
bindP (pNil s0) fun v15 =>
bindP (pFieldAddr 1 v15) fun v16 =>
bindP (ld1 v16 w) fun v17 =>
Y0 s0 s1 v17 (.int .i64 1) w
def F43_1 (s0 s1 : Value) (w : World) (K : V1) : Prop := F43_1b s0 s1 w K (fun a0 a1 a5 a6 w => F43_2 a0 a1 a5 a6 w K)
theorem ok43_1 {K : V1}
    (hn : HN (fun e w => K (e 4) w) kn) (hr : HR Tryd.prog [.tmp 4] K kr) (he : HE noE ke) :
    ∀ e w, F43_1 (e 0) (e 1) w K → denL Tryd.prog (tabOf T43) 32 fuel ((flat (bodyOf Tryd.f43)).drop 0) e w kn kr ke := by
  intro e w h
  unfold F43_1 at h
  have e1 : ∀ (Y0 : V4), F43_1b (e 0) (e 1) w K Y0 = denL Tryd.prog (tabOf T43) 32 fuel (((flat (bodyOf Tryd.f43)).drop 0).take 3) e w (fun e w => Y0 (e 0) (e 1) (e 5) (e 6) w) (endD Tryd.prog [.tmp 4] K) noE := by intro Y0; kernel_rfl
  exact seg 3 (Eq.mp (e1 (fun a0 a1 a5 a6 w => F43_2 a0 a1 a5 a6 w K)) h) (fun e w h => ok43_2 hn hr he e w h) hr he
def F43 (x0 x1 : Value) (w : World) (K : V1) : Prop := F43_1 x0 x1 w K
def G43 : FnT := fun args w K => on2 (fun x0 x1 => F43 x0 x1 w K) args
theorem c43 {x0 x1 : Value} {w : World} {K : V1} (h : F43 x0 x1 w K) : callP G43 [x0, x1] w K := callP_intro (on2_mk (p := fun x0 x1 => F43 x0 x1 w K) h)
theorem ok43 : OkF Tryd.prog 43 G43 := by
  refine okF_of (tab_ok (l := T43) trivial) mixed (n := fuel) Tryd.func43 Tryd.call43 fun args w K h => ?_
  obtain ⟨x0, x1, rfl, hh⟩ := of_on2 h
  unfold F43 at hh
  exact fnD_list (c := bodyOf Tryd.f43) (by kernel_rfl) (by kernel_rfl) (ok43_1 (fun _ _ h => h) (fun _ _ h => h) (fun _ _ _ h => h) (initE [x0, x1]) w hh)
def T29 : List (Nat × FnT) := [(42, G42), (43, G43)]
def F29_3b (s0 s6 s7 : Value) (w : World) (K : V1) : Prop :=
bindP (pNil s0) fun v1 =>
bindP (pFieldAddr 6 v1) fun v2 =>
bindW (st 1 v2 s7 w) fun w3 =>
K (.tuple #[s6, (.int .i64 0)]) w3
def F29_3 (s0 s6 s7 : Value) (w : World) (K : V1) : Prop := F29_3b s0 s6 s7 w K
theorem ok29_3 {K : V1}
    (hn : HN (fun e w => K (.tuple #[(e 4), (e 5)]) w) kn) (hr : HR Tryd.prog [.tmp 4, .tmp 5] K kr) (he : HE noE ke) :
    ∀ e w, F29_3 (e 0) (e 6) (e 7) w K → denL Tryd.prog (tabOf T29) 81 fuel ((flat (bodyOf Tryd.f29)).drop 7) e w kn kr ke := by
  intro e w h
  unfold F29_3 at h
  have e1 : ∀ (_ : Unit), F29_3b (e 0) (e 6) (e 7) w K = denL Tryd.prog (tabOf T29) 81 fuel ((flat (bodyOf Tryd.f29)).drop 7) e w (fun e w => K (.tuple #[(e 4), (e 5)]) w) (endD Tryd.prog [.tmp 4, .tmp 5] K) noE := by intro _; kernel_rfl
  exact seg_end (Eq.mp (e1 ()) h) hn hr he
def F29_5b (s0 s1 s6 s7 s8 : Value) (w : World) (_K : V1) (R3 : V5) : Prop :=
bindP (bAdd s8 (.int .i64 1)) fun v5 =>
R3 s0 s1 s6 s7 v5 w
def F29_5 (s0 s1 s6 s7 s8 : Value) (w : World) (K : V1) (R3 : V5) : Prop := F29_5b s0 s1 s6 s7 s8 w K R3
theorem ok29_5 (R3 : V5) {K : V1}
    (hn : HN (fun e w => R3 (e 0) (e 1) (e 6) (e 7) (e 8) w) kn) (hr : HR Tryd.prog [.tmp 4, .tmp 5] K kr) (he : HE (blkK 0 (fun e w => F29_3 (e 0) (e 6) (e 7) w K) noE) ke) :
    ∀ e w, F29_5 (e 0) (e 1) (e 6) (e 7) (e 8) w K R3 → denL Tryd.prog (tabOf T29) 81 fuel ((flat (loopB (blkB (nthC (flat (bodyOf Tryd.f29)) 6)))).drop 3) e w kn kr ke := by
  intro e w h
  unfold F29_5 at h
  have e1 : ∀ (_ : Unit), F29_5b (e 0) (e 1) (e 6) (e 7) (e 8) w K R3 = denL Tryd.prog (tabOf T29) 81 fuel ((flat (loopB (blkB (nthC (flat (bodyOf Tryd.f29)) 6)))).drop 3) e w (fun e w => R3 (e 0) (e 1) (e 6) (e 7) (e 8) w) (endD Tryd.prog [.tmp 4, .tmp 5] K) (blkK 0 (fun e w => F29_3 (e 0) (e 6) (e 7) w K) noE) := by intro _; kernel_rfl
  exact seg_end (Eq.mp (e1 ()) h) hn hr he
def F29_4b (s0 s1 s6 s7 s8 : Value) (w : World) (_K : V1) (R3 : V5) (Y0 : V5) (Y1 : V3) : Prop :=
bindP (lenL s7) fun v6 =>
bindP (bLt s8 v6) fun v7 =>
ifB v7 (
bindP (pIndexL 15 s7 s8) fun v8 =>
bindP (pFieldAddr 0 v8) fun v9 =>
bindP (pFieldAddr 0 v9) fun v10 =>
bindP (ld1 v10 w.drew) fun v11 =>
bindP (pNil s0) fun v12 =>
bindP (pFieldAddr 5 v12) fun v13 =>
bindP (ld1 v13 w.drew) fun v14 =>
bindP (bGt v11 v14) fun v15 =>
stepM (gd false v15) s7 fun v16 =>
stepM (gd false v15) s8 fun v17 =>
Sx.stepG (gd false v15) (pIndexL 15 v16 v17) fun v18 =>
Sx.stepG (gd false v15) (pFieldAddr 14 v18) fun v19 =>
Sx.stepG (gd false v15) (ld1 v19 w.drew) fun v20 =>
stepM (gd false v15) s1 fun v21 =>
Sx.stepG (gd false v15) (bGt v20 v21) fun v22 =>
bindP (pPick v15 (.bool true) v22) fun v23 =>
ifB v23 (
Y0 s0 s1 s6 s7 s8 w.drew) (
bindP (pIndexL 15 s7 s8) fun v24 =>
bindP (pFieldAddr 0 v24) fun v25 =>
bindP (ldN 13 v25 w.drew) fun v26 =>
eBuildSl Tryd.prog 37 1 [(0, v26)] w.drew fun v28 w27 =>
eAppend Tryd.prog 37 37 s6 v28 w27 fun v30 w29 =>
bindP (pIndexL 15 s7 s8) fun v31 =>
bindP (pFieldAddr 13 v31) fun v32 =>
bindP (ld1 v32 w29) fun v33 =>
bindP (bAdd v33 (.int .i64 1)) fun v34 =>
bindP (pIndexL 15 s7 s8) fun v35 =>
bindP (pFieldAddr 13 v35) fun v36 =>
bindW (st 1 v36 v34 w29) fun w37 =>
bindP (pIndexL 15 s7 s8) fun v39 =>
bindP (pFieldAddr 13 v39) fun v40 =>
bindP (ld1 v40 w37) fun v41 =>
callP G43 [s0, v41] w37 fun v43 w42 =>
bindP (bAdd s1 v43) fun v44 =>
bindP (pMin v44 (.int .i64 2305843009213693952)) fun v45 =>
bindP (pIndexL 15 s7 s8) fun v46 =>
bindP (pFieldAddr 14 v46) fun v47 =>
bindW (st 1 v47 v45 w42) fun w48 =>
Y0 s0 s1 v30 s7 s8 w48)) (
Y1 s0 s6 s7 w)
def F29_4 (s0 s1 s6 s7 s8 : Value) (w : World) (K : V1) (R3 : V5) : Prop := F29_4b s0 s1 s6 s7 s8 w K R3 (fun a0 a1 a6 a7 a8 w => F29_5 a0 a1 a6 a7 a8 w K R3) (fun a0 a6 a7 w => F29_3 a0 a6 a7 w K)
theorem ok29_4 (R3 : V5) {K : V1}
    (hn : HN (fun e w => R3 (e 0) (e 1) (e 6) (e 7) (e 8) w) kn) (hr : HR Tryd.prog [.tmp 4, .tmp 5] K kr) (he : HE (blkK 0 (fun e w => F29_3 (e 0) (e 6) (e 7) w K) noE) ke) :
    ∀ e w, F29_4 (e 0) (e 1) (e 6) (e 7) (e 8) w K R3 → denL Tryd.prog (tabOf T29) 81 fuel ((flat (loopB (blkB (nthC (flat (bodyOf Tryd.f29)) 6)))).drop 0) e w kn kr ke := by
  intro e w h
  unfold F29_4 at h
  have e1 : ∀ (Y0 : V5) (Y1 : V3), F29_4b (e 0) (e 1) (e 6) (e 7) (e 8) w K R3 Y0 Y1 = denL Tryd.prog (tabOf T29) 81 fuel (((flat (loopB (blkB (nthC (flat (bodyOf Tryd.f29)) 6)))).drop 0).take 3) e w (fun e w => Y0 (e 0) (e 1) (e 6) (e 7) (e 8) w) (endD Tryd.prog [.tmp 4, .tmp 5] K) (blkK 0 (fun e w => Y1 (e 0) (e 6) (e 7) w) noE) := by intro Y0 Y1; kernel_rfl
  exact seg 3 (Eq.mp (e1 (fun a0 a1 a6 a7 a8 w => F29_5 a0 a1 a6 a7 a8 w K R3) (fun a0 a6 a7 w => F29_3 a0 a6 a7 w K)) h) (fun e w h => ok29_5 R3 hn hr he e w h) hr he
def F29_2L : Nat → Value → Value → Value → Value → Value → World → (V1) → Prop
  | 0, _, _, _, _, _, _, _ => False
  | n + 1, s0, s1, s6, s7, s8, w, K => F29_4 s0 s1 s6 s7 s8 w K (fun a0 a1 a6 a7 a8 w => F29_2L n a0 a1 a6 a7 a8 w K)
def F29_2 (s0 s1 s6 s7 s8 : Value) (w : World) (K : V1) : Prop := F29_2L fuel s0 s1 s6 s7 s8 w K
theorem ok29_2 {K : V1}
    (hn : HN (fun e w => K (.tuple #[(e 4), (e 5)]) w) kn) (hr : HR Tryd.prog [.tmp 4, .tmp 5] K kr) (he : HE noE ke) :
    ∀ e w, F29_2 (e 0) (e 1) (e 6) (e 7) (e 8) w K → denL Tryd.prog (tabOf T29) 81 fuel ((flat (bodyOf Tryd.f29)).drop 6) e w kn kr ke := by
  intro e w h
  unfold F29_2 at h
  refine seg_loop (id := 0) (body := (loopB (blkB (nthC (flat (bodyOf Tryd.f29)) 6)))) (l2 := (flat (bodyOf Tryd.f29)).drop 7) (by kernel_rfl) ?_
  refine loop_ok (FL := fun m e w => F29_2L m (e 0) (e 1) (e 6) (e 7) (e 8) w K) (fr := endD Tryd.prog [.tmp 4, .tmp 5] K) (fe := (blkK 0 (fun e w => F29_3 (e 0) (e 6) (e 7) w K) noE)) (fun _ _ h => h) ?_ hr (blkK_mono (fun e w h => ok29_3 hn hr he e w h) he) fuel e w h
  intro m e w h
  have h : F29_2L (m + 1) (e 0) (e 1) (e 6) (e 7) (e 8) w K := h
  rw [F29_2L] at h
  exact ok29_4 (fun a0 a1 a6 a7 a8 w => F29_2L m a0 a1 a6 a7 a8 w K) (fun _ _ h => h) (fun _ _ h => h) (fun _ _ _ h => h) e w h
def F29_1b (s0 s1 : Value) (w : World) (K : V1) (Y0 : V5) : Prop :=
callP G42 [s1] w fun v51 w50 =>
bindP (uNot v51) fun v52 =>
ifB v52 (
K (.tuple #[(.slice none 0 0), (.int .i64 1)]) w50) (
eBuildSl Tryd.prog 67 0 [] w50 fun v54 w53 =>
bindP (pNil s0) fun v55 =>
bindP (pFieldAddr 6 v55) fun v56 =>
bindP (ld1 v56 w53) fun v57 =>
eAppend Tryd.prog 67 67 v54 v57 w53 fun v59 w58 =>
Y0 s0 s1 (.slice none 0 0) v59 (.int .i64 0) w58)
def F29_1 (s0 s1 : Value) (w : World) (K : V1) : Prop := F29_1b s0 s1 w K (fun a0 a1 a6 a7 a8 w => F29_2 a0 a1 a6 a7 a8 w K)
theorem ok29_1 {K : V1}
    (hn : HN (fun e w => K (.tuple #[(e 4), (e 5)]) w) kn) (hr : HR Tryd.prog [.tmp 4, .tmp 5] K kr) (he : HE noE ke) :
    ∀ e w, F29_1 (e 0) (e 1) w K → denL Tryd.prog (tabOf T29) 81 fuel ((flat (bodyOf Tryd.f29)).drop 0) e w kn kr ke := by
  intro e w h
  unfold F29_1 at h
  have e1 : ∀ (Y0 : V5), F29_1b (e 0) (e 1) w K Y0 = denL Tryd.prog (tabOf T29) 81 fuel (((flat (bodyOf Tryd.f29)).drop 0).take 6) e w (fun e w => Y0 (e 0) (e 1) (e 6) (e 7) (e 8) w) (endD Tryd.prog [.tmp 4, .tmp 5] K) noE := by intro Y0; kernel_rfl
  exact seg 6 (Eq.mp (e1 (fun a0 a1 a6 a7 a8 w => F29_2 a0 a1 a6 a7 a8 w K)) h) (fun e w h => ok29_2 hn hr he e w h) hr he
def F29 (x0 x1 : Value) (w : World) (K : V1) : Prop := F29_1 x0 x1 w K
def G29 : FnT := fun args w K => on2 (fun x0 x1 => F29 x0 x1 w K) args
theorem c29 {x0 x1 : Value} {w : World} {K : V1} (h : F29 x0 x1 w K) : callP G29 [x0, x1] w K := callP_intro (on2_mk (p := fun x0 x1 => F29 x0 x1 w K) h)
theorem ok29 : OkF Tryd.prog 29 G29 := by
  refine okF_of (tab_ok (l := T29) ⟨ok42, ok43, trivial⟩) mixed (n := fuel) Tryd.func29 Tryd.call29 fun args w K h => ?_
  obtain ⟨x0, x1, rfl, hh⟩ := of_on2 h
  unfold F29 at hh
  exact fnD_list (c := bodyOf Tryd.f29) (by kernel_rfl) (by kernel_rfl) (ok29_1 (fun _ _ h => h) (fun _ _ h => h) (fun _ _ _ h => h) (initE [x0, x1]) w hh)
def G52 : FnT := gClone
theorem ok52 : OkF Tryd.prog 52 G52 := okClone Tryd.func52 (by kernel_rfl) (by kernel_rfl) (by kernel_rfl) (by kernel_rfl)
def T44 : List (Nat × FnT) := [(52, G52)]
def F44 (x0 : Value) (w : World) (K : V1) : Prop :=
bindP (bEq Tryd.prog 55 (.tmp 3) (.const (.map none)) x0 (.map none)) fun v1 =>
ifB v1 (
K (.map none) w) (
bindP (fMkI Tryd.prog 55 x0) fun v2 =>
callP G52 [v2] w fun v4 w3 =>
bindP (fAssert Tryd.prog v4 55 false) fun v5 =>
K v5 w3)
def G44 : FnT := fun args w K => on1 (fun x0 => F44 x0 w K) args
theorem c44 {x0 : Value} {w : World} {K : V1} (h : F44 x0 w K) : callP G44 [x0] w K := callP_intro (on1_mk (p := fun x0 => F44 x0 w K) h)
theorem ok44 : OkF Tryd.prog 44 G44 := by
  refine okF_of (tab_ok (l := T44) ⟨ok52, trivial⟩) mixed (n := fuel) Tryd.func44 Tryd.call44 fun args w K h => ?_
  obtain ⟨x0, rfl, hh⟩ := of_on1 h
  exact fnD_list (c := bodyOf Tryd.f44) (by kernel_rfl) (by kernel_rfl) (Eq.mp (by kernel_rfl) hh)
def T30 : List (Nat × FnT) := [(44, G44)]
def F30 (x0 : Value) (w : World) (K : V1) : Prop :=
bindP (pNil x0) fun v1 =>
bindP (ldN 7 v1 w) fun v2 =>
eAlloc Tryd.prog 57 w fun v4 w3 =>
bindW (st 7 v4 v2 w3) fun w5 =>
bindP (pNil x0) fun v7 =>
bindP (pFieldAddr 6 v7) fun v8 =>
bindP (ld1 v8 w5) fun v9 =>
callP G44 [v9] w5 fun v11 w10 =>
bindP (pFieldAddr 6 v4) fun v12 =>
bindW (st 1 v12 v11 w10) fun w13 =>
K v4 w13
def G30 : FnT := fun args w K => on1 (fun x0 => F30 x0 w K) args
theorem c30 {x0 : Value} {w : World} {K : V1} (h : F30 x0 w K) : callP G30 [x0] w K := callP_intro (on1_mk (p := fun x0 => F30 x0 w K) h)
theorem ok30 : OkF Tryd.prog 30 G30 := by
  refine okF_of (tab_ok (l := T30) ⟨ok44, trivial⟩) mixed (n := fuel) Tryd.func30 Tryd.call30 fun args w K h => ?_
  obtain ⟨x0, rfl, hh⟩ := of_on1 h
  exact fnD_list (c := bodyOf Tryd.f30) (by kernel_rfl) (by kernel_rfl) (Eq.mp (by kernel_rfl) hh)
def T45 : List (Nat × FnT) := [(41, G41)]
def F45 (x0 : Value) (w : World) (K : V1) : Prop :=
eBox 61 x0 w fun v2 w1 =>
bindP (pFieldAddr 0 v2) fun v3 =>
bindP (ld1 v3 w1) fun v4 =>
bindP (bLt v4 (.int .i64 1)) fun v5 =>
Sx.stepG (gd false v5) (pFieldAddr 0 v2) fun v6 =>
Sx.stepG (gd false v5) (ld1 v6 w1) fun v7 =>
Sx.stepG (gd false v5) (bGt v7 (.int .i64 1152921504606846976)) fun v8 =>
bindP (pPick v5 (.bool true) v8) fun v9 =>
Sx.stepG (gd false v9) (pFieldAddr 1 v2) fun v10 =>
Sx.stepG (gd false v9) (ld1 v10 w1) fun v11 =>
Sx.stepG (gd false v9) (bLt v11 (.int .i64 1)) fun v12 =>
bindP (pPick v9 (.bool true) v12) fun v13 =>
Sx.stepG (gd false v13) (pFieldAddr 1 v2) fun v14 =>
Sx.stepG (gd false v13) (ld1 v14 w1) fun v15 =>
Sx.stepG (gd false v13) (bGt v15 (.int .i64 5)) fun v16 =>
bindP (pPick v13 (.bool true) v16) fun v17 =>
Sx.stepG (gd false v17) (pFieldAddr 2 v2) fun v18 =>
Sx.stepG (gd false v17) (ldN 11 v18 w1) fun v19 =>
stepE (gd false v17) (fun k => callP G41 [v19] w1 k) w1 fun v21 w20 =>
Sx.stepG (gd false v17) (bNe Tryd.prog 24 (.tmp 24) (.const (.int .i64 0)) v21 (.int .i64 0)) fun v22 =>
bindP (pPick v17 (.bool true) v22) fun v23 =>
ifB v23 (
K (.int .i64 230) w20) (
K (.int .i64 0) w20)
def G45 : FnT := fun args w K => on1 (fun x0 => F45 x0 w K) args
theorem c45 {x0 : Value} {w : World} {K : V1} (h : F45 x0 w K) : callP G45 [x0] w K := callP_intro (on1_mk (p := fun x0 => F45 x0 w K) h)
theorem ok45 : OkF Tryd.prog 45 G45 := by
  refine okF_of (tab_ok (l := T45) ⟨ok41, trivial⟩) mixed (n := fuel) Tryd.func45 Tryd.call45 fun args w K h => ?_
  obtain ⟨x0, rfl, hh⟩ := of_on1 h
  exact fnD_list (c := bodyOf Tryd.f45) (by kernel_rfl) (by kernel_rfl) (Eq.mp (by kernel_rfl) hh)
def T32 : List (Nat × FnT) := [(45, G45)]
def F32_3b (s0 s1 s2 s3 s9 : Value) (w : World) (K : V1) : Prop :=
bindP (lenL s1) fun v1 =>
bindP (pNil s0) fun v2 =>
bindP (pFieldAddr 0 v2) fun v3 =>
bindP (ld1 v3 w) fun v4 =>
bindP (bGt v1 v4) fun v5 =>
ifB v5 (
K (.int .i64 200) w) (
bindP (pNil s0) fun v6 =>
bindP (pFieldAddr 6 v6) fun v7 =>
bindW (st 1 v7 s9 w) fun w8 =>
bindP (pNil s0) fun v10 =>
bindP (pFieldAddr 3 v10) fun v11 =>
bindW (st 1 v11 s2 w8) fun w12 =>
bindP (pNil s0) fun v14 =>
bindP (pFieldAddr 4 v14) fun v15 =>
bindW (st 1 v15 s3 w12) fun w16 =>
bindP (pNil s0) fun v18 =>
bindP (pFieldAddr 5 v18) fun v19 =>
bindW (st 1 v19 s2 w16) fun w20 =>
K (.int .i64 0) w20)
def F32_3 (s0 s1 s2 s3 s9 : Value) (w : World) (K : V1) : Prop := F32_3b s0 s1 s2 s3 s9 w K
theorem ok32_3 {K : V1}
    (hn : HN (fun e w => K (e 8) w) kn) (hr : HR Tryd.prog [.tmp 8] K kr) (he : HE noE ke) :
    ∀ e w, F32_3 (e 0) (e 1) (e 2) (e 3) (e 9) w K → denL Tryd.prog (tabOf T32) 127 fuel ((flat (bodyOf Tryd.f32)).drop 6) e w kn kr ke := by
  intro e w h
  unfold F32_3 at h
  have e1 : ∀ (_ : Unit), F32_3b (e 0) (e 1) (e 2) (e 3) (e 9) w K = denL Tryd.prog (tabOf T32) 127 fuel ((flat (bodyOf Tryd.f32)).drop 6) e w (fun e w => K (e 8) w) (endD Tryd.prog [.tmp 8] K) noE := by intro _; kernel_rfl
  exact seg_end (Eq.mp (e1 ()) h) hn hr he
def F32_6b (s0 s1 s2 s3 s9 s10 : Value) (w : World) (_K : V1) (R3 : V6) : Prop :=
bindP (bAdd s10 (.int .i64 1)) fun v22 =>
R3 s0 s1 s2 s3 s9 v22 w
def F32_6 (s0 s1 s2 s3 s9 s10 : Value) (w : World) (K : V1) (R3 : V6) : Prop := F32_6b s0 s1 s2 s3 s9 s10 w K R3
theorem ok32_6 (R3 : V6) {K : V1}
    (hn : HN (fun e w => R3 (e 0) (e 1) (e 2) (e 3) (e 9) (e 10) w) kn) (hr : HR Tryd.prog [.tmp 8] K kr) (he : HE (blkK 0 (fun e w => F32_3 (e 0) (e 1) (e 2) (e 3) (e 9) w K) noE) ke) :
    ∀ e w, F32_6 (e 0) (e 1) (e 2) (e 3) (e 9) (e 10) w K R3 → denL Tryd.prog (tabOf T32) 127 fuel ((flat (loopB (blkB (nthC (flat (bodyOf Tryd.f32)) 5)))).drop 3) e w kn kr ke := by
  intro e w h
  unfold F32_6 at h
  have e1 : ∀ (_ : Unit), F32_6b (e 0) (e 1) (e 2) (e 3) (e 9) (e 10) w K R3 = denL Tryd.prog (tabOf T32) 127 fuel ((flat (loopB (blkB (nthC (flat (bodyOf Tryd.f32)) 5)))).drop 3) e w (fun e w => R3 (e 0) (e 1) (e 2) (e 3) (e 9) (e 10) w) (endD Tryd.prog [.tmp 8] K) (blkK 0 (fun e w => F32_3 (e 0) (e 1) (e 2) (e 3) (e 9) w K) noE) := by intro _; kernel_rfl
  exact seg_end (Eq.mp (e1 ()) h) hn hr he
def F32_9b (s0 s1 s2 s3 s9 s10 s11 : Value) (w : World) (K : V1) (R3 : V6) (Y0 : V6) : Prop :=
bindP (lenL s9) fun v23 =>
bindP (bLt s11 v23) fun v24 =>
stepM (gd true v24) s9 fun v25 =>
stepM (gd true v24) s11 fun v26 =>
Sx.stepG (gd true v24) (pIndexL 15 v25 v26) fun v27 =>
Sx.stepG (gd true v24) (pFieldAddr 0 v27) fun v28 =>
Sx.stepG (gd true v24) (pFieldAddr 0 v28) fun v29 =>
Sx.stepG (gd true v24) (ld1 v29 w.drew) fun v30 =>
stepM (gd true v24) s1 fun v31 =>
stepM (gd true v24) s10 fun v32 =>
Sx.stepG (gd true v24) (pIndexL 13 v31 v32) fun v33 =>
Sx.stepG (gd true v24) (pFieldAddr 0 v33) fun v34 =>
Sx.stepG (gd true v24) (ld1 v34 w.drew) fun v35 =>
Sx.stepG (gd true v24) (bEq Tryd.prog 3 (.tmp 78) (.tmp 83) v30 v35) fun v36 =>
bindP (pPick v24 v36 (.bool false)) fun v37 =>
ifB v37 (
K (.int .i64 4) w.drew) (
bindP (pSliceL 15 s9 none (some s11) none) fun v38 =>
eAppend Tryd.prog 67 67 (.slice none 0 0) v38 w.drew fun v40 w39 =>
bindP (pIndexL 13 s1 s10) fun v41 =>
bindP (ldN 13 v41 w39) fun v42 =>
bindP (fBuild Tryd.prog 71 [(0, v42)]) fun v43 =>
eBuildSl Tryd.prog 67 1 [(0, v43)] w39 fun v45 w44 =>
eAppend Tryd.prog 67 67 v40 v45 w44 fun v47 w46 =>
bindP (pSliceL 15 s9 (some s11) none none) fun v48 =>
eAppend Tryd.prog 67 67 v47 v48 w46 fun v50 w49 =>
Y0 s0 s1 s2 s3 v50 s10 w49)
def F32_9 (s0 s1 s2 s3 s9 s10 s11 : Value) (w : World) (K : V1) (R3 : V6) : Prop := F32_9b s0 s1 s2 s3 s9 s10 s11 w K R3 (fun a0 a1 a2 a3 a9 a10 w => F32_6 a0 a1 a2 a3 a9 a10 w K R3)
theorem ok32_9 (R3 : V6) {K : V1}
    (hn : HN (fun e w => F32_6 (e 0) (e 1) (e 2) (e 3) (e 9) (e 10) w K R3) kn) (hr : HR Tryd.prog [.tmp 8] K kr) (he : HE (blkK 1 (fun e w => F32_6 (e 0) (e 1) (e 2) (e 3) (e 9) (e 10) w K R3) (blkK 0 (fun e w => F32_3 (e 0) (e 1) (e 2) (e 3) (e 9) w K) noE)) ke) :
    ∀ e w, F32_9 (e 0) (e 1) (e 2) (e 3) (e 9) (e 10) (e 11) w K R3 → denL Tryd.prog (tabOf T32) 127 fuel ((flat (blkB (nthC (flat (loopB (blkB (nthC (flat (bodyOf Tryd.f32)) 5)))) 2))).drop 4) e w kn kr ke := by
  intro e w h
  unfold F32_9 at h
  have e1 : ∀ (Y0 : V6), F32_9b (e 0) (e 1) (e 2) (e 3) (e 9) (e 10) (e 11) w K R3 Y0 = denL Tryd.prog (tabOf T32) 127 fuel ((flat (blkB (nthC (flat (loopB (blkB (nthC (flat (bodyOf Tryd.f32)) 5)))) 2))).drop 4) e w (fun e w => Y0 (e 0) (e 1) (e 2) (e 3) (e 9) (e 10) w) (endD Tryd.prog [.tmp 8] K) (blkK 1 (fun e w => Y0 (e 0) (e 1) (e 2) (e 3) (e 9) (e 10) w) (blkK 0 (fun e w => F32_3 (e 0) (e 1) (e 2) (e 3) (e 9) w K) noE)) := by intro Y0; kernel_rfl
  exact seg_end (Eq.mp (e1 (fun a0 a1 a2 a3 a9 a10 w => F32_6 a0 a1 a2 a3 a9 a10 w K R3)) h) hn hr he
def F32_8b (s0 s1 s2 s3 s9 s10 s11 : Value) (w : World) (_K : V1) (R3 : V6) (Y0 : V7) (Y1 : V7) : Prop :=
bindP (lenL s9) fun v51 =>
bindP (bLt s11 v51) fun v52 =>
stepM (gd true v52) s9 fun v53 =>
stepM (gd true v52) s11 fun v54 =>
Sx.stepG (gd true v52) (pIndexL 15 v53 v54) fun v55 =>
Sx.stepG (gd true v52) (pFieldAddr 0 v55) fun v56 =>
Sx.stepG (gd true v52) (pFieldAddr 0 v56) fun v57 =>
Sx.stepG (gd true v52) (ld1 v57 w.drew) fun v58 =>
stepM (gd true v52) s1 fun v59 =>
stepM (gd true v52) s10 fun v60 =>
Sx.stepG (gd true v52) (pIndexL 13 v59 v60) fun v61 =>
Sx.stepG (gd true v52) (pFieldAddr 0 v61) fun v62 =>
Sx.stepG (gd true v52) (ld1 v62 w.drew) fun v63 =>
Sx.stepG (gd true v52) (bLt v58 v63) fun v64 =>
bindP (pPick v52 v64 (.bool false)) fun v65 =>
ifB v65 (
bindP (bAdd s11 (.int .i64 1)) fun v66 =>
Y0 s0 s1 s2 s3 s9 s10 v66 w.drew) (
Y1 s0 s1 s2 s3 s9 s10 s11 w.drew)
def F32_8L : Nat → Value → Value → Value → Value → Value → Value → Value → World → (V1) → (V6) → Prop
  | 0, _, _, _, _, _, _, _, _, _, _ => False
  | n + 1, s0, s1, s2, s3, s9, s10, s11, w, K, R3 => F32_8b s0 s1 s2 s3 s9 s10 s11 w K R3 (fun a0 a1 a2 a3 a9 a10 a11 w => F32_8L n a0 a1 a2 a3 a9 a10 a11 w K R3) (fun a0 a1 a2 a3 a9 a10 a11 w => F32_9 a0 a1 a2 a3 a9 a10 a11 w K R3)
def F32_8 (s0 s1 s2 s3 s9 s10 s11 : Value) (w : World) (K : V1) (R3 : V6) : Prop := F32_8L fuel s0 s1 s2 s3 s9 s10 s11 w K R3
theorem ok32_8 (R3 : V6) {K : V1}
    (hn : HN (fun e w => F32_6 (e 0) (e 1) (e 2) (e 3) (e 9) (e 10) w K R3) kn) (hr : HR Tryd.prog [.tmp 8] K kr) (he : HE (blkK 1 (fun e w => F32_6 (e 0) (e 1) (e 2) (e 3) (e 9) (e 10) w K R3) (blkK 0 (fun e w => F32_3 (e 0) (e 1) (e 2) (e 3) (e 9) w K) noE)) ke) :
    ∀ e w, F32_8 (e 0) (e 1) (e 2) (e 3) (e 9) (e 10) (e 11) w K R3 → denL Tryd.prog (tabOf T32) 127 fuel ((flat (blkB (nthC (flat (loopB (blkB (nthC (flat (bodyOf Tryd.f32)) 5)))) 2))).drop 3) e w kn kr ke := by
  intro e w h
  unfold F32_8 at h
  refine seg_loop (id := 2) (body := (loopB (blkB (nthC (flat (blkB (nthC (flat (loopB (blkB (nthC (flat (bodyOf Tryd.f32)) 5)))) 2))) 3)))) (l2 := (flat (blkB (nthC (flat (loopB (blkB (nthC (flat (bodyOf Tryd.f32)) 5)))) 2))).drop 4) (by kernel_rfl) ?_
  refine loop_ok (FL := fun m e w => F32_8L m (e 0) (e 1) (e 2) (e 3) (e 9) (e 10) (e 11) w K R3) (fr := endD Tryd.prog [.tmp 8] K) (fe := (blkK 2 (fun e w => F32_9 (e 0) (e 1) (e 2) (e 3) (e 9) (e 10) (e 11) w K R3) (blkK 1 (fun e w => F32_6 (e 0) (e 1) (e 2) (e 3) (e 9) (e 10) w K R3) (blkK 0 (fun e w => F32_3 (e 0) (e 1) (e 2) (e 3) (e 9) w K) noE)))) (fun _ _ h => h) ?_ hr (blkK_mono (fun e w h => ok32_9 R3 hn hr he e w h) he) fuel e w h
  intro m e w h
  have h : F32_8L (m + 1) (e 0) (e 1) (e 2) (e 3) (e 9) (e 10) (e 11) w K R3 := h
  rw [F32_8L] at h
  have e1 : ∀ (Y0 : V7) (Y1 : V7), F32_8b (e 0) (e 1) (e 2) (e 3) (e 9) (e 10) (e 11) w K R3 Y0 Y1 = denL Tryd.prog (tabOf T32) 127 fuel (flat (loopB (blkB (nthC (flat (blkB (nthC (flat (loopB (blkB (nthC (flat (bodyOf Tryd.f32)) 5)))) 2))) 3)))) e w (fun e w => Y0 (e 0) (e 1) (e 2) (e 3) (e 9) (e 10) (e 11) w) (endD Tryd.prog [.tmp 8] K) (blkK 2 (fun e w => Y1 (e 0) (e 1) (e 2) (e 3) (e 9) (e 10) (e 11) w) (blkK 1 (fun e w => F32_6 (e 0) (e 1) (e 2) (e 3) (e 9) (e 10) w K R3) (blkK 0 (fun e w => F32_3 (e 0) (e 1) (e 2) (e 3) (e 9) w K) noE))) := by intro Y0 Y1; kernel_rfl
  exact Eq.mp (e1 (fun a0 a1 a2 a3 a9 a10 a11 w => F32_8L m a0 a1 a2 a3 a9 a10 a11 w K R3) (fun a0 a1 a2 a3 a9 a10 a11 w => F32_9 a0 a1 a2 a3 a9 a10 a11 w K R3)) h
def F32_7b (s0 s1 s2 s3 s9 s10 : Value) (w : World) (K : V1) (R3 : V6) (Y0 : V7) : Prop :=
bindP (pIndexL 13 s1 s10) fun v67 =>
bindP (ldN 13 v67 w) fun v68 =>
callP G45 [v68] w fun v70 w69 =>
bindP (bNe Tryd.prog 24 (.tmp 37) (.const (.int .i64 0)) v70 (.int .i64 0)) fun v71 =>
stepM (gd false v71) s1 fun v72 =>
stepM (gd false v71) s10 fun v73 =>
Sx.stepG (gd false v71) (pIndexL 13 v72 v73) fun v74 =>
Sx.stepG (gd false v71) (pFieldAddr 0 v74) fun v75 =>
Sx.stepG (gd false v71) (ld1 v75 w69) fun v76 =>
stepM (gd false v71) s2 fun v77 =>
Sx.stepG (gd false v71) (bGt v76 v77) fun v78 =>
bindP (pPick v71 (.bool true) v78) fun v79 =>
ifB v79 (
K (.int .i64 4) w69) (
Y0 s0 s1 s2 s3 s9 s10 (.int .i64 0) w69)
def F32_7 (s0 s1 s2 s3 s9 s10 : Value) (w : World) (K : V1) (R3 : V6) : Prop := F32_7b s0 s1 s2 s3 s9 s10 w K R3 (fun a0 a1 a2 a3 a9 a10 a11 w => F32_8 a0 a1 a2 a3 a9 a10 a11 w K R3)
theorem ok32_7 (R3 : V6) {K : V1}
    (hn : HN (fun e w => F32_6 (e 0) (e 1) (e 2) (e 3) (e 9) (e 10) w K R3) kn) (hr : HR Tryd.prog [.tmp 8] K kr) (he : HE (blkK 1 (fun e w => F32_6 (e 0) (e 1) (e 2) (e 3) (e 9) (e 10) w K R3) (blkK 0 (fun e w => F32_3 (e 0) (e 1) (e 2) (e 3) (e 9) w K) noE)) ke) :
    ∀ e w, F32_7 (e 0) (e 1) (e 2) (e 3) (e 9) (e 10) w K R3 → denL Tryd.prog (tabOf T32) 127 fuel ((flat (blkB (nthC (flat (loopB (blkB (nthC (flat (bodyOf Tryd.f32)) 5)))) 2))).drop 0) e w kn kr ke := by
  intro e w h
  unfold F32_7 at h
  have e1 : ∀ (Y0 : V7), F32_7b (e 0) (e 1) (e 2) (e 3) (e 9) (e 10) w K R3 Y0 = denL Tryd.prog (tabOf T32) 127 fuel (((flat (blkB (nthC (flat (loopB (blkB (nthC (flat (bodyOf Tryd.f32)) 5)))) 2))).drop 0).take 3) e w (fun e w => Y0 (e 0) (e 1) (e 2) (e 3) (e 9) (e 10) (e 11) w) (endD Tryd.prog [.tmp 8] K) (blkK 1 (fun e w => F32_6 (e 0) (e 1) (e 2) (e 3) (e 9) (e 10) w K R3) (blkK 0 (fun e w => F32_3 (e 0) (e 1) (e 2) (e 3) (e 9) w K) noE)) := by intro Y0; kernel_rfl
  exact seg 3 (Eq.mp (e1 (fun a0 a1 a2 a3 a9 a10 a11 w => F32_8 a0 a1 a2 a3 a9 a10 a11 w K R3)) h) (fun e w h => ok32_8 R3 hn hr he e w h) hr he
def F32_5 (s0 s1 s2 s3 s9 s10 : Value) (w : World) (K : V1) (R3 : V6) : Prop := F32_7 s0 s1 s2 s3 s9 s10 w K R3
theorem ok32_5 (R3 : V6) {K : V1}
    (hn : HN (fun e w => R3 (e 0) (e 1) (e 2) (e 3) (e 9) (e 10) w) kn) (hr : HR Tryd.prog [.tmp 8] K kr) (he : HE (blkK 0 (fun e w => F32_3 (e 0) (e 1) (e 2) (e 3) (e 9) w K) noE) ke) :
    ∀ e w, F32_5 (e 0) (e 1) (e 2) (e 3) (e 9) (e 10) w K R3 → denL Tryd.prog (tabOf T32) 127 fuel ((flat (loopB (blkB (nthC (flat (bodyOf Tryd.f32)) 5)))).drop 2) e w kn kr ke := by
  intro e w h
  unfold F32_5 at h
  refine seg_block (id := 1) (body := (blkB (nthC (flat (loopB (blkB (nthC (flat (bodyOf Tryd.f32)) 5)))) 2))) (l2 := (flat (loopB (blkB (nthC (flat (bodyOf Tryd.f32)) 5)))).drop 3) (by kernel_rfl) ?_
  exact ok32_7 R3 (fun e w h => ok32_6 R3 hn hr he e w h) hr (blkK_mono (fun e w h => ok32_6 R3 hn hr he e w h) he) e w h
def F32_4b (s0 s1 s2 s3 s9 s10 : Value) (w : World) (_K : V1) (R3 : V6) (Y0 : V6) (Y1 : V5) : Prop :=
bindP (lenL s1) fun v80 =>
bindP (bLt s10 v80) fun v81 =>
ifB v81 (
Y0 s0 s1 s2 s3 s9 s10 w) (
Y1 s0 s1 s2 s3 s9 w)
def F32_4 (s0 s1 s2 s3 s9 s10 : Value) (w : World) (K : V1) (R3 : V6) : Prop := F32_4b s0 s1 s2 s3 s9 s10 w K R3 (fun a0 a1 a2 a3 a9 a10 w => F32_5 a0 a1 a2 a3 a9 a10 w K R3) (fun a0 a1 a2 a3 a9 w => F32_3 a0 a1 a2 a3 a9 w K)
theorem ok32_4 (R3 : V6) {K : V1}
    (hn : HN (fun e w => R3 (e 0) (e 1) (e 2) (e 3) (e 9) (e 10) w) kn) (hr : HR Tryd.prog [.tmp 8] K kr) (he : HE (blkK 0 (fun e w => F32_3 (e 0) (e 1) (e 2) (e 3) (e 9) w K) noE) ke) :
    ∀ e w, F32_4 (e 0) (e 1) (e 2) (e 3) (e 9) (e 10) w K R3 → denL Tryd.prog (tabOf T32) 127 fuel ((flat (loopB (blkB (nthC (flat (bodyOf Tryd.f32)) 5)))).drop 0) e w kn kr ke := by
  intro e w h
  unfold F32_4 at h
  have e1 : ∀ (Y0 : V6) (Y1 : V5), F32_4b (e 0) (e 1) (e 2) (e 3) (e 9) (e 10) w K R3 Y0 Y1 = denL Tryd.prog (tabOf T32) 127 fuel (((flat (loopB (blkB (nthC (flat (bodyOf Tryd.f32)) 5)))).drop 0).take 2) e w (fun e w => Y0 (e 0) (e 1) (e 2) (e 3) (e 9) (e 10) w) (endD Tryd.prog [.tmp 8] K) (blkK 0 (fun e w => Y1 (e 0) (e 1) (e 2) (e 3) (e 9) w) noE) := by intro Y0 Y1; kernel_rfl
  exact seg 2 (Eq.mp (e1 (fun a0 a1 a2 a3 a9 a10 w => F32_5 a0 a1 a2 a3 a9 a10 w K R3) (fun a0 a1 a2 a3 a9 w => F32_3 a0 a1 a2 a3 a9 w K)) h) (fun e w h => ok32_5 R3 hn hr he e w h) hr he
def F32_2L : Nat → Value → Value → Value → Value → Value → Value → World → (V1) → Prop
  | 0, _, _, _, _, _, _, _, _ => False
  | n + 1, s0, s1, s2, s3, s9, s10, w, K => F32_4 s0 s1 s2 s3 s9 s10 w K (fun a0 a1 a2 a3 a9 a10 w => F32_2L n a0 a1 a2 a3 a9 a10 w K)
def F32_2 (s0 s1 s2 s3 s9 s10 : Value) (w : World) (K : V1) : Prop := F32_2L fuel s0 s1 s2 s3 s9 s10 w K
theorem ok32_2 {K : V1}
    (hn : HN (fun e w => K (e 8) w) kn) (hr : HR Tryd.prog [.tmp 8] K kr) (he : HE noE ke) :
    ∀ e w, F32_2 (e 0) (e 1) (e 2) (e 3) (e 9) (e 10) w K → denL Tryd.prog (tabOf T32) 127 fuel ((flat (bodyOf Tryd.f32)).drop 5) e w kn kr ke := by
  intro e w h
  unfold F32_2 at h
  refine seg_loop (id := 0) (body := (loopB (blkB (nthC (flat (bodyOf Tryd.f32)) 5)))) (l2 := (flat (bodyOf Tryd.f32)).drop 6) (by kernel_rfl) ?_
  refine loop_ok (FL := fun m e w => F32_2L m (e 0) (e 1) (e 2) (e 3) (e 9) (e 10) w K) (fr := endD Tryd.prog [.tmp 8] K) (fe := (blkK 0 (fun e w => F32_3 (e 0) (e 1) (e 2) (e 3) (e 9) w K) noE)) (fun _ _ h => h) ?_ hr (blkK_mono (fun e w h => ok32_3 hn hr he e w h) he) fuel e w h
  intro m e w h
  have h : F32_2L (m + 1) (e 0) (e 1) (e 2) (e 3) (e 9) (e 10) w K := h
  rw [F32_2L] at h
  exact ok32_4 (fun a0 a1 a2 a3 a9 a10 w => F32_2L m a0 a1 a2 a3 a9 a10 w K) (fun _ _ h => h) (fun _ _ h => h) (fun _ _ _ h => h) e w h
def F32_1b (s0 s1 s2 s3 : Value) (w : World) (K : V1) (Y0 : V6) : Prop :=
bindP (bLt s2 (.int .i64 0)) fun v82 =>
stepM (gd false v82) s2 fun v83 =>
Sx.stepG (gd false v82) (bGt v83 (.int .i64 1152921504606846976)) fun v84 =>
bindP (pPick v82 (.bool true) v84) fun v85 =>
stepM (gd false v85) s3 fun v86 =>
Sx.stepG (gd false v85) (bLt v86 (.int .i64 0)) fun v87 =>
bindP (pPick v85 (.bool true) v87) fun v88 =>
stepM (gd false v88) s3 fun v89 =>
Sx.stepG (gd false v88) (bGt v89 (.int .i64 1152921504606846976)) fun v90 =>
bindP (pPick v88 (.bool true) v90) fun v91 =>
ifB v91 (
K (.int .i64 4) w) (
Y0 s0 s1 s2 s3 (.slice none 0 0) (.int .i64 0) w)
def F32_1 (s0 s1 s2 s3 : Value) (w : World) (K : V1) : Prop := F32_1b s0 s1 s2 s3 w K (fun a0 a1 a2 a3 a9 a10 w => F32_2 a0 a1 a2 a3 a9 a10 w K)
theorem ok32_1 {K : V1}
    (hn : HN (fun e w => K (e 8) w) kn) (hr : HR Tryd.prog [.tmp 8] K kr) (he : HE noE ke) :
    ∀ e w, F32_1 (e 0) (e 1) (e 2) (e 3) w K → denL Tryd.prog (tabOf T32) 127 fuel ((flat (bodyOf Tryd.f32)).drop 0) e w kn kr ke := by
  intro e w h
  unfold F32_1 at h
  have e1 : ∀ (Y0 : V6), F32_1b (e 0) (e 1) (e 2) (e 3) w K Y0 = denL Tryd.prog (tabOf T32) 127 fuel (((flat (bodyOf Tryd.f32)).drop 0).take 5) e w (fun e w => Y0 (e 0) (e 1) (e 2) (e 3) (e 9) (e 10) w) (endD Tryd.prog [.tmp 8] K) noE := by intro Y0; kernel_rfl
  exact seg 5 (Eq.mp (e1 (fun a0 a1 a2 a3 a9 a10 w => F32_2 a0 a1 a2 a3 a9 a10 w K)) h) (fun e w h => ok32_2 hn hr he e w h) hr he
def F32 (x0 x1 x2 x3 : Value) (w : World) (K : V1) : Prop := F32_1 x0 x1 x2 x3 w K
def G32 : FnT := fun args w K => on4 (fun x0 x1 x2 x3 => F32 x0 x1 x2 x3 w K) args
theorem c32 {x0 x1 x2 x3 : Value} {w : World} {K : V1} (h : F32 x0 x1 x2 x3 w K) : callP G32 [x0, x1, x2, x3] w K := callP_intro (on4_mk (p := fun x0 x1 x2 x3 => F32 x0 x1 x2 x3 w K) h)
theorem ok32 : OkF Tryd.prog 32 G32 := by
  refine okF_of (tab_ok (l := T32) ⟨ok45, trivial⟩) mixed (n := fuel) Tryd.func32 Tryd.call32 fun args w K h => ?_
  obtain ⟨x0, x1, x2, x3, rfl, hh⟩ := of_on4 h
  unfold F32 at hh
  exact fnD_list (c := bodyOf Tryd.f32) (by kernel_rfl) (by kernel_rfl) (ok32_1 (fun _ _ h => h) (fun _ _ h => h) (fun _ _ _ h => h) (initE [x0, x1, x2, x3]) w hh)
def T19 : List (Nat × FnT) := [(7, G7), (9, G9), (10, G10), (12, G12), (13, G13), (15, G15), (16, G16), (20, G20), (21, G21), (26, G26), (27, G27), (28, G28), (29, G29), (30, G30), (31, G31), (32, G32)]
def F19_5b (s0 s1 s5 : Value) (w : World) (K : V1) : Prop :=
bindP (pFieldAddr 1 s5) fun v1 =>
bindP (ld1 v1 w) fun v2 =>
bindP (pFieldAddr 2 s5) fun v3 =>
bindP (ldN 11 v3 w) fun v4 =>
callP G7 [s0, v2, v4] w fun v6 w5 =>
bindP (pTuple v6 0) fun v7 =>
bindP (pTuple v6 1) fun v8 =>
bindP (pFieldAddr 1 s5) fun v9 =>
bindP (ld1 v9 w5) fun v10 =>
bindP (pFieldAddr 2 s5) fun v11 =>
bindP (ldN 11 v11 w5) fun v12 =>
callP G26 [s1, v10, v12] w5 fun v14 w13 =>
bindP (pTuple v14 0) fun v15 =>
bindP (pTuple v14 1) fun v16 =>
bindP (bEq Tryd.prog 3 (.tmp 60) (.tmp 61) v7 v15) fun v17 =>
stepM (gd true v17) v8 fun v18 =>
stepM (gd true v17) v16 fun v19 =>
Sx.stepG (gd true v17) (bEq Tryd.prog 24 (.tmp 64) (.tmp 65) v18 v19) fun v20 =>
bindP (pPick v17 v20 (.bool false)) fun v21 =>
K v21 w13
def F19_5 (s0 s1 s5 : Value) (w : World) (K : V1) : Prop := F19_5b s0 s1 s5 w K
theorem ok19_5 {K : V1}
    (hn : HN (fun e w => K (e 6) w) kn) (hr : HR Tryd.prog [.tmp 6] K kr) (he : HE (blkK 0 (fun e w => K (e 6) w) noE) ke) :
    ∀ e w, F19_5 (e 0) (e 1) (e 5) w K → denL Tryd.prog (tabOf T19) 244 fuel ((flat (thenC (nthC (flat (blkB (nthC (flat (bodyOf Tryd.f19)) 2))) 1))).drop 0) e w kn kr ke := by
  intro e w h
  unfold F19_5 at h
  have e1 : ∀ (_ : Unit), F19_5b (e 0) (e 1) (e 5) w K = denL Tryd.prog (tabOf T19) 244 fuel ((flat (thenC (nthC (flat (blkB (nthC (flat (bodyOf Tryd.f19)) 2))) 1))).drop 0) e w (fun e w => K (e 6) w) (endD Tryd.prog [.tmp 6] K) (blkK 0 (fun e w => K (e 6) w) noE) := by intro _; kernel_rfl
  exact seg_end (Eq.mp (e1 ()) h) hn hr he
def F19_8b (s0 s1 s5 : Value) (w : World) (K : V1) : Prop :=
bindP (pNil s1) fun v22 =>
bindP (pFieldAddr 6 v22) fun v23 =>
bindP (ld1 v23 w) fun v24 =>
bindP (lenL v24) fun v25 =>
bindP (bEq Tryd.prog 3 (.tmp 74) (.const (.int .i64 0)) v25 (.int .i64 0)) fun v26 =>
ifB v26 (
K (.bool true) w) (
bindP (pNil s1) fun v27 =>
bindP (pFieldAddr 6 v27) fun v28 =>
bindP (ld1 v28 w.drew) fun v29 =>
bindP (pFieldAddr 1 s5) fun v30 =>
bindP (ld1 v30 w.drew) fun v31 =>
bindP (pNil s1) fun v32 =>
bindP (pFieldAddr 6 v32) fun v33 =>
bindP (ld1 v33 w.drew) fun v34 =>
bindP (lenL v34) fun v35 =>
callP G10 [v31, v35] w.drew fun v37 w36 =>
fok true (ld1 v28 w36) v29 ∧ (bindP (pIndexL 15 v29 v37) fun v38 =>
bindP (pFieldAddr 0 v38) fun v39 =>
bindP (pFieldAddr 0 v39) fun v40 =>
bindP (ld1 v40 w36) fun v41 =>
callP G9 [s0, v41] w36 fun v43 w42 =>
callP G27 [s1, v41] w42 fun v45 w44 =>
bindP (bEq Tryd.prog 24 (.tmp 94) (.tmp 97) v43 v45) fun v46 =>
K v46 w44))
def F19_8 (s0 s1 s5 : Value) (w : World) (K : V1) : Prop := F19_8b s0 s1 s5 w K
theorem ok19_8 {K : V1}
    (hn : HN (fun e w => K (e 6) w) kn) (hr : HR Tryd.prog [.tmp 6] K kr) (he : HE (blkK 0 (fun e w => K (e 6) w) noE) ke) :
    ∀ e w, F19_8 (e 0) (e 1) (e 5) w K → denL Tryd.prog (tabOf T19) 244 fuel ((flat (thenC (nthC (flat (elseC (nthC (flat (blkB (nthC (flat (bodyOf Tryd.f19)) 2))) 1))) 1))).drop 0) e w kn kr ke := by
  intro e w h
  unfold F19_8 at h
  have e1 : ∀ (_ : Unit), F19_8b (e 0) (e 1) (e 5) w K = denL Tryd.prog (tabOf T19) 244 fuel ((flat (thenC (nthC (flat (elseC (nthC (flat (blkB (nthC (flat (bodyOf Tryd.f19)) 2))) 1))) 1))).drop 0) e w (fun e w => K (e 6) w) (endD Tryd.prog [.tmp 6] K) (blkK 0 (fun e w => K (e 6) w) noE) := by intro _; kernel_rfl
  exact seg_end (Eq.mp (e1 ()) h) hn hr he
def F19_11b (s0 s1 s5 : Value) (w : World) (K : V1) : Prop :=
bindP (pNil s1) fun v47 =>
bindP (pFieldAddr 3 v47) fun v48 =>
bindP (ld1 v48 w.drew) fun v49 =>
bindP (pFieldAddr 1 s5) fun v50 =>
bindP (ld1 v50 w.drew) fun v51 =>
callP G10 [v51, (.int .i64 4)] w.drew fun v53 w52 =>
fok true (ld1 v48 w52) v49 ∧ (bindP (bSub v49 v53) fun v54 =>
callP G21 [s0, v54] w52 fun v56 w55 =>
callP G28 [s1, v54] w55 fun v58 w57 =>
bindP (bEq Tryd.prog 24 (.tmp 111) (.tmp 114) v56 v58) fun v59 =>
K v59 w57)
def F19_11 (s0 s1 s5 : Value) (w : World) (K : V1) : Prop := F19_11b s0 s1 s5 w K
theorem ok19_11 {K : V1}
    (hn : HN (fun e w => K (e 6) w) kn) (hr : HR Tryd.prog [.tmp 6] K kr) (he : HE (blkK 0 (fun e w => K (e 6) w) noE) ke) :
    ∀ e w, F19_11 (e 0) (e 1) (e 5) w K → denL Tryd.prog (tabOf T19) 244 fuel ((flat (thenC (nthC (flat (elseC (nthC (flat (elseC (nthC (flat (blkB (nthC (flat (bodyOf Tryd.f19)) 2))) 1))) 1))) 1))).drop 0) e w kn kr ke := by
  intro e w h
  unfold F19_11 at h
  have e1 : ∀ (_ : Unit), F19_11b (e 0) (e 1) (e 5) w K = denL Tryd.prog (tabOf T19) 244 fuel ((flat (thenC (nthC (flat (elseC (nthC (flat (elseC (nthC (flat (blkB (nthC (flat (bodyOf Tryd.f19)) 2))) 1))) 1))) 1))).drop 0) e w (fun e w => K (e 6) w) (endD Tryd.prog [.tmp 6] K) (blkK 0 (fun e w => K (e 6) w) noE) := by intro _; kernel_rfl
  exact seg_end (Eq.mp (e1 ()) h) hn hr he
def F19_14b (s0 s1 s5 : Value) (w : World) (K : V1) : Prop :=
bindP (pFieldAddr 1 s5) fun v60 =>
bindP (ld1 v60 w) fun v61 =>
callP G15 [s0, v61] w fun v63 w62 =>
bindP (pTuple v63 0) fun v64 =>
bindP (pTuple v63 1) fun v65 =>
bindP (pFieldAddr 1 s5) fun v66 =>
bindP (ld1 v66 w62) fun v67 =>
callP G29 [s1, v67] w62 fun v69 w68 =>
bindP (pTuple v69 0) fun v70 =>
bindP (pTuple v69 1) fun v71 =>
callP G16 [v64, v70] w68 fun v73 w72 =>
stepM (gd true v73) v65 fun v74 =>
stepM (gd true v73) v71 fun v75 =>
Sx.stepG (gd true v73) (bEq Tryd.prog 24 (.tmp 136) (.tmp 137) v74 v75) fun v76 =>
bindP (pPick v73 v76 (.bool false)) fun v77 =>
K v77 w72
def F19_14 (s0 s1 s5 : Value) (w : World) (K : V1) : Prop := F19_14b s0 s1 s5 w K
theorem ok19_14 {K : V1}
    (hn : HN (fun e w => K (e 6) w) kn) (hr : HR Tryd.prog [.tmp 6] K kr) (he : HE (blkK 0 (fun e w => K (e 6) w) noE) ke) :
    ∀ e w, F19_14 (e 0) (e 1) (e 5) w K → denL Tryd.prog (tabOf T19) 244 fuel ((flat (thenC (nthC (flat (elseC (nthC (flat (elseC (nthC (flat (elseC (nthC (flat (blkB (nthC (flat (bodyOf Tryd.f19)) 2))) 1))) 1))) 1))) 1))).drop 0) e w kn kr ke := by
  intro e w h
  unfold F19_14 at h
  have e1 : ∀ (_ : Unit), F19_14b (e 0) (e 1) (e 5) w K = denL Tryd.prog (tabOf T19) 244 fuel ((flat (thenC (nthC (flat (elseC (nthC (flat (elseC (nthC (flat (elseC (nthC (flat (blkB (nthC (flat (bodyOf Tryd.f19)) 2))) 1))) 1))) 1))) 1))).drop 0) e w (fun e w => K (e 6) w) (endD Tryd.prog [.tmp 6] K) (blkK 0 (fun e w => K (e 6) w) noE) := by intro _; kernel_rfl
  exact seg_end (Eq.mp (e1 ()) h) hn hr he
def F19_17b (s0 s1 s5 : Value) (w : World) (K : V1) : Prop :=
bindP (pFieldAddr 1 s5) fun v78 =>
bindP (ld1 v78 w.drew) fun v79 =>
bindP (pFieldAddr 1 s5) fun v80 =>
bindP (ld1 v80 w.drew) fun v81 =>
callP G9 [s0, v79] w.drew fun v83 w82 =>
fok true (ld1 v80 w82) v81 ∧ (callP G27 [s1, v81] w82 fun v85 w84 =>
bindP (bEq Tryd.prog 24 (.tmp 145) (.tmp 149) v83 v85) fun v86 =>
K v86 w84)
def F19_17 (s0 s1 s5 : Value) (w : World) (K : V1) : Prop := F19_17b s0 s1 s5 w K
theorem ok19_17 {K : V1}
    (hn : HN (fun e w => K (e 6) w) kn) (hr : HR Tryd.prog [.tmp 6] K kr) (he : HE (blkK 0 (fun e w => K (e 6) w) noE) ke) :
    ∀ e w, F19_17 (e 0) (e 1) (e 5) w K → denL Tryd.prog (tabOf T19) 244 fuel ((flat (thenC (nthC (flat (elseC (nthC (flat (elseC (nthC (flat (elseC (nthC (flat (elseC (nthC (flat (blkB (nthC (flat (bodyOf Tryd.f19)) 2))) 1))) 1))) 1))) 1))) 1))).drop 0) e w kn kr ke := by
  intro e w h
  unfold F19_17 at h
  have e1 : ∀ (_ : Unit), F19_17b (e 0) (e 1) (e 5) w K = denL Tryd.prog (tabOf T19) 244 fuel ((flat (thenC (nthC (flat (elseC (nthC (flat (elseC (nthC (flat (elseC (nthC (flat (elseC (nthC (flat (blkB (nthC (flat (bodyOf Tryd.f19)) 2))) 1))) 1))) 1))) 1))) 1))).drop 0) e w (fun e w => K (e 6) w) (endD Tryd.prog [.tmp 6] K) (blkK 0 (fun e w => K (e 6) w) noE) := by intro _; kernel_rfl
  exact seg_end (Eq.mp (e1 ()) h) hn hr he
def F19_20b (s0 s1 s5 : Value) (w : World) (K : V1) : Prop :=
bindP (pFieldAddr 1 s5) fun v87 =>
bindP (ld1 v87 w.drew) fun v88 =>
bindP (pFieldAddr 1 s5) fun v89 =>
bindP (ld1 v89 w.drew) fun v90 =>
callP G21 [s0, v88] w.drew fun v92 w91 =>
fok true (ld1 v89 w91) v90 ∧ (callP G28 [s1, v90] w91 fun v94 w93 =>
bindP (bEq Tryd.prog 24 (.tmp 156) (.tmp 160) v92 v94) fun v95 =>
K v95 w93)
def F19_20 (s0 s1 s5 : Value) (w : World) (K : V1) : Prop := F19_20b s0 s1 s5 w K
theorem ok19_20 {K : V1}
    (hn : HN (fun e w => K (e 6) w) kn) (hr : HR Tryd.prog [.tmp 6] K kr) (he : HE (blkK 0 (fun e w => K (e 6) w) noE) ke) :
    ∀ e w, F19_20 (e 0) (e 1) (e 5) w K → denL Tryd.prog (tabOf T19) 244 fuel ((flat (thenC (nthC (flat (elseC (nthC (flat (elseC (nthC (flat (elseC (nthC (flat (elseC (nthC (flat (elseC (nthC (flat (blkB (nthC (flat (bodyOf Tryd.f19)) 2))) 1))) 1))) 1))) 1))) 1))) 1))).drop 0) e w kn kr ke := by
  intro e w h
  unfold F19_20 at h
  have e1 : ∀ (_ : Unit), F19_20b (e 0) (e 1) (e 5) w K = denL Tryd.prog (tabOf T19) 244 fuel ((flat (thenC (nthC (flat (elseC (nthC (flat (elseC (nthC (flat (elseC (nthC (flat (elseC (nthC (flat (elseC (nthC (flat (blkB (nthC (flat (bodyOf Tryd.f19)) 2))) 1))) 1))) 1))) 1))) 1))) 1))).drop 0) e w (fun e w => K (e 6) w) (endD Tryd.prog [.tmp 6] K) (blkK 0 (fun e w => K (e 6) w) noE) := by intro _; kernel_rfl
  exact seg_end (Eq.mp (e1 ()) h) hn hr he
def F19_23b (s0 s1 s5 : Value) (w : World) (K : V1) : Prop :=
callP G30 [s0] w fun v97 w96 =>
bindP (bEq Tryd.prog 23 (.tmp 166) (.const (.pointer none)) v97 (.pointer none)) fun v98 =>
stepM (gd false v98) v97 fun v99 =>
stepM (gd false v98) s1 fun v100 =>
stepE (gd false v98) (fun k => callP G20 [v99, v100] w96 k) w96 fun v102 w101 =>
Sx.stepG (gd false v98) (uNot v102) fun v103 =>
bindP (pPick v98 (.bool true) v103) fun v104 =>
ifB v104 (
K (.bool false) w101) (
bindP (pFieldAddr 2 s5) fun v105 =>
bindP (ldN 11 v105 w101) fun v106 =>
callP G7 [v97, (.int .i64 1), v106] w101 fun _ w107 =>
callP G13 [v97] w107 fun v110 w109 =>
callP G21 [v97, v110] w109 fun _ w111 =>
callP G15 [v97, (.int .i64 5)] w111 fun _ w113 =>
callP G13 [v97] w113 fun v116 w115 =>
callP G9 [v97, v116] w115 fun _ w117 =>
K (.bool true) w117)
def F19_23 (s0 s1 s5 : Value) (w : World) (K : V1) : Prop := F19_23b s0 s1 s5 w K
theorem ok19_23 {K : V1}
    (hn : HN (fun e w => K (e 6) w) kn) (hr : HR Tryd.prog [.tmp 6] K kr) (he : HE (blkK 0 (fun e w => K (e 6) w) noE) ke) :
    ∀ e w, F19_23 (e 0) (e 1) (e 5) w K → denL Tryd.prog (tabOf T19) 244 fuel ((flat (thenC (nthC (flat (elseC (nthC (flat (elseC (nthC (flat (elseC (nthC (flat (elseC (nthC (flat (elseC (nthC (flat (elseC (nthC (flat (blkB (nthC (flat (bodyOf Tryd.f19)) 2))) 1))) 1))) 1))) 1))) 1))) 1))) 1))).drop 0) e w kn kr ke := by
  intro e w h
  unfold F19_23 at h
  have e1 : ∀ (_ : Unit), F19_23b (e 0) (e 1) (e 5) w K = denL Tryd.prog (tabOf T19) 244 fuel ((flat (thenC (nthC (flat (elseC (nthC (flat (elseC (nthC (flat (elseC (nthC (flat (elseC (nthC (flat (elseC (nthC (flat (elseC (nthC (flat (blkB (nthC (flat (bodyOf Tryd.f19)) 2))) 1))) 1))) 1))) 1))) 1))) 1))) 1))).drop 0) e w (fun e w => K (e 6) w) (endD Tryd.prog [.tmp 6] K) (blkK 0 (fun e w => K (e 6) w) noE) := by intro _; kernel_rfl
  exact seg_end (Eq.mp (e1 ()) h) hn hr he
def F19_28b (s0 s1 s18 : Value) (w : World) (K : V1) : Prop :=
bindP (pNil s1) fun v119 =>
bindP (pFieldAddr 3 v119) fun v120 =>
bindP (ld1 v120 w.drew) fun v121 =>
bindP (pNil s1) fun v122 =>
bindP (pFieldAddr 4 v122) fun v123 =>
bindP (ld1 v123 w.drew) fun v124 =>
bindP (pNil s1) fun v125 =>
bindP (pFieldAddr 3 v125) fun v126 =>
bindP (ld1 v126 w.drew) fun v127 =>
bindP (pNil s1) fun v128 =>
bindP (pFieldAddr 4 v128) fun v129 =>
bindP (ld1 v129 w.drew) fun v130 =>
callP G12 [s0, s18, v121, v124] w.drew fun v132 w131 =>
(fok true (ld1 v126 w131) v127 ∧ fok true (ld1 v129 w131) v130) ∧ (callP G32 [s1, s18, v127, v130] w131 fun v134 w133 =>
bindP (bEq Tryd.prog 24 (.tmp 231) (.tmp 242) v132 v134) fun v135 =>
K v135 w133)
def F19_28 (s0 s1 s18 : Value) (w : World) (K : V1) : Prop := F19_28b s0 s1 s18 w K
theorem ok19_28 {K : V1}
    (hn : HN (fun e w => K (e 6) w) kn) (hr : HR Tryd.prog [.tmp 6] K kr) (he : HE (blkK 0 (fun e w => K (e 6) w) noE) ke) :
    ∀ e w, F19_28 (e 0) (e 1) (e 18) w K → denL Tryd.prog (tabOf T19) 244 fuel ((flat (thenC (nthC (flat (elseC (nthC (flat (elseC (nthC (flat (elseC (nthC (flat (elseC (nthC (flat (elseC (nthC (flat (elseC (nthC (flat (elseC (nthC (flat (blkB (nthC (flat (bodyOf Tryd.f19)) 2))) 1))) 1))) 1))) 1))) 1))) 1))) 1))) 1))).drop 3) e w kn kr ke := by
  intro e w h
  unfold F19_28 at h
  have e1 : ∀ (_ : Unit), F19_28b (e 0) (e 1) (e 18) w K = denL Tryd.prog (tabOf T19) 244 fuel ((flat (thenC (nthC (flat (elseC (nthC (flat (elseC (nthC (flat (elseC (nthC (flat (elseC (nthC (flat (elseC (nthC (flat (elseC (nthC (flat (elseC (nthC (flat (blkB (nthC (flat (bodyOf Tryd.f19)) 2))) 1))) 1))) 1))) 1))) 1))) 1))) 1))) 1))).drop 3) e w (fun e w => K (e 6) w) (endD Tryd.prog [.tmp 6] K) (blkK 0 (fun e w => K (e 6) w) noE) := by intro _; kernel_rfl
  exact seg_end (Eq.mp (e1 ()) h) hn hr he
def F19_27b (s0 s1 s18 s19 : Value) (w : World) (_K : V1) (Y0 : V4) (Y1 : V3) : Prop :=
bindP (lenL s18) fun v136 =>
bindP (bQuo v136 (.int .i64 2)) fun v137 =>
bindP (bLt s19 v137) fun v138 =>
ifB v138 (
bindP (lenL s18) fun v139 =>
bindP (bSub v139 (.int .i64 1)) fun v140 =>
bindP (bSub v140 s19) fun v141 =>
bindP (lenL s18) fun v142 =>
bindP (bSub v142 (.int .i64 1)) fun v143 =>
bindP (bSub v143 s19) fun v144 =>
bindP (pIndexL 13 s18 v144) fun v145 =>
bindP (ldN 13 v145 w.drew) fun v146 =>
bindP (pIndexL 13 s18 s19) fun v147 =>
bindP (ldN 13 v147 w.drew) fun v148 =>
bindP (pIndexL 13 s18 s19) fun v149 =>
bindW (st 13 v149 v146 w.drew) fun w150 =>
fok true (lenL s18) v139 ∧ (bindP (pIndexL 13 s18 v141) fun v152 =>
bindW (st 13 v152 v148 w150) fun w153 =>
bindP (bAdd s19 (.int .i64 1)) fun v155 =>
Y0 s0 s1 s18 v155 w153)) (
Y1 s0 s1 s18 w)
def F19_27L : Nat → Value → Value → Value → Value → World → (V1) → Prop
  | 0, _, _, _, _, _, _ => False
  | n + 1, s0, s1, s18, s19, w, K => F19_27b s0 s1 s18 s19 w K (fun a0 a1 a18 a19 w => F19_27L n a0 a1 a18 a19 w K) (fun a0 a1 a18 w => F19_28 a0 a1 a18 w K)
def F19_27 (s0 s1 s18 s19 : Value) (w : World) (K : V1) : Prop := F19_27L fuel s0 s1 s18 s19 w K
theorem ok19_27 {K : V1}
    (hn : HN (fun e w => K (e 6) w) kn) (hr : HR Tryd.prog [.tmp 6] K kr) (he : HE (blkK 0 (fun e w => K (e 6) w) noE) ke) :
    ∀ e w, F19_27 (e 0) (e 1) (e 18) (e 19) w K → denL Tryd.prog (tabOf T19) 244 fuel ((flat (thenC (nthC (flat (elseC (nthC (flat (elseC (nthC (flat (elseC (nthC (flat (elseC (nthC (flat (elseC (nthC (flat (elseC (nthC (flat (elseC (nthC (flat (blkB (nthC (flat (bodyOf Tryd.f19)) 2))) 1))) 1))) 1))) 1))) 1))) 1))) 1))) 1))).drop 2) e w kn kr ke := by
  intro e w h
  unfold F19_27 at h
  refine seg_loop (id := 1) (body := (loopB (blkB (nthC (flat (thenC (nthC (flat (elseC (nthC (flat (elseC (nthC (flat (elseC (nthC (flat (elseC (nthC (flat (elseC (nthC (flat (elseC (nthC (flat (elseC (nthC (flat (blkB (nthC (flat (bodyOf Tryd.f19)) 2))) 1))) 1))) 1))) 1))) 1))) 1))) 1))) 1))) 2)))) (l2 := (flat (thenC (nthC (flat (elseC (nthC (flat (elseC (nthC (flat (elseC (nthC (flat (elseC (nthC (flat (elseC (nthC (flat (elseC (nthC (flat (elseC (nthC (flat (blkB (nthC (flat (bodyOf Tryd.f19)) 2))) 1))) 1))) 1))) 1))) 1))) 1))) 1))) 1))).drop 3) (by kernel_rfl) ?_
  refine loop_ok (FL := fun m e w => F19_27L m (e 0) (e 1) (e 18) (e 19) w K) (fr := endD Tryd.prog [.tmp 6] K) (fe := (blkK 1 (fun e w => F19_28 (e 0) (e 1) (e 18) w K) (blkK 0 (fun e w => K (e 6) w) noE))) (fun _ _ h => h) ?_ hr (blkK_mono (fun e w h => ok19_28 hn hr he e w h) he) fuel e w h
  intro m e w h
  have h : F19_27L (m + 1) (e 0) (e 1) (e 18) (e 19) w K := h
  rw [F19_27L] at h
  have e1 : ∀ (Y0 : V4) (Y1 : V3), F19_27b (e 0) (e 1) (e 18) (e 19) w K Y0 Y1 = denL Tryd.prog (tabOf T19) 244 fuel (flat (loopB (blkB (nthC (flat (thenC (nthC (flat (elseC (nthC (flat (elseC (nthC (flat (elseC (nthC (flat (elseC (nthC (flat (elseC (nthC (flat (elseC (nthC (flat (elseC (nthC (flat (blkB (nthC (flat (bodyOf Tryd.f19)) 2))) 1))) 1))) 1))) 1))) 1))) 1))) 1))) 1))) 2)))) e w (fun e w => Y0 (e 0) (e 1) (e 18) (e 19) w) (endD Tryd.prog [.tmp 6] K) (blkK 1 (fun e w => Y1 (e 0) (e 1) (e 18) w) (blkK 0 (fun e w => K (e 6) w) noE)) := by intro Y0 Y1; kernel_rfl
  exact Eq.mp (e1 (fun a0 a1 a18 a19 w => F19_27L m a0 a1 a18 a19 w K) (fun a0 a1 a18 w => F19_28 a0 a1 a18 w K)) h
def F19_26b (s0 s1 : Value) (w : World) (_K : V1) (Y0 : V4) : Prop :=
callP G31 [s1] w fun v157 w156 =>
Y0 s0 s1 v157 (.int .i64 0) w156
def F19_26 (s0 s1 : Value) (w : World) (K : V1) : Prop := F19_26b s0 s1 w K (fun a0 a1 a18 a19 w => F19_27 a0 a1 a18 a19 w K)
theorem ok19_26 {K : V1}
    (hn : HN (fun e w => K (e 6) w) kn) (hr : HR Tryd.prog [.tmp 6] K kr) (he : HE (blkK 0 (fun e w => K (e 6) w) noE) ke) :
    ∀ e w, F19_26 (e 0) (e 1) w K → denL Tryd.prog (tabOf T19) 244 fuel ((flat (thenC (nthC (flat (elseC (nthC (flat (elseC (nthC (flat (elseC (nthC (flat (elseC (nthC (flat (elseC (nthC (flat (elseC (nthC (flat (elseC (nthC (flat (blkB (nthC (flat (bodyOf Tryd.f19)) 2))) 1))) 1))) 1))) 1))) 1))) 1))) 1))) 1))).drop 0) e w kn kr ke := by
  intro e w h
  unfold F19_26 at h
  have e1 : ∀ (Y0 : V4), F19_26b (e 0) (e 1) w K Y0 = denL Tryd.prog (tabOf T19) 244 fuel (((flat (thenC (nthC (flat (elseC (nthC (flat (elseC (nthC (flat (elseC (nthC (flat (elseC (nthC (flat (elseC (nthC (flat (elseC (nthC (flat (elseC (nthC (flat (blkB (nthC (flat (bodyOf Tryd.f19)) 2))) 1))) 1))) 1))) 1))) 1))) 1))) 1))) 1))).drop 0).take 2) e w (fun e w => Y0 (e 0) (e 1) (e 18) (e 19) w) (endD Tryd.prog [.tmp 6] K) (blkK 0 (fun e w => K (e 6) w) noE) := by intro Y0; kernel_rfl
  exact seg 2 (Eq.mp (e1 (fun a0 a1 a18 a19 w => F19_27 a0 a1 a18 a19 w K)) h) (fun e w h => ok19_27 hn hr he e w h) hr he
def F19_29b (s0 s1 s5 : Value) (w : World) (K : V1) : Prop :=
bindP (pFieldAddr 13 s5) fun v158 =>
bindP (ld1 v158 w) fun v159 =>
bindP (lenL v159) fun v160 =>
bindP (bGt v160 (.int .i64 30)) fun v161 =>
ifB v161 (
K (.bool true) w) (
bindP (pFieldAddr 13 s5) fun v162 =>
bindP (ld1 v162 w.drew) fun v163 =>
bindP (pFieldAddr 1 s5) fun v164 =>
bindP (ld1 v164 w.drew) fun v165 =>
bindP (pFieldAddr 13 s5) fun v166 =>
bindP (ld1 v166 w.drew) fun v167 =>
bindP (pFieldAddr 1 s5) fun v168 =>
bindP (ld1 v168 w.drew) fun v169 =>
callP G12 [s0, v163, v165, (.int .i64 3)] w.drew fun v171 w170 =>
(fok true (ld1 v166 w170) v167 ∧ fok true (ld1 v168 w170) v169) ∧ (callP G32 [s1, v167, v169, (.int .i64 3)] w170 fun v173 w172 =>
bindP (bEq Tryd.prog 24 (.tmp 32) (.tmp 38) v171 v173) fun v174 =>
K v174 w172))
def F19_29 (s0 s1 s5 : Value) (w : World) (K : V1) : Prop := F19_29b s0 s1 s5 w K
theorem ok19_29 {K : V1}
    (hn : HN (fun e w => K (e 6) w) kn) (hr : HR Tryd.prog [.tmp 6] K kr) (he : HE (blkK 0 (fun e w => K (e 6) w) noE) ke) :
    ∀ e w, F19_29 (e 0) (e 1) (e 5) w K → denL Tryd.prog (tabOf T19) 244 fuel ((flat (elseC (nthC (flat (elseC (nthC (flat (elseC (nthC (flat (elseC (nthC (flat (elseC (nthC (flat (elseC (nthC (flat (elseC (nthC (flat (elseC (nthC (flat (blkB (nthC (flat (bodyOf Tryd.f19)) 2))) 1))) 1))) 1))) 1))) 1))) 1))) 1))) 1))).drop 0) e w kn kr ke := by
  intro e w h
  unfold F19_29 at h
  have e1 : ∀ (_ : Unit), F19_29b (e 0) (e 1) (e 5) w K = denL Tryd.prog (tabOf T19) 244 fuel ((flat (elseC (nthC (flat (elseC (nthC (flat (elseC (nthC (flat (elseC (nthC (flat (elseC (nthC (flat (elseC (nthC (flat (elseC (nthC (flat (elseC (nthC (flat (blkB (nthC (flat (bodyOf Tryd.f19)) 2))) 1))) 1))) 1))) 1))) 1))) 1))) 1))) 1))).drop 0) e w (fun e w => K (e 6) w) (endD Tryd.prog [.tmp 6] K) (blkK 0 (fun e w => K (e 6) w) noE) := by intro _; kernel_rfl
  exact seg_end (Eq.mp (e1 ()) h) hn hr he
def F19_25 (s0 s1 s5 s188 : Value) (w : World) (K : V1) : Prop := ifB s188 (F19_26 s0 s1 w K) (F19_29 s0 s1 s5 w K)
theorem ok19_25 {K : V1}
    (hn : HN (fun e w => K (e 6) w) kn) (hr : HR Tryd.prog [.tmp 6] K kr) (he : HE (blkK 0 (fun e w => K (e 6) w) noE) ke) :
    ∀ e w, F19_25 (e 0) (e 1) (e 5) (e 188) w K → denL Tryd.prog (tabOf T19) 244 fuel ((flat (elseC (nthC (flat (elseC (nthC (flat (elseC (nthC (flat (elseC (nthC (flat (elseC (nthC (flat (elseC (nthC (flat (elseC (nthC (flat (blkB (nthC (flat (bodyOf Tryd.f19)) 2))) 1))) 1))) 1))) 1))) 1))) 1))) 1))).drop 1) e w kn kr ke := by
  intro e w h
  unfold F19_25 at h
  refine seg_cond (c := (.tmp 188)) (a := thenC (nthC (flat (elseC (nthC (flat (elseC (nthC (flat (elseC (nthC (flat (elseC (nthC (flat (elseC (nthC (flat (elseC (nthC (flat (elseC (nthC (flat (blkB (nthC (flat (bodyOf Tryd.f19)) 2))) 1))) 1))) 1))) 1))) 1))) 1))) 1))) 1)) (b := elseC (nthC (flat (elseC (nthC (flat (elseC (nthC (flat (elseC (nthC (flat (elseC (nthC (flat (elseC (nthC (flat (elseC (nthC (flat (elseC (nthC (flat (blkB (nthC (flat (bodyOf Tryd.f19)) 2))) 1))) 1))) 1))) 1))) 1))) 1))) 1))) 1)) (l2 := (flat (elseC (nthC (flat (elseC (nthC (flat (elseC (nthC (flat (elseC (nthC (flat (elseC (nthC (flat (elseC (nthC (flat (elseC (nthC (flat (blkB (nthC (flat (bodyOf Tryd.f19)) 2))) 1))) 1))) 1))) 1))) 1))) 1))) 1))).drop 2) (by kernel_rfl) h (fun h => ?_) (fun h => ?_)
  · exact ok19_26 hn hr he e w h
  · exact ok19_29 hn hr he e w h
def F19_24b (s0 s1 s5 s22 : Value) (w : World) (_K : V1) (Y0 : V4) : Prop :=
bindP (bEq Tryd.prog 3 (.tmp 22) (.const (.int .i64 7)) s22 (.int .i64 7)) fun v175 =>
Y0 s0 s1 s5 v175 w
def F19_24 (s0 s1 s5 s22 : Value) (w : World) (K : V1) : Prop := F19_24b s0 s1 s5 s22 w K (fun a0 a1 a5 a188 w => F19_25 a0 a1 a5 a188 w K)
theorem ok19_24 {K : V1}
    (hn : HN (fun e w => K (e 6) w) kn) (hr : HR Tryd.prog [.tmp 6] K kr) (he : HE (blkK 0 (fun e w => K (e 6) w) noE) ke) :
    ∀ e w, F19_24 (e 0) (e 1) (e 5) (e 22) w K → denL Tryd.prog (tabOf T19) 244 fuel ((flat (elseC (nthC (flat (elseC (nthC (flat (elseC (nthC (flat (elseC (nthC (flat (elseC (nthC (flat (elseC (nthC (flat (elseC (nthC (flat (blkB (nthC (flat (bodyOf Tryd.f19)) 2))) 1))) 1))) 1))) 1))) 1))) 1))) 1))).drop 0) e w kn kr ke := by
  intro e w h
  unfold F19_24 at h
  have e1 : ∀ (Y0 : V4), F19_24b (e 0) (e 1) (e 5) (e 22) w K Y0 = denL Tryd.prog (tabOf T19) 244 fuel (((flat (elseC (nthC (flat (elseC (nthC (flat (elseC (nthC (flat (elseC (nthC (flat (elseC (nthC (flat (elseC (nthC (flat (elseC (nthC (flat (blkB (nthC (flat (bodyOf Tryd.f19)) 2))) 1))) 1))) 1))) 1))) 1))) 1))) 1))).drop 0).take 1) e w (fun e w => Y0 (e 0) (e 1) (e 5) (e 188) w) (endD Tryd.prog [.tmp 6] K) (blkK 0 (fun e w => K (e 6) w) noE) := by intro Y0; kernel_rfl
  exact seg 1 (Eq.mp (e1 (fun a0 a1 a5 a188 w => F19_25 a0 a1 a5 a188 w K)) h) (fun e w h => ok19_25 hn hr he e w h) hr he
def F19_22 (s0 s1 s5 s22 s162 : Value) (w : World) (K : V1) : Prop := ifB s162 (F19_23 s0 s1 s5 w K) (F19_24 s0 s1 s5 s22 w K)
theorem ok19_22 {K : V1}
    (hn : HN (fun e w => K (e 6) w) kn) (hr : HR Tryd.prog [.tmp 6] K kr) (he : HE (blkK 0 (fun e w => K (e 6) w) noE) ke) :
    ∀ e w, F19_22 (e 0) (e 1) (e 5) (e 22) (e 162) w K → denL Tryd.prog (tabOf T19) 244 fuel ((flat (elseC (nthC (flat (elseC (nthC (flat (elseC (nthC (flat (elseC (nthC (flat (elseC (nthC (flat (elseC (nthC (flat (blkB (nthC (flat (bodyOf Tryd.f19)) 2))) 1))) 1))) 1))) 1))) 1))) 1))).drop 1) e w kn kr ke := by
  intro e w h
  unfold F19_22 at h
  refine seg_cond (c := (.tmp 162)) (a := thenC (nthC (flat (elseC (nthC (flat (elseC (nthC (flat (elseC (nthC (flat (elseC (nthC (flat (elseC (nthC (flat (elseC (nthC (flat (blkB (nthC (flat (bodyOf Tryd.f19)) 2))) 1))) 1))) 1))) 1))) 1))) 1))) 1)) (b := elseC (nthC (flat (elseC (nthC (flat (elseC (nthC (flat (elseC (nthC (flat (elseC (nthC (flat (elseC (nthC (flat (elseC (nthC (flat (blkB (nthC (flat (bodyOf Tryd.f19)) 2))) 1))) 1))) 1))) 1))) 1))) 1))) 1)) (l2 := (flat (elseC (nthC (flat (elseC (nthC (flat (elseC (nthC (flat (elseC (nthC (flat (elseC (nthC (flat (elseC (nthC (flat (blkB (nthC (flat (bodyOf Tryd.f19)) 2))) 1))) 1))) 1))) 1))) 1))) 1))).drop 2) (by kernel_rfl) h (fun h => ?_) (fun h => ?_)
  · exact ok19_23 hn hr he e w h
  · exact ok19_24 hn hr he e w h
def F19_21b (s0 s1 s5 s22 : Value) (w : World) (_K : V1) (Y0 : V5) : Prop :=
bindP (bEq Tryd.prog 3 (.tmp 22) (.const (.int .i64 6)) s22 (.int .i64 6)) fun v176 =>
Y0 s0 s1 s5 s22 v176 w
def F19_21 (s0 s1 s5 s22 : Value) (w : World) (K : V1) : Prop := F19_21b s0 s1 s5 s22 w K (fun a0 a1 a5 a22 a162 w => F19_22 a0 a1 a5 a22 a162 w K)
theorem ok19_21 {K : V1}
    (hn : HN (fun e w => K (e 6) w) kn) (hr : HR Tryd.prog [.tmp 6] K kr) (he : HE (blkK 0 (fun e w => K (e 6) w) noE) ke) :
    ∀ e w, F19_21 (e 0) (e 1) (e 5) (e 22) w K → denL Tryd.prog (tabOf T19) 244 fuel ((flat (elseC (nthC (flat (elseC (nthC (flat (elseC (nthC (flat (elseC (nthC (flat (elseC (nthC (flat (elseC (nthC (flat (blkB (nthC (flat (bodyOf Tryd.f19)) 2))) 1))) 1))) 1))) 1))) 1))) 1))).drop 0) e w kn kr ke := by
  intro e w h
  unfold F19_21 at h
  have e1 : ∀ (Y0 : V5), F19_21b (e 0) (e 1) (e 5) (e 22) w K Y0 = denL Tryd.prog (tabOf T19) 244 fuel (((flat (elseC (nthC (flat (elseC (nthC (flat (elseC (nthC (flat (elseC (nthC (flat (elseC (nthC (flat (elseC (nthC (flat (blkB (nthC (flat (bodyOf Tryd.f19)) 2))) 1))) 1))) 1))) 1))) 1))) 1))).drop 0).take 1) e w (fun e w => Y0 (e 0) (e 1) (e 5) (e 22) (e 162) w) (endD Tryd.prog [.tmp 6] K) (blkK 0 (fun e w => K (e 6) w) noE) := by intro Y0; kernel_rfl
  exact seg 1 (Eq.mp (e1 (fun a0 a1 a5 a22 a162 w => F19_22 a0 a1 a5 a22 a162 w K)) h) (fun e w h => ok19_22 hn hr he e w h) hr he
def F19_19 (s0 s1 s5 s22 s151 : Value) (w : World) (K : V1) : Prop := ifB s151 (F19_20 s0 s1 s5 w K) (F19_21 s0 s1 s5 s22 w K)
theorem ok19_19 {K : V1}
    (hn : HN (fun e w => K (e 6) w) kn) (hr : HR Tryd.prog [.tmp 6] K kr) (he : HE (blkK 0 (fun e w => K (e 6) w) noE) ke) :
    ∀ e w, F19_19 (e 0) (e 1) (e 5) (e 22) (e 151) w K → denL Tryd.prog (tabOf T19) 244 fuel ((flat (elseC (nthC (flat (elseC (nthC (flat (elseC (nthC (flat (elseC (nthC (flat (elseC (nthC (flat (blkB (nthC (flat (bodyOf Tryd.f19)) 2))) 1))) 1))) 1))) 1))) 1))).drop 1) e w kn kr ke := by
  intro e w h
  unfold F19_19 at h
  refine seg_cond (c := (.tmp 151)) (a := thenC (nthC (flat (elseC (nthC (flat (elseC (nthC (flat (elseC (nthC (flat (elseC (nthC (flat (elseC (nthC (flat (blkB (nthC (flat (bodyOf Tryd.f19)) 2))) 1))) 1))) 1))) 1))) 1))) 1)) (b := elseC (nthC (flat (elseC (nthC (flat (elseC (nthC (flat (elseC (nthC (flat (elseC (nthC (flat (elseC (nthC (flat (blkB (nthC (flat (bodyOf Tryd.f19)) 2))) 1))) 1))) 1))) 1))) 1))) 1)) (l2 := (flat (elseC (nthC (flat (elseC (nthC (flat (elseC (nthC (flat (elseC (nthC (flat (elseC (nthC (flat (blkB (nthC (flat (bodyOf Tryd.f19)) 2))) 1))) 1))) 1))) 1))) 1))).drop 2) (by kernel_rfl) h (fun h => ?_) (fun h => ?_)
  · exact ok19_20 hn hr he e w h
  · exact ok19_21 hn hr he e w h
def F19_18b (s0 s1 s5 s22 : Value) (w : World) (_K : V1) (Y0 : V5) : Prop :=
bindP (bEq Tryd.prog 3 (.tmp 22) (.const (.int .i64 5)) s22 (.int .i64 5)) fun v177 =>
Y0 s0 s1 s5 s22 v177 w
def F19_18 (s0 s1 s5 s22 : Value) (w : World) (K : V1) : Prop := F19_18b s0 s1 s5 s22 w K (fun a0 a1 a5 a22 a151 w => F19_19 a0 a1 a5 a22 a151 w K)
theorem ok19_18 {K : V1}
    (hn : HN (fun e w => K (e 6) w) kn) (hr : HR Tryd.prog [.tmp 6] K kr) (he : HE (blkK 0 (fun e w => K (e 6) w) noE) ke) :
    ∀ e w, F19_18 (e 0) (e 1) (e 5) (e 22) w K → denL Tryd.prog (tabOf T19) 244 fuel ((flat (elseC (nthC (flat (elseC (nthC (flat (elseC (nthC (flat (elseC (nthC (flat (elseC (nthC (flat (blkB (nthC (flat (bodyOf Tryd.f19)) 2))) 1))) 1))) 1))) 1))) 1))).drop 0) e w kn kr ke := by
  intro e w h
  unfold F19_18 at h
  have e1 : ∀ (Y0 : V5), F19_18b (e 0) (e 1) (e 5) (e 22) w K Y0 = denL Tryd.prog (tabOf T19) 244 fuel (((flat (elseC (nthC (flat (elseC (nthC (flat (elseC (nthC (flat (elseC (nthC (flat (elseC (nthC (flat (blkB (nthC (flat (bodyOf Tryd.f19)) 2))) 1))) 1))) 1))) 1))) 1))).drop 0).take 1) e w (fun e w => Y0 (e 0) (e 1) (e 5) (e 22) (e 151) w) (endD Tryd.prog [.tmp 6] K) (blkK 0 (fun e w => K (e 6) w) noE) := by intro Y0; kernel_rfl
  exact seg 1 (Eq.mp (e1 (fun a0 a1 a5 a22 a151 w => F19_19 a0 a1 a5 a22 a151 w K)) h) (fun e w h => ok19_19 hn hr he e w h) hr he
def F19_16 (s0 s1 s5 s22 s140 : Value) (w : World) (K : V1) : Prop := ifB s140 (F19_17 s0 s1 s5 w K) (F19_18 s0 s1 s5 s22 w K)
theorem ok19_16 {K : V1}
    (hn : HN (fun e w => K (e 6) w) kn) (hr : HR Tryd.prog [.tmp 6] K kr) (he : HE (blkK 0 (fun e w => K (e 6) w) noE) ke) :
    ∀ e w, F19_16 (e 0) (e 1) (e 5) (e 22) (e 140) w K → denL Tryd.prog (tabOf T19) 244 fuel ((flat (elseC (nthC (flat (elseC (nthC (flat (elseC (nthC (flat (elseC (nthC (flat (blkB (nthC (flat (bodyOf Tryd.f19)) 2))) 1))) 1))) 1))) 1))).drop 1) e w kn kr ke := by
  intro e w h
  unfold F19_16 at h
  refine seg_cond (c := (.tmp 140)) (a := thenC (nthC (flat (elseC (nthC (flat (elseC (nthC (flat (elseC (nthC (flat (elseC (nthC (flat (blkB (nthC (flat (bodyOf Tryd.f19)) 2))) 1))) 1))) 1))) 1))) 1)) (b := elseC (nthC (flat (elseC (nthC (flat (elseC (nthC (flat (elseC (nthC (flat (elseC (nthC (flat (blkB (nthC (flat (bodyOf Tryd.f19)) 2))) 1))) 1))) 1))) 1))) 1)) (l2 := (flat (elseC (nthC (flat (elseC (nthC (flat (elseC (nthC (flat (elseC (nthC (flat (blkB (nthC (flat (bodyOf Tryd.f19)) 2))) 1))) 1))) 1))) 1))).drop 2) (by kernel_rfl) h (fun h => ?_) (fun h => ?_)
  · exact ok19_17 hn hr he e w h
  · exact ok19_18 hn hr he e w h
def F19_15b (s0 s1 s5 s22 : Value) (w : World) (_K : V1) (Y0 : V5) : Prop :=
bindP (bEq Tryd.prog 3 (.tmp 22) (.const (.int .i64 4)) s22 (.int .i64 4)) fun v178 =>
Y0 s0 s1 s5 s22 v178 w
def F19_15 (s0 s1 s5 s22 : Value) (w : World) (K : V1) : Prop := F19_15b s0 s1 s5 s22 w K (fun a0 a1 a5 a22 a140 w => F19_16 a0 a1 a5 a22 a140 w K)
theorem ok19_15 {K : V1}
    (hn : HN (fun e w => K (e 6) w) kn) (hr : HR Tryd.prog [.tmp 6] K kr) (he : HE (blkK 0 (fun e w => K (e 6) w) noE) ke) :
    ∀ e w, F19_15 (e 0) (e 1) (e 5) (e 22) w K → denL Tryd.prog (tabOf T19) 244 fuel ((flat (elseC (nthC (flat (elseC (nthC (flat (elseC (nthC (flat (elseC (nthC (flat (blkB (nthC (flat (bodyOf Tryd.f19)) 2))) 1))) 1))) 1))) 1))).drop 0) e w kn kr ke := by
  intro e w h
  unfold F19_15 at h
  have e1 : ∀ (Y0 : V5), F19_15b (e 0) (e 1) (e 5) (e 22) w K Y0 = denL Tryd.prog (tabOf T19) 244 fuel (((flat (elseC (nthC (flat (elseC (nthC (flat (elseC (nthC (flat (elseC (nthC (flat (blkB (nthC (flat (bodyOf Tryd.f19)) 2))) 1))) 1))) 1))) 1))).drop 0).take 1) e w (fun e w => Y0 (e 0) (e 1) (e 5) (e 22) (e 140) w) (endD Tryd.prog [.tmp 6] K) (blkK 0 (fun e w => K (e 6) w) noE) := by intro Y0; kernel_rfl
  exact seg 1 (Eq.mp (e1 (fun a0 a1 a5 a22 a140 w => F19_16 a0 a1 a5 a22 a140 w K)) h) (fun e w h => ok19_16 hn hr he e w h) hr he
def F19_13 (s0 s1 s5 s22 s116 : Value) (w : World) (K : V1) : Prop := ifB s116 (F19_14 s0 s1 s5 w K) (F19_15 s0 s1 s5 s22 w K)
theorem ok19_13 {K : V1}
    (hn : HN (fun e w => K (e 6) w) kn) (hr : HR Tryd.prog [.tmp 6] K kr) (he : HE (blkK 0 (fun e w => K (e 6) w) noE) ke) :
    ∀ e w, F19_13 (e 0) (e 1) (e 5) (e 22) (e 116) w K → denL Tryd.prog (tabOf T19) 244 fuel ((flat (elseC (nthC (flat (elseC (nthC (flat (elseC (nthC (flat (blkB (nthC (flat (bodyOf Tryd.f19)) 2))) 1))) 1))) 1))).drop 1) e w kn kr ke := by
  intro e w h
  unfold F19_13 at h
  refine seg_cond (c := (.tmp 116)) (a := thenC (nthC (flat (elseC (nthC (flat (elseC (nthC (flat (elseC (nthC (flat (blkB (nthC (flat (bodyOf Tryd.f19)) 2))) 1))) 1))) 1))) 1)) (b := elseC (nthC (flat (elseC (nthC (flat (elseC (nthC (flat (elseC (nthC (flat (blkB (nthC (flat (bodyOf Tryd.f19)) 2))) 1))) 1))) 1))) 1)) (l2 := (flat (elseC (nthC (flat (elseC (nthC (flat (elseC (nthC (flat (blkB (nthC (flat (bodyOf Tryd.f19)) 2))) 1))) 1))) 1))).drop 2) (by kernel_rfl) h (fun h => ?_) (fun h => ?_)
  · exact ok19_14 hn hr he e w h
  · exact ok19_15 hn hr he e w h
def F19_12b (s0 s1 s5 s22 : Value) (w : World) (_K : V1) (Y0 : V5) : Prop :=
bindP (bEq Tryd.prog 3 (.tmp 22) (.const (.int .i64 3)) s22 (.int .i64 3)) fun v179 =>
Y0 s0 s1 s5 s22 v179 w
def F19_12 (s0 s1 s5 s22 : Value) (w : World) (K : V1) : Prop := F19_12b s0 s1 s5 s22 w K (fun a0 a1 a5 a22 a116 w => F19_13 a0 a1 a5 a22 a116 w K)
theorem ok19_12 {K : V1}
    (hn : HN (fun e w => K (e 6) w) kn) (hr : HR Tryd.prog [.tmp 6] K kr) (he : HE (blkK 0 (fun e w => K (e 6) w) noE) ke) :
    ∀ e w, F19_12 (e 0) (e 1) (e 5) (e 22) w K → denL Tryd.prog (tabOf T19) 244 fuel ((flat (elseC (nthC (flat (elseC (nthC (flat (elseC (nthC (flat (blkB (nthC (flat (bodyOf Tryd.f19)) 2))) 1))) 1))) 1))).drop 0) e w kn kr ke := by
  intro e w h
  unfold F19_12 at h
  have e1 : ∀ (Y0 : V5), F19_12b (e 0) (e 1) (e 5) (e 22) w K Y0 = denL Tryd.prog (tabOf T19) 244 fuel (((flat (elseC (nthC (flat (elseC (nthC (flat (elseC (nthC (flat (blkB (nthC (flat (bodyOf Tryd.f19)) 2))) 1))) 1))) 1))).drop 0).take 1) e w (fun e w => Y0 (e 0) (e 1) (e 5) (e 22) (e 116) w) (endD Tryd.prog [.tmp 6] K) (blkK 0 (fun e w => K (e 6) w) noE) := by intro Y0; kernel_rfl
  exact seg 1 (Eq.mp (e1 (fun a0 a1 a5 a22 a116 w => F19_13 a0 a1 a5 a22 a116 w K)) h) (fun e w h => ok19_13 hn hr he e w h) hr he
def F19_10 (s0 s1 s5 s22 s99 : Value) (w : World) (K : V1) : Prop := ifB s99 (F19_11 s0 s1 s5 w K) (F19_12 s0 s1 s5 s22 w K)
theorem ok19_10 {K : V1}
    (hn : HN (fun e w => K (e 6) w) kn) (hr : HR Tryd.prog [.tmp 6] K kr) (he : HE (blkK 0 (fun e w => K (e 6) w) noE) ke) :
    ∀ e w, F19_10 (e 0) (e 1) (e 5) (e 22) (e 99) w K → denL Tryd.prog (tabOf T19) 244 fuel ((flat (elseC (nthC (flat (elseC (nthC (flat (blkB (nthC (flat (bodyOf Tryd.f19)) 2))) 1))) 1))).drop 1) e w kn kr ke := by
  intro e w h
  unfold F19_10 at h
  refine seg_cond (c := (.tmp 99)) (a := thenC (nthC (flat (elseC (nthC (flat (elseC (nthC (flat (blkB (nthC (flat (bodyOf Tryd.f19)) 2))) 1))) 1))) 1)) (b := elseC (nthC (flat (elseC (nthC (flat (elseC (nthC (flat (blkB (nthC (flat (bodyOf Tryd.f19)) 2))) 1))) 1))) 1)) (l2 := (flat (elseC (nthC (flat (elseC (nthC (flat (blkB (nthC (flat (bodyOf Tryd.f19)) 2))) 1))) 1))).drop 2) (by kernel_rfl) h (fun h => ?_) (fun h => ?_)
  · exact ok19_11 hn hr he e w h
  · exact ok19_12 hn hr he e w h
def F19_9b (s0 s1 s5 s22 : Value) (w : World) (_K : V1) (Y0 : V5) : Prop :=
bindP (bEq Tryd.prog 3 (.tmp 22) (.const (.int .i64 2)) s22 (.int .i64 2)) fun v180 =>
Y0 s0 s1 s5 s22 v180 w
def F19_9 (s0 s1 s5 s22 : Value) (w : World) (K : V1) : Prop := F19_9b s0 s1 s5 s22 w K (fun a0 a1 a5 a22 a99 w => F19_10 a0 a1 a5 a22 a99 w K)
theorem ok19_9 {K : V1}
    (hn : HN (fun e w => K (e 6) w) kn) (hr : HR Tryd.prog [.tmp 6] K kr) (he : HE (blkK 0 (fun e w => K (e 6) w) noE) ke) :
    ∀ e w, F19_9 (e 0) (e 1) (e 5) (e 22) w K → denL Tryd.prog (tabOf T19) 244 fuel ((flat (elseC (nthC (flat (elseC (nthC (flat (blkB (nthC (flat (bodyOf Tryd.f19)) 2))) 1))) 1))).drop 0) e w kn kr ke := by
  intro e w h
  unfold F19_9 at h
  have e1 : ∀ (Y0 : V5), F19_9b (e 0) (e 1) (e 5) (e 22) w K Y0 = denL Tryd.prog (tabOf T19) 244 fuel (((flat (elseC (nthC (flat (elseC (nthC (flat (blkB (nthC (flat (bodyOf Tryd.f19)) 2))) 1))) 1))).drop 0).take 1) e w (fun e w => Y0 (e 0) (e 1) (e 5) (e 22) (e 99) w) (endD Tryd.prog [.tmp 6] K) (blkK 0 (fun e w => K (e 6) w) noE) := by intro Y0; kernel_rfl
  exact seg 1 (Eq.mp (e1 (fun a0 a1 a5 a22 a99 w => F19_10 a0 a1 a5 a22 a99 w K)) h) (fun e w h => ok19_10 hn hr he e w h) hr he
def F19_7 (s0 s1 s5 s22 s68 : Value) (w : World) (K : V1) : Prop := ifB s68 (F19_8 s0 s1 s5 w K) (F19_9 s0 s1 s5 s22 w K)
theorem ok19_7 {K : V1}
    (hn : HN (fun e w => K (e 6) w) kn) (hr : HR Tryd.prog [.tmp 6] K kr) (he : HE (blkK 0 (fun e w => K (e 6) w) noE) ke) :
    ∀ e w, F19_7 (e 0) (e 1) (e 5) (e 22) (e 68) w K → denL Tryd.prog (tabOf T19) 244 fuel ((flat (elseC (nthC (flat (blkB (nthC (flat (bodyOf Tryd.f19)) 2))) 1))).drop 1) e w kn kr ke := by
  intro e w h
  unfold F19_7 at h
  refine seg_cond (c := (.tmp 68)) (a := thenC (nthC (flat (elseC (nthC (flat (blkB (nthC (flat (bodyOf Tryd.f19)) 2))) 1))) 1)) (b := elseC (nthC (flat (elseC (nthC (flat (blkB (nthC (flat (bodyOf Tryd.f19)) 2))) 1))) 1)) (l2 := (flat (elseC (nthC (flat (blkB (nthC (flat (bodyOf Tryd.f19)) 2))) 1))).drop 2) (by kernel_rfl) h (fun h => ?_) (fun h => ?_)
  · exact ok19_8 hn hr he e w h
  · exact ok19_9 hn hr he e w h
def F19_6b (s0 s1 s5 s22 : Value) (w : World) (_K : V1) (Y0 : V5) : Prop :=
bindP (bEq Tryd.prog 3 (.tmp 22) (.const (.int .i64 1)) s22 (.int .i64 1)) fun v181 =>
Y0 s0 s1 s5 s22 v181 w
def F19_6 (s0 s1 s5 s22 : Value) (w : World) (K : V1) : Prop := F19_6b s0 s1 s5 s22 w K (fun a0 a1 a5 a22 a68 w => F19_7 a0 a1 a5 a22 a68 w K)
theorem ok19_6 {K : V1}
    (hn : HN (fun e w => K (e 6) w) kn) (hr : HR Tryd.prog [.tmp 6] K kr) (he : HE (blkK 0 (fun e w => K (e 6) w) noE) ke) :
    ∀ e w, F19_6 (e 0) (e 1) (e 5) (e 22) w K → denL Tryd.prog (tabOf T19) 244 fuel ((flat (elseC (nthC (flat (blkB (nthC (flat (bodyOf Tryd.f19)) 2))) 1))).drop 0) e w kn kr ke := by
  intro e w h
  unfold F19_6 at h
  have e1 : ∀ (Y0 : V5), F19_6b (e 0) (e 1) (e 5) (e 22) w K Y0 = denL Tryd.prog (tabOf T19) 244 fuel (((flat (elseC (nthC (flat (blkB (nthC (flat (bodyOf Tryd.f19)) 2))) 1))).drop 0).take 1) e w (fun e w => Y0 (e 0) (e 1) (e 5) (e 22) (e 68) w) (endD Tryd.prog [.tmp 6] K) (blkK 0 (fun e w => K (e 6) w) noE) := by intro Y0; kernel_rfl
  exact seg 1 (Eq.mp (e1 (fun a0 a1 a5 a22 a68 w => F19_7 a0 a1 a5 a22 a68 w K)) h) (fun e w h => ok19_7 hn hr he e w h) hr he
def F19_4 (s0 s1 s5 s22 s40 : Value) (w : World) (K : V1) : Prop := ifB s40 (F19_5 s0 s1 s5 w K) (F19_6 s0 s1 s5 s22 w K)
theorem ok19_4 {K : V1}
    (hn : HN (fun e w => K (e 6) w) kn) (hr : HR Tryd.prog [.tmp 6] K kr) (he : HE (blkK 0 (fun e w => K (e 6) w) noE) ke) :
    ∀ e w, F19_4 (e 0) (e 1) (e 5) (e 22) (e 40) w K → denL Tryd.prog (tabOf T19) 244 fuel ((flat (blkB (nthC (flat (bodyOf Tryd.f19)) 2))).drop 1) e w kn kr ke := by
  intro e w h
  unfold F19_4 at h
  refine seg_cond (c := (.tmp 40)) (a := thenC (nthC (flat (blkB (nthC (flat (bodyOf Tryd.f19)) 2))) 1)) (b := elseC (nthC (flat (blkB (nthC (flat (bodyOf Tryd.f19)) 2))) 1)) (l2 := (flat (blkB (nthC (flat (bodyOf Tryd.f19)) 2))).drop 2) (by kernel_rfl) h (fun h => ?_) (fun h => ?_)
  · exact ok19_5 hn hr he e w h
  · exact ok19_6 hn hr he e w h
def F19_3b (s0 s1 s5 s22 : Value) (w : World) (_K : V1) (Y0 : V5) : Prop :=
bindP (bEq Tryd.prog 3 (.tmp 22) (.const (.int .i64 0)) s22 (.int .i64 0)) fun v182 =>
Y0 s0 s1 s5 s22 v182 w
def F19_3 (s0 s1 s5 s22 : Value) (w : World) (K : V1) : Prop := F19_3b s0 s1 s5 s22 w K (fun a0 a1 a5 a22 a40 w => F19_4 a0 a1 a5 a22 a40 w K)
theorem ok19_3 {K : V1}
    (hn : HN (fun e w => K (e 6) w) kn) (hr : HR Tryd.prog [.tmp 6] K kr) (he : HE (blkK 0 (fun e w => K (e 6) w) noE) ke) :
    ∀ e w, F19_3 (e 0) (e 1) (e 5) (e 22) w K → denL Tryd.prog (tabOf T19) 244 fuel ((flat (blkB (nthC (flat (bodyOf Tryd.f19)) 2))).drop 0) e w kn kr ke := by
  intro e w h
  unfold F19_3 at h
  have e1 : ∀ (Y0 : V5), F19_3b (e 0) (e 1) (e 5) (e 22) w K Y0 = denL Tryd.prog (tabOf T19) 244 fuel (((flat (blkB (nthC (flat (bodyOf Tryd.f19)) 2))).drop 0).take 1) e w (fun e w => Y0 (e 0) (e 1) (e 5) (e 22) (e 40) w) (endD Tryd.prog [.tmp 6] K) (blkK 0 (fun e w => K (e 6) w) noE) := by intro Y0; kernel_rfl
  exact seg 1 (Eq.mp (e1 (fun a0 a1 a5 a22 a40 w => F19_4 a0 a1 a5 a22 a40 w K)) h) (fun e w h => ok19_4 hn hr he e w h) hr he
def F19_2 (s0 s1 s5 s22 : Value) (w : World) (K : V1) : Prop := F19_3 s0 s1 s5 s22 w K
theorem ok19_2 {K : V1}
    (hn : HN (fun e w => K (e 6) w) kn) (hr : HR Tryd.prog [.tmp 6] K kr) (he : HE noE ke) :
    ∀ e w, F19_2 (e 0) (e 1) (e 5) (e 22) w K → denL Tryd.prog (tabOf T19) 244 fuel ((flat (bodyOf Tryd.f19)).drop 2) e w kn kr ke := by
  intro e w h
  unfold F19_2 at h
  refine seg_block (id := 0) (body := (blkB (nthC (flat (bodyOf Tryd.f19)) 2))) (l2 := (flat (bodyOf Tryd.f19)).drop 3) (by kernel_rfl) ?_
  exact ok19_3 hn hr (blkK_mono hn he) e w h
def F19_1b (s0 s1 s2 : Value) (w : World) (_K : V1) (Y0 : V4) : Prop :=
eBox 51 s2 w fun v184 w183 =>
bindP (pFieldAddr 0 v184) fun v185 =>
bindP (ld1 v185 w183) fun v186 =>
callP G10 [v186, (.int .i64 9)] w183 fun v188 w187 =>
Y0 s0 s1 v184 v188 w187
def F19_1 (s0 s1 s2 : Value) (w : World) (K : V1) : Prop := F19_1b s0 s1 s2 w K (fun a0 a1 a5 a22 w => F19_2 a0 a1 a5 a22 w K)
theorem ok19_1 {K : V1}
    (hn : HN (fun e w => K (e 6) w) kn) (hr : HR Tryd.prog [.tmp 6] K kr) (he : HE noE ke) :
    ∀ e w, F19_1 (e 0) (e 1) (e 2) w K → denL Tryd.prog (tabOf T19) 244 fuel ((flat (bodyOf Tryd.f19)).drop 0) e w kn kr ke := by
  intro e w h
  unfold F19_1 at h
  have e1 : ∀ (Y0 : V4), F19_1b (e 0) (e 1) (e 2) w K Y0 = denL Tryd.prog (tabOf T19) 244 fuel (((flat (bodyOf Tryd.f19)).drop 0).take 2) e w (fun e w => Y0 (e 0) (e 1) (e 5) (e 22) w) (endD Tryd.prog [.tmp 6] K) noE := by intro Y0; kernel_rfl
  exact seg 2 (Eq.mp (e1 (fun a0 a1 a5 a22 w => F19_2 a0 a1 a5 a22 w K)) h) (fun e w h => ok19_2 hn hr he e w h) hr he
def F19 (x0 x1 x2 : Value) (w : World) (K : V1) : Prop := F19_1 x0 x1 x2 w K
def G19 : FnT := fun args w K => on3 (fun x0 x1 x2 => F19 x0 x1 x2 w K) args
theorem c19 {x0 x1 x2 : Value} {w : World} {K : V1} (h : F19 x0 x1 x2 w K) : callP G19 [x0, x1, x2] w K := callP_intro (on3_mk (p := fun x0 x1 x2 => F19 x0 x1 x2 w K) h)
theorem ok19 : OkF Tryd.prog 19 G19 := by
  refine okF_of (tab_ok (l := T19) ⟨ok7, ok9, ok10, ok12, ok13, ok15, ok16, ok20, ok21, ok26, ok27, ok28, ok29, ok30, ok31, ok32, trivial⟩) mixed (n := fuel) Tryd.func19 Tryd.call19 fun args w K h => ?_
  obtain ⟨x0, x1, x2, rfl, hh⟩ := of_on3 h
  unfold F19 at hh
  exact fnD_list (c := bodyOf Tryd.f19) (by kernel_rfl) (by kernel_rfl) (ok19_1 (fun _ _ h => h) (fun _ _ h => h) (fun _ _ _ h => h) (initE [x0, x1, x2]) w hh)
def T4 : List (Nat × FnT) := [(5, G5), (6, G6), (18, G18), (19, G19), (20, G20)]
def F4_3b (w : World) (K : V1) : Prop :=
K (.bool true) w
def F4_3 (w : World) (K : V1) : Prop := F4_3b w K
theorem ok4_3 {K : V1}
    (hn : HN (fun e w => K (e 4) w) kn) (hr : HR Tryd.prog [.tmp 4] K kr) (he : HE noE ke) :
    ∀ e w, F4_3 w K → denL Tryd.prog (tabOf T4) 103 fuel ((flat (bodyOf Tryd.f4)).drop 7) e w kn kr ke := by
  intro e w h
  unfold F4_3 at h
  have e1 : ∀ (_ : Unit), F4_3b w K = denL Tryd.prog (tabOf T4) 103 fuel ((flat (bodyOf Tryd.f4)).drop 7) e w (fun e w => K (e 4) w) (endD Tryd.prog [.tmp 4] K) noE := by intro _; kernel_rfl
  exact seg_end (Eq.mp (e1 ()) h) hn hr he
def F4_5b (s1 s5 s7 s9 : Value) (w : World) (_K : V1) (R3 : V4) : Prop :=
bindP (bAdd s9 (.int .i64 1)) fun v1 =>
R3 s1 s5 s7 v1 w
def F4_5 (s1 s5 s7 s9 : Value) (w : World) (K : V1) (R3 : V4) : Prop := F4_5b s1 s5 s7 s9 w K R3
theorem ok4_5 (R3 : V4) {K : V1}
    (hn : HN (fun e w => R3 (e 1) (e 5) (e 7) (e 9) w) kn) (hr : HR Tryd.prog [.tmp 4] K kr) (he : HE (blkK 0 (fun e w => F4_3 w K) noE) ke) :
    ∀ e w, F4_5 (e 1) (e 5) (e 7) (e 9) w K R3 → denL Tryd.prog (tabOf T4) 103 fuel ((flat (loopB (blkB (nthC (flat (bodyOf Tryd.f4)) 6)))).drop 3) e w kn kr ke := by
  intro e w h
  unfold F4_5 at h
  have e1 : ∀ (_ : Unit), F4_5b (e 1) (e 5) (e 7) (e 9) w K R3 = denL Tryd.prog (tabOf T4) 103 fuel ((flat (loopB (blkB (nthC (flat (bodyOf Tryd.f4)) 6)))).drop 3) e w (fun e w => R3 (e 1) (e 5) (e 7) (e 9) w) (endD Tryd.prog [.tmp 4] K) (blkK 0 (fun e w => F4_3 w K) noE) := by intro _; kernel_rfl
  exact seg_end (Eq.mp (e1 ()) h) hn hr he
def F4_4b (s1 s5 s7 s9 : Value) (w : World) (K : V1) (R3 : V4) (Y0 : V4) (Y1 : V0) : Prop :=
bindP (bNe Tryd.prog 47 (.tmp 45) (.const (.pointer none)) s7 (.pointer none)) fun v2 =>
stepM (gd true v2) s9 fun v3 =>
stepM (gd true v2) s1 fun v4 =>
Sx.stepG (gd true v2) (lenL v4) fun v5 =>
Sx.stepG (gd true v2) (bLt v3 v5) fun v6 =>
bindP (pPick v2 v6 (.bool false)) fun v7 =>
stepM (gd true v7) s9 fun v8 =>
Sx.stepG (gd true v7) (bLt v8 (.int .i64 80)) fun v9 =>
bindP (pPick v7 v9 (.bool false)) fun v10 =>
ifB v10 (
bindP (pIndexL 14 s1 s9) fun v11 =>
bindP (ldN 14 v11 w) fun v12 =>
eAlloc Tryd.prog 51 w fun v14 w13 =>
bindW (st 14 v14 v12 w13) fun w15 =>
bindP (pFieldAddr 2 v14) fun v17 =>
bindP (pFieldAddr 1 v17) fun v18 =>
bindP (pFieldAddr 0 v18) fun v19 =>
bindP (ld1 v19 w15) fun v20 =>
bindP (lenS v20) fun v21 =>
bindP (pFieldAddr 2 v14) fun v22 =>
bindP (pFieldAddr 1 v22) fun v23 =>
bindP (pFieldAddr 1 v23) fun v24 =>
bindP (ld1 v24 w15) fun v25 =>
bindP (lenS v25) fun v26 =>
bindP (bAdd v21 v26) fun v27 =>
bindP (pFieldAddr 2 v14) fun v28 =>
bindP (pFieldAddr 1 v28) fun v29 =>
bindP (pFieldAddr 2 v29) fun v30 =>
bindP (ld1 v30 w15) fun v31 =>
bindP (lenS v31) fun v32 =>
bindP (bAdd v27 v32) fun v33 =>
bindP (pFieldAddr 2 v14) fun v34 =>
bindP (pFieldAddr 1 v34) fun v35 =>
bindP (pFieldAddr 4 v35) fun v36 =>
bindP (ld1 v36 w15) fun v37 =>
bindP (lenS v37) fun v38 =>
bindP (bAdd v33 v38) fun v39 =>
bindP (pFieldAddr 2 v14) fun v40 =>
bindP (pFieldAddr 10 v40) fun v41 =>
bindP (ld1 v41 w15) fun v42 =>
bindP (lenS v42) fun v43 =>
bindP (bAdd v39 v43) fun v44 =>
bindP (bGt v44 (.int .i64 3000)) fun v45 =>
ifB v45 (
Y0 s1 s5 s7 s9 w15) (
bindP (ldN 14 v14 w15) fun v46 =>
callP G19 [s5, s7, v46] w15 fun v48 w47 =>
bindP (uNot v48) fun v49 =>
stepM (gd false v49) s5 fun v50 =>
stepM (gd false v49) s7 fun v51 =>
stepE (gd false v49) (fun k => callP G20 [v50, v51] w47 k) w47 fun v53 w52 =>
Sx.stepG (gd false v49) (uNot v53) fun v54 =>
bindP (pPick v49 (.bool true) v54) fun v55 =>
ifB v55 (
K (.bool false) w52) (
Y0 s1 s5 s7 s9 w52))) (
Y1 w)
def F4_4 (s1 s5 s7 s9 : Value) (w : World) (K : V1) (R3 : V4) : Prop := F4_4b s1 s5 s7 s9 w K R3 (fun a1 a5 a7 a9 w => F4_5 a1 a5 a7 a9 w K R3) (fun w => F4_3 w K)
theorem ok4_4 (R3 : V4) {K : V1}
    (hn : HN (fun e w => R3 (e 1) (e 5) (e 7) (e 9) w) kn) (hr : HR Tryd.prog [.tmp 4] K kr) (he : HE (blkK 0 (fun e w => F4_3 w K) noE) ke) :
    ∀ e w, F4_4 (e 1) (e 5) (e 7) (e 9) w K R3 → denL Tryd.prog (tabOf T4) 103 fuel ((flat (loopB (blkB (nthC (flat (bodyOf Tryd.f4)) 6)))).drop 0) e w kn kr ke := by
  intro e w h
  unfold F4_4 at h
  have e1 : ∀ (Y0 : V4) (Y1 : V0), F4_4b (e 1) (e 5) (e 7) (e 9) w K R3 Y0 Y1 = denL Tryd.prog (tabOf T4) 103 fuel (((flat (loopB (blkB (nthC (flat (bodyOf Tryd.f4)) 6)))).drop 0).take 3) e w (fun e w => Y0 (e 1) (e 5) (e 7) (e 9) w) (endD Tryd.prog [.tmp 4] K) (blkK 0 (fun e w => Y1 w) noE) := by intro Y0 Y1; kernel_rfl
  exact seg 3 (Eq.mp (e1 (fun a1 a5 a7 a9 w => F4_5 a1 a5 a7 a9 w K R3) (fun w => F4_3 w K)) h) (fun e w h => ok4_5 R3 hn hr he e w h) hr he
def F4_2L : Nat → Value → Value → Value → Value → World → (V1) → Prop
  | 0, _, _, _, _, _, _ => False
  | n + 1, s1, s5, s7, s9, w, K => F4_4 s1 s5 s7 s9 w K (fun a1 a5 a7 a9 w => F4_2L n a1 a5 a7 a9 w K)
def F4_2 (s1 s5 s7 s9 : Value) (w : World) (K : V1) : Prop := F4_2L fuel s1 s5 s7 s9 w K
theorem ok4_2 {K : V1}
    (hn : HN (fun e w => K (e 4) w) kn) (hr : HR Tryd.prog [.tmp 4] K kr) (he : HE noE ke) :
    ∀ e w, F4_2 (e 1) (e 5) (e 7) (e 9) w K → denL Tryd.prog (tabOf T4) 103 fuel ((flat (bodyOf Tryd.f4)).drop 6) e w kn kr ke := by
  intro e w h
  unfold F4_2 at h
  refine seg_loop (id := 0) (body := (loopB (blkB (nthC (flat (bodyOf Tryd.f4)) 6)))) (l2 := (flat (bodyOf Tryd.f4)).drop 7) (by kernel_rfl) ?_
  refine loop_ok (FL := fun m e w => F4_2L m (e 1) (e 5) (e 7) (e 9) w K) (fr := endD Tryd.prog [.tmp 4] K) (fe := (blkK 0 (fun e w => F4_3 w K) noE)) (fun _ _ h => h) ?_ hr (blkK_mono (fun e w h => ok4_3 hn hr he e w h) he) fuel e w h
  intro m e w h
  have h : F4_2L (m + 1) (e 1) (e 5) (e 7) (e 9) w K := h
  rw [F4_2L] at h
  exact ok4_4 (fun a1 a5 a7 a9 w => F4_2L m a1 a5 a7 a9 w K) (fun _ _ h => h) (fun _ _ h => h) (fun _ _ _ h => h) e w h
def F4_1b (s0 s1 : Value) (w : World) (K : V1) (Y0 : V4) : Prop :=
eBox 45 s0 w fun v57 w56 =>
bindP (pIndexP 3 1 v57 (.int .i64 0)) fun v58 =>
bindP (ld1 v58 w56) fun v59 =>
bindP (pIndexP 3 1 v57 (.int .i64 1)) fun v60 =>
bindP (ld1 v60 w56) fun v61 =>
bindP (pIndexP 3 1 v57 (.int .i64 2)) fun v62 =>
bindP (ld1 v62 w56) fun v63 =>
callP G5 [v59, v61, v63] w56 fun v65 w64 =>
bindP (pTuple v65 0) fun v66 =>
bindP (pTuple v65 1) fun v67 =>
bindP (pIndexP 3 1 v57 (.int .i64 0)) fun v68 =>
bindP (ld1 v68 w64) fun v69 =>
bindP (pIndexP 3 1 v57 (.int .i64 1)) fun v70 =>
bindP (ld1 v70 w64) fun v71 =>
bindP (pIndexP 3 1 v57 (.int .i64 2)) fun v72 =>
bindP (ld1 v72 w64) fun v73 =>
callP G18 [v69, v71, v73] w64 fun v75 w74 =>
bindP (pTuple v75 0) fun v76 =>
bindP (pTuple v75 1) fun v77 =>
bindP (bNe Tryd.prog 24 (.tmp 31) (.tmp 32) v67 v77) fun v78 =>
stepM (gd false v78) v66 fun v79 =>
Sx.stepG (gd false v78) (bEq Tryd.prog 23 (.tmp 35) (.const (.pointer none)) v79 (.pointer none)) fun v80 =>
stepM (gd false v78) v76 fun v81 =>
Sx.stepG (gd false v78) (bEq Tryd.prog 47 (.tmp 37) (.const (.pointer none)) v81 (.pointer none)) fun v82 =>
Sx.stepG (gd false v78) (bNe Tryd.prog 4 (.tmp 36) (.tmp 38) v80 v82) fun v83 =>
bindP (pPick v78 (.bool true) v83) fun v84 =>
stepE (gd false v84) (fun k => callP G6 [] w74 k) w74 fun v86 w85 =>
Sx.stepG (gd false v84) (uNot v86) fun v87 =>
bindP (pPick v84 (.bool true) v87) fun v88 =>
ifB v88 (
K (.bool false) w85) (
Y0 s1 v66 v76 (.int .i64 0) w85)
def F4_1 (s0 s1 : Value) (w : World) (K : V1) : Prop := F4_1b s0 s1 w K (fun a1 a5 a7 a9 w => F4_2 a1 a5 a7 a9 w K)
theorem ok4_1 {K : V1}
    (hn : HN (fun e w => K (e 4) w) kn) (hr : HR Tryd.prog [.tmp 4] K kr) (he : HE noE ke) :
    ∀ e w, F4_1 (e 0) (e 1) w K → denL Tryd.prog (tabOf T4) 103 fuel ((flat (bodyOf Tryd.f4)).drop 0) e w kn kr ke := by
  intro e w h
  unfold F4_1 at h
  have e1 : ∀ (Y0 : V4), F4_1b (e 0) (e 1) w K Y0 = denL Tryd.prog (tabOf T4) 103 fuel (((flat (bodyOf Tryd.f4)).drop 0).take 6) e w (fun e w => Y0 (e 1) (e 5) (e 7) (e 9) w) (endD Tryd.prog [.tmp 4] K) noE := by intro Y0; kernel_rfl
  exact seg 6 (Eq.mp (e1 (fun a1 a5 a7 a9 w => F4_2 a1 a5 a7 a9 w K)) h) (fun e w h => ok4_2 hn hr he e w h) hr he
def F4 (x0 x1 : Value) (w : World) (K : V1) : Prop := F4_1 x0 x1 w K
def G4 : FnT := fun args w K => on2 (fun x0 x1 => F4 x0 x1 w K) args
theorem c4 {x0 x1 : Value} {w : World} {K : V1} (h : F4 x0 x1 w K) : callP G4 [x0, x1] w K := callP_intro (on2_mk (p := fun x0 x1 => F4 x0 x1 w K) h)
theorem ok4 : OkF Tryd.prog 4 G4 := by
  refine okF_of (tab_ok (l := T4) ⟨ok5, ok6, ok18, ok19, ok20, trivial⟩) mixed (n := fuel) Tryd.func4 Tryd.call4 fun args w K h => ?_
  obtain ⟨x0, x1, rfl, hh⟩ := of_on2 h
  unfold F4 at hh
  exact fnD_list (c := bodyOf Tryd.f4) (by kernel_rfl) (by kernel_rfl) (ok4_1 (fun _ _ h => h) (fun _ _ h => h) (fun _ _ _ h => h) (initE [x0, x1]) w hh)
end Go.Proofs.Gong

/- Or0 -/
namespace Go.Proofs.Gong
open Go Go.Sx Go.Proofs
set_option maxRecDepth 100000
@[reducible] def cEn (x : Ltr) : List Value := [.int .i64 x.t.seq, .int .i64 x.t.what, .int .i64 x.t.r.id, .string (bs x.t.r.e.node), .string (bs x.t.r.e.cls), .string (bs x.t.r.e.key), .int .i64 x.t.r.e.level, .string (bs x.t.r.e.text), .int .i64 x.t.r.tally, .int .i64 x.t.r.first, .int .i64 x.t.r.last, .bool x.t.r.acked, .string (bs x.t.r.who), .int .i64 (x.sent : Nat), .int .i64 x.at_]
abbrev enV (x : Ltr) : Value := .agg (cEn x).toArray
theorem CEn : Cod cEn 15 := ⟨fun _ => rfl, fun _ => rfl, by omega⟩
instance : CodC cEn 15 := ⟨CEn⟩
abbrev RCl (q : Nat) (o : Ob) (s : Value) : HP := Cl q #[.int .i64 o.most, .int .i64 o.base, .int .i64 o.top, .int .i64 o.last, .int .i64 o.refused, .int .i64 o.mark, s] 69
def RefO (v : Value) (o : Ob) : HP := HEx fun q => HEx fun s => HPr (v = ptr q) (HSt (RCl q o s) (LsH cEn 15 71 s o.ls))
theorem fbEn (t : Tk) : fBuild Tryd.prog 71 [(0, .agg (cTk t).toArray)] = some (enV ⟨t, 0, 0⟩) := by kernel_rfl
theorem fbEnS (x : Ltr) : fBuildSl Tryd.prog 71 1 [(0, .agg (cEn x).toArray)] = some (cEn x).toArray := by kernel_rfl
def badO (m b t : Int) : Bool := decide (m < 1) || decide (m > 65536) || decide (b < 1) || decide (b > t) || decide (t > 144115188075855872)
theorem badO_no {m b t : Int} (h : badO m b t = false) : (1 ≤ m ∧ m ≤ 65536) ∧ 1 ≤ b ∧ b ≤ t ∧ t ≤ 144115188075855872 := by
  unfold badO at h
  simp only [Bool.or_eq_false_iff, decide_eq_false_iff_not] at h
  omega
attribute [local irreducible] fBuild fLook fZero eqv bEqv Cl MapH LsH SlH ld1 ldN st callP eBox eAlloc lenM lenL eMapSet eDelete eAppend eBuildSl eRange eNext
section
variable {w0 w : World} {L : List HP} {K : Value → World → Prop} {v : Value} {o : Ob} {n now : Int} {t : Tk}
theorem refO_iff : Sat w0 (RefO v o :: L) w ↔ ∃ q s, v = ptr q ∧ Sat w0 (RCl q o s :: LsH cEn 15 71 s o.ls :: L) w := by
  simp only [RefO, Sat.ex_iff, Sat.pr_iff, Sat.star_iff]
theorem refO_ptr (h : Sat w0 (RefO v o :: L) w) : ∃ q, v = ptr q := by
  obtain ⟨q, s, e, _⟩ := refO_iff.1 h
  exact ⟨q, e⟩
theorem refO_at {q : Nat} (h : Sat w0 (RefO (ptr q) o :: L) w) : ∃ s, Sat w0 (RCl q o s :: LsH cEn 15 71 s o.ls :: L) w := by
  obtain ⟨q', s, e, h⟩ := refO_iff.1 h
  cases e
  exact ⟨s, h⟩
theorem refO_mk {q : Nat} {s : Value} (h : Sat w0 (RCl q o s :: LsH cEn 15 71 s o.ls :: L) w) : Sat w0 (RefO (ptr q) o :: L) w := refO_iff.2 ⟨q, s, rfl, h⟩
theorem onew_any {m b t : Int} (h : Sat w0 L w) (hK0 : badO m b t = true → K (.tuple #[.pointer none, .int .i64 1]) w) (hK1 : badO m b t = false → ∀ p w', Sat w0 (OutA (ptr p) (newO m b t) :: L) w' → K (.tuple #[ptr p, .int .i64 0]) w') : callP G5 [.int .i64 m, .int .i64 b, .int .i64 t] w K := by
  cases g : badO m b t
  · obtain ⟨h1, h2⟩ := badO_no g
    exact onew_spec h1 h2 h (hK1 g)
  · have hK := hK0 g
    unfold badO at g
    refine c5 ?_
    unfold F5
    cases g1 : decide (m < 1)
    · cases g2 : decide (m > 65536)
      · cases g3 : decide (b < 1)
        · cases g4 : decide (b > t)
          · cases g5 : decide (t > 144115188075855872)
            · rw [g1, g2, g3, g4, g5] at g; cases g
            · (repeat (first
 | (simp (disch := omega) only [evA, evB, evC, bAdd_i64, bSub_i64, g1, g2, g3, g4, g5])
 | (with_reducible apply go_ld1 h)
 | ((with_reducible first | apply go_ldA h | apply go_rd h | apply go_rdN h | apply go_rlen h); rfl)
 | (with_reducible first | apply go_ldN h | apply go_lenL h)
 | ((with_reducible apply go_st h); intro _ h)
 | ((with_reducible apply go_stA h); rfl; rfl; (first | rfl | simp [OneV.o]); intro _ h)
 | ((with_reducible apply go_stN h); rfl; (first | rfl | simp [OneV.o]); intro _ h)
 | ((with_reducible apply go_box h); rfl; intro _ _ h)
 | ((with_reducible apply go_ix h); omega)
 | ((with_reducible first | apply go_elN h | apply go_f1 h | apply go_rf1 h | apply go_rel h); (case hi => omega); (try case hx => exact inferInstance); (try case hv => rfl))
 | ((with_reducible apply go_fa h); omega; omega)
))
              exact hK
          · (repeat (first
 | (simp (disch := omega) only [evA, evB, evC, bAdd_i64, bSub_i64, g1, g2, g3, g4])
 | (with_reducible apply go_ld1 h)
 | ((with_reducible first | apply go_ldA h | apply go_rd h | apply go_rdN h | apply go_rlen h); rfl)
 | (with_reducible first | apply go_ldN h | apply go_lenL h)
 | ((with_reducible apply go_st h); intro _ h)
 | ((with_reducible apply go_stA h); rfl; rfl; (first | rfl | simp [OneV.o]); intro _ h)
 | ((with_reducible apply go_stN h); rfl; (first | rfl | simp [OneV.o]); intro _ h)
 | ((with_reducible apply go_box h); rfl; intro _ _ h)
 | ((with_reducible apply go_ix h); omega)
 | ((with_reducible first | apply go_elN h | apply go_f1 h | apply go_rf1 h | apply go_rel h); (case hi => omega); (try case hx => exact inferInstance); (try case hv => rfl))
 | ((with_reducible apply go_fa h); omega; omega)
))
            exact hK
        · (repeat (first
 | (simp (disch := omega) only [evA, evB, evC, bAdd_i64, bSub_i64, g1, g2, g3])
 | (with_reducible apply go_ld1 h)
 | ((with_reducible first | apply go_ldA h | apply go_rd h | apply go_rdN h | apply go_rlen h); rfl)
 | (with_reducible first | apply go_ldN h | apply go_lenL h)
 | ((with_reducible apply go_st h); intro _ h)
 | ((with_reducible apply go_stA h); rfl; rfl; (first | rfl | simp [OneV.o]); intro _ h)
 | ((with_reducible apply go_stN h); rfl; (first | rfl | simp [OneV.o]); intro _ h)
 | ((with_reducible apply go_box h); rfl; intro _ _ h)
 | ((with_reducible apply go_ix h); omega)
 | ((with_reducible first | apply go_elN h | apply go_f1 h | apply go_rf1 h | apply go_rel h); (case hi => omega); (try case hx => exact inferInstance); (try case hv => rfl))
 | ((with_reducible apply go_fa h); omega; omega)
))
          exact hK
      · (repeat (first
 | (simp (disch := omega) only [evA, evB, evC, bAdd_i64, bSub_i64, g1, g2])
 | (with_reducible apply go_ld1 h)
 | ((with_reducible first | apply go_ldA h | apply go_rd h | apply go_rdN h | apply go_rlen h); rfl)
 | (with_reducible first | apply go_ldN h | apply go_lenL h)
 | ((with_reducible apply go_st h); intro _ h)
 | ((with_reducible apply go_stA h); rfl; rfl; (first | rfl | simp [OneV.o]); intro _ h)
 | ((with_reducible apply go_stN h); rfl; (first | rfl | simp [OneV.o]); intro _ h)
 | ((with_reducible apply go_box h); rfl; intro _ _ h)
 | ((with_reducible apply go_ix h); omega)
 | ((with_reducible first | apply go_elN h | apply go_f1 h | apply go_rf1 h | apply go_rel h); (case hi => omega); (try case hx => exact inferInstance); (try case hv => rfl))
 | ((with_reducible apply go_fa h); omega; omega)
))
        exact hK
    · (repeat (first
 | (simp (disch := omega) only [evA, evB, evC, bAdd_i64, bSub_i64, g1])
 | (with_reducible apply go_ld1 h)
 | ((with_reducible first | apply go_ldA h | apply go_rd h | apply go_rdN h | apply go_rlen h); rfl)
 | (with_reducible first | apply go_ldN h | apply go_lenL h)
 | ((with_reducible apply go_st h); intro _ h)
 | ((with_reducible apply go_stA h); rfl; rfl; (first | rfl | simp [OneV.o]); intro _ h)
 | ((with_reducible apply go_stN h); rfl; (first | rfl | simp [OneV.o]); intro _ h)
 | ((with_reducible apply go_box h); rfl; intro _ _ h)
 | ((with_reducible apply go_ix h); omega)
 | ((with_reducible first | apply go_elN h | apply go_f1 h | apply go_rf1 h | apply go_rel h); (case hi => omega); (try case hx => exact inferInstance); (try case hv => rfl))
 | ((with_reducible apply go_fa h); omega; omega)
))
      exact hK
theorem rnew_any {m b t : Int} (h : Sat w0 L w) (hK0 : badO m b t = true → K (.tuple #[.pointer none, .int .i64 1]) w) (hK1 : badO m b t = false → ∀ p w', Sat w0 (RefO (ptr p) (newO m b t) :: L) w' → K (.tuple #[ptr p, .int .i64 0]) w') : callP G18 [.int .i64 m, .int .i64 b, .int .i64 t] w K := by
  refine c18 ?_
  unfold F18
  unfold badO at hK0 hK1
  have eb : fBuild Tryd.prog 69 [(0, .int .i64 m), (1, .int .i64 b), (2, .int .i64 t)] = some (.agg #[.int .i64 m, .int .i64 b, .int .i64 t, .int .i64 0, .int .i64 0, .int .i64 0, .slice none 0 0]) := by kernel_rfl
  cases g1 : decide (m < 1)
  · cases g2 : decide (m > 65536)
    · cases g3 : decide (b < 1)
      · cases g4 : decide (b > t)
        · cases g5 : decide (t > 144115188075855872)
          · rw [g1, g2, g3, g4, g5] at hK1
            have h := Sat.nilLs cEn 15 71 h
            (repeat (first
 | (simp (disch := omega) only [evA, evB, evC, bAdd_i64, bSub_i64, g1, g2, g3, g4, g5])
 | (refine go_some (eb ..) ?_)
 | (with_reducible apply go_ld1 h)
 | ((with_reducible first | apply go_ldA h | apply go_rd h | apply go_rdN h | apply go_rlen h); rfl)
 | (with_reducible first | apply go_ldN h | apply go_lenL h)
 | ((with_reducible apply go_st h); intro _ h)
 | ((with_reducible apply go_stA h); rfl; rfl; (first | rfl | simp [OneV.o]); intro _ h)
 | ((with_reducible apply go_stN h); rfl; (first | rfl | simp [OneV.o]); intro _ h)
 | ((with_reducible apply go_box h); rfl; intro _ _ h)
 | ((with_reducible apply go_ix h); omega)
 | ((with_reducible first | apply go_elN h | apply go_f1 h | apply go_rf1 h | apply go_rel h); (case hi => omega); (try case hx => exact inferInstance); (try case hv => rfl))
 | ((with_reducible apply go_fa h); omega; omega)
))
            exact hK1 rfl _ _ (refO_mk (o := newO m b t) h)
          · rw [g5] at hK0
            (repeat (first
 | (simp (disch := omega) only [evA, evB, evC, bAdd_i64, bSub_i64, g1, g2, g3, g4, g5])
 | (with_reducible apply go_ld1 h)
 | ((with_reducible first | apply go_ldA h | apply go_rd h | apply go_rdN h | apply go_rlen h); rfl)
 | (with_reducible first | apply go_ldN h | apply go_lenL h)
 | ((with_reducible apply go_st h); intro _ h)
 | ((with_reducible apply go_stA h); rfl; rfl; (first | rfl | simp [OneV.o]); intro _ h)
 | ((with_reducible apply go_stN h); rfl; (first | rfl | simp [OneV.o]); intro _ h)
 | ((with_reducible apply go_box h); rfl; intro _ _ h)
 | ((with_reducible apply go_ix h); omega)
 | ((with_reducible first | apply go_elN h | apply go_f1 h | apply go_rf1 h | apply go_rel h); (case hi => omega); (try case hx => exact inferInstance); (try case hv => rfl))
 | ((with_reducible apply go_fa h); omega; omega)
))
            exact hK0 (by simp)
        · rw [g4] at hK0
          (repeat (first
 | (simp (disch := omega) only [evA, evB, evC, bAdd_i64, bSub_i64, g1, g2, g3, g4])
 | (with_reducible apply go_ld1 h)
 | ((with_reducible first | apply go_ldA h | apply go_rd h | apply go_rdN h | apply go_rlen h); rfl)
 | (with_reducible first | apply go_ldN h | apply go_lenL h)
 | ((with_reducible apply go_st h); intro _ h)
 | ((with_reducible apply go_stA h); rfl; rfl; (first | rfl | simp [OneV.o]); intro _ h)
 | ((with_reducible apply go_stN h); rfl; (first | rfl | simp [OneV.o]); intro _ h)
 | ((with_reducible apply go_box h); rfl; intro _ _ h)
 | ((with_reducible apply go_ix h); omega)
 | ((with_reducible first | apply go_elN h | apply go_f1 h | apply go_rf1 h | apply go_rel h); (case hi => omega); (try case hx => exact inferInstance); (try case hv => rfl))
 | ((with_reducible apply go_fa h); omega; omega)
))
          exact hK0 (by simp)
      · rw [g3] at hK0
        (repeat (first
 | (simp (disch := omega) only [evA, evB, evC, bAdd_i64, bSub_i64, g1, g2, g3])
 | (with_reducible apply go_ld1 h)
 | ((with_reducible first | apply go_ldA h | apply go_rd h | apply go_rdN h | apply go_rlen h); rfl)
 | (with_reducible first | apply go_ldN h | apply go_lenL h)
 | ((with_reducible apply go_st h); intro _ h)
 | ((with_reducible apply go_stA h); rfl; rfl; (first | rfl | simp [OneV.o]); intro _ h)
 | ((with_reducible apply go_stN h); rfl; (first | rfl | simp [OneV.o]); intro _ h)
 | ((with_reducible apply go_box h); rfl; intro _ _ h)
 | ((with_reducible apply go_ix h); omega)
 | ((with_reducible first | apply go_elN h | apply go_f1 h | apply go_rf1 h | apply go_rel h); (case hi => omega); (try case hx => exact inferInstance); (try case hv => rfl))
 | ((with_reducible apply go_fa h); omega; omega)
))
        exact hK0 (by simp)
    · rw [g2] at hK0
      (repeat (first
 | (simp (disch := omega) only [evA, evB, evC, bAdd_i64, bSub_i64, g1, g2])
 | (with_reducible apply go_ld1 h)
 | ((with_reducible first | apply go_ldA h | apply go_rd h | apply go_rdN h | apply go_rlen h); rfl)
 | (with_reducible first | apply go_ldN h | apply go_lenL h)
 | ((with_reducible apply go_st h); intro _ h)
 | ((with_reducible apply go_stA h); rfl; rfl; (first | rfl | simp [OneV.o]); intro _ h)
 | ((with_reducible apply go_stN h); rfl; (first | rfl | simp [OneV.o]); intro _ h)
 | ((with_reducible apply go_box h); rfl; intro _ _ h)
 | ((with_reducible apply go_ix h); omega)
 | ((with_reducible first | apply go_elN h | apply go_f1 h | apply go_rf1 h | apply go_rel h); (case hi => omega); (try case hx => exact inferInstance); (try case hv => rfl))
 | ((with_reducible apply go_fa h); omega; omega)
))
      exact hK0 (by simp)
  · rw [g1] at hK0
    (repeat (first
 | (simp (disch := omega) only [evA, evB, evC, bAdd_i64, bSub_i64, g1])
 | (with_reducible apply go_ld1 h)
 | ((with_reducible first | apply go_ldA h | apply go_rd h | apply go_rdN h | apply go_rlen h); rfl)
 | (with_reducible first | apply go_ldN h | apply go_lenL h)
 | ((with_reducible apply go_st h); intro _ h)
 | ((with_reducible apply go_stA h); rfl; rfl; (first | rfl | simp [OneV.o]); intro _ h)
 | ((with_reducible apply go_stN h); rfl; (first | rfl | simp [OneV.o]); intro _ h)
 | ((with_reducible apply go_box h); rfl; intro _ _ h)
 | ((with_reducible apply go_ix h); omega)
 | ((with_reducible first | apply go_elN h | apply go_f1 h | apply go_rf1 h | apply go_rel h); (case hi => omega); (try case hx => exact inferInstance); (try case hv => rfl))
 | ((with_reducible apply go_fa h); omega; omega)
))
    exact hK0 (by simp)
theorem rmark_spec (h : Sat w0 (RefO v o :: L) w) (hK : ∀ w', Sat w0 (RefO v (markO n o).2 :: L) w' → K (.int .i64 (markO n o).1) w') : callP G28 [v, .int .i64 n] w K := by
  obtain ⟨q, rfl⟩ := refO_ptr h
  have h0 := h
  obtain ⟨s, h⟩ := refO_at h
  unfold markO at hK
  refine c28 ?_
  unfold F28
  by_cases g1 : n < o.mark
  · have g1' : decide (n < o.mark) = true := by simpa using g1
    rw [if_pos (.inl g1)] at hK
    (repeat (first
 | (simp (disch := omega) only [evA, evB, evC, bAdd_i64, bSub_i64, g1'])
 | (with_reducible apply go_ld1 h)
 | ((with_reducible first | apply go_ldA h | apply go_rd h | apply go_rdN h | apply go_rlen h); rfl)
 | (with_reducible first | apply go_ldN h | apply go_lenL h)
 | ((with_reducible apply go_st h); intro _ h)
 | ((with_reducible apply go_stA h); rfl; rfl; (first | rfl | simp [OneV.o]); intro _ h)
 | ((with_reducible apply go_stN h); rfl; (first | rfl | simp [OneV.o]); intro _ h)
 | ((with_reducible apply go_box h); rfl; intro _ _ h)
 | ((with_reducible apply go_ix h); omega)
 | ((with_reducible first | apply go_elN h | apply go_f1 h | apply go_rf1 h | apply go_rel h); (case hi => omega); (try case hx => exact inferInstance); (try case hv => rfl))
 | ((with_reducible apply go_fa h); omega; omega)
))
    exact hK _ h0
  have g1' : decide (n < o.mark) = false := by simpa using g1
  by_cases g2 : o.last < n
  · have g2' : decide (n > o.last) = true := by simpa using g2
    rw [if_pos (.inr g2)] at hK
    (repeat (first
 | (simp (disch := omega) only [evA, evB, evC, bAdd_i64, bSub_i64, g1', g2'])
 | (with_reducible apply go_ld1 h)
 | ((with_reducible first | apply go_ldA h | apply go_rd h | apply go_rdN h | apply go_rlen h); rfl)
 | (with_reducible first | apply go_ldN h | apply go_lenL h)
 | ((with_reducible apply go_st h); intro _ h)
 | ((with_reducible apply go_stA h); rfl; rfl; (first | rfl | simp [OneV.o]); intro _ h)
 | ((with_reducible apply go_stN h); rfl; (first | rfl | simp [OneV.o]); intro _ h)
 | ((with_reducible apply go_box h); rfl; intro _ _ h)
 | ((with_reducible apply go_ix h); omega)
 | ((with_reducible first | apply go_elN h | apply go_f1 h | apply go_rf1 h | apply go_rel h); (case hi => omega); (try case hx => exact inferInstance); (try case hv => rfl))
 | ((with_reducible apply go_fa h); omega; omega)
))
    exact hK _ h0
  have g2' : decide (n > o.last) = false := by simpa using g2
  rw [if_neg (by omega)] at hK
  (repeat (first
 | (simp (disch := omega) only [evA, evB, evC, bAdd_i64, bSub_i64, g1', g2'])
 | (with_reducible apply go_ld1 h)
 | ((with_reducible first | apply go_ldA h | apply go_rd h | apply go_rdN h | apply go_rlen h); rfl)
 | (with_reducible first | apply go_ldN h | apply go_lenL h)
 | ((with_reducible apply go_st h); intro _ h)
 | ((with_reducible apply go_stA h); rfl; rfl; (first | rfl | simp [OneV.o]); intro _ h)
 | ((with_reducible apply go_stN h); rfl; (first | rfl | simp [OneV.o]); intro _ h)
 | ((with_reducible apply go_box h); rfl; intro _ _ h)
 | ((with_reducible apply go_ix h); omega)
 | ((with_reducible first | apply go_elN h | apply go_f1 h | apply go_rf1 h | apply go_rel h); (case hi => omega); (try case hx => exact inferInstance); (try case hv => rfl))
 | ((with_reducible apply go_fa h); omega; omega)
))
  exact hK _ (refO_mk (o := { o with mark := n }) (h.got))
theorem rsoon_loop {q : Nat} {s : Value} (hl : o.ls.length ≤ 1073741824) (hK : ∀ w', Sat w0 (RCl q o s :: LsH cEn 15 71 s o.ls :: L) w' → K (.tuple #[.int .i64 (soonO o).1, .bool (soonO o).2]) w') :
    ∀ (d i : Nat) (z : Int × Bool) (w : World), o.ls.length - i < d → i ≤ o.ls.length → z = (o.ls.take i).foldl (soonStep o.mark) (0, false) → Sat w0 (RCl q o s :: LsH cEn 15 71 s o.ls :: L) w →
      F34_2L d (ptr q) (.int .i64 z.1) (.bool z.2) (.int .i64 i) w K := by
  intro d
  induction d with
  | zero => intro i _ _ hd; omega
  | succ d ih =>
    intro i z w hd hi hz h
    rw [F34_2L]
    unfold F34_4 F34_4b
    by_cases g : i < o.ls.length
    · have g' : decide ((i : Int) < (o.ls.length : Int)) = true := by simpa using g
      have hs : (o.ls.take (i + 1)).foldl (soonStep o.mark) (0, false) = soonStep o.mark z o.ls[i] := by
        rw [List.take_succ_eq_append_getElem g, List.foldl_append, ← hz]; rfl
      unfold soonStep at hs
      obtain ⟨za, zb⟩ := z
      by_cases g1 : o.ls[i].t.seq ≤ o.mark
      case neg =>
        have g1' : decide (o.ls[i].t.seq ≤ o.mark) = false := by simpa using g1
        rw [if_neg (by simp [g1])] at hs
        (repeat (first
 | (simp (disch := omega) only [evA, evB, evC, bAdd_i64, bSub_i64, g', g1'])
 | (with_reducible apply go_ld1 h)
 | ((with_reducible first | apply go_ldA h | apply go_rd h | apply go_rdN h | apply go_rlen h); rfl)
 | (with_reducible first | apply go_ldN h | apply go_lenL h)
 | ((with_reducible apply go_st h); intro _ h)
 | ((with_reducible apply go_stA h); rfl; rfl; (first | rfl | simp [OneV.o]); intro _ h)
 | ((with_reducible apply go_stN h); rfl; (first | rfl | simp [OneV.o]); intro _ h)
 | ((with_reducible apply go_box h); rfl; intro _ _ h)
 | ((with_reducible apply go_ix h); omega)
 | ((with_reducible first | apply go_elN h | apply go_f1 h | apply go_rf1 h | apply go_rel h); (case hi => omega); (try case hx => exact inferInstance); (try case hv => rfl))
 | ((with_reducible apply go_fa h); omega; omega)
 | ((with_reducible apply go_faF h); omega)
))
        unfold F34_5 F34_5b
        (repeat (first
 | (simp (disch := omega) only [evA, evB, evC, bAdd_i64, bSub_i64])
 | (with_reducible apply go_ld1 h)
 | ((with_reducible first | apply go_ldA h | apply go_rd h | apply go_rdN h | apply go_rlen h); rfl)
 | (with_reducible first | apply go_ldN h | apply go_lenL h)
 | ((with_reducible apply go_st h); intro _ h)
 | ((with_reducible apply go_stA h); rfl; rfl; (first | rfl | simp [OneV.o]); intro _ h)
 | ((with_reducible apply go_stN h); rfl; (first | rfl | simp [OneV.o]); intro _ h)
 | ((with_reducible apply go_box h); rfl; intro _ _ h)
 | ((with_reducible apply go_ix h); omega)
 | ((with_reducible first | apply go_elN h | apply go_f1 h | apply go_rf1 h | apply go_rel h); (case hi => omega); (try case hx => exact inferInstance); (try case hv => rfl))
 | ((with_reducible apply go_fa h); omega; omega)
))
        exact ih (i + 1) (za, zb) _ (by omega) (by omega) hs.symm h.drew
      have g1' : decide (o.ls[i].t.seq ≤ o.mark) = true := by simpa using g1
      cases zb
      · rw [if_pos ⟨g1, .inl rfl⟩] at hs
        (repeat (first
 | (simp (disch := omega) only [evA, evB, evC, bAdd_i64, bSub_i64, g', g1'])
 | (with_reducible apply go_ld1 h)
 | ((with_reducible first | apply go_ldA h | apply go_rd h | apply go_rdN h | apply go_rlen h); rfl)
 | (with_reducible first | apply go_ldN h | apply go_lenL h)
 | ((with_reducible apply go_st h); intro _ h)
 | ((with_reducible apply go_stA h); rfl; rfl; (first | rfl | simp [OneV.o]); intro _ h)
 | ((with_reducible apply go_stN h); rfl; (first | rfl | simp [OneV.o]); intro _ h)
 | ((with_reducible apply go_box h); rfl; intro _ _ h)
 | ((with_reducible apply go_ix h); omega)
 | ((with_reducible first | apply go_elN h | apply go_f1 h | apply go_rf1 h | apply go_rel h); (case hi => omega); (try case hx => exact inferInstance); (try case hv => rfl))
 | ((with_reducible apply go_fa h); omega; omega)
 | ((with_reducible apply go_faF h); omega)
))
        unfold F34_5 F34_5b
        (repeat (first
 | (simp (disch := omega) only [evA, evB, evC, bAdd_i64, bSub_i64])
 | (with_reducible apply go_ld1 h)
 | ((with_reducible first | apply go_ldA h | apply go_rd h | apply go_rdN h | apply go_rlen h); rfl)
 | (with_reducible first | apply go_ldN h | apply go_lenL h)
 | ((with_reducible apply go_st h); intro _ h)
 | ((with_reducible apply go_stA h); rfl; rfl; (first | rfl | simp [OneV.o]); intro _ h)
 | ((with_reducible apply go_stN h); rfl; (first | rfl | simp [OneV.o]); intro _ h)
 | ((with_reducible apply go_box h); rfl; intro _ _ h)
 | ((with_reducible apply go_ix h); omega)
 | ((with_reducible first | apply go_elN h | apply go_f1 h | apply go_rf1 h | apply go_rel h); (case hi => omega); (try case hx => exact inferInstance); (try case hv => rfl))
 | ((with_reducible apply go_fa h); omega; omega)
))
        exact ih (i + 1) (o.ls[i].at_, true) _ (by omega) (by omega) hs.symm h.drew
      · by_cases g2 : o.ls[i].at_ < za
        · have g2' : decide (o.ls[i].at_ < za) = true := by simpa using g2
          rw [if_pos ⟨g1, .inr g2⟩] at hs
          (repeat (first
 | (simp (disch := omega) only [evA, evB, evC, bAdd_i64, bSub_i64, g', g1', g2'])
 | (with_reducible apply go_ld1 h)
 | ((with_reducible first | apply go_ldA h | apply go_rd h | apply go_rdN h | apply go_rlen h); rfl)
 | (with_reducible first | apply go_ldN h | apply go_lenL h)
 | ((with_reducible apply go_st h); intro _ h)
 | ((with_reducible apply go_stA h); rfl; rfl; (first | rfl | simp [OneV.o]); intro _ h)
 | ((with_reducible apply go_stN h); rfl; (first | rfl | simp [OneV.o]); intro _ h)
 | ((with_reducible apply go_box h); rfl; intro _ _ h)
 | ((with_reducible apply go_ix h); omega)
 | ((with_reducible first | apply go_elN h | apply go_f1 h | apply go_rf1 h | apply go_rel h); (case hi => omega); (try case hx => exact inferInstance); (try case hv => rfl))
 | ((with_reducible apply go_fa h); omega; omega)
 | ((with_reducible apply go_faF h); omega)
))
          unfold F34_5 F34_5b
          (repeat (first
 | (simp (disch := omega) only [evA, evB, evC, bAdd_i64, bSub_i64])
 | (with_reducible apply go_ld1 h)
 | ((with_reducible first | apply go_ldA h | apply go_rd h | apply go_rdN h | apply go_rlen h); rfl)
 | (with_reducible first | apply go_ldN h | apply go_lenL h)
 | ((with_reducible apply go_st h); intro _ h)
 | ((with_reducible apply go_stA h); rfl; rfl; (first | rfl | simp [OneV.o]); intro _ h)
 | ((with_reducible apply go_stN h); rfl; (first | rfl | simp [OneV.o]); intro _ h)
 | ((with_reducible apply go_box h); rfl; intro _ _ h)
 | ((with_reducible apply go_ix h); omega)
 | ((with_reducible first | apply go_elN h | apply go_f1 h | apply go_rf1 h | apply go_rel h); (case hi => omega); (try case hx => exact inferInstance); (try case hv => rfl))
 | ((with_reducible apply go_fa h); omega; omega)
))
          exact ih (i + 1) (o.ls[i].at_, true) _ (by omega) (by omega) hs.symm h.drew
        · have g2' : decide (o.ls[i].at_ < za) = false := by simpa using g2
          rw [if_neg (by simp [g2])] at hs
          (repeat (first
 | (simp (disch := omega) only [evA, evB, evC, bAdd_i64, bSub_i64, g', g1', g2'])
 | (with_reducible apply go_ld1 h)
 | ((with_reducible first | apply go_ldA h | apply go_rd h | apply go_rdN h | apply go_rlen h); rfl)
 | (with_reducible first | apply go_ldN h | apply go_lenL h)
 | ((with_reducible apply go_st h); intro _ h)
 | ((with_reducible apply go_stA h); rfl; rfl; (first | rfl | simp [OneV.o]); intro _ h)
 | ((with_reducible apply go_stN h); rfl; (first | rfl | simp [OneV.o]); intro _ h)
 | ((with_reducible apply go_box h); rfl; intro _ _ h)
 | ((with_reducible apply go_ix h); omega)
 | ((with_reducible first | apply go_elN h | apply go_f1 h | apply go_rf1 h | apply go_rel h); (case hi => omega); (try case hx => exact inferInstance); (try case hv => rfl))
 | ((with_reducible apply go_fa h); omega; omega)
 | ((with_reducible apply go_faF h); omega)
))
          unfold F34_5 F34_5b
          (repeat (first
 | (simp (disch := omega) only [evA, evB, evC, bAdd_i64, bSub_i64])
 | (with_reducible apply go_ld1 h)
 | ((with_reducible first | apply go_ldA h | apply go_rd h | apply go_rdN h | apply go_rlen h); rfl)
 | (with_reducible first | apply go_ldN h | apply go_lenL h)
 | ((with_reducible apply go_st h); intro _ h)
 | ((with_reducible apply go_stA h); rfl; rfl; (first | rfl | simp [OneV.o]); intro _ h)
 | ((with_reducible apply go_stN h); rfl; (first | rfl | simp [OneV.o]); intro _ h)
 | ((with_reducible apply go_box h); rfl; intro _ _ h)
 | ((with_reducible apply go_ix h); omega)
 | ((with_reducible first | apply go_elN h | apply go_f1 h | apply go_rf1 h | apply go_rel h); (case hi => omega); (try case hx => exact inferInstance); (try case hv => rfl))
 | ((with_reducible apply go_fa h); omega; omega)
))
          exact ih (i + 1) (za, true) _ (by omega) (by omega) hs.symm h.drew
    · have g' : decide ((i : Int) < (o.ls.length : Int)) = false := by simpa using g
      have e : i = o.ls.length := by omega
      subst e
      rw [List.take_length] at hz
      subst hz
      (repeat (first
 | (simp (disch := omega) only [evA, evB, evC, bAdd_i64, bSub_i64, g'])
 | (with_reducible apply go_ld1 h)
 | ((with_reducible first | apply go_ldA h | apply go_rd h | apply go_rdN h | apply go_rlen h); rfl)
 | (with_reducible first | apply go_ldN h | apply go_lenL h)
 | ((with_reducible apply go_st h); intro _ h)
 | ((with_reducible apply go_stA h); rfl; rfl; (first | rfl | simp [OneV.o]); intro _ h)
 | ((with_reducible apply go_stN h); rfl; (first | rfl | simp [OneV.o]); intro _ h)
 | ((with_reducible apply go_box h); rfl; intro _ _ h)
 | ((with_reducible apply go_ix h); omega)
 | ((with_reducible first | apply go_elN h | apply go_f1 h | apply go_rf1 h | apply go_rel h); (case hi => omega); (try case hx => exact inferInstance); (try case hv => rfl))
 | ((with_reducible apply go_fa h); omega; omega)
))
      unfold F34_3 F34_3b
      exact hK _ h
theorem rosoon_spec (hl : o.ls.length ≤ 1073741824) (h : Sat w0 (RefO v o :: L) w) (hK : ∀ w', Sat w0 (RefO v o :: L) w' → K (.tuple #[.int .i64 (soonO o).1, .bool (soonO o).2]) w') : callP G34 [v] w K := by
  obtain ⟨q, rfl⟩ := refO_ptr h
  obtain ⟨s, h⟩ := refO_at h
  refine c34 ?_
  unfold F34 F34_1 F34_1b F34_2
  exact rsoon_loop hl (fun w h => hK w (refO_mk h)) fuel 0 (0, false) w (by unfold fuel; omega) (by omega) rfl h
theorem rall_loop {q : Nat} {s : Value} (hl : o.ls.length ≤ 65536) (hK : ∀ s' w', Sat w0 (LsH cTk 13 61 s' (allO o) :: RCl q o s :: LsH cEn 15 71 s o.ls :: L) w' → K s' w') :
    ∀ (d i : Nat) (s3 : Value) (w : World), o.ls.length - i < d → i ≤ o.ls.length → Sat w0 (LsH cTk 13 61 s3 ((o.ls.take i).map (·.t)) :: RCl q o s :: LsH cEn 15 71 s o.ls :: L) w →
      F31_2L d (ptr q) s3 (.int .i64 i) w K := by
  intro d
  induction d with
  | zero => intro i _ _ hd; omega
  | succ d ih =>
    intro i s3 w hd hi h
    rw [F31_2L]
    unfold F31_2b
    by_cases g : i < o.ls.length
    · have g' : decide ((i : Int) < (o.ls.length : Int)) = true := by simpa using g
      have ht : (o.ls.take (i + 1)).map (·.t) = (o.ls.take i).map (·.t) ++ [o.ls[i].t] := by rw [List.take_succ_eq_append_getElem g, List.map_append]; rfl
      (repeat (first
 | (simp (disch := omega) only [evA, evB, evC, bAdd_i64, bSub_i64, g'])
 | (with_reducible apply go_ld1 h)
 | ((with_reducible first | apply go_ldA h | apply go_rd h | apply go_rdN h | apply go_rlen h); rfl)
 | (with_reducible first | apply go_ldN h | apply go_lenL h)
 | ((with_reducible apply go_st h); intro _ h)
 | ((with_reducible apply go_stA h); rfl; rfl; (first | rfl | simp [OneV.o]); intro _ h)
 | ((with_reducible apply go_stN h); rfl; (first | rfl | simp [OneV.o]); intro _ h)
 | ((with_reducible apply go_box h); rfl; intro _ _ h)
 | ((with_reducible apply go_ix h); omega)
 | ((with_reducible first | apply go_elN h | apply go_f1 h | apply go_rf1 h | apply go_rel h); (case hi => omega); (try case hx => exact inferInstance); (try case hv => rfl))
 | ((with_reducible first | apply go_fN h | apply go_rfN h); (case hi => omega); (try case hp => exact inferInstance); (try case hv => rfl))
 | ((with_reducible apply go_fa h); omega; omega)
))
      refine go_lit1 (x := o.ls[i].t) CTk h u37 (fbTkS o.ls[i].t) rfl fun s1 w h => ?_
      (repeat (first
 | (simp (disch := omega) only [evA, evB, evC, bAdd_i64, bSub_i64])
 | (with_reducible apply go_ld1 h)
 | ((with_reducible first | apply go_ldA h | apply go_rd h | apply go_rdN h | apply go_rlen h); rfl)
 | (with_reducible first | apply go_ldN h | apply go_lenL h)
 | ((with_reducible apply go_st h); intro _ h)
 | ((with_reducible apply go_stA h); rfl; rfl; (first | rfl | simp [OneV.o]); intro _ h)
 | ((with_reducible apply go_stN h); rfl; (first | rfl | simp [OneV.o]); intro _ h)
 | ((with_reducible apply go_box h); rfl; intro _ _ h)
 | ((with_reducible apply go_ix h); omega)
 | ((with_reducible first | apply go_elN h | apply go_f1 h | apply go_rf1 h | apply go_rel h); (case hi => omega); (try case hx => exact inferInstance); (try case hv => rfl))
 | ((with_reducible apply go_fa h); omega; omega)
 | ((with_reducible first | apply go_lit0 CTk h u37 (by kernel_rfl) | apply go_lit1 CTk h u37 (fbTkS _) rfl); intro _ _ h)
 | ((with_reducible apply go_app h sl37 ss37); (case hm => repeat (first | exact .here | apply Fnt.there)); (case hb => first | omega | (simp; omega)); intro _ _ _ h)
))
      exact ih (i + 1) _ _ (by omega) (by omega) (by rw [ht]; exact h.got)
    · have g' : decide ((i : Int) < (o.ls.length : Int)) = false := by simpa using g
      have e : i = o.ls.length := by omega
      subst e
      rw [List.take_length] at h
      (repeat (first
 | (simp (disch := omega) only [evA, evB, evC, bAdd_i64, bSub_i64, g'])
 | (with_reducible apply go_ld1 h)
 | ((with_reducible first | apply go_ldA h | apply go_rd h | apply go_rdN h | apply go_rlen h); rfl)
 | (with_reducible first | apply go_ldN h | apply go_lenL h)
 | ((with_reducible apply go_st h); intro _ h)
 | ((with_reducible apply go_stA h); rfl; rfl; (first | rfl | simp [OneV.o]); intro _ h)
 | ((with_reducible apply go_stN h); rfl; (first | rfl | simp [OneV.o]); intro _ h)
 | ((with_reducible apply go_box h); rfl; intro _ _ h)
 | ((with_reducible apply go_ix h); omega)
 | ((with_reducible first | apply go_elN h | apply go_f1 h | apply go_rf1 h | apply go_rel h); (case hi => omega); (try case hx => exact inferInstance); (try case hv => rfl))
 | ((with_reducible apply go_fa h); omega; omega)
))
      unfold F31_3 F31_3b
      exact hK _ _ h
theorem rall_ospec (hl : o.ls.length ≤ 65536) (h : Sat w0 (RefO v o :: L) w) (hK : ∀ s w', Sat w0 (LsH cTk 13 61 s (allO o) :: RefO v o :: L) w' → K s w') : callP G31 [v] w K := by
  obtain ⟨q, rfl⟩ := refO_ptr h
  obtain ⟨s, h⟩ := refO_at h
  refine c31 ?_
  unfold F31 F31_1 F31_1b F31_2
  exact rall_loop hl (fun s' w h => hK s' w (Sat.f1 (refO_mk (o := o) (s := s) (h.got)))) fuel 0 _ w (by unfold fuel; omega) (by omega) (Sat.nilLs cTk 13 61 h)
theorem rtcheck_spec (hf : TFit t) (h : Sat w0 L w) (hK : ∀ w', Sat w0 L w' → K (.int .i64 (chkT t)) w') : callP G45 [tkV t] w K := by
  unfold chkT okTk at hK
  refine c45 ?_
  unfold F45
  cases g3 : decide (t.seq < 1)
  case true =>
    have h1 : decide (1 ≤ t.seq) = false := by simp at g3 ⊢; omega
    rw [h1, if_neg (by simp)] at hK
    (repeat (first
 | (simp (disch := omega) only [evA, evB, evC, bAdd_i64, bSub_i64, g3])
 | (with_reducible apply go_ld1 h)
 | ((with_reducible first | apply go_ldA h | apply go_rd h | apply go_rdN h | apply go_rlen h); rfl)
 | (with_reducible first | apply go_ldN h | apply go_lenL h)
 | ((with_reducible apply go_st h); intro _ h)
 | ((with_reducible apply go_stA h); rfl; rfl; (first | rfl | simp [OneV.o]); intro _ h)
 | ((with_reducible apply go_stN h); rfl; (first | rfl | simp [OneV.o]); intro _ h)
 | ((with_reducible apply go_box h); rfl; intro _ _ h)
 | ((with_reducible apply go_ix h); omega)
 | ((with_reducible first | apply go_elN h | apply go_f1 h | apply go_rf1 h | apply go_rel h); (case hi => omega); (try case hx => exact inferInstance); (try case hv => rfl))
 | ((with_reducible apply go_fa h); omega; omega)
))
    exact hK _ (h.got)
  have h3 : decide (1 ≤ t.seq) = true := by simp at g3 ⊢; omega
  cases g4 : decide (t.seq > 1152921504606846976)
  case true =>
    have h1 : decide (t.seq ≤ 1152921504606846976) = false := by simp at g4 ⊢; omega
    rw [h1, if_neg (by simp)] at hK
    (repeat (first
 | (simp (disch := omega) only [evA, evB, evC, bAdd_i64, bSub_i64, g3, g4])
 | (with_reducible apply go_ld1 h)
 | ((with_reducible first | apply go_ldA h | apply go_rd h | apply go_rdN h | apply go_rlen h); rfl)
 | (with_reducible first | apply go_ldN h | apply go_lenL h)
 | ((with_reducible apply go_st h); intro _ h)
 | ((with_reducible apply go_stA h); rfl; rfl; (first | rfl | simp [OneV.o]); intro _ h)
 | ((with_reducible apply go_stN h); rfl; (first | rfl | simp [OneV.o]); intro _ h)
 | ((with_reducible apply go_box h); rfl; intro _ _ h)
 | ((with_reducible apply go_ix h); omega)
 | ((with_reducible first | apply go_elN h | apply go_f1 h | apply go_rf1 h | apply go_rel h); (case hi => omega); (try case hx => exact inferInstance); (try case hv => rfl))
 | ((with_reducible apply go_fa h); omega; omega)
))
    exact hK _ (h.got)
  have h4 : decide (t.seq ≤ 1152921504606846976) = true := by simp at g4 ⊢; omega
  cases g5 : decide (t.what < 1)
  case true =>
    have h1 : decide (1 ≤ t.what) = false := by simp at g5 ⊢; omega
    rw [h1, if_neg (by simp)] at hK
    (repeat (first
 | (simp (disch := omega) only [evA, evB, evC, bAdd_i64, bSub_i64, g3, g4, g5])
 | (with_reducible apply go_ld1 h)
 | ((with_reducible first | apply go_ldA h | apply go_rd h | apply go_rdN h | apply go_rlen h); rfl)
 | (with_reducible first | apply go_ldN h | apply go_lenL h)
 | ((with_reducible apply go_st h); intro _ h)
 | ((with_reducible apply go_stA h); rfl; rfl; (first | rfl | simp [OneV.o]); intro _ h)
 | ((with_reducible apply go_stN h); rfl; (first | rfl | simp [OneV.o]); intro _ h)
 | ((with_reducible apply go_box h); rfl; intro _ _ h)
 | ((with_reducible apply go_ix h); omega)
 | ((with_reducible first | apply go_elN h | apply go_f1 h | apply go_rf1 h | apply go_rel h); (case hi => omega); (try case hx => exact inferInstance); (try case hv => rfl))
 | ((with_reducible apply go_fa h); omega; omega)
))
    exact hK _ (h.got)
  have h5 : decide (1 ≤ t.what) = true := by simp at g5 ⊢; omega
  cases g6 : decide (t.what > 5)
  case true =>
    have h1 : decide (t.what ≤ 5) = false := by simp at g6 ⊢; omega
    rw [h1, if_neg (by simp)] at hK
    (repeat (first
 | (simp (disch := omega) only [evA, evB, evC, bAdd_i64, bSub_i64, g3, g4, g5, g6])
 | (with_reducible apply go_ld1 h)
 | ((with_reducible first | apply go_ldA h | apply go_rd h | apply go_rdN h | apply go_rlen h); rfl)
 | (with_reducible first | apply go_ldN h | apply go_lenL h)
 | ((with_reducible apply go_st h); intro _ h)
 | ((with_reducible apply go_stA h); rfl; rfl; (first | rfl | simp [OneV.o]); intro _ h)
 | ((with_reducible apply go_stN h); rfl; (first | rfl | simp [OneV.o]); intro _ h)
 | ((with_reducible apply go_box h); rfl; intro _ _ h)
 | ((with_reducible apply go_ix h); omega)
 | ((with_reducible first | apply go_elN h | apply go_f1 h | apply go_rf1 h | apply go_rel h); (case hi => omega); (try case hx => exact inferInstance); (try case hv => rfl))
 | ((with_reducible apply go_fa h); omega; omega)
))
    exact hK _ (h.got)
  have h6 : decide (t.what ≤ 5) = true := by simp at g6 ⊢; omega
  rw [h3, h4, h5, h6, Bool.true_and, Bool.true_and, Bool.true_and, Bool.true_and] at hK
  (repeat (first
 | (simp (disch := omega) only [evA, evB, evC, bAdd_i64, bSub_i64, g3, g4, g5, g6])
 | (with_reducible apply go_ld1 h)
 | ((with_reducible first | apply go_ldA h | apply go_rd h | apply go_rdN h | apply go_rlen h); rfl)
 | (with_reducible first | apply go_ldN h | apply go_lenL h)
 | ((with_reducible apply go_st h); intro _ h)
 | ((with_reducible apply go_stA h); rfl; rfl; (first | rfl | simp [OneV.o]); intro _ h)
 | ((with_reducible apply go_stN h); rfl; (first | rfl | simp [OneV.o]); intro _ h)
 | ((with_reducible apply go_box h); rfl; intro _ _ h)
 | ((with_reducible apply go_ix h); omega)
 | ((with_reducible first | apply go_elN h | apply go_f1 h | apply go_rf1 h | apply go_rel h); (case hi => omega); (try case hx => exact inferInstance); (try case hv => rfl))
 | ((with_reducible apply go_fa h); omega; omega)
))
  refine fbcheck_spec (r := t.r) hf.1 hf.2 h fun w h => ?_
  unfold chkR
  cases g7 : okR t.r
  · rw [g7, if_neg (by simp)] at hK
    (repeat (first
 | (simp (disch := omega) only [evA, evB, evC, bAdd_i64, bSub_i64, Bool.false_eq_true, if_false, Int.reduceEq])
 | (with_reducible apply go_ld1 h)
 | ((with_reducible first | apply go_ldA h | apply go_rd h | apply go_rdN h | apply go_rlen h); rfl)
 | (with_reducible first | apply go_ldN h | apply go_lenL h)
 | ((with_reducible apply go_st h); intro _ h)
 | ((with_reducible apply go_stA h); rfl; rfl; (first | rfl | simp [OneV.o]); intro _ h)
 | ((with_reducible apply go_stN h); rfl; (first | rfl | simp [OneV.o]); intro _ h)
 | ((with_reducible apply go_box h); rfl; intro _ _ h)
 | ((with_reducible apply go_ix h); omega)
 | ((with_reducible first | apply go_elN h | apply go_f1 h | apply go_rf1 h | apply go_rel h); (case hi => omega); (try case hx => exact inferInstance); (try case hv => rfl))
 | ((with_reducible apply go_fa h); omega; omega)
))
    exact hK _ (h.got)
  · rw [g7, if_pos rfl] at hK
    (repeat (first
 | (simp (disch := omega) only [evA, evB, evC, bAdd_i64, bSub_i64, if_true, Int.reduceEq])
 | (with_reducible apply go_ld1 h)
 | ((with_reducible first | apply go_ldA h | apply go_rd h | apply go_rdN h | apply go_rlen h); rfl)
 | (with_reducible first | apply go_ldN h | apply go_lenL h)
 | ((with_reducible apply go_st h); intro _ h)
 | ((with_reducible apply go_stA h); rfl; rfl; (first | rfl | simp [OneV.o]); intro _ h)
 | ((with_reducible apply go_stN h); rfl; (first | rfl | simp [OneV.o]); intro _ h)
 | ((with_reducible apply go_box h); rfl; intro _ _ h)
 | ((with_reducible apply go_ix h); omega)
 | ((with_reducible first | apply go_elN h | apply go_f1 h | apply go_rf1 h | apply go_rel h); (case hi => omega); (try case hx => exact inferInstance); (try case hv => rfl))
 | ((with_reducible apply go_fa h); omega; omega)
))
    exact hK _ (h.got)
theorem rpause_loop {q k : Nat} {s : Value} (hb : 1 ≤ o.base ∧ o.base ≤ o.top ∧ o.top ≤ 144115188075855872) (hk : k ≤ 1073741824) (h : Sat w0 (RCl q o s :: L) w) (hK : K (.int .i64 (pauseN o.base o.top k)) w) :
    ∀ (d i : Nat), k - i < d → i ≤ k → F43_2L d (ptr q) (.int .i64 ((k : Int) + 1)) (.int .i64 (pauseN o.base o.top i)) (.int .i64 ((i : Int) + 1)) w K := by
  intro d
  induction d with
  | zero => intro i hd; omega
  | succ d ih =>
    intro i hd hi
    rw [F43_2L]
    unfold F43_2b
    have hp := pauseN_bd (base := o.base) (top := o.top) ⟨hb.1, hb.2.1⟩ i
    by_cases g : i < k
    · have g' : decide ((i : Int) + 1 < (k : Int) + 1) = true := by simp; omega
      by_cases g2 : pauseN o.base o.top i < o.top
      · have g2' : decide (pauseN o.base o.top i < o.top) = true := by simpa using g2
        have emul : bMul (.int .i64 2) (.int .i64 (pauseN o.base o.top i)) = some (.int .i64 (2 * pauseN o.base o.top i)) := by rw [bMul_int, wrap_id (by omega)]
        have := ih (i + 1) (by omega) (by omega)
        rw [show pauseN o.base o.top (i + 1) = min (2 * pauseN o.base o.top i) o.top from rfl, show (((i + 1 : Nat) : Int) + 1) = (i : Int) + 1 + 1 from by omega] at this
        (repeat (first
 | (simp (disch := omega) only [evA, evB, evC, bAdd_i64, bSub_i64, g', g2', emul])
 | (with_reducible apply go_ld1 h)
 | ((with_reducible first | apply go_ldA h | apply go_rd h | apply go_rdN h | apply go_rlen h); rfl)
 | (with_reducible first | apply go_ldN h | apply go_lenL h)
 | ((with_reducible apply go_st h); intro _ h)
 | ((with_reducible apply go_stA h); rfl; rfl; (first | rfl | simp [OneV.o]); intro _ h)
 | ((with_reducible apply go_stN h); rfl; (first | rfl | simp [OneV.o]); intro _ h)
 | ((with_reducible apply go_box h); rfl; intro _ _ h)
 | ((with_reducible apply go_ix h); omega)
 | ((with_reducible first | apply go_elN h | apply go_f1 h | apply go_rf1 h | apply go_rel h); (case hi => omega); (try case hx => exact inferInstance); (try case hv => rfl))
 | ((with_reducible apply go_fa h); omega; omega)
))
        exact this
      · have g2' : decide (pauseN o.base o.top i < o.top) = false := by simpa using g2
        have et : pauseN o.base o.top i = o.top := by omega
        have := pauseN_top (base := o.base) (top := o.top) ⟨hb.1, hb.2.1⟩ et (k - i)
        rw [show i + (k - i) = k from by omega] at this
        (repeat (first
 | (simp (disch := omega) only [evA, evB, evC, bAdd_i64, bSub_i64, g', g2'])
 | (with_reducible apply go_ld1 h)
 | ((with_reducible first | apply go_ldA h | apply go_rd h | apply go_rdN h | apply go_rlen h); rfl)
 | (with_reducible first | apply go_ldN h | apply go_lenL h)
 | ((with_reducible apply go_st h); intro _ h)
 | ((with_reducible apply go_stA h); rfl; rfl; (first | rfl | simp [OneV.o]); intro _ h)
 | ((with_reducible apply go_stN h); rfl; (first | rfl | simp [OneV.o]); intro _ h)
 | ((with_reducible apply go_box h); rfl; intro _ _ h)
 | ((with_reducible apply go_ix h); omega)
 | ((with_reducible first | apply go_elN h | apply go_f1 h | apply go_rf1 h | apply go_rel h); (case hi => omega); (try case hx => exact inferInstance); (try case hv => rfl))
 | ((with_reducible apply go_fa h); omega; omega)
))
        unfold F43_3 F43_3b
        rw [et, ← this]
        exact hK
    · have g' : decide ((i : Int) + 1 < (k : Int) + 1) = false := by simp; omega
      have e : i = k := by omega
      subst e
      (repeat (first
 | (simp (disch := omega) only [evA, evB, evC, bAdd_i64, bSub_i64, g'])
 | (with_reducible apply go_ld1 h)
 | ((with_reducible first | apply go_ldA h | apply go_rd h | apply go_rdN h | apply go_rlen h); rfl)
 | (with_reducible first | apply go_ldN h | apply go_lenL h)
 | ((with_reducible apply go_st h); intro _ h)
 | ((with_reducible apply go_stA h); rfl; rfl; (first | rfl | simp [OneV.o]); intro _ h)
 | ((with_reducible apply go_stN h); rfl; (first | rfl | simp [OneV.o]); intro _ h)
 | ((with_reducible apply go_box h); rfl; intro _ _ h)
 | ((with_reducible apply go_ix h); omega)
 | ((with_reducible first | apply go_elN h | apply go_f1 h | apply go_rf1 h | apply go_rel h); (case hi => omega); (try case hx => exact inferInstance); (try case hv => rfl))
 | ((with_reducible apply go_fa h); omega; omega)
))
      unfold F43_3 F43_3b
      exact hK
theorem rpause_spec {q k : Nat} {s : Value} (hb : 1 ≤ o.base ∧ o.base ≤ o.top ∧ o.top ≤ 144115188075855872) (hk : k ≤ 1073741824) (h : Sat w0 (RCl q o s :: L) w) (hK : K (.int .i64 (pauseN o.base o.top k)) w) : callP G43 [ptr q, .int .i64 ((k : Int) + 1)] w K := by
  refine c43 ?_
  unfold F43 F43_1 F43_1b F43_2
  (repeat (first
 | (simp (disch := omega) only [evA, evB, evC, bAdd_i64, bSub_i64])
 | (with_reducible apply go_ld1 h)
 | ((with_reducible first | apply go_ldA h | apply go_rd h | apply go_rdN h | apply go_rlen h); rfl)
 | (with_reducible first | apply go_ldN h | apply go_lenL h)
 | ((with_reducible apply go_st h); intro _ h)
 | ((with_reducible apply go_stA h); rfl; rfl; (first | rfl | simp [OneV.o]); intro _ h)
 | ((with_reducible apply go_stN h); rfl; (first | rfl | simp [OneV.o]); intro _ h)
 | ((with_reducible apply go_box h); rfl; intro _ _ h)
 | ((with_reducible apply go_ix h); omega)
 | ((with_reducible first | apply go_elN h | apply go_f1 h | apply go_rf1 h | apply go_rel h); (case hi => omega); (try case hx => exact inferInstance); (try case hv => rfl))
 | ((with_reducible apply go_fa h); omega; omega)
))
  exact rpause_loop hb hk h hK fuel 0 (by unfold fuel; omega) (by omega)
end
end Go.Proofs.Gong
