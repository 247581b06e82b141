/- A part of the proofs: what stands below it, told in lemmas. No condition. -/
import Derived.Test.YtpbfmiphjcmjjaaP3
import Derived.Test.YtpbfmiphjcmjjaaP1
set_option linter.all false

/- Be5 -/
namespace Go.Proofs.Gong
open Go Go.Sx Go.Proofs
set_option maxRecDepth 100000
def loadStepR (next : Int) (rs : List Row) (r : Row) : Option (List Row) :=
  if okR r = true ∧ r.id < next ∧ (∀ d ∈ rs, d.id ≠ r.id) ∧ (∀ d ∈ rs, sgOf d.e ≠ sgOf r.e) then some (insR r rs) else none
def loadR (next : Int) : List Row → List Row → Option (List Row)
  | [], rs => some rs
  | r :: l, rs => (loadStepR next rs r).bind (loadR next l)
attribute [local irreducible] fBuild fLook fZero eqv bEqv Cl MapH LsH SlH ld1 ldN st callP eBox eAlloc lenM lenL eMapSet eDelete eAppend eBuildSl eRange eNext
section
variable {w0 w : World} {L : List HP} {K : Value → World → Prop} {v : Value} {n next : Int} {R : List (Int × Row)} {I : List (Sg × Int)} {rs : List Row} {r : Row}
theorem bload2 {p : Nat} {sv : Value} {l ds : List Row} {next0 : Int} (hlen : (l.length : Int) ≤ n) (hn : 1 ≤ n ∧ n ≤ 65536) (hnx : 1 ≤ next ∧ next ≤ 1152921504606846976) (hrd : RdL w0 L cRow 11 sv l)
    (hK : ∀ w', Sat w0 (BoardA (ptr p) n next ds :: L) w' → K (.int .i64 0) w') :
    ∀ (d i : Nat) (cs : List Row) (R : List (Int × Row)) (I : List (Sg × Int)) (w : World), l.length - i < d → i ≤ l.length → cs.length = i → loadR next (l.drop i) cs = some ds → BInv n next R I cs →
      Sat w0 (BoardI (ptr p) n next0 R I :: L) w → F44_4L d (ptr p) (.int .i64 next) sv (.int .i64 (l.length : Nat)) (.int .i64 i) w K := by
  intro d
  induction d with
  | zero => intro i _ _ _ _ hd; omega
  | succ d ih =>
    intro i cs R I w hd hi hc he H h
    rw [F44_4L]
    unfold F44_4b
    by_cases g : i < l.length
    · have g' : decide ((i : Int) < (l.length : Int)) = true := by simpa using g
      rw [List.drop_eq_getElem_cons g] at he
      unfold loadR loadStepR at he
      split at he
      case isFalse => cases he
      rename_i hs
      have hrL : Rd w 11 sv l.length (l.flatMap cRow) := hrd w (h.got)
      (repeat (first
 | (simp (disch := omega) only [evA, evB, evC, bAdd_i64, bSub_i64, g'])
 | (with_reducible apply go_ld1 h)
 | ((with_reducible first | apply go_ldA h | apply go_rd h | apply go_rdN h | apply go_rlen h); rfl)
 | (with_reducible first | apply go_ldN h | apply go_lenL h)
 | ((with_reducible apply go_st h); intro _ h)
 | ((with_reducible apply go_stA h); rfl; rfl; (first | rfl | simp [OneV.o]); intro _ h)
 | ((with_reducible apply go_stN h); rfl; (first | rfl | simp [OneV.o]); intro _ h)
 | ((with_reducible apply go_box h); rfl; intro _ _ h)
 | ((with_reducible apply go_ix h); omega)
 | ((with_reducible first | apply go_elN h | apply go_f1 h | apply go_rf1 h | apply go_rel h); (case hi => omega); (try case hx => exact inferInstance); (try case hv => rfl))
 | ((with_reducible apply go_fa h); omega; omega)
))
      refine go_some (ix_el hrL g) ?_
      refine go_some (rd_ld CR hrL g) ?_
      (repeat (first
 | (simp (disch := omega) only [evA, evB, evC, bAdd_i64, bSub_i64])
 | (with_reducible apply go_ld1 h)
 | ((with_reducible first | apply go_ldA h | apply go_rd h | apply go_rdN h | apply go_rlen h); rfl)
 | (with_reducible first | apply go_ldN h | apply go_lenL h)
 | ((with_reducible apply go_st h); intro _ h)
 | ((with_reducible apply go_stA h); rfl; rfl; (first | rfl | simp [OneV.o]); intro _ h)
 | ((with_reducible apply go_stN h); rfl; (first | rfl | simp [OneV.o]); intro _ h)
 | ((with_reducible apply go_box h); rfl; intro _ _ h)
 | ((with_reducible apply go_ix h); omega)
 | ((with_reducible first | apply go_elN h | apply go_f1 h | apply go_rf1 h | apply go_rel h); (case hi => omega); (try case hx => exact inferInstance); (try case hv => rfl))
 | ((with_reducible apply go_fa h); omega; omega)
))
      refine go_alloc h zR rfl fun _ _ h => ?_
      (repeat (first
 | (simp (disch := omega) only [evA, evB, evC, bAdd_i64, bSub_i64])
 | (with_reducible apply go_ld1 h)
 | ((with_reducible first | apply go_ldA h | apply go_rd h | apply go_rdN h | apply go_rlen h); rfl)
 | (with_reducible first | apply go_ldN h | apply go_lenL h)
 | ((with_reducible apply go_st h); intro _ h)
 | ((with_reducible apply go_stA h); rfl; rfl; (first | rfl | simp [OneV.o]); intro _ h)
 | ((with_reducible apply go_stN h); rfl; (first | rfl | simp [OneV.o]); intro _ h)
 | ((with_reducible apply go_box h); rfl; intro _ _ h)
 | ((with_reducible apply go_ix h); omega)
 | ((with_reducible first | apply go_elN h | apply go_f1 h | apply go_rf1 h | apply go_rel h); (case hi => omega); (try case hx => exact inferInstance); (try case hv => rfl))
 | ((with_reducible apply go_fa h); omega; omega)
))
      refine put_bspec (r := l[i]) (v := ptr p) (n := n) (next := next0) (R := R) (I := I) (L := _ :: L) (h.got) fun w h => ?_
      (repeat (first
 | (simp (disch := omega) only [evA, evB, evC, bAdd_i64, bSub_i64])
 | (with_reducible apply go_ld1 h)
 | ((with_reducible first | apply go_ldA h | apply go_rd h | apply go_rdN h | apply go_rlen h); rfl)
 | (with_reducible first | apply go_ldN h | apply go_lenL h)
 | ((with_reducible apply go_st h); intro _ h)
 | ((with_reducible apply go_stA h); rfl; rfl; (first | rfl | simp [OneV.o]); intro _ h)
 | ((with_reducible apply go_stN h); rfl; (first | rfl | simp [OneV.o]); intro _ h)
 | ((with_reducible apply go_box h); rfl; intro _ _ h)
 | ((with_reducible apply go_ix h); omega)
 | ((with_reducible first | apply go_elN h | apply go_f1 h | apply go_rf1 h | apply go_rel h); (case hi => omega); (try case hx => exact inferInstance); (try case hv => rfl))
 | ((with_reducible apply go_fa h); omega; omega)
))
      refine ih (i + 1) (insR l[i] cs) _ _ w (by omega) (by omega) ?_ he (H.ins hs.1 hs.2.2.2 hs.2.2.1 (by omega) hs.2.1) (h.got)
      have := (insR_perm l[i] cs).length_eq; simp at this; omega
    · have g' : decide ((i : Int) < (l.length : Int)) = false := by simpa using g
      rw [List.drop_eq_nil_of_le (by omega)] at he
      simp only [loadR, Option.some.injEq] at he
      subst he
      (repeat (first
 | (simp (disch := omega) only [evA, evB, evC, bAdd_i64, bSub_i64, g'])
 | (with_reducible apply go_ld1 h)
 | ((with_reducible first | apply go_ldA h | apply go_rd h | apply go_rdN h | apply go_rlen h); rfl)
 | (with_reducible first | apply go_ldN h | apply go_lenL h)
 | ((with_reducible apply go_st h); intro _ h)
 | ((with_reducible apply go_stA h); rfl; rfl; (first | rfl | simp [OneV.o]); intro _ h)
 | ((with_reducible apply go_stN h); rfl; (first | rfl | simp [OneV.o]); intro _ h)
 | ((with_reducible apply go_box h); rfl; intro _ _ h)
 | ((with_reducible apply go_ix h); omega)
 | ((with_reducible first | apply go_elN h | apply go_f1 h | apply go_rf1 h | apply go_rel h); (case hi => omega); (try case hx => exact inferInstance); (try case hv => rfl))
 | ((with_reducible apply go_fa h); omega; omega)
))
      unfold F44_5 F44_5b
      replace h := board_iff.1 h
      obtain ⟨p', mr, mi, e, h⟩ := h
      cases e
      (repeat (first
 | (simp (disch := omega) only [evA, evB, evC, bAdd_i64, bSub_i64])
 | (with_reducible apply go_ld1 h)
 | ((with_reducible first | apply go_ldA h | apply go_rd h | apply go_rdN h | apply go_rlen h); rfl)
 | (with_reducible first | apply go_ldN h | apply go_lenL h)
 | ((with_reducible apply go_st h); intro _ h)
 | ((with_reducible apply go_stA h); rfl; rfl; (first | rfl | simp [OneV.o]); intro _ h)
 | ((with_reducible apply go_stN h); rfl; (first | rfl | simp [OneV.o]); intro _ h)
 | ((with_reducible apply go_box h); rfl; intro _ _ h)
 | ((with_reducible apply go_ix h); omega)
 | ((with_reducible first | apply go_elN h | apply go_f1 h | apply go_rf1 h | apply go_rel h); (case hi => omega); (try case hx => exact inferInstance); (try case hv => rfl))
 | ((with_reducible apply go_fa h); omega; omega)
))
      exact hK _ (boardA_iff.2 ⟨R, I, ⟨H, by omega, by omega⟩, board_iff.2 ⟨p, mr, mi, rfl, h.got⟩⟩)
theorem bload1 {q : Nat} {v sv : Value} {l : List Row} (hfit : ∀ x ∈ l, x.e.fits ∧ x.who.length < 1073741824) (hlen : l.length ≤ 65536) (hnx : 1 ≤ next ∧ next ≤ 1152921504606846976) (hrd : RdL w0 L cRow 11 sv l)
    (hK0 : loadR next l [] = none → ∀ w', Sat w0 L w' → K (.int .i64 4) w') (hK1 : ∀ ds, loadR next l [] = some ds → ∀ w', Sat w0 L w' → F44_3 v sv (.int .i64 next) w' K) :
    ∀ (d i : Nat) (cs : List Row) (R : List (Int × Row)) (I : List (Sg × Int)) (w : World), l.length - i < d → i ≤ l.length → cs.length = i → loadR next l [] = loadR next (l.drop i) cs → BInv 65536 next R I cs →
      Sat w0 (BoardI (ptr q) n next R I :: L) w → F44_2L d v sv (.int .i64 next) (ptr q) sv (.int .i64 (l.length : Nat)) (.int .i64 i) w K := by
  intro d
  induction d with
  | zero => intro i _ _ _ _ hd; omega
  | succ d ih =>
    intro i cs R I w hd hi hc he H h
    rw [F44_2L]
    unfold F44_2b
    by_cases g : i < l.length
    · have g' : decide ((i : Int) < (l.length : Int)) = true := by simpa using g
      rw [List.drop_eq_getElem_cons g] at he
      replace h := board_iff.1 h
      obtain ⟨p', mr, mi, e, h⟩ := h
      cases e
      have := map_one (h.frt (A := MapH kI rowV mr R))
      have := map_one (h.frt (A := MapH ekS kI mi I))
      have hrL : Rd w 11 sv l.length (l.flatMap cRow) := hrd w (h.got)
      (repeat (first
 | (simp (disch := omega) only [evA, evB, evC, bAdd_i64, bSub_i64, g'])
 | (with_reducible apply go_ld1 h)
 | ((with_reducible first | apply go_ldA h | apply go_rd h | apply go_rdN h | apply go_rlen h); rfl)
 | (with_reducible first | apply go_ldN h | apply go_lenL h)
 | ((with_reducible apply go_st h); intro _ h)
 | ((with_reducible apply go_stA h); rfl; rfl; (first | rfl | simp [OneV.o]); intro _ h)
 | ((with_reducible apply go_stN h); rfl; (first | rfl | simp [OneV.o]); intro _ h)
 | ((with_reducible apply go_box h); rfl; intro _ _ h)
 | ((with_reducible apply go_ix h); omega)
 | ((with_reducible first | apply go_elN h | apply go_f1 h | apply go_rf1 h | apply go_rel h); (case hi => omega); (try case hx => exact inferInstance); (try case hv => rfl))
 | ((with_reducible apply go_fa h); omega; omega)
))
      refine go_some (ix_el hrL g) ?_
      refine go_some (rd_ld CR hrL g) ?_
      have hfc := hfit _ (List.getElem_mem g)
      generalize l[i] = c at he hfc
      have hbad : loadStepR next cs c = none → loadR next l [] = none := fun h => by rw [he]; simp [loadR, h]
      (repeat (first
 | (simp (disch := omega) only [evA, evB, evC, bAdd_i64, bSub_i64])
 | (with_reducible apply go_ld1 h)
 | ((with_reducible first | apply go_ldA h | apply go_rd h | apply go_rdN h | apply go_rlen h); rfl)
 | (with_reducible first | apply go_ldN h | apply go_lenL h)
 | ((with_reducible apply go_st h); intro _ h)
 | ((with_reducible apply go_stA h); rfl; rfl; (first | rfl | simp [OneV.o]); intro _ h)
 | ((with_reducible apply go_stN h); rfl; (first | rfl | simp [OneV.o]); intro _ h)
 | ((with_reducible apply go_box h); rfl; intro _ _ h)
 | ((with_reducible apply go_ix h); omega)
 | ((with_reducible first | apply go_elN h | apply go_f1 h | apply go_rf1 h | apply go_rel h); (case hi => omega); (try case hx => exact inferInstance); (try case hv => rfl))
 | ((with_reducible apply go_fa h); omega; omega)
))
      refine go_alloc h zR rfl fun _ _ h => ?_
      (repeat (first
 | (simp (disch := omega) only [evA, evB, evC, bAdd_i64, bSub_i64])
 | (with_reducible apply go_ld1 h)
 | ((with_reducible first | apply go_ldA h | apply go_rd h | apply go_rdN h | apply go_rlen h); rfl)
 | (with_reducible first | apply go_ldN h | apply go_lenL h)
 | ((with_reducible apply go_st h); intro _ h)
 | ((with_reducible apply go_stA h); rfl; rfl; (first | rfl | simp [OneV.o]); intro _ h)
 | ((with_reducible apply go_stN h); rfl; (first | rfl | simp [OneV.o]); intro _ h)
 | ((with_reducible apply go_box h); rfl; intro _ _ h)
 | ((with_reducible apply go_ix h); omega)
 | ((with_reducible first | apply go_elN h | apply go_f1 h | apply go_rf1 h | apply go_rel h); (case hi => omega); (try case hx => exact inferInstance); (try case hv => rfl))
 | ((with_reducible apply go_fa h); omega; omega)
))
      refine go_look2 h (by repeat (first | exact .here | apply Fnt.there)) KIr um107 zR c.id ?_
      rw [elimR]
      (repeat (first
 | (simp (disch := omega) only [evA, evB, evC, bAdd_i64, bSub_i64])
 | (with_reducible apply go_ld1 h)
 | ((with_reducible first | apply go_ldA h | apply go_rd h | apply go_rdN h | apply go_rlen h); rfl)
 | (with_reducible first | apply go_ldN h | apply go_lenL h)
 | ((with_reducible apply go_st h); intro _ h)
 | ((with_reducible apply go_stA h); rfl; rfl; (first | rfl | simp [OneV.o]); intro _ h)
 | ((with_reducible apply go_stN h); rfl; (first | rfl | simp [OneV.o]); intro _ h)
 | ((with_reducible apply go_box h); rfl; intro _ _ h)
 | ((with_reducible apply go_ix h); omega)
 | ((with_reducible first | apply go_elN h | apply go_f1 h | apply go_rf1 h | apply go_rel h); (case hi => omega); (try case hx => exact inferInstance); (try case hv => rfl))
 | ((with_reducible apply go_fa h); omega; omega)
))
      refine go_alloc h zR rfl fun _ _ h => ?_
      (repeat (first
 | (simp (disch := omega) only [evA, evB, evC, bAdd_i64, bSub_i64])
 | (with_reducible apply go_ld1 h)
 | ((with_reducible first | apply go_ldA h | apply go_rd h | apply go_rdN h | apply go_rlen h); rfl)
 | (with_reducible first | apply go_ldN h | apply go_lenL h)
 | ((with_reducible apply go_st h); intro _ h)
 | ((with_reducible apply go_stA h); rfl; rfl; (first | rfl | simp [OneV.o]); intro _ h)
 | ((with_reducible apply go_stN h); rfl; (first | rfl | simp [OneV.o]); intro _ h)
 | ((with_reducible apply go_box h); rfl; intro _ _ h)
 | ((with_reducible apply go_ix h); omega)
 | ((with_reducible first | apply go_elN h | apply go_f1 h | apply go_rf1 h | apply go_rel h); (case hi => omega); (try case hx => exact inferInstance); (try case hv => rfl))
 | ((with_reducible apply go_fa h); omega; omega)
))
      refine go_fok ((look2 (h.frt) KIr um107 zR c.id).trans (by rw [elimR])) ?_
      (repeat (first
 | (simp (disch := omega) only [evA, evB, evC, bAdd_i64, bSub_i64])
 | (with_reducible apply go_ld1 h)
 | ((with_reducible first | apply go_ldA h | apply go_rd h | apply go_rdN h | apply go_rlen h); rfl)
 | (with_reducible first | apply go_ldN h | apply go_lenL h)
 | ((with_reducible apply go_st h); intro _ h)
 | ((with_reducible apply go_stA h); rfl; rfl; (first | rfl | simp [OneV.o]); intro _ h)
 | ((with_reducible apply go_stN h); rfl; (first | rfl | simp [OneV.o]); intro _ h)
 | ((with_reducible apply go_box h); rfl; intro _ _ h)
 | ((with_reducible apply go_ix h); omega)
 | ((with_reducible first | apply go_elN h | apply go_f1 h | apply go_rf1 h | apply go_rel h); (case hi => omega); (try case hx => exact inferInstance); (try case hv => rfl))
 | ((with_reducible apply go_fa h); omega; omega)
))
      refine of_spec (e := c.e) h.drew fun w h => ?_
      (repeat (first
 | (simp (disch := omega) only [evA, evB, evC, bAdd_i64, bSub_i64])
 | (with_reducible apply go_ld1 h)
 | ((with_reducible first | apply go_ldA h | apply go_rd h | apply go_rdN h | apply go_rlen h); rfl)
 | (with_reducible first | apply go_ldN h | apply go_lenL h)
 | ((with_reducible apply go_st h); intro _ h)
 | ((with_reducible apply go_stA h); rfl; rfl; (first | rfl | simp [OneV.o]); intro _ h)
 | ((with_reducible apply go_stN h); rfl; (first | rfl | simp [OneV.o]); intro _ h)
 | ((with_reducible apply go_box h); rfl; intro _ _ h)
 | ((with_reducible apply go_ix h); omega)
 | ((with_reducible first | apply go_elN h | apply go_f1 h | apply go_rf1 h | apply go_rel h); (case hi => omega); (try case hx => exact inferInstance); (try case hv => rfl))
 | ((with_reducible apply go_fa h); omega; omega)
))
      refine go_look2 h (by repeat (first | exact .here | apply Fnt.there)) KS um108 z3 (sgOf c.e) ?_
      (repeat (first
 | (simp (disch := omega) only [evA, evB, evC, bAdd_i64, bSub_i64])
 | (with_reducible apply go_ld1 h)
 | ((with_reducible first | apply go_ldA h | apply go_rd h | apply go_rdN h | apply go_rlen h); rfl)
 | (with_reducible first | apply go_ldN h | apply go_lenL h)
 | ((with_reducible apply go_st h); intro _ h)
 | ((with_reducible apply go_stA h); rfl; rfl; (first | rfl | simp [OneV.o]); intro _ h)
 | ((with_reducible apply go_stN h); rfl; (first | rfl | simp [OneV.o]); intro _ h)
 | ((with_reducible apply go_box h); rfl; intro _ _ h)
 | ((with_reducible apply go_ix h); omega)
 | ((with_reducible first | apply go_elN h | apply go_f1 h | apply go_rf1 h | apply go_rel h); (case hi => omega); (try case hx => exact inferInstance); (try case hv => rfl))
 | ((with_reducible apply go_fa h); omega; omega)
))
      refine bcheck_spec (r := c) hfc.1 hfc.2 h fun w h => ?_
      unfold chkR
      cases g1 : okR c
      · have d4 : decide ((4 : Int) = 0) = false := by decide
        (repeat (first
 | (simp (disch := omega) only [evA, evB, evC, bAdd_i64, bSub_i64, Bool.false_eq_true, if_false, d4])
 | (with_reducible apply go_ld1 h)
 | ((with_reducible first | apply go_ldA h | apply go_rd h | apply go_rdN h | apply go_rlen h); rfl)
 | (with_reducible first | apply go_ldN h | apply go_lenL h)
 | ((with_reducible apply go_st h); intro _ h)
 | ((with_reducible apply go_stA h); rfl; rfl; (first | rfl | simp [OneV.o]); intro _ h)
 | ((with_reducible apply go_stN h); rfl; (first | rfl | simp [OneV.o]); intro _ h)
 | ((with_reducible apply go_box h); rfl; intro _ _ h)
 | ((with_reducible apply go_ix h); omega)
 | ((with_reducible first | apply go_elN h | apply go_f1 h | apply go_rf1 h | apply go_rel h); (case hi => omega); (try case hx => exact inferInstance); (try case hv => rfl))
 | ((with_reducible apply go_fa h); omega; omega)
))
        exact hK0 (hbad (by unfold loadStepR; rw [if_neg]; simp [g1])) _ (h.got)
      by_cases g3 : c.id ≥ next
      · have g3' : decide (c.id ≥ next) = true := by simpa using g3
        (repeat (first
 | (simp (disch := omega) only [evA, evB, evC, bAdd_i64, bSub_i64, if_true, g3'])
 | (with_reducible apply go_ld1 h)
 | ((with_reducible first | apply go_ldA h | apply go_rd h | apply go_rdN h | apply go_rlen h); rfl)
 | (with_reducible first | apply go_ldN h | apply go_lenL h)
 | ((with_reducible apply go_st h); intro _ h)
 | ((with_reducible apply go_stA h); rfl; rfl; (first | rfl | simp [OneV.o]); intro _ h)
 | ((with_reducible apply go_stN h); rfl; (first | rfl | simp [OneV.o]); intro _ h)
 | ((with_reducible apply go_box h); rfl; intro _ _ h)
 | ((with_reducible apply go_ix h); omega)
 | ((with_reducible first | apply go_elN h | apply go_f1 h | apply go_rf1 h | apply go_rel h); (case hi => omega); (try case hx => exact inferInstance); (try case hv => rfl))
 | ((with_reducible apply go_fa h); omega; omega)
))
        exact hK0 (hbad (by unfold loadStepR; rw [if_neg]; omega)) _ (h.got)
      have g3' : decide (c.id ≥ next) = false := by simpa using g3
      cases g4 : (aGet c.id R).isSome
      case true =>
        (repeat (first
 | (simp (disch := omega) only [evA, evB, evC, bAdd_i64, bSub_i64, if_true, g3'])
 | (with_reducible apply go_ld1 h)
 | ((with_reducible first | apply go_ldA h | apply go_rd h | apply go_rdN h | apply go_rlen h); rfl)
 | (with_reducible first | apply go_ldN h | apply go_lenL h)
 | ((with_reducible apply go_st h); intro _ h)
 | ((with_reducible apply go_stA h); rfl; rfl; (first | rfl | simp [OneV.o]); intro _ h)
 | ((with_reducible apply go_stN h); rfl; (first | rfl | simp [OneV.o]); intro _ h)
 | ((with_reducible apply go_box h); rfl; intro _ _ h)
 | ((with_reducible apply go_ix h); omega)
 | ((with_reducible first | apply go_elN h | apply go_f1 h | apply go_rf1 h | apply go_rel h); (case hi => omega); (try case hx => exact inferInstance); (try case hv => rfl))
 | ((with_reducible apply go_fa h); omega; omega)
))
        refine hK0 (hbad ?_) _ (h.got)
        unfold loadStepR
        rw [if_neg]
        intro hh
        rw [H.get_none hh.2.2.1] at g4; cases g4
      cases g5 : (aGet (sgOf c.e) I).isSome
      case true =>
        (repeat (first
 | (simp (disch := omega) only [evA, evB, evC, bAdd_i64, bSub_i64, if_true, g3'])
 | (with_reducible apply go_ld1 h)
 | ((with_reducible first | apply go_ldA h | apply go_rd h | apply go_rdN h | apply go_rlen h); rfl)
 | (with_reducible first | apply go_ldN h | apply go_lenL h)
 | ((with_reducible apply go_st h); intro _ h)
 | ((with_reducible apply go_stA h); rfl; rfl; (first | rfl | simp [OneV.o]); intro _ h)
 | ((with_reducible apply go_stN h); rfl; (first | rfl | simp [OneV.o]); intro _ h)
 | ((with_reducible apply go_box h); rfl; intro _ _ h)
 | ((with_reducible apply go_ix h); omega)
 | ((with_reducible first | apply go_elN h | apply go_f1 h | apply go_rf1 h | apply go_rel h); (case hi => omega); (try case hx => exact inferInstance); (try case hv => rfl))
 | ((with_reducible apply go_fa h); omega; omega)
))
        refine hK0 (hbad ?_) _ (h.got)
        unfold loadStepR
        rw [if_neg]
        intro hh
        rw [H.snone hh.2.2.2] at g5; cases g5
      have n1 : ∀ d ∈ cs, d.id ≠ c.id := fun d hd e => by
        have hs := H.get hd
        rw [e] at hs; rw [hs] at g4; cases g4
      have n2 : ∀ d ∈ cs, sgOf d.e ≠ sgOf c.e := fun d hd e => by
        have hs := H.sget hd
        rw [e] at hs; rw [hs] at g5; cases g5
      have hstep : loadStepR next cs c = some (insR c cs) := by
        unfold loadStepR
        rw [if_pos ⟨g1, by omega, n1, n2⟩]
      (repeat (first
 | (simp (disch := omega) only [evA, evB, evC, bAdd_i64, bSub_i64, if_true, g3'])
 | (with_reducible apply go_ld1 h)
 | ((with_reducible first | apply go_ldA h | apply go_rd h | apply go_rdN h | apply go_rlen h); rfl)
 | (with_reducible first | apply go_ldN h | apply go_lenL h)
 | ((with_reducible apply go_st h); intro _ h)
 | ((with_reducible apply go_stA h); rfl; rfl; (first | rfl | simp [OneV.o]); intro _ h)
 | ((with_reducible apply go_stN h); rfl; (first | rfl | simp [OneV.o]); intro _ h)
 | ((with_reducible apply go_box h); rfl; intro _ _ h)
 | ((with_reducible apply go_ix h); omega)
 | ((with_reducible first | apply go_elN h | apply go_f1 h | apply go_rf1 h | apply go_rel h); (case hi => omega); (try case hx => exact inferInstance); (try case hv => rfl))
 | ((with_reducible apply go_fa h); omega; omega)
))
      refine put_bspec (r := c) (v := ptr q) (n := n) (next := next) (R := R) (I := I) (L := _ :: _ :: L) (board_iff.2 ⟨q, mr, mi, rfl, h.got⟩) fun w h => ?_
      (repeat (first
 | (simp (disch := omega) only [evA, evB, evC, bAdd_i64, bSub_i64])
 | (with_reducible apply go_ld1 h)
 | ((with_reducible first | apply go_ldA h | apply go_rd h | apply go_rdN h | apply go_rlen h); rfl)
 | (with_reducible first | apply go_ldN h | apply go_lenL h)
 | ((with_reducible apply go_st h); intro _ h)
 | ((with_reducible apply go_stA h); rfl; rfl; (first | rfl | simp [OneV.o]); intro _ h)
 | ((with_reducible apply go_stN h); rfl; (first | rfl | simp [OneV.o]); intro _ h)
 | ((with_reducible apply go_box h); rfl; intro _ _ h)
 | ((with_reducible apply go_ix h); omega)
 | ((with_reducible first | apply go_elN h | apply go_f1 h | apply go_rf1 h | apply go_rel h); (case hi => omega); (try case hx => exact inferInstance); (try case hv => rfl))
 | ((with_reducible apply go_fa h); omega; omega)
))
      refine ih (i + 1) (insR c cs) _ _ w (by omega) (by omega) ?_ ?_ (H.ins g1 n2 n1 (by omega) (by omega)) (h.got)
      · have := (insR_perm c cs).length_eq; simp at this; omega
      · rw [he]; simp [loadR, hstep]
    · have g' : decide ((i : Int) < (l.length : Int)) = false := by simpa using g
      (repeat (first
 | (simp (disch := omega) only [evA, evB, evC, bAdd_i64, bSub_i64, g'])
 | (with_reducible apply go_ld1 h)
 | ((with_reducible first | apply go_ldA h | apply go_rd h | apply go_rdN h | apply go_rlen h); rfl)
 | (with_reducible first | apply go_ldN h | apply go_lenL h)
 | ((with_reducible apply go_st h); intro _ h)
 | ((with_reducible apply go_stA h); rfl; rfl; (first | rfl | simp [OneV.o]); intro _ h)
 | ((with_reducible apply go_stN h); rfl; (first | rfl | simp [OneV.o]); intro _ h)
 | ((with_reducible apply go_box h); rfl; intro _ _ h)
 | ((with_reducible apply go_ix h); omega)
 | ((with_reducible first | apply go_elN h | apply go_f1 h | apply go_rf1 h | apply go_rel h); (case hi => omega); (try case hx => exact inferInstance); (try case hv => rfl))
 | ((with_reducible apply go_fa h); omega; omega)
))
      refine hK1 cs ?_ w (h.got)
      rw [he, List.drop_eq_nil_of_le (by omega)]; rfl
theorem baload_spec {sv : Value} {l : List Row} {next0 : Int} (hfit : ∀ x ∈ l, x.e.fits ∧ x.who.length < 1073741824) (hlen : l.length ≤ 65536) (hl : ∀ {w}, Sat w0 L w → lenL sv = some (.int .i64 l.length)) (hrd : RdL w0 L cRow 11 sv l)
    (h : Sat w0 (BoardA v n next0 rs :: L) w)
    (hKbad : (next < 1 ∨ 1152921504606846976 < next ∨ loadR next l [] = none) → ∀ w', Sat w0 (BoardA v n next0 rs :: L) w' → K (.int .i64 4) w')
    (hKfull : ∀ ds, loadR next l [] = some ds → 1 ≤ next ∧ next ≤ 1152921504606846976 → n < l.length → ∀ w', Sat w0 (BoardA v n next0 rs :: L) w' → K (.int .i64 200) w')
    (hK : ∀ ds, loadR next l [] = some ds → 1 ≤ next ∧ next ≤ 1152921504606846976 → (l.length : Int) ≤ n → ∀ w', Sat w0 (BoardA v n next ds :: L) w' → K (.int .i64 0) w') : callP G44 [v, sv, .int .i64 next] w K := by
  refine c44 ?_
  unfold F44 F44_1 F44_1b F44_2
  have hl := hl h.drop
  by_cases g1 : next < 1
  · have g1' : decide (next < 1) = true := by simpa using g1
    (repeat (first
 | (simp (disch := omega) only [evA, evB, evC, bAdd_i64, bSub_i64, g1'])
 | (with_reducible apply go_ld1 h)
 | ((with_reducible first | apply go_ldA h | apply go_rd h | apply go_rdN h | apply go_rlen h); rfl)
 | (with_reducible first | apply go_ldN h | apply go_lenL h)
 | ((with_reducible apply go_st h); intro _ h)
 | ((with_reducible apply go_stA h); rfl; rfl; (first | rfl | simp [OneV.o]); intro _ h)
 | ((with_reducible apply go_stN h); rfl; (first | rfl | simp [OneV.o]); intro _ h)
 | ((with_reducible apply go_box h); rfl; intro _ _ h)
 | ((with_reducible apply go_ix h); omega)
 | ((with_reducible first | apply go_elN h | apply go_f1 h | apply go_rf1 h | apply go_rel h); (case hi => omega); (try case hx => exact inferInstance); (try case hv => rfl))
 | ((with_reducible apply go_fa h); omega; omega)
))
    exact hKbad (.inl g1) _ h
  have g1' : decide (next < 1) = false := by simpa using g1
  by_cases g2 : next > 1152921504606846976
  · have g2' : decide (next > 1152921504606846976) = true := by simpa using g2
    (repeat (first
 | (simp (disch := omega) only [evA, evB, evC, bAdd_i64, bSub_i64, g1', g2'])
 | (with_reducible apply go_ld1 h)
 | ((with_reducible first | apply go_ldA h | apply go_rd h | apply go_rdN h | apply go_rlen h); rfl)
 | (with_reducible first | apply go_ldN h | apply go_lenL h)
 | ((with_reducible apply go_st h); intro _ h)
 | ((with_reducible apply go_stA h); rfl; rfl; (first | rfl | simp [OneV.o]); intro _ h)
 | ((with_reducible apply go_stN h); rfl; (first | rfl | simp [OneV.o]); intro _ h)
 | ((with_reducible apply go_box h); rfl; intro _ _ h)
 | ((with_reducible apply go_ix h); omega)
 | ((with_reducible first | apply go_elN h | apply go_f1 h | apply go_rf1 h | apply go_rel h); (case hi => omega); (try case hx => exact inferInstance); (try case hv => rfl))
 | ((with_reducible apply go_fa h); omega; omega)
))
    exact hKbad (.inr (.inl g2)) _ h
  have g2' : decide (next > 1152921504606846976) = false := by simpa using g2
  replace h := boardA_iff.1 h
  obtain ⟨R, I, H, h⟩ := h
  replace h := board_iff.1 h
  obtain ⟨p, mr, mi, rfl, h⟩ := h
  (repeat (first
 | (simp (disch := omega) only [evA, evB, evC, bAdd_i64, bSub_i64, g1', g2'])
 | (with_reducible apply go_ld1 h)
 | ((with_reducible first | apply go_ldA h | apply go_rd h | apply go_rdN h | apply go_rlen h); rfl)
 | (with_reducible first | apply go_ldN h | apply go_lenL h)
 | ((with_reducible apply go_st h); intro _ h)
 | ((with_reducible apply go_stA h); rfl; rfl; (first | rfl | simp [OneV.o]); intro _ h)
 | ((with_reducible apply go_stN h); rfl; (first | rfl | simp [OneV.o]); intro _ h)
 | ((with_reducible apply go_box h); rfl; intro _ _ h)
 | ((with_reducible apply go_ix h); omega)
 | ((with_reducible first | apply go_elN h | apply go_f1 h | apply go_rf1 h | apply go_rel h); (case hi => omega); (try case hx => exact inferInstance); (try case hv => rfl))
 | ((with_reducible apply go_fa h); omega; omega)
))
  refine eMakeMap_sat kI rowV h fun m1 w h => ?_
  obtain ⟨r1, _, _, ⟨e1, _⟩, _⟩ := map_iff.1 h
  refine eMakeMap_sat ekS kI h fun m2 w h => ?_
  obtain ⟨r2, _, _, ⟨e2, _⟩, _⟩ := map_iff.1 h
  subst e1 e2
  have eb : fBuild Try.prog 110 [(0, .int .i64 n), (1, .int .i64 next), (2, .map (some r1)), (3, .map (some r2))] = some (.agg #[.int .i64 n, .int .i64 next, .map (some r1), .map (some r2)]) := by kernel_rfl
  refine go_some eb ?_
  refine eBox_sat h fun q w h => ?_
  simp only [cells_agg] at h
  refine go_some hl ?_
  have h2 : Sat w0 (BoardI (ptr q) n next [] [] :: BoardA (ptr p) n next0 rs :: L) w := by
    refine board_iff.2 ⟨q, .map (some r1), .map (some r2), rfl, ?_⟩
    have h3 : Sat w0 (BoardA (ptr p) n next0 rs :: Cl q #[.int .i64 n, .int .i64 next, .map (some r1), .map (some r2)] 110 :: MapH ekS kI (.map (some r2)) [] :: MapH kI rowV (.map (some r1)) [] :: L) w := boardA_iff.2 ⟨R, I, H, board_iff.2 ⟨p, mr, mi, rfl, h.got⟩⟩
    exact h3.got
  refine bload1 (L := BoardA (ptr p) n next0 rs :: L) hfit hlen (by omega) hrd.cons (fun hb w h => hKbad (.inr (.inr hb)) w h) (fun ds hds w h => ?_) fuel 0 [] [] [] w (by unfold fuel; omega) (by omega) rfl (by simp) (.start (by omega) (by omega) next) h2
  clear h2
  unfold F44_3 F44_3b
  replace h := boardA_iff.1 h
  obtain ⟨R, I, H, h⟩ := h
  replace h := board_iff.1 h
  obtain ⟨p', mr, mi, e, h⟩ := h
  cases e
  have := map_one (h.frt (A := MapH kI rowV mr R))
  have := map_one (h.frt (A := MapH ekS kI mi I))
  by_cases g3 : (l.length : Int) > n
  · have g3' : decide ((l.length : Int) > n) = true := by simpa using g3
    (repeat (first
 | (simp (disch := omega) only [evA, evB, evC, bAdd_i64, bSub_i64, hl, g3'])
 | (with_reducible apply go_ld1 h)
 | ((with_reducible first | apply go_ldA h | apply go_rd h | apply go_rdN h | apply go_rlen h); rfl)
 | (with_reducible first | apply go_ldN h | apply go_lenL h)
 | ((with_reducible apply go_st h); intro _ h)
 | ((with_reducible apply go_stA h); rfl; rfl; (first | rfl | simp [OneV.o]); intro _ h)
 | ((with_reducible apply go_stN h); rfl; (first | rfl | simp [OneV.o]); intro _ h)
 | ((with_reducible apply go_box h); rfl; intro _ _ h)
 | ((with_reducible apply go_ix h); omega)
 | ((with_reducible first | apply go_elN h | apply go_f1 h | apply go_rf1 h | apply go_rel h); (case hi => omega); (try case hx => exact inferInstance); (try case hv => rfl))
 | ((with_reducible apply go_fa h); omega; omega)
))
    exact hKfull ds hds (by omega) (by omega) _ (boardA_iff.2 ⟨R, I, H, board_iff.2 ⟨p, mr, mi, rfl, h.got⟩⟩)
  · have g3' : decide ((l.length : Int) > n) = false := by simpa using g3
    (repeat (first
 | (simp (disch := omega) only [evA, evB, evC, bAdd_i64, bSub_i64, hl, g3'])
 | (with_reducible apply go_ld1 h)
 | ((with_reducible first | apply go_ldA h | apply go_rd h | apply go_rdN h | apply go_rlen h); rfl)
 | (with_reducible first | apply go_ldN h | apply go_lenL h)
 | ((with_reducible apply go_st h); intro _ h)
 | ((with_reducible apply go_stA h); rfl; rfl; (first | rfl | simp [OneV.o]); intro _ h)
 | ((with_reducible apply go_stN h); rfl; (first | rfl | simp [OneV.o]); intro _ h)
 | ((with_reducible apply go_box h); rfl; intro _ _ h)
 | ((with_reducible apply go_ix h); omega)
 | ((with_reducible first | apply go_elN h | apply go_f1 h | apply go_rf1 h | apply go_rel h); (case hi => omega); (try case hx => exact inferInstance); (try case hv => rfl))
 | ((with_reducible apply go_fa h); omega; omega)
))
    refine eClear_sat (h.frt (A := MapH kI rowV mr R)) um107 fun w h => ?_
    (repeat (first
 | (simp (disch := omega) only [evA, evB, evC, bAdd_i64, bSub_i64])
 | (with_reducible apply go_ld1 h)
 | ((with_reducible first | apply go_ldA h | apply go_rd h | apply go_rdN h | apply go_rlen h); rfl)
 | (with_reducible first | apply go_ldN h | apply go_lenL h)
 | ((with_reducible apply go_st h); intro _ h)
 | ((with_reducible apply go_stA h); rfl; rfl; (first | rfl | simp [OneV.o]); intro _ h)
 | ((with_reducible apply go_stN h); rfl; (first | rfl | simp [OneV.o]); intro _ h)
 | ((with_reducible apply go_box h); rfl; intro _ _ h)
 | ((with_reducible apply go_ix h); omega)
 | ((with_reducible first | apply go_elN h | apply go_f1 h | apply go_rf1 h | apply go_rel h); (case hi => omega); (try case hx => exact inferInstance); (try case hv => rfl))
 | ((with_reducible apply go_fa h); omega; omega)
))
    refine eClear_sat (h.frt (A := MapH ekS kI mi I)) um108 fun w h => ?_
    (repeat (first
 | (simp (disch := omega) only [evA, evB, evC, bAdd_i64, bSub_i64, hl])
 | (with_reducible apply go_ld1 h)
 | ((with_reducible first | apply go_ldA h | apply go_rd h | apply go_rdN h | apply go_rlen h); rfl)
 | (with_reducible first | apply go_ldN h | apply go_lenL h)
 | ((with_reducible apply go_st h); intro _ h)
 | ((with_reducible apply go_stA h); rfl; rfl; (first | rfl | simp [OneV.o]); intro _ h)
 | ((with_reducible apply go_stN h); rfl; (first | rfl | simp [OneV.o]); intro _ h)
 | ((with_reducible apply go_box h); rfl; intro _ _ h)
 | ((with_reducible apply go_ix h); omega)
 | ((with_reducible first | apply go_elN h | apply go_f1 h | apply go_rf1 h | apply go_rel h); (case hi => omega); (try case hx => exact inferInstance); (try case hv => rfl))
 | ((with_reducible apply go_fa h); omega; omega)
))
    unfold F44_4
    have hb := H.1.bd
    refine bload2 (next0 := next0) (by omega) (by omega) (by omega) hrd (fun w h => hK ds hds (by omega) (by omega) w h) fuel 0 [] [] [] w (by unfold fuel; omega) (by omega) rfl (by simpa using hds) (.start (by omega) (by omega) next) (board_iff.2 ⟨p, mr, mi, rfl, h.got⟩)
end
end Go.Proofs.Gong

/- Be6 -/
namespace Go.Proofs.Gong
open Go Go.Sx Go.Proofs
set_option maxRecDepth 100000
def FitRs (rs : List Row) : Prop := ∀ r ∈ rs, r.e.fits ∧ r.who.length < 1073741824
theorem fit_again {r : Row} {e : Evt} {now : Int} (h : r.e.fits ∧ r.who.length < 1073741824) (he : e.fits) : (againP r e now).1.e.fits ∧ (againP r e now).1.who.length < 1073741824 := by
  obtain ⟨h1, h2⟩ := h
  unfold Evt.fits at *
  unfold againP
  split
  · exact ⟨⟨h1.1, h1.2.1, h1.2.2.1, he.2.2.2⟩, h2⟩
  · split
    · exact ⟨⟨h1.1, h1.2.1, h1.2.2.1, he.2.2.2⟩, by simp⟩
    · exact ⟨⟨h1.1, h1.2.1, h1.2.2.1, he.2.2.2⟩, h2⟩
theorem fit_repl {rs : List Row} {r : Row} (h : FitRs rs) (hr : r.e.fits ∧ r.who.length < 1073741824) : FitRs (replL r rs) := by
  intro d hd
  obtain ⟨x, hx, rfl⟩ := List.mem_map.1 hd
  split
  · exact hr
  · exact h x hx
theorem fit_rem {rs : List Row} {id : Int} (h : FitRs rs) : FitRs (remL id rs) := fun d hd => h d (List.mem_filter.1 hd).1
theorem fit_raise {n next now : Int} {rs : List Row} {e : Evt} (h : FitRs rs) (he : e.fits) : FitRs (raiseA n next rs e now).2.2 := by
  unfold raiseA
  split
  · exact h
  split
  · exact h
  split
  · split
    · exact h
    split
    · exact h
    intro d hd
    rcases List.mem_append.1 hd with hd | hd
    · exact h d hd
    · simp at hd; subst hd; exact ⟨he, by simp⟩
  · rename_i r hf
    split
    · exact fit_rem h
    · exact fit_repl h (fit_again (h r (List.mem_of_find?_eq_some hf)) he)
theorem raise_next {n next now : Int} {rs : List Row} {e : Evt} : next ≤ (raiseA n next rs e now).2.1 ∧ (raiseA n next rs e now).2.1 ≤ next + 1 := by
  unfold raiseA
  split
  · simp; omega
  split
  · simp; omega
  split
  · split
    · simp; omega
    split
    · simp; omega
    simp; omega
  · split <;> (simp; omega)
attribute [local irreducible] fBuild fLook fZero eqv bEqv Cl MapH LsH SlH ld1 ldN st callP eBox eAlloc lenM lenL eMapSet eDelete eAppend eBuildSl eRange eNext
section
variable {w0 w : World} {L : List HP} {K : Value → World → Prop} {ha hb s0 s1 s2 : Value} {n next : Int} {cs : List Row}
end
end Go.Proofs.Gong

/- Be7 -/
namespace Go.Proofs.Gong
open Go Go.Sx Go.Proofs
set_option maxRecDepth 100000
attribute [local irreducible] fBuild fLook fZero eqv bEqv Cl MapH LsH SlH ld1 ldN st callP eBox eAlloc lenM lenL eMapSet eDelete eAppend eBuildSl eRange eNext
def laV (x y : Row) : Int := ordV (x.id, x.last) (y.id, y.last)
def laLt (x y : Row) : Bool := itLt (x.id, x.last) (y.id, y.last)
theorem laSWO : SWO laLt := ⟨fun a b h => itSWO.asym _ _ h, fun a b c h1 h2 => itSWO.tr _ _ _ h1 h2⟩
theorem laV_neg (x y : Row) : laV x y < 0 ↔ laLt x y = true := ordV_neg _ _
section
variable {w0 w : World} {L : List HP} {K : Value → World → Prop} {v : Value} {n next : Int} {R : List (Int × Row)} {I : List (Sg × Int)} {rs : List Row} {r : Row}
theorem bylast_calls (W : World) (x y : Row) : callP G88 [.agg (cRow x).toArray, .agg (cRow y).toArray] W fun v w' => v = .int .i64 (laV x y) ∧ Gr W w' := by
  refine c88 ?_
  unfold F88
  refine eBox_ex (Sat.start W) (Gr.refl W) fun p w1 h1 g1 => ?_
  refine eBox_ex h1 g1 fun q w2 h2 g2 => ?_
  have hp := h2.f1.cl
  have hq := h2.cl
  simp only [cRow, cells_agg] at hp hq
  simp [ptr, cell_of hp, cell_of hq]
  refine cmp_spec ?_
  refine ⟨by simp [cell_of hp, cell_of hq], ?_⟩
  refine cmp_spec ?_
  generalize ha : (if x.last < y.last then (-1 : Int) else if y.last < x.last then 1 else 0) = a
  generalize hb : (if x.id < y.id then (-1 : Int) else if y.id < x.id then 1 else 0) = b
  have e : (([a, b] : List Int).find? (fun c => decide (c ≠ 0))).getD 0 = laV x y := by
    rw [← ha, ← hb]; exact ord_find (x.id, x.last) (y.id, y.last)
  refine eBuildSl_ex (f := cI) (es := 1) (m := [a, b]) (c := #[.int .i64 a, .int .i64 b]) CI h2.drew g2.drew u22 (by kernel_rfl) rfl fun s w3 h3 g3 => ?_
  refine or_spec (ls_rd h3) (by simp) ?_
  rw [e]
  exact ⟨rfl, g3⟩
def oldP (t : Int) (r : Row) : Bool := decide (r.last ≤ t)
theorem exp_loop1 {p : Nat} {mr it : Value} {now keep : Int} (hnk : 0 ≤ now ∧ now ≤ 2305843009213693952 ∧ 1 ≤ keep ∧ keep ≤ 2305843009213693952) (hR : R.length ≤ 65536)
    (hK : ∀ s xs w', xs.Perm ((R.map Prod.snd).filter (oldP (now - keep))) → Sat w0 (LsH cRow 11 33 s xs :: MapH kI rowV mr R :: L) w' → F41_3 (ptr p) s w' K) :
    ∀ (d : Nat) (rem : List (Int × Row)) (xs : List Row) (s : Value) (w : World), rem.length < d → xs.length + rem.length ≤ 65536 → (xs ++ (rem.map Prod.snd).filter (oldP (now - keep))).Perm ((R.map Prod.snd).filter (oldP (now - keep))) →
      Sat w0 (ItH kI rowV it mr R rem :: LsH cRow 11 33 s xs :: L) w → F41_2L d (ptr p) (.int .i64 now) (.int .i64 keep) s it w K := by
  intro d
  induction d with
  | zero => intro rem xs s w hd; omega
  | succ d ih =>
    intro rem xs s w hd hxl hp h
    rw [F41_2L]
    unfold F41_2b
    refine eNext_sat2 h (fun hn w h => ?_) (fun x r1 r2 w hs h hen => ?_)
    · have h2 := it_map h
      rw [hn] at hp
      refine go_some (show pTuple over 0 = some (.bool false) from rfl) ?_
      (repeat (first
 | (simp (disch := omega) only [evA, evB, evC, bAdd_i64, bSub_i64])
 | (with_reducible apply go_ld1 h)
 | ((with_reducible first | apply go_ldA h | apply go_rd h | apply go_rdN h | apply go_rlen h); rfl)
 | (with_reducible first | apply go_ldN h | apply go_lenL h)
 | ((with_reducible apply go_st h); intro _ h)
 | ((with_reducible apply go_stA h); rfl; rfl; (first | rfl | simp [OneV.o]); intro _ h)
 | ((with_reducible apply go_stN h); rfl; (first | rfl | simp [OneV.o]); intro _ h)
 | ((with_reducible apply go_box h); rfl; intro _ _ h)
 | ((with_reducible apply go_ix h); omega)
 | ((with_reducible first | apply go_elN h | apply go_f1 h | apply go_rf1 h | apply go_rel h); (case hi => omega); (try case hx => exact inferInstance); (try case hv => rfl))
 | ((with_reducible apply go_fa h); omega; omega)
))
      exact hK s xs w (by simpa using hp) h2.f1
    · have hrm : rem.length = r1.length + r2.length + 1 := by rw [hs]; simp; omega
      refine go_some (show pTuple (.tuple #[.bool true, kI x.1, rowV x.2]) 0 = some (.bool true) from rfl) ?_
      (repeat (first
 | (simp (disch := omega) only [evA, evB, evC, bAdd_i64, bSub_i64])
 | (with_reducible apply go_ld1 h)
 | ((with_reducible first | apply go_ldA h | apply go_rd h | apply go_rdN h | apply go_rlen h); rfl)
 | (with_reducible first | apply go_ldN h | apply go_lenL h)
 | ((with_reducible apply go_st h); intro _ h)
 | ((with_reducible apply go_stA h); rfl; rfl; (first | rfl | simp [OneV.o]); intro _ h)
 | ((with_reducible apply go_stN h); rfl; (first | rfl | simp [OneV.o]); intro _ h)
 | ((with_reducible apply go_box h); rfl; intro _ _ h)
 | ((with_reducible apply go_ix h); omega)
 | ((with_reducible first | apply go_elN h | apply go_f1 h | apply go_rf1 h | apply go_rel h); (case hi => omega); (try case hx => exact inferInstance); (try case hv => rfl))
 | ((with_reducible apply go_fa h); omega; omega)
))
      refine go_some hen ?_
      refine go_some (show pTuple (.tuple #[kI x.1, rowV x.2]) 1 = some (rowV x.2) from rfl) ?_
      refine go_alloc h zR rfl fun _ _ h => ?_
      (repeat (first
 | (simp (disch := omega) only [evA, evB, evC, bAdd_i64, bSub_i64])
 | (with_reducible apply go_ld1 h)
 | ((with_reducible first | apply go_ldA h | apply go_rd h | apply go_rdN h | apply go_rlen h); rfl)
 | (with_reducible first | apply go_ldN h | apply go_lenL h)
 | ((with_reducible apply go_st h); intro _ h)
 | ((with_reducible apply go_stA h); rfl; rfl; (first | rfl | simp [OneV.o]); intro _ h)
 | ((with_reducible apply go_stN h); rfl; (first | rfl | simp [OneV.o]); intro _ h)
 | ((with_reducible apply go_box h); rfl; intro _ _ h)
 | ((with_reducible apply go_ix h); omega)
 | ((with_reducible first | apply go_elN h | apply go_f1 h | apply go_rf1 h | apply go_rel h); (case hi => omega); (try case hx => exact inferInstance); (try case hv => rfl))
 | ((with_reducible apply go_fa h); omega; omega)
))
      have hsub : (xs ++ ((r1 ++ r2).map Prod.snd).filter (oldP (now - keep)) ++ ([x.2].filter (oldP (now - keep)))).Perm ((R.map Prod.snd).filter (oldP (now - keep))) := by
        refine List.Perm.trans ?_ hp
        rw [hs, List.append_assoc]
        refine List.Perm.append_left xs ?_
        rw [← List.filter_append]
        refine List.Perm.filter _ ?_
        simp only [List.map_append, List.map_cons, List.append_assoc]
        refine List.Perm.append_left _ ?_
        exact List.perm_append_comm (l₁ := r2.map Prod.snd) (l₂ := [x.2])
      by_cases g : x.2.last ≤ now - keep
      · have g' : decide (x.2.last ≤ now - keep) = true := by simpa using g
        (repeat (first
 | (simp (disch := omega) only [evA, evB, evC, bAdd_i64, bSub_i64, g'])
 | (with_reducible apply go_ld1 h)
 | ((with_reducible first | apply go_ldA h | apply go_rd h | apply go_rdN h | apply go_rlen h); rfl)
 | (with_reducible first | apply go_ldN h | apply go_lenL h)
 | ((with_reducible apply go_st h); intro _ h)
 | ((with_reducible apply go_stA h); rfl; rfl; (first | rfl | simp [OneV.o]); intro _ h)
 | ((with_reducible apply go_stN h); rfl; (first | rfl | simp [OneV.o]); intro _ h)
 | ((with_reducible apply go_box h); rfl; intro _ _ h)
 | ((with_reducible apply go_ix h); omega)
 | ((with_reducible first | apply go_elN h | apply go_f1 h | apply go_rf1 h | apply go_rel h); (case hi => omega); (try case hx => exact inferInstance); (try case hv => rfl))
 | ((with_reducible apply go_fa h); omega; omega)
))
        refine go_lit1 (x := x.2) CR h u74 (fbRow x.2) rfl fun s1 w h => ?_
        refine ls_app (l := xs) (m := [x.2]) CR (h.frt (A := LsH cRow 11 33 s xs)) sl74 ss74 (ls_rd h) (by simp; omega) fun s2 w h => ?_
        (repeat (first
 | (simp (disch := omega) only [evA, evB, evC, bAdd_i64, bSub_i64])
 | (with_reducible apply go_ld1 h)
 | ((with_reducible first | apply go_ldA h | apply go_rd h | apply go_rdN h | apply go_rlen h); rfl)
 | (with_reducible first | apply go_ldN h | apply go_lenL h)
 | ((with_reducible apply go_st h); intro _ h)
 | ((with_reducible apply go_stA h); rfl; rfl; (first | rfl | simp [OneV.o]); intro _ h)
 | ((with_reducible apply go_stN h); rfl; (first | rfl | simp [OneV.o]); intro _ h)
 | ((with_reducible apply go_box h); rfl; intro _ _ h)
 | ((with_reducible apply go_ix h); omega)
 | ((with_reducible first | apply go_elN h | apply go_f1 h | apply go_rf1 h | apply go_rel h); (case hi => omega); (try case hx => exact inferInstance); (try case hv => rfl))
 | ((with_reducible apply go_fa h); omega; omega)
))
        refine ih (r1 ++ r2) (xs ++ [x.2]) s2 w (by simp; omega) (by simp; omega) ?_ (h.got)
        have : [x.2].filter (oldP (now - keep)) = [x.2] := by simp [oldP, g]
        rw [this] at hsub
        refine List.Perm.trans ?_ hsub
        rw [List.append_assoc, List.append_assoc]
        exact List.Perm.append_left xs List.perm_append_comm
      · have g' : decide (x.2.last ≤ now - keep) = false := by simpa using g
        (repeat (first
 | (simp (disch := omega) only [evA, evB, evC, bAdd_i64, bSub_i64, g'])
 | (with_reducible apply go_ld1 h)
 | ((with_reducible first | apply go_ldA h | apply go_rd h | apply go_rdN h | apply go_rlen h); rfl)
 | (with_reducible first | apply go_ldN h | apply go_lenL h)
 | ((with_reducible apply go_st h); intro _ h)
 | ((with_reducible apply go_stA h); rfl; rfl; (first | rfl | simp [OneV.o]); intro _ h)
 | ((with_reducible apply go_stN h); rfl; (first | rfl | simp [OneV.o]); intro _ h)
 | ((with_reducible apply go_box h); rfl; intro _ _ h)
 | ((with_reducible apply go_ix h); omega)
 | ((with_reducible first | apply go_elN h | apply go_f1 h | apply go_rf1 h | apply go_rel h); (case hi => omega); (try case hx => exact inferInstance); (try case hv => rfl))
 | ((with_reducible apply go_fa h); omega; omega)
))
        refine ih (r1 ++ r2) xs s _ (by simp; omega) (by simp; omega) ?_ (h.got)
        have : [x.2].filter (oldP (now - keep)) = [] := by simp [oldP, g]
        rw [this, List.append_nil] at hsub
        exact hsub
def remAll (xs rs : List Row) : List Row := rs.filter fun d => !(xs.map (·.id)).contains d.id
theorem remAll_snoc (xs rs : List Row) (r : Row) : remL r.id (remAll xs rs) = remAll (xs ++ [r]) rs := by
  unfold remL remAll
  rw [List.filter_filter]
  congr 1; funext d
  rw [Bool.eq_iff_iff]
  simp [and_comm]
theorem exp_loop2 {p : Nat} {sv : Value} {xs : List Row} (hx : ∀ r ∈ xs, r ∈ rs) (hnd : (xs.map (·.id)).Nodup) (hl : xs.length ≤ 65536)
    (hK : ∀ R I w', BInv n next R I (remAll xs rs) → Sat w0 (LsH cRow 11 33 sv xs :: BoardI (ptr p) n next R I :: L) w' → F41_5 sv w' K) :
    ∀ (d i : Nat) (R : List (Int × Row)) (I : List (Sg × Int)) (w : World), xs.length - i < d → i ≤ xs.length → BInv n next R I (remAll (xs.take i) rs) → Sat w0 (LsH cRow 11 33 sv xs :: BoardI (ptr p) n next R I :: L) w →
      F41_4L d (ptr p) sv sv (.int .i64 (xs.length : Nat)) (.int .i64 i) w K := by
  intro d
  induction d with
  | zero => intro i R I w hd; omega
  | succ d ih =>
    intro i R I w hd hi H h
    rw [F41_4L]
    unfold F41_4b
    by_cases g : i < xs.length
    · have g' : decide ((i : Int) < (xs.length : Int)) = true := by simpa using g
      (repeat (first
 | (simp (disch := omega) only [evA, evB, evC, bAdd_i64, bSub_i64, g'])
 | (with_reducible apply go_ld1 h)
 | ((with_reducible first | apply go_ldA h | apply go_rd h | apply go_rdN h | apply go_rlen h); rfl)
 | (with_reducible first | apply go_ldN h | apply go_lenL h)
 | ((with_reducible apply go_st h); intro _ h)
 | ((with_reducible apply go_stA h); rfl; rfl; (first | rfl | simp [OneV.o]); intro _ h)
 | ((with_reducible apply go_stN h); rfl; (first | rfl | simp [OneV.o]); intro _ h)
 | ((with_reducible apply go_box h); rfl; intro _ _ h)
 | ((with_reducible apply go_ix h); omega)
 | ((with_reducible first | apply go_elN h | apply go_f1 h | apply go_rf1 h | apply go_rel h); (case hi => omega); (try case hx => exact inferInstance); (try case hv => rfl))
 | ((with_reducible apply go_fa h); omega; omega)
))
      refine go_alloc h zR rfl fun _ _ h => ?_
      (repeat (first
 | (simp (disch := omega) only [evA, evB, evC, bAdd_i64, bSub_i64])
 | (with_reducible apply go_ld1 h)
 | ((with_reducible first | apply go_ldA h | apply go_rd h | apply go_rdN h | apply go_rlen h); rfl)
 | (with_reducible first | apply go_ldN h | apply go_lenL h)
 | ((with_reducible apply go_st h); intro _ h)
 | ((with_reducible apply go_stA h); rfl; rfl; (first | rfl | simp [OneV.o]); intro _ h)
 | ((with_reducible apply go_stN h); rfl; (first | rfl | simp [OneV.o]); intro _ h)
 | ((with_reducible apply go_box h); rfl; intro _ _ h)
 | ((with_reducible apply go_ix h); omega)
 | ((with_reducible first | apply go_elN h | apply go_f1 h | apply go_rf1 h | apply go_rel h); (case hi => omega); (try case hx => exact inferInstance); (try case hv => rfl))
 | ((with_reducible apply go_fa h); omega; omega)
))
      refine take_bspec (r := xs[i]) (v := ptr p) (n := n) (next := next) (R := R) (I := I) (L := _ :: LsH cRow 11 33 sv xs :: L) (h.got) fun w h => ?_
      (repeat (first
 | (simp (disch := omega) only [evA, evB, evC, bAdd_i64, bSub_i64])
 | (with_reducible apply go_ld1 h)
 | ((with_reducible first | apply go_ldA h | apply go_rd h | apply go_rdN h | apply go_rlen h); rfl)
 | (with_reducible first | apply go_ldN h | apply go_lenL h)
 | ((with_reducible apply go_st h); intro _ h)
 | ((with_reducible apply go_stA h); rfl; rfl; (first | rfl | simp [OneV.o]); intro _ h)
 | ((with_reducible apply go_stN h); rfl; (first | rfl | simp [OneV.o]); intro _ h)
 | ((with_reducible apply go_box h); rfl; intro _ _ h)
 | ((with_reducible apply go_ix h); omega)
 | ((with_reducible first | apply go_elN h | apply go_f1 h | apply go_rf1 h | apply go_rel h); (case hi => omega); (try case hx => exact inferInstance); (try case hv => rfl))
 | ((with_reducible apply go_fa h); omega; omega)
))
      refine ih (i + 1) _ _ w (by omega) (by omega) ?_ (h.got)
      have hmem : xs[i] ∈ remAll (xs.take i) rs := by
        unfold remAll
        rw [List.mem_filter]
        refine ⟨hx _ (List.getElem_mem _), ?_⟩
        simp only [Bool.not_eq_true', List.contains_eq_mem, decide_eq_false_iff_not]
        intro hm
        have hn2 : ((xs.take i ++ xs[i] :: xs.drop (i + 1)).map (·.id)).Nodup := by
          rw [← List.drop_eq_getElem_cons g, List.take_append_drop]; exact hnd
        rw [List.map_append, List.map_cons, List.nodup_append] at hn2
        exact hn2.2.2 _ hm _ (by simp) rfl
      have := H.rem hmem
      rw [remAll_snoc, ← List.take_succ_eq_append_getElem g] at this
      exact this
    · have g' : decide ((i : Int) < (xs.length : Int)) = false := by simpa using g
      have e : i = xs.length := by omega
      subst e
      (repeat (first
 | (simp (disch := omega) only [evA, evB, evC, bAdd_i64, bSub_i64, g'])
 | (with_reducible apply go_ld1 h)
 | ((with_reducible first | apply go_ldA h | apply go_rd h | apply go_rdN h | apply go_rlen h); rfl)
 | (with_reducible first | apply go_ldN h | apply go_lenL h)
 | ((with_reducible apply go_st h); intro _ h)
 | ((with_reducible apply go_stA h); rfl; rfl; (first | rfl | simp [OneV.o]); intro _ h)
 | ((with_reducible apply go_stN h); rfl; (first | rfl | simp [OneV.o]); intro _ h)
 | ((with_reducible apply go_box h); rfl; intro _ _ h)
 | ((with_reducible apply go_ix h); omega)
 | ((with_reducible first | apply go_elN h | apply go_f1 h | apply go_rf1 h | apply go_rel h); (case hi => omega); (try case hx => exact inferInstance); (try case hv => rfl))
 | ((with_reducible apply go_fa h); omega; omega)
))
      rw [List.take_length] at H
      exact hK R I w H h
theorem remAll_old {xs : List Row} {t : Int} (H : BInv n next R I rs) (hp : xs.Perm (rs.filter (oldP t))) : remAll xs rs = rs.filter fun d => !oldP t d := by
  unfold remAll
  refine List.filter_congr fun d hd => ?_
  congr 1
  rw [Bool.eq_iff_iff]
  simp only [List.contains_eq_mem, decide_eq_true_eq, List.mem_map]
  constructor
  · rintro ⟨y, hy, e⟩
    have hy2 := List.mem_filter.1 (hp.mem_iff.1 hy)
    rw [rasc_eq H.asc hy2.1 hd e] at hy2
    exact hy2.2
  · intro h
    exact ⟨d, hp.mem_iff.2 (List.mem_filter.2 ⟨hd, h⟩), rfl⟩
theorem baexpire_spec {now keep : Int} (h : Sat w0 (BoardA v n next rs :: L) w)
    (hK0 : (timeP now = false ∨ keep < 1 ∨ 2305843009213693952 < keep) → ∀ w', Sat w0 (BoardA v n next rs :: L) w' → K (.tuple #[.slice none 0 0, .int .i64 1]) w')
    (hK1 : timeP now = true → 1 ≤ keep → keep ≤ 2305843009213693952 → ∀ g s w', g.Perm (rs.filter (oldP (now - keep))) → g.Pairwise (fun x y => laLt y x = false) → Sat w0 (LsH cRow 11 33 s g :: BoardA v n next (rs.filter fun d => !oldP (now - keep) d) :: L) w' → K (.tuple #[s, .int .i64 0]) w') :
    callP G41 [v, .int .i64 now, .int .i64 keep] w K := by
  refine c41 ?_
  unfold F41 F41_1 F41_1b F41_2
  refine bistime_spec ?_
  cases g1 : timeP now
  · (repeat (first
 | (simp (disch := omega) only [evA, evB, evC, bAdd_i64, bSub_i64])
 | (with_reducible apply go_ld1 h)
 | ((with_reducible first | apply go_ldA h | apply go_rd h | apply go_rdN h | apply go_rlen h); rfl)
 | (with_reducible first | apply go_ldN h | apply go_lenL h)
 | ((with_reducible apply go_st h); intro _ h)
 | ((with_reducible apply go_stA h); rfl; rfl; (first | rfl | simp [OneV.o]); intro _ h)
 | ((with_reducible apply go_stN h); rfl; (first | rfl | simp [OneV.o]); intro _ h)
 | ((with_reducible apply go_box h); rfl; intro _ _ h)
 | ((with_reducible apply go_ix h); omega)
 | ((with_reducible first | apply go_elN h | apply go_f1 h | apply go_rf1 h | apply go_rel h); (case hi => omega); (try case hx => exact inferInstance); (try case hv => rfl))
 | ((with_reducible apply go_fa h); omega; omega)
))
    exact hK0 (.inl g1) w h
  by_cases g2 : keep < 1
  · have g2' : decide (keep < 1) = true := by simpa using g2
    (repeat (first
 | (simp (disch := omega) only [evA, evB, evC, bAdd_i64, bSub_i64, g2'])
 | (with_reducible apply go_ld1 h)
 | ((with_reducible first | apply go_ldA h | apply go_rd h | apply go_rdN h | apply go_rlen h); rfl)
 | (with_reducible first | apply go_ldN h | apply go_lenL h)
 | ((with_reducible apply go_st h); intro _ h)
 | ((with_reducible apply go_stA h); rfl; rfl; (first | rfl | simp [OneV.o]); intro _ h)
 | ((with_reducible apply go_stN h); rfl; (first | rfl | simp [OneV.o]); intro _ h)
 | ((with_reducible apply go_box h); rfl; intro _ _ h)
 | ((with_reducible apply go_ix h); omega)
 | ((with_reducible first | apply go_elN h | apply go_f1 h | apply go_rf1 h | apply go_rel h); (case hi => omega); (try case hx => exact inferInstance); (try case hv => rfl))
 | ((with_reducible apply go_fa h); omega; omega)
))
    exact hK0 (.inr (.inl g2)) w h
  have g2' : decide (keep < 1) = false := by simpa using g2
  by_cases g3 : keep > 2305843009213693952
  · have g3' : decide (keep > 2305843009213693952) = true := by simpa using g3
    (repeat (first
 | (simp (disch := omega) only [evA, evB, evC, bAdd_i64, bSub_i64, g2', g3'])
 | (with_reducible apply go_ld1 h)
 | ((with_reducible first | apply go_ldA h | apply go_rd h | apply go_rdN h | apply go_rlen h); rfl)
 | (with_reducible first | apply go_ldN h | apply go_lenL h)
 | ((with_reducible apply go_st h); intro _ h)
 | ((with_reducible apply go_stA h); rfl; rfl; (first | rfl | simp [OneV.o]); intro _ h)
 | ((with_reducible apply go_stN h); rfl; (first | rfl | simp [OneV.o]); intro _ h)
 | ((with_reducible apply go_box h); rfl; intro _ _ h)
 | ((with_reducible apply go_ix h); omega)
 | ((with_reducible first | apply go_elN h | apply go_f1 h | apply go_rf1 h | apply go_rel h); (case hi => omega); (try case hx => exact inferInstance); (try case hv => rfl))
 | ((with_reducible apply go_fa h); omega; omega)
))
    exact hK0 (.inr (.inr g3)) w h
  have g3' : decide (keep > 2305843009213693952) = false := by simpa using g3
  have htm : 0 ≤ now ∧ now ≤ 2305843009213693952 := by unfold timeP at g1; simpa using g1
  replace h := boardA_iff.1 h
  obtain ⟨R, I, H, h⟩ := h
  replace h := board_iff.1 h
  obtain ⟨p, mr, mi, rfl, h⟩ := h
  have := map_one (h.frt (A := MapH kI rowV mr R))
  have hb := H.1.bd
  have hRl := H.1.len
  (repeat (first
 | (simp (disch := omega) only [evA, evB, evC, bAdd_i64, bSub_i64, g2', g3'])
 | (with_reducible apply go_ld1 h)
 | ((with_reducible first | apply go_ldA h | apply go_rd h | apply go_rdN h | apply go_rlen h); rfl)
 | (with_reducible first | apply go_ldN h | apply go_lenL h)
 | ((with_reducible apply go_st h); intro _ h)
 | ((with_reducible apply go_stA h); rfl; rfl; (first | rfl | simp [OneV.o]); intro _ h)
 | ((with_reducible apply go_stN h); rfl; (first | rfl | simp [OneV.o]); intro _ h)
 | ((with_reducible apply go_box h); rfl; intro _ _ h)
 | ((with_reducible apply go_ix h); omega)
 | ((with_reducible first | apply go_elN h | apply go_f1 h | apply go_rf1 h | apply go_rel h); (case hi => omega); (try case hx => exact inferInstance); (try case hv => rfl))
 | ((with_reducible apply go_fa h); omega; omega)
))
  refine eRange_sat (h.frt (A := MapH kI rowV mr R)) um107 fun it w h => ?_
  refine exp_loop1 (R := R) (mr := mr) (L := Cl p #[.int .i64 n, .int .i64 next, mr, mi] 110 :: MapH ekS kI mi I :: L) (by omega) (by omega) (fun s xs w hp h => ?_) fuel R [] (.slice none 0 0) w (by unfold fuel; omega) (by simp; omega) (by simp) (by
    have h2 := ls_nil (f := cRow) (es := 11) (ty := 33) h
    exact h2.got)
  have hp2 : xs.Perm (rs.filter (oldP (now - keep))) := hp.trans (H.1.pm.filter _)
  have hsub : ∀ r ∈ xs, r ∈ rs := fun r hr => (List.mem_filter.1 (hp2.mem_iff.1 hr)).1
  have hlx : xs.length ≤ rs.length := by rw [hp2.length_eq]; exact List.length_filter_le _ _
  have hnd : (xs.map (·.id)).Nodup := by
    refine ((hp2.map (·.id)).nodup_iff).2 ?_
    exact List.pairwise_map.2 ((H.1.asc.filter _).imp fun h e => by omega)
  unfold F41_3 F41_3b
  (repeat (first
 | (simp (disch := omega) only [evA, evB, evC, bAdd_i64, bSub_i64])
 | (with_reducible apply go_ld1 h)
 | ((with_reducible first | apply go_ldA h | apply go_rd h | apply go_rdN h | apply go_rlen h); rfl)
 | (with_reducible first | apply go_ldN h | apply go_lenL h)
 | ((with_reducible apply go_st h); intro _ h)
 | ((with_reducible apply go_stA h); rfl; rfl; (first | rfl | simp [OneV.o]); intro _ h)
 | ((with_reducible apply go_stN h); rfl; (first | rfl | simp [OneV.o]); intro _ h)
 | ((with_reducible apply go_box h); rfl; intro _ _ h)
 | ((with_reducible apply go_ix h); omega)
 | ((with_reducible first | apply go_elN h | apply go_f1 h | apply go_rf1 h | apply go_rel h); (case hi => omega); (try case hx => exact inferInstance); (try case hv => rfl))
 | ((with_reducible apply go_fa h); omega; omega)
))
  unfold F41_4
  refine exp_loop2 (w0 := w0) (L := L) (n := n) (next := next) hsub hnd (by omega) (fun R2 I2 w H2 h => ?_) fuel 0 R I w (by unfold fuel; omega) (by omega) (by
    have : remAll (xs.take 0) rs = rs := by unfold remAll; simp
    rw [this]; exact H.1) ?_
  · unfold F41_5 F41_5b
    refine sortF_sat (lt := laLt) (cf := laV) (l := xs) h (by omega) CR laSWO laV_neg ok88 Try.call88 bylast_calls fun l' w h3 h4 h => ?_
    refine hK1 g1 (by omega) (by omega) l' _ w (h3.trans hp2) h4 ?_
    rw [remAll_old H.1 hp2] at H2
    exact Sat.f1 (boardA_iff.2 ⟨R2, I2, ⟨H2, H.2⟩, h.f1⟩)
  · exact Sat.f1 (board_iff.2 ⟨p, mr, mi, rfl, h.got⟩)
end
end Go.Proofs.Gong

/- Be8 -/
namespace Go.Proofs.Gong
open Go Go.Sx Go.Proofs
set_option maxRecDepth 100000
attribute [local irreducible] fBuild fLook fZero eqv bEqv Cl MapH LsH SlH ld1 ldN st callP eBox eAlloc lenM lenL eMapSet eDelete eAppend eBuildSl eRange eNext
section
variable {w0 w : World} {L : List HP} {K : Value → World → Prop} {n next : Int} {rs : List Row}
end
end Go.Proofs.Gong

/- Be9 -/
namespace Go.Proofs.Gong
open Go Go.Sx Go.Proofs
set_option maxRecDepth 100000
attribute [local irreducible] fBuild fLook fZero eqv bEqv Cl MapH LsH SlH ld1 ldN st callP eBox eAlloc lenM lenL eMapSet eDelete eAppend eBuildSl eRange eNext
section
variable {w0 w : World} {L : List HP} {K : Value → World → Prop} {n next : Int} {rs : List Row}
end
end Go.Proofs.Gong

/- Bf0 -/
namespace Go.Proofs.Gong
open Go Go.Sx Go.Proofs
set_option maxRecDepth 100000
section
variable {n next : Int} {rs : List Row} {op : List (Int × Bool)}
end
attribute [local irreducible] fBuild fLook fZero eqv bEqv Cl MapH LsH SlH ld1 ldN st callP eBox eAlloc lenM lenL eMapSet eDelete eAppend eBuildSl eRange eNext
section
variable {w0 w : World} {L : List HP} {K : Value → World → Prop} {n next last : Int} {rs : List Row} {s0 s1 b ov : Value} {op : List (Int × Bool)} {i0 : Nat} {l cl : List Int} {R3 : Value → Value → Value → Value → Value → Value → World → Prop}
theorem bNe_bb (x y : Operand) (a c : Bool) : bNe Try.prog 4 x y (.bool a) (.bool c) = some (.bool (!(a == c))) := bNe_bool (by kernel_rfl) a c
end
end Go.Proofs.Gong

/- Bf1 -/
namespace Go.Proofs.Gong
open Go Go.Sx Go.Proofs
set_option maxRecDepth 100000
attribute [local irreducible] fBuild fLook fZero eqv bEqv Cl MapH LsH SlH ld1 ldN st callP eBox eAlloc lenM lenL eMapSet eDelete eAppend eBuildSl eRange eNext
section
variable {w0 w : World} {L : List HP} {K : Value → World → Prop} {n next last : Int} {rs : List Row} {s0 s1 b ov : Value} {op : List (Int × Bool)} {i0 : Nat} {l cl : List Int} {R3 : Value → Value → Value → Value → Value → Value → World → Prop}
end
end Go.Proofs.Gong
