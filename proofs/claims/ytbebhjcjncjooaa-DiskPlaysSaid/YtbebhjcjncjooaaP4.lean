/- A part of the proofs: what stands below it, told in lemmas. No condition. -/
import Derived.Test.YtbebhjcjncjooaaP3
set_option linter.all false

/- Dl5 -/
namespace Go.Proofs.Gong
open Go Go.Sx Go.Proofs
set_option maxRecDepth 100000
attribute [local irreducible] fBuild fLook fZero eqv bEqv Cl MapH LsH SlH ld1 ldN st callP eBox eAlloc lenM lenL eMapSet eDelete eAppend eBuildSl eRange eNext
section
variable {w0 w : World} {L : List HP} {K : Value → World → Prop} {v rv : Value} {d : Dk} {p q : Nat} {l : List DAct} {s1 : Value}
def DAOk (W : World) (a : DAct) : Prop := a.n ≤ 9223372036854775807 ∧ ∃ kl : List Int, Rd W 1 (kvA a) kl.length (kl.flatMap cI)
theorem dplays_loop [hrd : RdIn w0 L s1 DAct cDA 6 l] (hok : ∀ a ∈ l, DAOk w0 a) (hK : ∀ w', Sat w0 L w' → K (.bool true) w') :
    ∀ (k i : Nat) (d : Dk) (w : World), 80 - i < k → i ≤ 80 → d.fs.length ≤ i → Sat w0 (DiskA (ptr p) d :: RefD (ptr q) d :: L) w →
      F6_2L k s1 (ptr p) (ptr q) (.int .i64 i) w K := by
  intro k
  induction k with
  | zero => intro i _ _ hd; omega
  | succ k ih =>
    intro i d w hd hi hf h
    rw [F6_2L]
    unfold F6_4 F6_4b
    have fin : F6_3 w K := by
      unfold F6_3 F6_3b
      exact hK _ (h.got)
    by_cases g : i < l.length
    case neg =>
      have g' : decide ((i : Int) < (l.length : Int)) = false := by simpa using g
      (repeat (first
 | (simp (disch := omega) only [evA, evB, evC, bAdd_i64, bSub_i64, g'])
 | (refine go_some (bNe_nilp up66   ..) ?_)
 | (with_reducible apply go_ld1 h)
 | ((with_reducible first | apply go_ldA h | apply go_rd h | apply go_rdN h); rfl)
 | (with_reducible first | apply go_ldN h | apply go_lenR h)
 | ((with_reducible apply go_st h); intro _ h)
 | ((with_reducible apply go_stA h); rfl; rfl; (first | rfl | simp [OneV.o]); intro _ h)
 | ((with_reducible apply go_stN h); rfl; (first | rfl | simp [OneV.o]); intro _ h)
 | ((with_reducible apply go_box h); rfl; intro _ _ h)
 | ((with_reducible apply go_ixR h); omega)
 | ((with_reducible first | apply go_elR h | apply go_f1R h | apply go_rf1R h | apply go_relR h | apply go_e1R h | apply go_re1R h); (case hc => exact inferInstance); (case hi => omega); (try case hx => exact inferInstance); (try case hv => rfl))
 | ((with_reducible apply go_fNR h); (case hc => exact inferInstance); (case hi => omega); (try case hp => exact inferInstance); (try case hv => rfl))
 | ((with_reducible apply go_faR h); (case hc => exact inferInstance); omega; omega)
 | ((with_reducible apply go_rlenR h); rfl)
))
      exact fin
    have g' : decide ((i : Int) < (l.length : Int)) = true := by simpa using g
    by_cases g2 : i < 80
    case neg =>
      have g2' : decide ((i : Int) < 80) = false := by simp; omega
      (repeat (first
 | (simp (disch := omega) only [evA, evB, evC, bAdd_i64, bSub_i64, g', g2'])
 | (refine go_some (bNe_nilp up66   ..) ?_)
 | (with_reducible apply go_ld1 h)
 | ((with_reducible first | apply go_ldA h | apply go_rd h | apply go_rdN h); rfl)
 | (with_reducible first | apply go_ldN h | apply go_lenR h)
 | ((with_reducible apply go_st h); intro _ h)
 | ((with_reducible apply go_stA h); rfl; rfl; (first | rfl | simp [OneV.o]); intro _ h)
 | ((with_reducible apply go_stN h); rfl; (first | rfl | simp [OneV.o]); intro _ h)
 | ((with_reducible apply go_box h); rfl; intro _ _ h)
 | ((with_reducible apply go_ixR h); omega)
 | ((with_reducible first | apply go_elR h | apply go_f1R h | apply go_rf1R h | apply go_relR h | apply go_e1R h | apply go_re1R h); (case hc => exact inferInstance); (case hi => omega); (try case hx => exact inferInstance); (try case hv => rfl))
 | ((with_reducible apply go_fNR h); (case hc => exact inferInstance); (case hi => omega); (try case hp => exact inferInstance); (try case hv => rfl))
 | ((with_reducible apply go_faR h); (case hc => exact inferInstance); omega; omega)
 | ((with_reducible apply go_rlenR h); rfl)
))
      exact fin
    have g2' : decide ((i : Int) < 80) = true := by simp; omega
    obtain ⟨hn, kl, hkr⟩ := hok _ (List.getElem_mem g)
    have : RdIn w0 L (kvA l[i]) Int cI 1 kl := RdIn.arg hkr
    have skip : ∀ w, Sat w0 (DiskA (ptr p) d :: RefD (ptr q) d :: L) w → F6_5 s1 (ptr p) (ptr q) (.int .i64 i) w K (fun a1 a5 a7 a9 w => F6_2L k a1 a5 a7 a9 w K) := by
      intro w h
      unfold F6_5 F6_5b
      (repeat (first
 | (simp (disch := omega) only [evA, evB, evC, bAdd_i64, bSub_i64])
 | (with_reducible apply go_ld1 h)
 | ((with_reducible first | apply go_ldA h | apply go_rd h | apply go_rdN h | apply go_rlen h); rfl)
 | (with_reducible first | apply go_ldN h | apply go_lenL h)
 | ((with_reducible apply go_st h); intro _ h)
 | ((with_reducible apply go_stA h); rfl; rfl; (first | rfl | simp [OneV.o]); intro _ h)
 | ((with_reducible apply go_stN h); rfl; (first | rfl | simp [OneV.o]); intro _ h)
 | ((with_reducible apply go_box h); rfl; intro _ _ h)
 | ((with_reducible apply go_ix h); omega)
 | ((with_reducible first | apply go_elN h | apply go_f1 h | apply go_rf1 h | apply go_rel h); (case hi => omega); (try case hx => exact inferInstance); (try case hv => rfl))
 | ((with_reducible apply go_fa h); omega; omega)
))
      exact ih (i + 1) d _ (by omega) (by omega) (by omega) h
    by_cases g3 : l[i].data.length ≤ 500
    case neg =>
      have g3' : decide ((l[i].data.length : Int) > 500) = true := by simp; omega
      (repeat (first
 | (simp (disch := omega) only [evA, evB, evC, bAdd_i64, bSub_i64, g', g2', g3'])
 | (refine go_some (bNe_nilp up66   ..) ?_)
 | (with_reducible apply go_ld1 h)
 | ((with_reducible first | apply go_ldA h | apply go_rd h | apply go_rdN h); rfl)
 | (with_reducible first | apply go_ldN h | apply go_lenR h)
 | ((with_reducible apply go_st h); intro _ h)
 | ((with_reducible apply go_stA h); rfl; rfl; (first | rfl | simp [OneV.o]); intro _ h)
 | ((with_reducible apply go_stN h); rfl; (first | rfl | simp [OneV.o]); intro _ h)
 | ((with_reducible apply go_box h); rfl; intro _ _ h)
 | ((with_reducible apply go_ixR h); omega)
 | ((with_reducible first | apply go_elR h | apply go_f1R h | apply go_rf1R h | apply go_relR h | apply go_e1R h | apply go_re1R h); (case hc => exact inferInstance); (case hi => omega); (try case hx => exact inferInstance); (try case hv => rfl))
 | ((with_reducible apply go_fNR h); (case hc => exact inferInstance); (case hi => omega); (try case hp => exact inferInstance); (try case hv => rfl))
 | ((with_reducible apply go_faR h); (case hc => exact inferInstance); omega; omega)
 | ((with_reducible apply go_rlenR h); rfl)
))
      exact skip _ h
    have g3' : decide ((l[i].data.length : Int) > 500) = false := by simp; omega
    have hkn : ((l[i].kn : Nat) : Int) = (kl.length : Int) := by simpa [kvA] using hkr.len
    by_cases g4 : kl.length ≤ 100
    case neg =>
      have g4' : decide ((kl.length : Int) > 100) = true := by simp; omega
      (repeat (first
 | (simp (disch := omega) only [evA, evB, evC, bAdd_i64, bSub_i64, g', g2', g3', hkn, g4'])
 | (refine go_some (bNe_nilp up66   ..) ?_)
 | (with_reducible apply go_ld1 h)
 | ((with_reducible first | apply go_ldA h | apply go_rd h | apply go_rdN h); rfl)
 | (with_reducible first | apply go_ldN h | apply go_lenR h)
 | ((with_reducible apply go_st h); intro _ h)
 | ((with_reducible apply go_stA h); rfl; rfl; (first | rfl | simp [OneV.o]); intro _ h)
 | ((with_reducible apply go_stN h); rfl; (first | rfl | simp [OneV.o]); intro _ h)
 | ((with_reducible apply go_box h); rfl; intro _ _ h)
 | ((with_reducible apply go_ixR h); omega)
 | ((with_reducible first | apply go_elR h | apply go_f1R h | apply go_rf1R h | apply go_relR h | apply go_e1R h | apply go_re1R h); (case hc => exact inferInstance); (case hi => omega); (try case hx => exact inferInstance); (try case hv => rfl))
 | ((with_reducible apply go_fNR h); (case hc => exact inferInstance); (case hi => omega); (try case hp => exact inferInstance); (try case hv => rfl))
 | ((with_reducible apply go_faR h); (case hc => exact inferInstance); omega; omega)
 | ((with_reducible apply go_rlenR h); rfl)
))
      exact skip _ h
    have g4' : decide ((kl.length : Int) > 100) = false := by simp; omega
    (repeat (first
 | (simp (disch := omega) only [evA, evB, evC, bAdd_i64, bSub_i64, g', g2', g3', hkn, g4'])
 | (refine go_some (bNe_nilp up66   ..) ?_)
 | (with_reducible apply go_ld1 h)
 | ((with_reducible first | apply go_ldA h | apply go_rd h | apply go_rdN h); rfl)
 | (with_reducible first | apply go_ldN h | apply go_lenR h)
 | ((with_reducible apply go_st h); intro _ h)
 | ((with_reducible apply go_stA h); rfl; rfl; (first | rfl | simp [OneV.o]); intro _ h)
 | ((with_reducible apply go_stN h); rfl; (first | rfl | simp [OneV.o]); intro _ h)
 | ((with_reducible apply go_box h); rfl; intro _ _ h)
 | ((with_reducible apply go_ixR h); omega)
 | ((with_reducible first | apply go_elR h | apply go_f1R h | apply go_rf1R h | apply go_relR h | apply go_e1R h | apply go_re1R h); (case hc => exact inferInstance); (case hi => omega); (try case hx => exact inferInstance); (try case hv => rfl))
 | ((with_reducible apply go_fNR h); (case hc => exact inferInstance); (case hi => omega); (try case hp => exact inferInstance); (try case hv => rfl))
 | ((with_reducible apply go_faR h); (case hc => exact inferInstance); omega; omega)
 | ((with_reducible apply go_rlenR h); rfl)
))
    refine does_spec25 (v := ptr p) (rv := ptr q) (d := d) (a := l[i]) (kl := kl) g4 g3 hn (by omega) (h.got) fun d' w hd' h => ?_
    (repeat (first
 | (simp (disch := omega) only [evA, evB, evC, bAdd_i64, bSub_i64])
 | (with_reducible apply go_ld1 h)
 | ((with_reducible first | apply go_ldA h | apply go_rd h | apply go_rdN h); rfl)
 | (with_reducible first | apply go_ldN h | apply go_lenR h)
 | ((with_reducible apply go_st h); intro _ h)
 | ((with_reducible apply go_stA h); rfl; rfl; (first | rfl | simp [OneV.o]); intro _ h)
 | ((with_reducible apply go_stN h); rfl; (first | rfl | simp [OneV.o]); intro _ h)
 | ((with_reducible apply go_box h); rfl; intro _ _ h)
 | ((with_reducible apply go_ixR h); omega)
 | ((with_reducible first | apply go_elR h | apply go_f1R h | apply go_rf1R h | apply go_relR h | apply go_e1R h | apply go_re1R h); (case hc => exact inferInstance); (case hi => omega); (try case hx => exact inferInstance); (try case hv => rfl))
 | ((with_reducible apply go_fNR h); (case hc => exact inferInstance); (case hi => omega); (try case hp => exact inferInstance); (try case hv => rfl))
 | ((with_reducible apply go_faR h); (case hc => exact inferInstance); omega; omega)
 | ((with_reducible apply go_rlenR h); rfl)
))
    refine dstands_spec (v := ptr p) (rv := ptr q) (d := d') (n := l[i].name) (by omega) (h.got) fun w h => ?_
    (repeat (first
 | (simp (disch := omega) only [evA, evB, evC, bAdd_i64, bSub_i64])
 | (with_reducible apply go_ld1 h)
 | ((with_reducible first | apply go_ldA h | apply go_rd h | apply go_rdN h | apply go_rlen h); rfl)
 | (with_reducible first | apply go_ldN h | apply go_lenL h)
 | ((with_reducible apply go_st h); intro _ h)
 | ((with_reducible apply go_stA h); rfl; rfl; (first | rfl | simp [OneV.o]); intro _ h)
 | ((with_reducible apply go_stN h); rfl; (first | rfl | simp [OneV.o]); intro _ h)
 | ((with_reducible apply go_box h); rfl; intro _ _ h)
 | ((with_reducible apply go_ix h); omega)
 | ((with_reducible first | apply go_elN h | apply go_f1 h | apply go_rf1 h | apply go_rel h); (case hi => omega); (try case hx => exact inferInstance); (try case hv => rfl))
 | ((with_reducible apply go_fa h); omega; omega)
))
    unfold F6_5 F6_5b
    (repeat (first
 | (simp (disch := omega) only [evA, evB, evC, bAdd_i64, bSub_i64])
 | (with_reducible apply go_ld1 h)
 | ((with_reducible first | apply go_ldA h | apply go_rd h | apply go_rdN h | apply go_rlen h); rfl)
 | (with_reducible first | apply go_ldN h | apply go_lenL h)
 | ((with_reducible apply go_st h); intro _ h)
 | ((with_reducible apply go_stA h); rfl; rfl; (first | rfl | simp [OneV.o]); intro _ h)
 | ((with_reducible apply go_stN h); rfl; (first | rfl | simp [OneV.o]); intro _ h)
 | ((with_reducible apply go_box h); rfl; intro _ _ h)
 | ((with_reducible apply go_ix h); omega)
 | ((with_reducible first | apply go_elN h | apply go_f1 h | apply go_rf1 h | apply go_rel h); (case hi => omega); (try case hx => exact inferInstance); (try case hv => rfl))
 | ((with_reducible apply go_fa h); omega; omega)
))
    exact ih (i + 1) d' _ (by omega) (by omega) (by omega) h
theorem diskPlays_spec {m : Int} (hrd : Rd w0 6 s1 l.length (l.flatMap cDA)) (hok : ∀ a ∈ l, DAOk w0 a) (h : Sat w0 L w) (hK : ∀ w', Sat w0 L w' → K (.bool true) w') : callP G6 [.int .i64 m, s1] w K := by
  refine c6 ?_
  unfold F6 F6_1 F6_1b
  refine dnew_spec h (fun hn => ?_) fun n1 n2 p w h => ?_
  · (repeat (first
 | (simp (disch := omega) only [evA, evB, evC, bAdd_i64, bSub_i64])
 | (with_reducible apply go_ld1 h)
 | ((with_reducible first | apply go_ldA h | apply go_rd h | apply go_rdN h | apply go_rlen h); rfl)
 | (with_reducible first | apply go_ldN h | apply go_lenL h)
 | ((with_reducible apply go_st h); intro _ h)
 | ((with_reducible apply go_stA h); rfl; rfl; (first | rfl | simp [OneV.o]); intro _ h)
 | ((with_reducible apply go_stN h); rfl; (first | rfl | simp [OneV.o]); intro _ h)
 | ((with_reducible apply go_box h); rfl; intro _ _ h)
 | ((with_reducible apply go_ix h); omega)
 | ((with_reducible first | apply go_elN h | apply go_f1 h | apply go_rf1 h | apply go_rel h); (case hi => omega); (try case hx => exact inferInstance); (try case hv => rfl))
 | ((with_reducible apply go_fa h); omega; omega)
))
    refine rfnew_spec h (fun _ => ?_) fun _ _ p w h => by omega
    (repeat (first
 | (simp (disch := omega) only [evA, evB, evC, bAdd_i64, bSub_i64, bNe_bd, Option.isNone_none, beq_self_eq_true])
 | (refine go_some (bEq_nilp up23   ..) ?_)
 | (refine go_some (bEq_nilp up66   ..) ?_)
 | (with_reducible apply go_ld1 h)
 | ((with_reducible first | apply go_ldA h | apply go_rd h | apply go_rdN h | apply go_rlen h); rfl)
 | (with_reducible first | apply go_ldN h | apply go_lenL h)
 | ((with_reducible apply go_st h); intro _ h)
 | ((with_reducible apply go_stA h); rfl; rfl; (first | rfl | simp [OneV.o]); intro _ h)
 | ((with_reducible apply go_stN h); rfl; (first | rfl | simp [OneV.o]); intro _ h)
 | ((with_reducible apply go_box h); rfl; intro _ _ h)
 | ((with_reducible apply go_ix h); omega)
 | ((with_reducible first | apply go_elN h | apply go_f1 h | apply go_rf1 h | apply go_rel h); (case hi => omega); (try case hx => exact inferInstance); (try case hv => rfl))
 | ((with_reducible apply go_fa h); omega; omega)
))
    refine works25_spec h fun w h => ?_
    (repeat (first
 | (simp (disch := omega) only [evA, evB, evC, bAdd_i64, bSub_i64])
 | (with_reducible apply go_ld1 h)
 | ((with_reducible first | apply go_ldA h | apply go_rd h | apply go_rdN h | apply go_rlen h); rfl)
 | (with_reducible first | apply go_ldN h | apply go_lenL h)
 | ((with_reducible apply go_st h); intro _ h)
 | ((with_reducible apply go_stA h); rfl; rfl; (first | rfl | simp [OneV.o]); intro _ h)
 | ((with_reducible apply go_stN h); rfl; (first | rfl | simp [OneV.o]); intro _ h)
 | ((with_reducible apply go_box h); rfl; intro _ _ h)
 | ((with_reducible apply go_ix h); omega)
 | ((with_reducible first | apply go_elN h | apply go_f1 h | apply go_rf1 h | apply go_rel h); (case hi => omega); (try case hx => exact inferInstance); (try case hv => rfl))
 | ((with_reducible apply go_fa h); omega; omega)
))
    unfold F6_2
    show F6_2L (fuel - 1 + 1) _ _ _ _ _ _
    rw [F6_2L]
    unfold F6_4 F6_4b F6_3 F6_3b
    refine go_some (bNe_nilp up66 _) ?_
    (repeat (first
 | (simp (disch := omega) only [evA, evB, evC, bAdd_i64, bSub_i64])
 | (with_reducible apply go_ld1 h)
 | ((with_reducible first | apply go_ldA h | apply go_rd h | apply go_rdN h | apply go_rlen h); rfl)
 | (with_reducible first | apply go_ldN h | apply go_lenL h)
 | ((with_reducible apply go_st h); intro _ h)
 | ((with_reducible apply go_stA h); rfl; rfl; (first | rfl | simp [OneV.o]); intro _ h)
 | ((with_reducible apply go_stN h); rfl; (first | rfl | simp [OneV.o]); intro _ h)
 | ((with_reducible apply go_box h); rfl; intro _ _ h)
 | ((with_reducible apply go_ix h); omega)
 | ((with_reducible first | apply go_elN h | apply go_f1 h | apply go_rf1 h | apply go_rel h); (case hi => omega); (try case hx => exact inferInstance); (try case hv => rfl))
 | ((with_reducible apply go_fa h); omega; omega)
))
    exact hK _ h
  · (repeat (first
 | (simp (disch := omega) only [evA, evB, evC, bAdd_i64, bSub_i64])
 | (with_reducible apply go_ld1 h)
 | ((with_reducible first | apply go_ldA h | apply go_rd h | apply go_rdN h | apply go_rlen h); rfl)
 | (with_reducible first | apply go_ldN h | apply go_lenL h)
 | ((with_reducible apply go_st h); intro _ h)
 | ((with_reducible apply go_stA h); rfl; rfl; (first | rfl | simp [OneV.o]); intro _ h)
 | ((with_reducible apply go_stN h); rfl; (first | rfl | simp [OneV.o]); intro _ h)
 | ((with_reducible apply go_box h); rfl; intro _ _ h)
 | ((with_reducible apply go_ix h); omega)
 | ((with_reducible first | apply go_elN h | apply go_f1 h | apply go_rf1 h | apply go_rel h); (case hi => omega); (try case hx => exact inferInstance); (try case hv => rfl))
 | ((with_reducible apply go_fa h); omega; omega)
))
    refine rfnew_spec h (fun hn => by omega) fun _ _ q w h => ?_
    (repeat (first
 | (simp (disch := omega) only [evA, evB, evC, bAdd_i64, bSub_i64, bNe_bd, Option.isNone_some, beq_self_eq_true])
 | (refine go_some (bEq_nilp up23   ..) ?_)
 | (refine go_some (bEq_nilp up66   ..) ?_)
 | (with_reducible apply go_ld1 h)
 | ((with_reducible first | apply go_ldA h | apply go_rd h | apply go_rdN h | apply go_rlen h); rfl)
 | (with_reducible first | apply go_ldN h | apply go_lenL h)
 | ((with_reducible apply go_st h); intro _ h)
 | ((with_reducible apply go_stA h); rfl; rfl; (first | rfl | simp [OneV.o]); intro _ h)
 | ((with_reducible apply go_stN h); rfl; (first | rfl | simp [OneV.o]); intro _ h)
 | ((with_reducible apply go_box h); rfl; intro _ _ h)
 | ((with_reducible apply go_ix h); omega)
 | ((with_reducible first | apply go_elN h | apply go_f1 h | apply go_rf1 h | apply go_rel h); (case hi => omega); (try case hx => exact inferInstance); (try case hv => rfl))
 | ((with_reducible apply go_fa h); omega; omega)
))
    refine works25_spec h fun w h => ?_
    (repeat (first
 | (simp (disch := omega) only [evA, evB, evC, bAdd_i64, bSub_i64])
 | (with_reducible apply go_ld1 h)
 | ((with_reducible first | apply go_ldA h | apply go_rd h | apply go_rdN h | apply go_rlen h); rfl)
 | (with_reducible first | apply go_ldN h | apply go_lenL h)
 | ((with_reducible apply go_st h); intro _ h)
 | ((with_reducible apply go_stA h); rfl; rfl; (first | rfl | simp [OneV.o]); intro _ h)
 | ((with_reducible apply go_stN h); rfl; (first | rfl | simp [OneV.o]); intro _ h)
 | ((with_reducible apply go_box h); rfl; intro _ _ h)
 | ((with_reducible apply go_ix h); omega)
 | ((with_reducible first | apply go_elN h | apply go_f1 h | apply go_rf1 h | apply go_rel h); (case hi => omega); (try case hx => exact inferInstance); (try case hv => rfl))
 | ((with_reducible apply go_fa h); omega; omega)
))
    have : RdIn w0 L s1 DAct cDA 6 l := RdIn.arg hrd
    unfold F6_2
    exact dplays_loop hok hK fuel 0 (newD m) w (by unfold fuel; omega) (by omega) (by simp [newD]) h.f1
end
theorem fit_intK {W : World} {B : Nat} {c : List Value} (h : FitL2 W B [.int .i64] c) : ∃ n : Int, c = cI n ∧ True := by
  obtain ⟨n, vs, rfl, _, h2⟩ := fitL2_int h
  rw [fitL2_nil h2]; exact ⟨n, rfl, trivial⟩
abbrev ckDA : List CK2 := [.int .i64, .str, .str, .str, .int .i64, .sl 1 [.int .i64]]
theorem fit_dact {W : World} {B : Nat} {c : List Value} (h : FitL2 W B ckDA c) : ∃ a : DAct, c = cDA a ∧ DAOk W a := by
  obtain ⟨a1, vs, rfl, _, h⟩ := fitL2_int h
  obtain ⟨a2, vs, rfl, b2, h⟩ := fitL2_str h
  obtain ⟨a3, vs, rfl, b3, h⟩ := fitL2_str h
  obtain ⟨a4, vs, rfl, b4, h⟩ := fitL2_str h
  obtain ⟨a5, vs, rfl, b5, h⟩ := fitL2_int h
  obtain ⟨v, vs, rfl, ⟨n, ds, hrd, hn, hft⟩, h⟩ := fitL2_sl h
  rw [fitL2_nil h]
  obtain ⟨l, rfl, rfl, hg⟩ := fit_list2 (fun c h => fit_intK h) n ds hrd.length hft
  obtain ⟨la, lc, rfl, _⟩ := hrd.cap
  refine ⟨⟨a1, a2, a3, a4, a5, la, l.length, lc⟩, rfl, ?_, l, hrd⟩
  show a5 ≤ 9223372036854775807
  simp [Lit.wf, IntKind.min, IntKind.max, IntKind.signed, IntKind.bits] at b5
  omega
theorem lawDiskPlays {W : World} (a : Int) (_ : (Lit.int .i64 a).wf = true) {v : Value} {n : Nat} {cs : List Value} (rd : Rd W 6 v n cs) (hn : n ≤ 140737488351232) (ft : ∀ i, i < n → FitL2 W 140737488351232 ckDA ((cs.drop (i * 6)).take 6)) :
    callP G6 [.int .i64 a, v] W fun v w' => v = .bool true ∧ Sat W [] w' := by
  obtain ⟨l, rfl, rfl, hg⟩ := fit_list2 (fun c h => fit_dact h) n cs rd.length ft
  exact diskPlays_spec rd hg (Sat.start W) fun w' h => ⟨rfl, h⟩
end Go.Proofs.Gong
