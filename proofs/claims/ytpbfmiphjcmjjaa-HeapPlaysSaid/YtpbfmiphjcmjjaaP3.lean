/- A part of the proofs: what stands below it, told in lemmas. No condition. -/
import Derived.Test.YtpbfmiphjcmjjaaP2
import Derived.Test.YtpbfmiphjcmjjaaP1
set_option linter.all false

/- Hq1 -/
namespace Go.Proofs.Gong
open Go Go.Sx Go.Proofs
set_option maxRecDepth 100000
attribute [local irreducible] fBuild fLook fZero eqv bEqv Cl MapH LsH SlH ld1 ldN st callP eBox eAlloc lenM lenL eMapSet eDelete eAppend eBuildSl eRange eNext
instance : CodC cIt 2 := ⟨CIt⟩
def RefH (v : Value) (n : Int) (M : List It) : HP := HEx fun p => HEx fun sv => HPr (v = ptr p) (HSt (Cl p #[.int .i64 n, sv] 133) (LsH cIt 2 135 sv M))
section
variable {w0 w : World} {L : List HP} {K : Value → World → Prop} {v : Value} {n : Int} {M : List It}
theorem ref_iff : Sat w0 (RefH v n M :: L) w ↔ ∃ p sv, v = ptr p ∧ Sat w0 (Cl p #[.int .i64 n, sv] 133 :: LsH cIt 2 135 sv M :: L) w := by
  simp only [RefH, Sat.ex_iff, Sat.pr_iff, Sat.star_iff]
theorem rnew_spec {n : Int} (h : Sat w0 L w) (hK0 : (n < 1 ∨ 65536 < n) → K (.tuple #[.pointer none, .int .i64 1]) w)
    (hK : ∀ p w', 1 ≤ n → n ≤ 65536 → Sat w0 (RefH (ptr p) n [] :: L) w' → K (.tuple #[ptr p, .int .i64 0]) w') : callP G31 [.int .i64 n] w K := by
  refine c31 ?_
  unfold F31
  by_cases h1 : n < 1
  · (repeat (first
 | (simp (disch := omega) only [evA, evB, bAdd_i64, bSub_i64, ptr, Nat.zero_add, Bool.not_true, Bool.not_false, Option.isNone_some, Option.isNone_none, Option.isSome_some, Option.isSome_none, decide_true, decide_false, eq_self, true_and, h1])
 | ((with_reducible apply go_ld1 h))
 | ((with_reducible apply go_ldA h); (rfl))
 | ((with_reducible apply go_ldN h))
 | ((with_reducible apply go_st h); intro _ h)
 | ((with_reducible apply go_stA h); (rfl); (rfl); (first | rfl | simp); intro _ h)
 | ((with_reducible apply go_stN h); (rfl); (first | rfl | simp); intro _ h)
 | ((with_reducible apply go_box h); rfl; intro _ _ h)
 | ((with_reducible apply go_rd h); (rfl))
 | ((with_reducible apply go_rdN h); (rfl))
 | ((with_reducible apply go_lenL h))
 | ((with_reducible apply go_ix h); (omega))
 | ((with_reducible apply go_elN h); (case hi => omega))
 | ((with_reducible apply go_fa h); (omega); (omega))
 | ((with_reducible apply go_f1 h); (case hi => omega); (case hx => exact inferInstance))
 | ((with_reducible apply go_rf1 h); (case hi => omega); (case hx => exact inferInstance); (case hv => rfl))
 | ((with_reducible apply go_rel h); (case hi => omega); (case hv => rfl))
)); exact hK0 (.inl h1)
  by_cases h2 : 65536 < n
  · (repeat (first
 | (simp (disch := omega) only [evA, evB, bAdd_i64, bSub_i64, ptr, Nat.zero_add, Bool.not_true, Bool.not_false, Option.isNone_some, Option.isNone_none, Option.isSome_some, Option.isSome_none, decide_true, decide_false, eq_self, true_and, h1, gt_iff_lt, h2])
 | ((with_reducible apply go_ld1 h))
 | ((with_reducible apply go_ldA h); (rfl))
 | ((with_reducible apply go_ldN h))
 | ((with_reducible apply go_st h); intro _ h)
 | ((with_reducible apply go_stA h); (rfl); (rfl); (first | rfl | simp); intro _ h)
 | ((with_reducible apply go_stN h); (rfl); (first | rfl | simp); intro _ h)
 | ((with_reducible apply go_box h); rfl; intro _ _ h)
 | ((with_reducible apply go_rd h); (rfl))
 | ((with_reducible apply go_rdN h); (rfl))
 | ((with_reducible apply go_lenL h))
 | ((with_reducible apply go_ix h); (omega))
 | ((with_reducible apply go_elN h); (case hi => omega))
 | ((with_reducible apply go_fa h); (omega); (omega))
 | ((with_reducible apply go_f1 h); (case hi => omega); (case hx => exact inferInstance))
 | ((with_reducible apply go_rf1 h); (case hi => omega); (case hx => exact inferInstance); (case hv => rfl))
 | ((with_reducible apply go_rel h); (case hi => omega); (case hv => rfl))
)); exact hK0 (.inr h2)
  have close : ∀ p w', Sat w0 (Cl p #[.int .i64 n, .slice none 0 0] 133 :: L) w' → Sat w0 (RefH (ptr p) n [] :: L) w' := fun p w' h => ref_iff.2 ⟨p, .slice none 0 0, rfl, (ls_nil h).f1⟩
  (repeat (first
 | (simp (disch := omega) only [evA, evB, bAdd_i64, bSub_i64, ptr, Nat.zero_add, Bool.not_true, Bool.not_false, Option.isNone_some, Option.isNone_none, Option.isSome_some, Option.isSome_none, decide_true, decide_false, eq_self, true_and, h1, gt_iff_lt, h2])
 | (refine go_some (fb133_0 ..) ?_)
 | ((with_reducible apply go_ld1 h))
 | ((with_reducible apply go_ldA h); (rfl))
 | ((with_reducible apply go_ldN h))
 | ((with_reducible apply go_st h); intro _ h)
 | ((with_reducible apply go_stA h); (rfl); (rfl); (first | rfl | simp); intro _ h)
 | ((with_reducible apply go_stN h); (rfl); (first | rfl | simp); intro _ h)
 | ((with_reducible apply go_box h); rfl; intro _ _ h)
 | ((with_reducible apply go_rd h); (rfl))
 | ((with_reducible apply go_rdN h); (rfl))
 | ((with_reducible apply go_lenL h))
 | ((with_reducible apply go_ix h); (omega))
 | ((with_reducible apply go_elN h); (case hi => omega))
 | ((with_reducible apply go_fa h); (omega); (omega))
 | ((with_reducible apply go_f1 h); (case hi => omega); (case hx => exact inferInstance))
 | ((with_reducible apply go_rf1 h); (case hi => omega); (case hx => exact inferInstance); (case hv => rfl))
 | ((with_reducible apply go_rel h); (case hi => omega); (case hv => rfl))
))

  exact hK _ _ (by omega) (by omega) (close _ _ h)
theorem getM_cons (x : It) (M : List It) (id : Int) : getM id (x :: M) = if x.1 = id then some x.2 else getM id M := by
  unfold getM
  rw [List.find?_cons]
  by_cases e : x.1 = id <;> simp [e]
theorem rget_loop {p : Nat} {sv : Value} {id : Int} (hlen : M.length ≤ 65536) (h : Sat w0 (Cl p #[.int .i64 n, sv] 133 :: LsH cIt 2 135 sv M :: L) w) (hK : K (getR id M) w) :
    ∀ (d i : Nat), M.length - i < d → i ≤ M.length → getM id (M.drop i) = getM id M → F82_2L d (ptr p) (.int .i64 id) (.int .i64 i) w K := by
  intro d
  induction d with
  | zero => intro i hd; omega
  | succ d ih =>
    intro i hd hi hg
    rw [F82_2L]
    unfold F82_2b F82_3 F82_3b
    by_cases g : i < M.length
    · have g' : decide ((i : Int) < (M.length : Int)) = true := by simpa using g
      rw [List.drop_eq_getElem_cons g, getM_cons] at hg
      (repeat (first
 | (simp (disch := omega) only [evA, evB, bAdd_i64, bSub_i64, ptr, Nat.zero_add, Bool.not_true, Bool.not_false, Option.isNone_some, Option.isNone_none, Option.isSome_some, Option.isSome_none, decide_true, decide_false, eq_self, true_and, g'])
 | ((with_reducible apply go_ld1 h))
 | ((with_reducible apply go_ldA h); (rfl))
 | ((with_reducible apply go_ldN h))
 | ((with_reducible apply go_st h); intro _ h)
 | ((with_reducible apply go_stA h); (rfl); (rfl); (first | rfl | simp); intro _ h)
 | ((with_reducible apply go_stN h); (rfl); (first | rfl | simp); intro _ h)
 | ((with_reducible apply go_box h); rfl; intro _ _ h)
 | ((with_reducible apply go_rd h); (rfl))
 | ((with_reducible apply go_rdN h); (rfl))
 | ((with_reducible apply go_lenL h))
 | ((with_reducible apply go_ix h); (omega))
 | ((with_reducible apply go_elN h); (case hi => omega))
 | ((with_reducible apply go_fa h); (omega); (omega))
 | ((with_reducible apply go_f1 h); (case hi => omega); (case hx => exact inferInstance))
 | ((with_reducible apply go_rf1 h); (case hi => omega); (case hx => exact inferInstance); (case hv => rfl))
 | ((with_reducible apply go_rel h); (case hi => omega); (case hv => rfl))
))
      by_cases e : M[i].1 = id
      · have e' : decide (M[i].1 = id) = true := by simpa using e
        rw [if_pos e] at hg
        (repeat (first
 | (simp (disch := omega) only [evA, evB, bAdd_i64, bSub_i64, ptr, Nat.zero_add, Bool.not_true, Bool.not_false, Option.isNone_some, Option.isNone_none, Option.isSome_some, Option.isSome_none, decide_true, decide_false, eq_self, true_and, e'])
 | ((with_reducible apply go_ld1 h))
 | ((with_reducible apply go_ldA h); (rfl))
 | ((with_reducible apply go_ldN h))
 | ((with_reducible apply go_st h); intro _ h)
 | ((with_reducible apply go_stA h); (rfl); (rfl); (first | rfl | simp); intro _ h)
 | ((with_reducible apply go_stN h); (rfl); (first | rfl | simp); intro _ h)
 | ((with_reducible apply go_box h); rfl; intro _ _ h)
 | ((with_reducible apply go_rd h); (rfl))
 | ((with_reducible apply go_rdN h); (rfl))
 | ((with_reducible apply go_lenL h))
 | ((with_reducible apply go_ix h); (omega))
 | ((with_reducible apply go_elN h); (case hi => omega))
 | ((with_reducible apply go_fa h); (omega); (omega))
 | ((with_reducible apply go_f1 h); (case hi => omega); (case hx => exact inferInstance))
 | ((with_reducible apply go_rf1 h); (case hi => omega); (case hx => exact inferInstance); (case hv => rfl))
 | ((with_reducible apply go_rel h); (case hi => omega); (case hv => rfl))
))
        unfold getR at hK
        rw [← hg] at hK
        exact hK
      · have e' : decide (M[i].1 = id) = false := by simpa using e
        rw [if_neg e] at hg
        (repeat (first
 | (simp (disch := omega) only [evA, evB, bAdd_i64, bSub_i64, ptr, Nat.zero_add, Bool.not_true, Bool.not_false, Option.isNone_some, Option.isNone_none, Option.isSome_some, Option.isSome_none, decide_true, decide_false, eq_self, true_and, e'])
 | ((with_reducible apply go_ld1 h))
 | ((with_reducible apply go_ldA h); (rfl))
 | ((with_reducible apply go_ldN h))
 | ((with_reducible apply go_st h); intro _ h)
 | ((with_reducible apply go_stA h); (rfl); (rfl); (first | rfl | simp); intro _ h)
 | ((with_reducible apply go_stN h); (rfl); (first | rfl | simp); intro _ h)
 | ((with_reducible apply go_box h); rfl; intro _ _ h)
 | ((with_reducible apply go_rd h); (rfl))
 | ((with_reducible apply go_rdN h); (rfl))
 | ((with_reducible apply go_lenL h))
 | ((with_reducible apply go_ix h); (omega))
 | ((with_reducible apply go_elN h); (case hi => omega))
 | ((with_reducible apply go_fa h); (omega); (omega))
 | ((with_reducible apply go_f1 h); (case hi => omega); (case hx => exact inferInstance))
 | ((with_reducible apply go_rf1 h); (case hi => omega); (case hx => exact inferInstance); (case hv => rfl))
 | ((with_reducible apply go_rel h); (case hi => omega); (case hv => rfl))
))
        exact ih (i + 1) (by omega) (by omega) hg
    · have g' : decide ((i : Int) < (M.length : Int)) = false := by simpa using g
      rw [List.drop_of_length_le (by omega)] at hg
      (repeat (first
 | (simp (disch := omega) only [evA, evB, bAdd_i64, bSub_i64, ptr, Nat.zero_add, Bool.not_true, Bool.not_false, Option.isNone_some, Option.isNone_none, Option.isSome_some, Option.isSome_none, decide_true, decide_false, eq_self, true_and, g'])
 | ((with_reducible apply go_ld1 h))
 | ((with_reducible apply go_ldA h); (rfl))
 | ((with_reducible apply go_ldN h))
 | ((with_reducible apply go_st h); intro _ h)
 | ((with_reducible apply go_stA h); (rfl); (rfl); (first | rfl | simp); intro _ h)
 | ((with_reducible apply go_stN h); (rfl); (first | rfl | simp); intro _ h)
 | ((with_reducible apply go_box h); rfl; intro _ _ h)
 | ((with_reducible apply go_rd h); (rfl))
 | ((with_reducible apply go_rdN h); (rfl))
 | ((with_reducible apply go_lenL h))
 | ((with_reducible apply go_ix h); (omega))
 | ((with_reducible apply go_elN h); (case hi => omega))
 | ((with_reducible apply go_fa h); (omega); (omega))
 | ((with_reducible apply go_f1 h); (case hi => omega); (case hx => exact inferInstance))
 | ((with_reducible apply go_rf1 h); (case hi => omega); (case hx => exact inferInstance); (case hv => rfl))
 | ((with_reducible apply go_rel h); (case hi => omega); (case hv => rfl))
))
      unfold getR at hK
      rw [← hg] at hK
      exact hK
theorem rget_spec {id : Int} (hlen : M.length ≤ 65536) (h : Sat w0 (RefH v n M :: L) w) (hK : K (getR id M) w) : callP G82 [v, .int .i64 id] w K := by
  refine c82 ?_
  unfold F82 F82_1 F82_1b F82_2
  replace h := ref_iff.1 h
  obtain ⟨p, sv, rfl, h⟩ := h
  exact rget_loop hlen h hK fuel 0 (by unfold fuel; omega) (by omega) rfl
theorem tw_at {α : Type} {q : α → Bool} : ∀ {l : List α} {i : Nat}, (∀ x ∈ l.take i, q x = true) → (∀ x, l[i]? = some x → q x = false) → l.takeWhile q = l.take i ∧ l.dropWhile q = l.drop i
  | [], i, _, _ => by simp
  | x :: l, 0, _, h => by
    have := h x (by simp)
    simp [this]
  | x :: l, i + 1, h, h2 => by
    have h1 := h x (by simp)
    obtain ⟨e1, e2⟩ := tw_at (l := l) (i := i) (fun y hy => h y (by simp [hy])) (fun y hy => h2 y (by simpa using hy))
    simp [h1, e1, e2]
theorem dropM_cons (id : Int) (x : It) (M : List It) : dropM id (x :: M) = if x.1 = id then dropM id M else x :: dropM id M := by
  by_cases e : x.1 = id <;> simp [dropM, e]
theorem drop_some (id : Int) (M : List It) : decide (((dropM id M).length : Int) < (M.length : Int)) = (getM id M).isSome := by
  induction M with
  | nil => simp [dropM, getM]
  | cons x M ih =>
    rw [getM_cons]
    have hle : (dropM id M).length ≤ M.length := List.length_filter_le _ _
    by_cases e : x.1 = id
    · rw [if_pos e]
      have : dropM id (x :: M) = dropM id M := by simp [dropM, e]
      rw [this]; simp; omega
    · rw [if_neg e, ← ih]
      have : dropM id (x :: M) = x :: dropM id M := by simp [dropM, e]
      rw [this, Bool.eq_iff_iff]; simp
theorem fbIt (x : It) : fBuildSl Try.prog 135 1 [(0, .agg (cIt x).toArray)] = some (cIt x).toArray := by
  obtain ⟨a, b⟩ := x
  kernel_rfl
theorem rdrop_loop {p : Nat} {sv : Value} {id : Int} (hlen : M.length ≤ 65536) (hK : ∀ w', Sat w0 (RefH (ptr p) n (dropM id M) :: L) w' → K (.bool (getM id M).isSome) w') :
    ∀ (d i : Nat) (out : List It) (s5 : Value) (w : World), M.length - i < d → i ≤ M.length → out ++ dropM id (M.drop i) = dropM id M → out.length ≤ i → Sat w0 (LsH cIt 2 135 s5 out :: Cl p #[.int .i64 n, sv] 133 :: LsH cIt 2 135 sv M :: L) w →
      F33_2L d (ptr p) (.int .i64 id) s5 (.int .i64 i) w K := by
  intro d
  induction d with
  | zero => intro i out s5 w hd; omega
  | succ d ih =>
    intro i out s5 w hd hi ho hol h
    rw [F33_2L]
    unfold F33_4 F33_4b F33_5 F33_5b F33_3 F33_3b
    by_cases g : i < M.length
    · have g' : decide ((i : Int) < (M.length : Int)) = true := by simpa using g
      rw [List.drop_eq_getElem_cons g] at ho
      (repeat (first
 | (simp (disch := omega) only [evA, evB, bAdd_i64, bSub_i64, ptr, Nat.zero_add, Bool.not_true, Bool.not_false, Option.isNone_some, Option.isNone_none, Option.isSome_some, Option.isSome_none, decide_true, decide_false, eq_self, true_and, g'])
 | ((with_reducible apply go_ld1 h))
 | ((with_reducible apply go_ldA h); (rfl))
 | ((with_reducible apply go_ldN h))
 | ((with_reducible apply go_st h); intro _ h)
 | ((with_reducible apply go_stA h); (rfl); (rfl); (first | rfl | simp); intro _ h)
 | ((with_reducible apply go_stN h); (rfl); (first | rfl | simp); intro _ h)
 | ((with_reducible apply go_box h); rfl; intro _ _ h)
 | ((with_reducible apply go_rd h); (rfl))
 | ((with_reducible apply go_rdN h); (rfl))
 | ((with_reducible apply go_lenL h))
 | ((with_reducible apply go_ix h); (omega))
 | ((with_reducible apply go_elN h); (case hi => omega))
 | ((with_reducible apply go_fa h); (omega); (omega))
 | ((with_reducible apply go_f1 h); (case hi => omega); (case hx => exact inferInstance))
 | ((with_reducible apply go_rf1 h); (case hi => omega); (case hx => exact inferInstance); (case hv => rfl))
 | ((with_reducible apply go_rel h); (case hi => omega); (case hv => rfl))
))
      by_cases e : M[i].1 = id
      · have e' : decide (M[i].1 = id) = true := by simpa using e
        rw [dropM_cons, if_pos e] at ho
        (repeat (first
 | (simp (disch := omega) only [evA, evB, bAdd_i64, bSub_i64, ptr, Nat.zero_add, Bool.not_true, Bool.not_false, Option.isNone_some, Option.isNone_none, Option.isSome_some, Option.isSome_none, decide_true, decide_false, eq_self, true_and, e'])
 | ((with_reducible apply go_ld1 h))
 | ((with_reducible apply go_ldA h); (rfl))
 | ((with_reducible apply go_ldN h))
 | ((with_reducible apply go_st h); intro _ h)
 | ((with_reducible apply go_stA h); (rfl); (rfl); (first | rfl | simp); intro _ h)
 | ((with_reducible apply go_stN h); (rfl); (first | rfl | simp); intro _ h)
 | ((with_reducible apply go_box h); rfl; intro _ _ h)
 | ((with_reducible apply go_rd h); (rfl))
 | ((with_reducible apply go_rdN h); (rfl))
 | ((with_reducible apply go_lenL h))
 | ((with_reducible apply go_ix h); (omega))
 | ((with_reducible apply go_elN h); (case hi => omega))
 | ((with_reducible apply go_fa h); (omega); (omega))
 | ((with_reducible apply go_f1 h); (case hi => omega); (case hx => exact inferInstance))
 | ((with_reducible apply go_rf1 h); (case hi => omega); (case hx => exact inferInstance); (case hv => rfl))
 | ((with_reducible apply go_rel h); (case hi => omega); (case hv => rfl))
))
        exact ih (i + 1) out s5 w (by omega) (by omega) ho (by omega) h
      · have e' : decide (M[i].1 = id) = false := by simpa using e
        rw [dropM_cons, if_neg e] at ho
        (repeat (first
 | (simp (disch := omega) only [evA, evB, bAdd_i64, bSub_i64, ptr, Nat.zero_add, Bool.not_true, Bool.not_false, Option.isNone_some, Option.isNone_none, Option.isSome_some, Option.isSome_none, decide_true, decide_false, eq_self, true_and, e'])
 | ((with_reducible apply go_ld1 h))
 | ((with_reducible apply go_ldA h); (rfl))
 | ((with_reducible apply go_ldN h))
 | ((with_reducible apply go_st h); intro _ h)
 | ((with_reducible apply go_stA h); (rfl); (rfl); (first | rfl | simp); intro _ h)
 | ((with_reducible apply go_stN h); (rfl); (first | rfl | simp); intro _ h)
 | ((with_reducible apply go_box h); rfl; intro _ _ h)
 | ((with_reducible apply go_rd h); (rfl))
 | ((with_reducible apply go_rdN h); (rfl))
 | ((with_reducible apply go_lenL h))
 | ((with_reducible apply go_ix h); (omega))
 | ((with_reducible apply go_elN h); (case hi => omega))
 | ((with_reducible apply go_fa h); (omega); (omega))
 | ((with_reducible apply go_f1 h); (case hi => omega); (case hx => exact inferInstance))
 | ((with_reducible apply go_rf1 h); (case hi => omega); (case hx => exact inferInstance); (case hv => rfl))
 | ((with_reducible apply go_rel h); (case hi => omega); (case hv => rfl))
))
        refine go_lit1 (x := M[i]) CIt h u65 (fbIt _) rfl fun s w h => ?_
        refine ls_app (l := out) (m := [M[i]]) CIt (h.front (by repeat (first | exact .here | apply Fnt.there))) sl65 ss65 (ls_rd h) (by simp; omega) fun s2 w h => ?_
        (repeat (first
 | (simp (disch := omega) only [evA, evB, bAdd_i64, bSub_i64, ptr, Nat.zero_add, Bool.not_true, Bool.not_false, Option.isNone_some, Option.isNone_none, Option.isSome_some, Option.isSome_none, decide_true, decide_false, eq_self, true_and])
 | ((with_reducible apply go_ld1 h))
 | ((with_reducible apply go_ldA h); (rfl))
 | ((with_reducible apply go_ldN h))
 | ((with_reducible apply go_st h); intro _ h)
 | ((with_reducible apply go_stA h); (rfl); (rfl); (first | rfl | simp); intro _ h)
 | ((with_reducible apply go_stN h); (rfl); (first | rfl | simp); intro _ h)
 | ((with_reducible apply go_box h); rfl; intro _ _ h)
 | ((with_reducible apply go_rd h); (rfl))
 | ((with_reducible apply go_rdN h); (rfl))
 | ((with_reducible apply go_lenL h))
 | ((with_reducible apply go_ix h); (omega))
 | ((with_reducible apply go_elN h); (case hi => omega))
 | ((with_reducible apply go_fa h); (omega); (omega))
 | ((with_reducible apply go_f1 h); (case hi => omega); (case hx => exact inferInstance))
 | ((with_reducible apply go_rf1 h); (case hi => omega); (case hx => exact inferInstance); (case hv => rfl))
 | ((with_reducible apply go_rel h); (case hi => omega); (case hv => rfl))
))
        exact ih (i + 1) (out ++ [M[i]]) s2 w (by omega) (by omega) (by simpa using ho) (by simp; omega) (h.get (by (repeat (first | exact .done | (refine .pick (by repeat (first | exact .here | apply Fnt.there)) ?_) | refine .skip ?_))))
    · have g' : decide ((i : Int) < (M.length : Int)) = false := by simpa using g
      have e0 : out = dropM id M := by rw [← ho, List.drop_of_length_le (by omega)]; simp [dropM]
      subst e0
      have := ls_one h
      (repeat (first
 | (simp (disch := omega) only [evA, evB, bAdd_i64, bSub_i64, ptr, Nat.zero_add, Bool.not_true, Bool.not_false, Option.isNone_some, Option.isNone_none, Option.isSome_some, Option.isSome_none, decide_true, decide_false, eq_self, true_and, g', drop_some])
 | ((with_reducible apply go_ld1 h))
 | ((with_reducible apply go_ldA h); (rfl))
 | ((with_reducible apply go_ldN h))
 | ((with_reducible apply go_st h); intro _ h)
 | ((with_reducible apply go_stA h); (rfl); (rfl); (first | rfl | simp); intro _ h)
 | ((with_reducible apply go_stN h); (rfl); (first | rfl | simp); intro _ h)
 | ((with_reducible apply go_box h); rfl; intro _ _ h)
 | ((with_reducible apply go_rd h); (rfl))
 | ((with_reducible apply go_rdN h); (rfl))
 | ((with_reducible apply go_lenL h))
 | ((with_reducible apply go_ix h); (omega))
 | ((with_reducible apply go_elN h); (case hi => omega))
 | ((with_reducible apply go_fa h); (omega); (omega))
 | ((with_reducible apply go_f1 h); (case hi => omega); (case hx => exact inferInstance))
 | ((with_reducible apply go_rf1 h); (case hi => omega); (case hx => exact inferInstance); (case hv => rfl))
 | ((with_reducible apply go_rel h); (case hi => omega); (case hv => rfl))
))
      exact hK _ (ref_iff.2 ⟨p, s5, rfl, h.get (by (repeat (first | exact .done | (refine .pick (by repeat (first | exact .here | apply Fnt.there)) ?_) | refine .skip ?_)))⟩)
theorem rdrop_spec {id : Int} (hlen : M.length ≤ 65536) (h : Sat w0 (RefH v n M :: L) w) (hK : ∀ w', Sat w0 (RefH v n (dropM id M) :: L) w' → K (.bool (getM id M).isSome) w') : callP G33 [v, .int .i64 id] w K := by
  refine c33 ?_
  unfold F33 F33_1 F33_1b F33_2
  replace h := ref_iff.1 h
  obtain ⟨p, sv, rfl, h⟩ := h
  exact rdrop_loop hlen hK fuel 0 [] (.slice none 0 0) w (by unfold fuel; omega) (by omega) rfl (by simp) (ls_nil h)
theorem rfirst_spec (h : Sat w0 (RefH v n M :: L) w) (hK : ∀ w', Sat w0 (RefH v n M :: L) w' → K (firstR M) w') : callP G86 [v] w K := by
  refine c86 ?_
  unfold F86
  replace h := ref_iff.1 h
  obtain ⟨p, sv, rfl, h⟩ := h
  (repeat (first
 | (simp (disch := omega) only [evA, evB, bAdd_i64, bSub_i64, ptr, Nat.zero_add, Bool.not_true, Bool.not_false, Option.isNone_some, Option.isNone_none, Option.isSome_some, Option.isSome_none, decide_true, decide_false, eq_self, true_and])
 | ((with_reducible apply go_ld1 h))
 | ((with_reducible apply go_ldA h); (rfl))
 | ((with_reducible apply go_ldN h))
 | ((with_reducible apply go_st h); intro _ h)
 | ((with_reducible apply go_stA h); (rfl); (rfl); (first | rfl | simp); intro _ h)
 | ((with_reducible apply go_stN h); (rfl); (first | rfl | simp); intro _ h)
 | ((with_reducible apply go_box h); rfl; intro _ _ h)
 | ((with_reducible apply go_alloc h); (first | exact z135); rfl; intro _ _ h)
 | ((with_reducible apply go_rd h); (rfl))
 | ((with_reducible apply go_rdN h); (rfl))
 | ((with_reducible apply go_lenL h))
 | ((with_reducible apply go_ix h); (omega))
 | ((with_reducible apply go_elN h); (case hi => omega))
 | ((with_reducible apply go_fa h); (omega); (omega))
 | ((with_reducible apply go_f1 h); (case hi => omega); (case hx => exact inferInstance))
 | ((with_reducible apply go_rf1 h); (case hi => omega); (case hx => exact inferInstance); (case hv => rfl))
 | ((with_reducible apply go_rel h); (case hi => omega); (case hv => rfl))
))
  cases M with
  | nil =>
    (repeat (first
 | (simp (disch := omega) only [evA, evB, bAdd_i64, bSub_i64, ptr, Nat.zero_add, Bool.not_true, Bool.not_false, Option.isNone_some, Option.isNone_none, Option.isSome_some, Option.isSome_none, decide_true, decide_false, eq_self, true_and, List.length_nil])
 | (refine go_some (fb135 ..) ?_)
 | ((with_reducible apply go_ld1 h))
 | ((with_reducible apply go_ldA h); (rfl))
 | ((with_reducible apply go_ldN h))
 | ((with_reducible apply go_st h); intro _ h)
 | ((with_reducible apply go_stA h); (rfl); (rfl); (first | rfl | simp); intro _ h)
 | ((with_reducible apply go_stN h); (rfl); (first | rfl | simp); intro _ h)
 | ((with_reducible apply go_box h); rfl; intro _ _ h)
 | ((with_reducible apply go_rd h); (rfl))
 | ((with_reducible apply go_rdN h); (rfl))
 | ((with_reducible apply go_lenL h))
 | ((with_reducible apply go_ix h); (omega))
 | ((with_reducible apply go_elN h); (case hi => omega))
 | ((with_reducible apply go_fa h); (omega); (omega))
 | ((with_reducible apply go_f1 h); (case hi => omega); (case hx => exact inferInstance))
 | ((with_reducible apply go_rf1 h); (case hi => omega); (case hx => exact inferInstance); (case hv => rfl))
 | ((with_reducible apply go_rel h); (case hi => omega); (case hv => rfl))
))
    exact hK _ (ref_iff.2 ⟨p, sv, rfl, h.get (by (repeat (first | exact .done | (refine .pick (by repeat (first | exact .here | apply Fnt.there)) ?_) | refine .skip ?_)))⟩)
  | cons x M =>
    have e : decide (((x :: M).length : Int) = 0) = false := by simp; omega
    have hix : pIndexL 2 sv (.int .i64 0) = some (elP 2 sv 0) := ls_ix (i := 0) (l := x :: M) (h.front (by repeat (first | exact .here | apply Fnt.there))) (by simp)
    have hld : ldN 2 (elP 2 sv 0) _ = some (.agg (cIt x).toArray) := ls_ld (i := 0) (l := x :: M) CIt (h.front (by repeat (first | exact .here | apply Fnt.there))) (by simp)
    (repeat (first
 | (simp (disch := omega) only [evA, evB, bAdd_i64, bSub_i64, ptr, Nat.zero_add, Bool.not_true, Bool.not_false, Option.isNone_some, Option.isNone_none, Option.isSome_some, Option.isSome_none, decide_true, decide_false, eq_self, true_and, e, hix, hld])
 | ((with_reducible apply go_ld1 h))
 | ((with_reducible apply go_ldA h); (rfl))
 | ((with_reducible apply go_ldN h))
 | ((with_reducible apply go_st h); intro _ h)
 | ((with_reducible apply go_stA h); (rfl); (rfl); (first | rfl | simp); intro _ h)
 | ((with_reducible apply go_stN h); (rfl); (first | rfl | simp); intro _ h)
 | ((with_reducible apply go_box h); rfl; intro _ _ h)
 | ((with_reducible apply go_rd h); (rfl))
 | ((with_reducible apply go_rdN h); (rfl))
 | ((with_reducible apply go_lenL h))
 | ((with_reducible apply go_ix h); (omega))
 | ((with_reducible apply go_elN h); (case hi => omega))
 | ((with_reducible apply go_fa h); (omega); (omega))
 | ((with_reducible apply go_f1 h); (case hi => omega); (case hx => exact inferInstance))
 | ((with_reducible apply go_rf1 h); (case hi => omega); (case hx => exact inferInstance); (case hv => rfl))
 | ((with_reducible apply go_rel h); (case hi => omega); (case hv => rfl))
))
    exact hK _ (ref_iff.2 ⟨p, sv, rfl, h.get (by (repeat (first | exact .done | (refine .pick (by repeat (first | exact .here | apply Fnt.there)) ?_) | refine .skip ?_)))⟩)
theorem rdue_loop {p : Nat} {sv : Value} {now : Int} (hlen : M.length ≤ 65536) (h : Sat w0 (Cl p #[.int .i64 n, sv] 133 :: LsH cIt 2 135 sv M :: L) w)
    (hK : ∀ s w', Sat w0 (LsH cIt 2 135 s (takeM now M) :: RefH (ptr p) n (leaveM now M) :: L) w' → K s w') :
    ∀ (d i : Nat), M.length - i < d → i ≤ M.length → (∀ x ∈ M.take i, decide (x.2 ≤ now) = true) → F36_2L d (ptr p) (.int .i64 now) (.int .i64 i) w K := by
  intro d
  induction d with
  | zero => intro i hd; omega
  | succ d ih =>
    intro i hd hi ha
    rw [F36_2L]
    unfold F36_2b F36_3 F36_3b
    have fin : (∀ x, M[i]? = some x → decide (x.2 ≤ now) = false) → F36_3 (ptr p) (.int .i64 i) w K := by
      intro hx
      obtain ⟨e1, e2⟩ := tw_at (q := fun x : It => decide (x.2 ≤ now)) ha hx
      unfold F36_3 F36_3b
      have hh := h
      refine go_lit0 CIt h u65 (by kernel_rfl) fun s w h => ?_
      (repeat (first
 | (simp (disch := omega) only [evA, evB, bAdd_i64, bSub_i64, ptr, Nat.zero_add, Bool.not_true, Bool.not_false, Option.isNone_some, Option.isNone_none, Option.isSome_some, Option.isSome_none, decide_true, decide_false, eq_self, true_and])
 | ((with_reducible apply go_ld1 h))
 | ((with_reducible apply go_ldA h); (rfl))
 | ((with_reducible apply go_ldN h))
 | ((with_reducible apply go_st h); intro _ h)
 | ((with_reducible apply go_stA h); (rfl); (rfl); (first | rfl | simp); intro _ h)
 | ((with_reducible apply go_stN h); (rfl); (first | rfl | simp); intro _ h)
 | ((with_reducible apply go_box h); rfl; intro _ _ h)
 | ((with_reducible apply go_rd h); (rfl))
 | ((with_reducible apply go_rdN h); (rfl))
 | ((with_reducible apply go_lenL h))
 | ((with_reducible apply go_ix h); (omega))
 | ((with_reducible apply go_elN h); (case hi => omega))
 | ((with_reducible apply go_fa h); (omega); (omega))
 | ((with_reducible apply go_f1 h); (case hi => omega); (case hx => exact inferInstance))
 | ((with_reducible apply go_rf1 h); (case hi => omega); (case hx => exact inferInstance); (case hv => rfl))
 | ((with_reducible apply go_rel h); (case hi => omega); (case hv => rfl))
))
      refine go_subTo h (by omega) fun v' hr => ?_
      refine ls_app (l := []) (m := M.take i) CIt (h.front (by repeat (first | exact .here | apply Fnt.there))) sl65 ss65 hr (by simp; omega) fun s2 w h => ?_
      refine go_lit0 CIt h u65 (by kernel_rfl) fun s3 w h => ?_
      (repeat (first
 | (simp (disch := omega) only [evA, evB, bAdd_i64, bSub_i64, ptr, Nat.zero_add, Bool.not_true, Bool.not_false, Option.isNone_some, Option.isNone_none, Option.isSome_some, Option.isSome_none, decide_true, decide_false, eq_self, true_and])
 | ((with_reducible apply go_ld1 h))
 | ((with_reducible apply go_ldA h); (rfl))
 | ((with_reducible apply go_ldN h))
 | ((with_reducible apply go_st h); intro _ h)
 | ((with_reducible apply go_stA h); (rfl); (rfl); (first | rfl | simp); intro _ h)
 | ((with_reducible apply go_stN h); (rfl); (first | rfl | simp); intro _ h)
 | ((with_reducible apply go_box h); rfl; intro _ _ h)
 | ((with_reducible apply go_rd h); (rfl))
 | ((with_reducible apply go_rdN h); (rfl))
 | ((with_reducible apply go_lenL h))
 | ((with_reducible apply go_ix h); (omega))
 | ((with_reducible apply go_elN h); (case hi => omega))
 | ((with_reducible apply go_fa h); (omega); (omega))
 | ((with_reducible apply go_f1 h); (case hi => omega); (case hx => exact inferInstance))
 | ((with_reducible apply go_rf1 h); (case hi => omega); (case hx => exact inferInstance); (case hv => rfl))
 | ((with_reducible apply go_rel h); (case hi => omega); (case hv => rfl))
))
      refine go_subFrom h (by omega) fun v' hr => ?_
      refine ls_app (l := []) (m := M.drop i) CIt (h.front (by repeat (first | exact .here | apply Fnt.there))) sl65 ss65 hr (by simp; omega) fun s4 w h => ?_
      have := ls_one h
      (repeat (first
 | (simp (disch := omega) only [evA, evB, bAdd_i64, bSub_i64, ptr, Nat.zero_add, Bool.not_true, Bool.not_false, Option.isNone_some, Option.isNone_none, Option.isSome_some, Option.isSome_none, decide_true, decide_false, eq_self, true_and])
 | ((with_reducible apply go_ld1 h))
 | ((with_reducible apply go_ldA h); (rfl))
 | ((with_reducible apply go_ldN h))
 | ((with_reducible apply go_st h); intro _ h)
 | ((with_reducible apply go_stA h); (rfl); (rfl); (first | rfl | simp); intro _ h)
 | ((with_reducible apply go_stN h); (rfl); (first | rfl | simp); intro _ h)
 | ((with_reducible apply go_box h); rfl; intro _ _ h)
 | ((with_reducible apply go_rd h); (rfl))
 | ((with_reducible apply go_rdN h); (rfl))
 | ((with_reducible apply go_lenL h))
 | ((with_reducible apply go_ix h); (omega))
 | ((with_reducible apply go_elN h); (case hi => omega))
 | ((with_reducible apply go_fa h); (omega); (omega))
 | ((with_reducible apply go_f1 h); (case hi => omega); (case hx => exact inferInstance))
 | ((with_reducible apply go_rf1 h); (case hi => omega); (case hx => exact inferInstance); (case hv => rfl))
 | ((with_reducible apply go_rel h); (case hi => omega); (case hv => rfl))
))
      rw [List.nil_append] at h
      refine hK s2 _ (Sat.f1 (ref_iff.2 ⟨p, s4, rfl, ?_⟩))
      have e3 : leaveM now M = M.drop i := e2
      have e4 : takeM now M = M.take i := e1
      rw [e3, e4]
      exact h.get (by (repeat (first | exact .done | (refine .pick (by repeat (first | exact .here | apply Fnt.there)) ?_) | refine .skip ?_)))
    by_cases g : i < M.length
    · have g' : decide ((i : Int) < (M.length : Int)) = true := by simpa using g
      by_cases e : M[i].2 ≤ now
      · have e' : decide (M[i].2 ≤ now) = true := by simpa using e
        (repeat (first
 | (simp (disch := omega) only [evA, evB, bAdd_i64, bSub_i64, ptr, Nat.zero_add, Bool.not_true, Bool.not_false, Option.isNone_some, Option.isNone_none, Option.isSome_some, Option.isSome_none, decide_true, decide_false, eq_self, true_and, g', e'])
 | ((with_reducible apply go_ld1 h))
 | ((with_reducible apply go_ldA h); (rfl))
 | ((with_reducible apply go_ldN h))
 | ((with_reducible apply go_st h); intro _ h)
 | ((with_reducible apply go_stA h); (rfl); (rfl); (first | rfl | simp); intro _ h)
 | ((with_reducible apply go_stN h); (rfl); (first | rfl | simp); intro _ h)
 | ((with_reducible apply go_box h); rfl; intro _ _ h)
 | ((with_reducible apply go_rd h); (rfl))
 | ((with_reducible apply go_rdN h); (rfl))
 | ((with_reducible apply go_lenL h))
 | ((with_reducible apply go_ix h); (omega))
 | ((with_reducible apply go_elN h); (case hi => omega))
 | ((with_reducible apply go_fa h); (omega); (omega))
 | ((with_reducible apply go_f1 h); (case hi => omega); (case hx => exact inferInstance))
 | ((with_reducible apply go_rf1 h); (case hi => omega); (case hx => exact inferInstance); (case hv => rfl))
 | ((with_reducible apply go_rel h); (case hi => omega); (case hv => rfl))
))
        refine ih (i + 1) (by omega) (by omega) fun x hx => ?_
        rw [List.take_succ_eq_append_getElem g] at hx
        rcases List.mem_append.1 hx with hx | hx
        · exact ha x hx
        · simp at hx; subst hx; exact e'
      · have e' : decide (M[i].2 ≤ now) = false := by simpa using e
        (repeat (first
 | (simp (disch := omega) only [evA, evB, bAdd_i64, bSub_i64, ptr, Nat.zero_add, Bool.not_true, Bool.not_false, Option.isNone_some, Option.isNone_none, Option.isSome_some, Option.isSome_none, decide_true, decide_false, eq_self, true_and, g', e'])
 | ((with_reducible apply go_ld1 h))
 | ((with_reducible apply go_ldA h); (rfl))
 | ((with_reducible apply go_ldN h))
 | ((with_reducible apply go_st h); intro _ h)
 | ((with_reducible apply go_stA h); (rfl); (rfl); (first | rfl | simp); intro _ h)
 | ((with_reducible apply go_stN h); (rfl); (first | rfl | simp); intro _ h)
 | ((with_reducible apply go_box h); rfl; intro _ _ h)
 | ((with_reducible apply go_rd h); (rfl))
 | ((with_reducible apply go_rdN h); (rfl))
 | ((with_reducible apply go_lenL h))
 | ((with_reducible apply go_ix h); (omega))
 | ((with_reducible apply go_elN h); (case hi => omega))
 | ((with_reducible apply go_fa h); (omega); (omega))
 | ((with_reducible apply go_f1 h); (case hi => omega); (case hx => exact inferInstance))
 | ((with_reducible apply go_rf1 h); (case hi => omega); (case hx => exact inferInstance); (case hv => rfl))
 | ((with_reducible apply go_rel h); (case hi => omega); (case hv => rfl))
))
        refine fin fun x hx => ?_
        rw [List.getElem?_eq_getElem g] at hx
        cases hx; exact e'
    · have g' : decide ((i : Int) < (M.length : Int)) = false := by simpa using g
      (repeat (first
 | (simp (disch := omega) only [evA, evB, bAdd_i64, bSub_i64, ptr, Nat.zero_add, Bool.not_true, Bool.not_false, Option.isNone_some, Option.isNone_none, Option.isSome_some, Option.isSome_none, decide_true, decide_false, eq_self, true_and, g'])
 | ((with_reducible apply go_ld1 h))
 | ((with_reducible apply go_ldA h); (rfl))
 | ((with_reducible apply go_ldN h))
 | ((with_reducible apply go_st h); intro _ h)
 | ((with_reducible apply go_stA h); (rfl); (rfl); (first | rfl | simp); intro _ h)
 | ((with_reducible apply go_stN h); (rfl); (first | rfl | simp); intro _ h)
 | ((with_reducible apply go_box h); rfl; intro _ _ h)
 | ((with_reducible apply go_rd h); (rfl))
 | ((with_reducible apply go_rdN h); (rfl))
 | ((with_reducible apply go_lenL h))
 | ((with_reducible apply go_ix h); (omega))
 | ((with_reducible apply go_elN h); (case hi => omega))
 | ((with_reducible apply go_fa h); (omega); (omega))
 | ((with_reducible apply go_f1 h); (case hi => omega); (case hx => exact inferInstance))
 | ((with_reducible apply go_rf1 h); (case hi => omega); (case hx => exact inferInstance); (case hv => rfl))
 | ((with_reducible apply go_rel h); (case hi => omega); (case hv => rfl))
))
      refine fin fun x hx => ?_
      rw [List.getElem?_eq_none (by omega)] at hx; cases hx
theorem rdue_spec {now : Int} (hlen : M.length ≤ 65536) (h : Sat w0 (RefH v n M :: L) w) (hK : ∀ s w', Sat w0 (LsH cIt 2 135 s (takeM now M) :: RefH v n (leaveM now M) :: L) w' → K s w') : callP G36 [v, .int .i64 now] w K := by
  refine c36 ?_
  unfold F36 F36_1 F36_1b F36_2
  replace h := ref_iff.1 h
  obtain ⟨p, sv, rfl, h⟩ := h
  exact rdue_loop hlen h hK fuel 0 (by unfold fuel; omega) (by omega) (by simp)
end
end Go.Proofs.Gong

/- Hq2 -/
namespace Go.Proofs.Gong
open Go Go.Sx Go.Proofs
set_option maxRecDepth 100000
attribute [local irreducible] fBuild fLook fZero eqv bEqv Cl MapH LsH SlH ld1 ldN st callP eBox eAlloc lenM lenL eMapSet eDelete eAppend eBuildSl eRange eNext
section
variable {w0 w : World} {L : List HP} {K : Value → World → Prop} {v : Value} {n : Int} {M : List It}
theorem rset_loop {p : Nat} {sv : Value} {id t : Int} (hlen : M.length ≤ 65536) (h : Sat w0 (Cl p #[.int .i64 n, sv] 133 :: LsH cIt 2 135 sv M :: L) w)
    (hK : ∀ w', Sat w0 (RefH (ptr p) n (insM (id, t) M) :: L) w' → K (.int .i64 0) w') :
    ∀ (d i : Nat), M.length - i < d → i ≤ M.length → (∀ x ∈ M.take i, itLt x (id, t) = true) → F32_2L d (ptr p) (.int .i64 id) (.int .i64 t) (.int .i64 i) w K := by
  intro d
  induction d with
  | zero => intro i hd; omega
  | succ d ih =>
    intro i hd hi ha
    rw [F32_2L]
    unfold F32_2b
    have fin : (∀ x, M[i]? = some x → itLt x (id, t) = false) → F32_3 (ptr p) (.int .i64 id) (.int .i64 t) (.int .i64 i) w K := by
      intro hx
      obtain ⟨e1, e2⟩ := tw_at (q := fun x : It => itLt x (id, t)) ha hx
      unfold F32_3 F32_3b
      (repeat (first
 | (simp (disch := omega) only [evA, evB, bAdd_i64, bSub_i64, ptr, Nat.zero_add, Bool.not_true, Bool.not_false, Option.isNone_some, Option.isNone_none, Option.isSome_some, Option.isSome_none, decide_true, decide_false, eq_self, true_and])
 | ((with_reducible apply go_ld1 h))
 | ((with_reducible apply go_ldA h); (rfl))
 | ((with_reducible apply go_ldN h))
 | ((with_reducible apply go_st h); intro _ h)
 | ((with_reducible apply go_stA h); (rfl); (rfl); (first | rfl | simp); intro _ h)
 | ((with_reducible apply go_stN h); (rfl); (first | rfl | simp); intro _ h)
 | ((with_reducible apply go_box h); rfl; intro _ _ h)
 | ((with_reducible apply go_rd h); (rfl))
 | ((with_reducible apply go_rdN h); (rfl))
 | ((with_reducible apply go_lenL h))
 | ((with_reducible apply go_ix h); (omega))
 | ((with_reducible apply go_elN h); (case hi => omega))
 | ((with_reducible apply go_fa h); (omega); (omega))
 | ((with_reducible apply go_f1 h); (case hi => omega); (case hx => exact inferInstance))
 | ((with_reducible apply go_rf1 h); (case hi => omega); (case hx => exact inferInstance); (case hv => rfl))
 | ((with_reducible apply go_rel h); (case hi => omega); (case hv => rfl))
))
      refine go_subTo h (by omega) fun v' hr => ?_
      refine ls_app (l := []) (m := M.take i) CIt (ls_nil h) sl65 ss65 hr (by simp; omega) fun s1 w h => ?_
      (repeat (first
 | (simp (disch := omega) only [evA, evB, bAdd_i64, bSub_i64, ptr, Nat.zero_add, Bool.not_true, Bool.not_false, Option.isNone_some, Option.isNone_none, Option.isSome_some, Option.isSome_none, decide_true, decide_false, eq_self, true_and])
 | (refine go_some (fb135_0_1 ..) ?_)
 | ((with_reducible apply go_ld1 h))
 | ((with_reducible apply go_ldA h); (rfl))
 | ((with_reducible apply go_ldN h))
 | ((with_reducible apply go_st h); intro _ h)
 | ((with_reducible apply go_stA h); (rfl); (rfl); (first | rfl | simp); intro _ h)
 | ((with_reducible apply go_stN h); (rfl); (first | rfl | simp); intro _ h)
 | ((with_reducible apply go_box h); rfl; intro _ _ h)
 | ((with_reducible apply go_rd h); (rfl))
 | ((with_reducible apply go_rdN h); (rfl))
 | ((with_reducible apply go_lenL h))
 | ((with_reducible apply go_ix h); (omega))
 | ((with_reducible apply go_elN h); (case hi => omega))
 | ((with_reducible apply go_fa h); (omega); (omega))
 | ((with_reducible apply go_f1 h); (case hi => omega); (case hx => exact inferInstance))
 | ((with_reducible apply go_rf1 h); (case hi => omega); (case hx => exact inferInstance); (case hv => rfl))
 | ((with_reducible apply go_rel h); (case hi => omega); (case hv => rfl))
))
      refine go_lit1 (x := (id, t)) CIt h u65 (fbIt (id, t)) rfl fun s2 w h => ?_
      refine ls_app (l := [] ++ M.take i) (m := [(id, t)]) CIt (h.front (by repeat (first | exact .here | apply Fnt.there))) sl65 ss65 (ls_rd h) (by simp; omega) fun s3 w h => ?_
      (repeat (first
 | (simp (disch := omega) only [evA, evB, bAdd_i64, bSub_i64, ptr, Nat.zero_add, Bool.not_true, Bool.not_false, Option.isNone_some, Option.isNone_none, Option.isSome_some, Option.isSome_none, decide_true, decide_false, eq_self, true_and])
 | ((with_reducible apply go_ld1 h))
 | ((with_reducible apply go_ldA h); (rfl))
 | ((with_reducible apply go_ldN h))
 | ((with_reducible apply go_st h); intro _ h)
 | ((with_reducible apply go_stA h); (rfl); (rfl); (first | rfl | simp); intro _ h)
 | ((with_reducible apply go_stN h); (rfl); (first | rfl | simp); intro _ h)
 | ((with_reducible apply go_box h); rfl; intro _ _ h)
 | ((with_reducible apply go_rd h); (rfl))
 | ((with_reducible apply go_rdN h); (rfl))
 | ((with_reducible apply go_lenL h))
 | ((with_reducible apply go_ix h); (omega))
 | ((with_reducible apply go_elN h); (case hi => omega))
 | ((with_reducible apply go_fa h); (omega); (omega))
 | ((with_reducible apply go_f1 h); (case hi => omega); (case hx => exact inferInstance))
 | ((with_reducible apply go_rf1 h); (case hi => omega); (case hx => exact inferInstance); (case hv => rfl))
 | ((with_reducible apply go_rel h); (case hi => omega); (case hv => rfl))
))
      refine go_subFrom h (by omega) fun v' hr => ?_
      refine ls_app (l := [] ++ M.take i ++ [(id, t)]) (m := M.drop i) CIt (h.front (by repeat (first | exact .here | apply Fnt.there))) sl65 ss65 hr (by simp; omega) fun s4 w h => ?_
      have := ls_one h
      (repeat (first
 | (simp (disch := omega) only [evA, evB, bAdd_i64, bSub_i64, ptr, Nat.zero_add, Bool.not_true, Bool.not_false, Option.isNone_some, Option.isNone_none, Option.isSome_some, Option.isSome_none, decide_true, decide_false, eq_self, true_and])
 | ((with_reducible apply go_ld1 h))
 | ((with_reducible apply go_ldA h); (rfl))
 | ((with_reducible apply go_ldN h))
 | ((with_reducible apply go_st h); intro _ h)
 | ((with_reducible apply go_stA h); (rfl); (rfl); (first | rfl | simp); intro _ h)
 | ((with_reducible apply go_stN h); (rfl); (first | rfl | simp); intro _ h)
 | ((with_reducible apply go_box h); rfl; intro _ _ h)
 | ((with_reducible apply go_rd h); (rfl))
 | ((with_reducible apply go_rdN h); (rfl))
 | ((with_reducible apply go_lenL h))
 | ((with_reducible apply go_ix h); (omega))
 | ((with_reducible apply go_elN h); (case hi => omega))
 | ((with_reducible apply go_fa h); (omega); (omega))
 | ((with_reducible apply go_f1 h); (case hi => omega); (case hx => exact inferInstance))
 | ((with_reducible apply go_rf1 h); (case hi => omega); (case hx => exact inferInstance); (case hv => rfl))
 | ((with_reducible apply go_rel h); (case hi => omega); (case hv => rfl))
))
      refine hK _ (ref_iff.2 ⟨p, s4, rfl, ?_⟩)
      have e3 : insM (id, t) M = [] ++ M.take i ++ [(id, t)] ++ M.drop i := by unfold insM; rw [e1, e2]; simp
      rw [e3]
      exact h.get (by (repeat (first | exact .done | (refine .pick (by repeat (first | exact .here | apply Fnt.there)) ?_) | refine .skip ?_)))
    by_cases g : i < M.length
    · have g' : decide ((i : Int) < (M.length : Int)) = true := by simpa using g
      have key : ∀ b : Bool, itLt M[i] (id, t) = b → (b = true → F32_2L d (ptr p) (.int .i64 id) (.int .i64 t) (.int .i64 ((i : Int) + 1)) w K) := by
        intro b hb hb2
        subst hb2
        refine ih (i + 1) (by omega) (by omega) fun x hx => ?_
        rw [List.take_succ_eq_append_getElem g] at hx
        rcases List.mem_append.1 hx with hx | hx
        · exact ha x hx
        · simp at hx; subst hx; exact hb
      have key2 : itLt M[i] (id, t) = false → F32_3 (ptr p) (.int .i64 id) (.int .i64 t) (.int .i64 i) w K := by
        intro e'
        refine fin fun x hx => ?_
        rw [List.getElem?_eq_getElem g] at hx
        cases hx; exact e'
      have hlt : itLt M[i] (id, t) = (decide (M[i].2 < t) || (decide (M[i].2 = t) && decide (M[i].1 < id))) := rfl
      cases e1 : decide (M[i].2 < t)
      · cases e2 : decide (M[i].2 = t)
        · rw [e1, e2] at hlt
          (repeat (first
 | (simp (disch := omega) only [evA, evB, bAdd_i64, bSub_i64, ptr, Nat.zero_add, Bool.not_true, Bool.not_false, Option.isNone_some, Option.isNone_none, Option.isSome_some, Option.isSome_none, decide_true, decide_false, eq_self, true_and, g', e1, e2])
 | ((with_reducible apply go_ld1 h))
 | ((with_reducible apply go_ldA h); (rfl))
 | ((with_reducible apply go_ldN h))
 | ((with_reducible apply go_st h); intro _ h)
 | ((with_reducible apply go_stA h); (rfl); (rfl); (first | rfl | simp); intro _ h)
 | ((with_reducible apply go_stN h); (rfl); (first | rfl | simp); intro _ h)
 | ((with_reducible apply go_box h); rfl; intro _ _ h)
 | ((with_reducible apply go_rd h); (rfl))
 | ((with_reducible apply go_rdN h); (rfl))
 | ((with_reducible apply go_lenL h))
 | ((with_reducible apply go_ix h); (omega))
 | ((with_reducible apply go_elN h); (case hi => omega))
 | ((with_reducible apply go_fa h); (omega); (omega))
 | ((with_reducible apply go_f1 h); (case hi => omega); (case hx => exact inferInstance))
 | ((with_reducible apply go_rf1 h); (case hi => omega); (case hx => exact inferInstance); (case hv => rfl))
 | ((with_reducible apply go_rel h); (case hi => omega); (case hv => rfl))
))
          exact key2 hlt
        · cases e3 : decide (M[i].1 < id)
          · rw [e1, e2, e3] at hlt
            (repeat (first
 | (simp (disch := omega) only [evA, evB, bAdd_i64, bSub_i64, ptr, Nat.zero_add, Bool.not_true, Bool.not_false, Option.isNone_some, Option.isNone_none, Option.isSome_some, Option.isSome_none, decide_true, decide_false, eq_self, true_and, g', e1, e2, e3])
 | ((with_reducible apply go_ld1 h))
 | ((with_reducible apply go_ldA h); (rfl))
 | ((with_reducible apply go_ldN h))
 | ((with_reducible apply go_st h); intro _ h)
 | ((with_reducible apply go_stA h); (rfl); (rfl); (first | rfl | simp); intro _ h)
 | ((with_reducible apply go_stN h); (rfl); (first | rfl | simp); intro _ h)
 | ((with_reducible apply go_box h); rfl; intro _ _ h)
 | ((with_reducible apply go_rd h); (rfl))
 | ((with_reducible apply go_rdN h); (rfl))
 | ((with_reducible apply go_lenL h))
 | ((with_reducible apply go_ix h); (omega))
 | ((with_reducible apply go_elN h); (case hi => omega))
 | ((with_reducible apply go_fa h); (omega); (omega))
 | ((with_reducible apply go_f1 h); (case hi => omega); (case hx => exact inferInstance))
 | ((with_reducible apply go_rf1 h); (case hi => omega); (case hx => exact inferInstance); (case hv => rfl))
 | ((with_reducible apply go_rel h); (case hi => omega); (case hv => rfl))
))
            exact key2 hlt
          · rw [e1, e2, e3] at hlt
            (repeat (first
 | (simp (disch := omega) only [evA, evB, bAdd_i64, bSub_i64, ptr, Nat.zero_add, Bool.not_true, Bool.not_false, Option.isNone_some, Option.isNone_none, Option.isSome_some, Option.isSome_none, decide_true, decide_false, eq_self, true_and, g', e1, e2, e3])
 | ((with_reducible apply go_ld1 h))
 | ((with_reducible apply go_ldA h); (rfl))
 | ((with_reducible apply go_ldN h))
 | ((with_reducible apply go_st h); intro _ h)
 | ((with_reducible apply go_stA h); (rfl); (rfl); (first | rfl | simp); intro _ h)
 | ((with_reducible apply go_stN h); (rfl); (first | rfl | simp); intro _ h)
 | ((with_reducible apply go_box h); rfl; intro _ _ h)
 | ((with_reducible apply go_rd h); (rfl))
 | ((with_reducible apply go_rdN h); (rfl))
 | ((with_reducible apply go_lenL h))
 | ((with_reducible apply go_ix h); (omega))
 | ((with_reducible apply go_elN h); (case hi => omega))
 | ((with_reducible apply go_fa h); (omega); (omega))
 | ((with_reducible apply go_f1 h); (case hi => omega); (case hx => exact inferInstance))
 | ((with_reducible apply go_rf1 h); (case hi => omega); (case hx => exact inferInstance); (case hv => rfl))
 | ((with_reducible apply go_rel h); (case hi => omega); (case hv => rfl))
))
            exact key _ hlt rfl
      · rw [e1] at hlt
        (repeat (first
 | (simp (disch := omega) only [evA, evB, bAdd_i64, bSub_i64, ptr, Nat.zero_add, Bool.not_true, Bool.not_false, Option.isNone_some, Option.isNone_none, Option.isSome_some, Option.isSome_none, decide_true, decide_false, eq_self, true_and, g', e1])
 | ((with_reducible apply go_ld1 h))
 | ((with_reducible apply go_ldA h); (rfl))
 | ((with_reducible apply go_ldN h))
 | ((with_reducible apply go_st h); intro _ h)
 | ((with_reducible apply go_stA h); (rfl); (rfl); (first | rfl | simp); intro _ h)
 | ((with_reducible apply go_stN h); (rfl); (first | rfl | simp); intro _ h)
 | ((with_reducible apply go_box h); rfl; intro _ _ h)
 | ((with_reducible apply go_rd h); (rfl))
 | ((with_reducible apply go_rdN h); (rfl))
 | ((with_reducible apply go_lenL h))
 | ((with_reducible apply go_ix h); (omega))
 | ((with_reducible apply go_elN h); (case hi => omega))
 | ((with_reducible apply go_fa h); (omega); (omega))
 | ((with_reducible apply go_f1 h); (case hi => omega); (case hx => exact inferInstance))
 | ((with_reducible apply go_rf1 h); (case hi => omega); (case hx => exact inferInstance); (case hv => rfl))
 | ((with_reducible apply go_rel h); (case hi => omega); (case hv => rfl))
))
        exact key _ hlt (by simp)
    · have g' : decide ((i : Int) < (M.length : Int)) = false := by simpa using g
      (repeat (first
 | (simp (disch := omega) only [evA, evB, bAdd_i64, bSub_i64, ptr, Nat.zero_add, Bool.not_true, Bool.not_false, Option.isNone_some, Option.isNone_none, Option.isSome_some, Option.isSome_none, decide_true, decide_false, eq_self, true_and, g'])
 | ((with_reducible apply go_ld1 h))
 | ((with_reducible apply go_ldA h); (rfl))
 | ((with_reducible apply go_ldN h))
 | ((with_reducible apply go_st h); intro _ h)
 | ((with_reducible apply go_stA h); (rfl); (rfl); (first | rfl | simp); intro _ h)
 | ((with_reducible apply go_stN h); (rfl); (first | rfl | simp); intro _ h)
 | ((with_reducible apply go_box h); rfl; intro _ _ h)
 | ((with_reducible apply go_rd h); (rfl))
 | ((with_reducible apply go_rdN h); (rfl))
 | ((with_reducible apply go_lenL h))
 | ((with_reducible apply go_ix h); (omega))
 | ((with_reducible apply go_elN h); (case hi => omega))
 | ((with_reducible apply go_fa h); (omega); (omega))
 | ((with_reducible apply go_f1 h); (case hi => omega); (case hx => exact inferInstance))
 | ((with_reducible apply go_rf1 h); (case hi => omega); (case hx => exact inferInstance); (case hv => rfl))
 | ((with_reducible apply go_rel h); (case hi => omega); (case hv => rfl))
))
      refine fin fun x hx => ?_
      rw [List.getElem?_eq_none (by omega)] at hx; cases hx
theorem rset_spec {id t : Int} (hlen : M.length ≤ 65536) (h : Sat w0 (RefH v n M :: L) w) (hK : ∀ w', Sat w0 (RefH v n (setR n id t M).2 :: L) w' → K (.int .i64 (setR n id t M).1) w') : callP G32 [v, .int .i64 id, .int .i64 t] w K := by
  refine c32 ?_
  unfold F32 F32_1 F32_1b
  unfold setR at hK
  by_cases g1 : t < 0 ∨ 2305843009213693952 < t
  · rw [if_pos g1] at hK
    by_cases g2 : t < 0
    · have g2' : decide (t < 0) = true := by simpa using g2
      (repeat (first
 | (simp (disch := omega) only [evA, evB, bAdd_i64, bSub_i64, ptr, Nat.zero_add, Bool.not_true, Bool.not_false, Option.isNone_some, Option.isNone_none, Option.isSome_some, Option.isSome_none, decide_true, decide_false, eq_self, true_and, g2'])
 | ((with_reducible apply go_ld1 h))
 | ((with_reducible apply go_ldA h); (rfl))
 | ((with_reducible apply go_ldN h))
 | ((with_reducible apply go_st h); intro _ h)
 | ((with_reducible apply go_stA h); (rfl); (rfl); (first | rfl | simp); intro _ h)
 | ((with_reducible apply go_stN h); (rfl); (first | rfl | simp); intro _ h)
 | ((with_reducible apply go_box h); rfl; intro _ _ h)
 | ((with_reducible apply go_rd h); (rfl))
 | ((with_reducible apply go_rdN h); (rfl))
 | ((with_reducible apply go_lenL h))
 | ((with_reducible apply go_ix h); (omega))
 | ((with_reducible apply go_elN h); (case hi => omega))
 | ((with_reducible apply go_fa h); (omega); (omega))
 | ((with_reducible apply go_f1 h); (case hi => omega); (case hx => exact inferInstance))
 | ((with_reducible apply go_rf1 h); (case hi => omega); (case hx => exact inferInstance); (case hv => rfl))
 | ((with_reducible apply go_rel h); (case hi => omega); (case hv => rfl))
))
      exact hK _ h
    · have g2' : decide (t < 0) = false := by simpa using g2
      have g3' : decide (t > 2305843009213693952) = true := by simp; omega
      (repeat (first
 | (simp (disch := omega) only [evA, evB, bAdd_i64, bSub_i64, ptr, Nat.zero_add, Bool.not_true, Bool.not_false, Option.isNone_some, Option.isNone_none, Option.isSome_some, Option.isSome_none, decide_true, decide_false, eq_self, true_and, g2', g3'])
 | ((with_reducible apply go_ld1 h))
 | ((with_reducible apply go_ldA h); (rfl))
 | ((with_reducible apply go_ldN h))
 | ((with_reducible apply go_st h); intro _ h)
 | ((with_reducible apply go_stA h); (rfl); (rfl); (first | rfl | simp); intro _ h)
 | ((with_reducible apply go_stN h); (rfl); (first | rfl | simp); intro _ h)
 | ((with_reducible apply go_box h); rfl; intro _ _ h)
 | ((with_reducible apply go_rd h); (rfl))
 | ((with_reducible apply go_rdN h); (rfl))
 | ((with_reducible apply go_lenL h))
 | ((with_reducible apply go_ix h); (omega))
 | ((with_reducible apply go_elN h); (case hi => omega))
 | ((with_reducible apply go_fa h); (omega); (omega))
 | ((with_reducible apply go_f1 h); (case hi => omega); (case hx => exact inferInstance))
 | ((with_reducible apply go_rf1 h); (case hi => omega); (case hx => exact inferInstance); (case hv => rfl))
 | ((with_reducible apply go_rel h); (case hi => omega); (case hv => rfl))
))
      exact hK _ h
  · rw [if_neg g1] at hK
    have g2' : decide (t < 0) = false := by simp; omega
    have g3' : decide (t > 2305843009213693952) = false := by simp; omega
    (repeat (first
 | (simp (disch := omega) only [evA, evB, bAdd_i64, bSub_i64, ptr, Nat.zero_add, Bool.not_true, Bool.not_false, Option.isNone_some, Option.isNone_none, Option.isSome_some, Option.isSome_none, decide_true, decide_false, eq_self, true_and, g2', g3'])
 | ((with_reducible apply go_ld1 h))
 | ((with_reducible apply go_ldA h); (rfl))
 | ((with_reducible apply go_ldN h))
 | ((with_reducible apply go_st h); intro _ h)
 | ((with_reducible apply go_stA h); (rfl); (rfl); (first | rfl | simp); intro _ h)
 | ((with_reducible apply go_stN h); (rfl); (first | rfl | simp); intro _ h)
 | ((with_reducible apply go_box h); rfl; intro _ _ h)
 | ((with_reducible apply go_rd h); (rfl))
 | ((with_reducible apply go_rdN h); (rfl))
 | ((with_reducible apply go_lenL h))
 | ((with_reducible apply go_ix h); (omega))
 | ((with_reducible apply go_elN h); (case hi => omega))
 | ((with_reducible apply go_fa h); (omega); (omega))
 | ((with_reducible apply go_f1 h); (case hi => omega); (case hx => exact inferInstance))
 | ((with_reducible apply go_rf1 h); (case hi => omega); (case hx => exact inferInstance); (case hv => rfl))
 | ((with_reducible apply go_rel h); (case hi => omega); (case hv => rfl))
))
    refine rget_spec hlen h ?_
    have hp : ∃ p, v = ptr p := by
      obtain ⟨p, sv, hv, _⟩ := ref_iff.1 h; exact ⟨p, hv⟩
    obtain ⟨p, rfl⟩ := hp
    unfold getR
    by_cases g4 : getM id M = none ∧ n ≤ M.length
    · rw [if_pos g4] at hK
      have g5 : decide ((M.length : Int) ≥ n) = true := by simp [g4.2]
      have h' := hK _ h.drew
      replace h := ref_iff.1 h
      obtain ⟨q, sv, hv, h⟩ := h
      cases hv
      rw [g4.1]
      (repeat (first
 | (simp (disch := omega) only [evA, evB, bAdd_i64, bSub_i64, ptr, Nat.zero_add, Bool.not_true, Bool.not_false, Option.isNone_some, Option.isNone_none, Option.isSome_some, Option.isSome_none, decide_true, decide_false, eq_self, true_and, g5])
 | ((with_reducible apply go_ld1 h))
 | ((with_reducible apply go_ldA h); (rfl))
 | ((with_reducible apply go_ldN h))
 | ((with_reducible apply go_st h); intro _ h)
 | ((with_reducible apply go_stA h); (rfl); (rfl); (first | rfl | simp); intro _ h)
 | ((with_reducible apply go_stN h); (rfl); (first | rfl | simp); intro _ h)
 | ((with_reducible apply go_box h); rfl; intro _ _ h)
 | ((with_reducible apply go_rd h); (rfl))
 | ((with_reducible apply go_rdN h); (rfl))
 | ((with_reducible apply go_lenL h))
 | ((with_reducible apply go_ix h); (omega))
 | ((with_reducible apply go_elN h); (case hi => omega))
 | ((with_reducible apply go_fa h); (omega); (omega))
 | ((with_reducible apply go_f1 h); (case hi => omega); (case hx => exact inferInstance))
 | ((with_reducible apply go_rf1 h); (case hi => omega); (case hx => exact inferInstance); (case hv => rfl))
 | ((with_reducible apply go_rel h); (case hi => omega); (case hv => rfl))
))
      exact h'
    · rw [if_neg g4] at hK
      have fin : callP G33 [ptr p, .int .i64 id] w.drew fun _ w83 => F32_2 (ptr p) (.int .i64 id) (.int .i64 t) (.int .i64 0) w83 K := by
        refine rdrop_spec hlen h.drew fun w h => ?_
        replace h := ref_iff.1 h
        obtain ⟨q, sv, hv, h⟩ := h
        cases hv
        have hl : (dropM id M).length ≤ M.length := List.length_filter_le _ _
        exact rset_loop (by omega) h hK fuel 0 (by unfold fuel; omega) (by omega) (by simp)
      replace h := ref_iff.1 h
      obtain ⟨q, sv, hv, h⟩ := h
      cases hv
      cases g6 : getM id M with
      | none =>
        have g5 : decide ((M.length : Int) ≥ n) = false := by
          simp only [g6, true_and] at g4
          simp; omega
        (repeat (first
 | (simp (disch := omega) only [evA, evB, bAdd_i64, bSub_i64, ptr, Nat.zero_add, Bool.not_true, Bool.not_false, Option.isNone_some, Option.isNone_none, Option.isSome_some, Option.isSome_none, decide_true, decide_false, eq_self, true_and, g5])
 | ((with_reducible apply go_ld1 h))
 | ((with_reducible apply go_ldA h); (rfl))
 | ((with_reducible apply go_ldN h))
 | ((with_reducible apply go_st h); intro _ h)
 | ((with_reducible apply go_stA h); (rfl); (rfl); (first | rfl | simp); intro _ h)
 | ((with_reducible apply go_stN h); (rfl); (first | rfl | simp); intro _ h)
 | ((with_reducible apply go_box h); rfl; intro _ _ h)
 | ((with_reducible apply go_rd h); (rfl))
 | ((with_reducible apply go_rdN h); (rfl))
 | ((with_reducible apply go_lenL h))
 | ((with_reducible apply go_ix h); (omega))
 | ((with_reducible apply go_elN h); (case hi => omega))
 | ((with_reducible apply go_fa h); (omega); (omega))
 | ((with_reducible apply go_f1 h); (case hi => omega); (case hx => exact inferInstance))
 | ((with_reducible apply go_rf1 h); (case hi => omega); (case hx => exact inferInstance); (case hv => rfl))
 | ((with_reducible apply go_rel h); (case hi => omega); (case hv => rfl))
))
        exact fin
      | some x =>
        (repeat (first
 | (simp (disch := omega) only [evA, evB, bAdd_i64, bSub_i64, ptr, Nat.zero_add, Bool.not_true, Bool.not_false, Option.isNone_some, Option.isNone_none, Option.isSome_some, Option.isSome_none, decide_true, decide_false, eq_self, true_and])
 | ((with_reducible apply go_ld1 h))
 | ((with_reducible apply go_ldA h); (rfl))
 | ((with_reducible apply go_ldN h))
 | ((with_reducible apply go_st h); intro _ h)
 | ((with_reducible apply go_stA h); (rfl); (rfl); (first | rfl | simp); intro _ h)
 | ((with_reducible apply go_stN h); (rfl); (first | rfl | simp); intro _ h)
 | ((with_reducible apply go_box h); rfl; intro _ _ h)
 | ((with_reducible apply go_rd h); (rfl))
 | ((with_reducible apply go_rdN h); (rfl))
 | ((with_reducible apply go_lenL h))
 | ((with_reducible apply go_ix h); (omega))
 | ((with_reducible apply go_elN h); (case hi => omega))
 | ((with_reducible apply go_fa h); (omega); (omega))
 | ((with_reducible apply go_f1 h); (case hi => omega); (case hx => exact inferInstance))
 | ((with_reducible apply go_rf1 h); (case hi => omega); (case hx => exact inferInstance); (case hv => rfl))
 | ((with_reducible apply go_rel h); (case hi => omega); (case hv => rfl))
))
        exact fin
/-- what is read of a deadline in a slice -/
theorem it_at {s : Value} {l : List It} {i : Nat} (h : Rd w 2 s l.length (l.flatMap cIt)) (hi : i < l.length) :
    pIndexL 2 s (.int .i64 i) = some (elP 2 s i) ∧ pFieldAddr 0 (elP 2 s i) = some (elF 2 s i 0) ∧ pFieldAddr 1 (elP 2 s i) = some (elF 2 s i 1) ∧ ld1 (elF 2 s i 0) w = some (.int .i64 l[i].1) ∧ ld1 (elF 2 s i 1) w = some (.int .i64 l[i].2) ∧ ldN 2 (elP 2 s i) w = some (.agg (cIt l[i]).toArray) :=
  ⟨ix_el h hi, rd_fa CIt h hi (by omega), rd_fa CIt h hi (by omega), rd_f1 CIt h hi inferInstance, rd_f1 CIt h hi inferInstance, rd_ld CIt h hi⟩
theorem items_loop {s0 s1 : Value} {l m : List It} (hl : l.length ≤ 65536) (hlm : l.length = m.length) (hK : ∀ w', Sat w0 L w' → K (.bool (decide (l = m))) w') : ∀ (d i : Nat) (w : World), l.length - i < d → i ≤ l.length → l.take i = m.take i →
    Rd w 2 s0 l.length (l.flatMap cIt) → Rd w 2 s1 m.length (m.flatMap cIt) → Sat w0 L w → F34_2L d s0 s1 (.int .i64 i) w K := by
  intro d
  induction d with
  | zero => intro i w hd; omega
  | succ d ih =>
    intro i w hd hi ht ha hb h
    rw [F34_2L]
    unfold F34_2b F34_3 F34_3b
    by_cases g : i < l.length
    · have g' : decide ((i : Int) < (l.length : Int)) = true := by simpa using g
      have g2 : i < m.length := by omega
      have ne : l[i] ≠ m[i] → decide (l = m) = false := by
        intro e
        simp only [decide_eq_false_iff_not]
        intro e2; subst e2; exact e rfl
      by_cases e1 : l[i].1 = m[i].1
      · have e1' : decide (l[i].1 = m[i].1) = true := by simpa using e1
        by_cases e2 : l[i].2 = m[i].2
        · have e2' : decide (l[i].2 = m[i].2) = true := by simpa using e2
          (repeat (first
 | (simp (disch := omega) only [evA, evB, bAdd_i64, bSub_i64, ptr, Nat.zero_add, Bool.not_true, Bool.not_false, Option.isNone_some, Option.isNone_none, Option.isSome_some, Option.isSome_none, decide_true, decide_false, eq_self, true_and, ha.len, g', (it_at ha g), (it_at hb g2), e1', e2'])
 | ((with_reducible apply go_ld1 h))
 | ((with_reducible apply go_ldA h); (rfl))
 | ((with_reducible apply go_ldN h))
 | ((with_reducible apply go_st h); intro _ h)
 | ((with_reducible apply go_stA h); (rfl); (rfl); (first | rfl | simp); intro _ h)
 | ((with_reducible apply go_stN h); (rfl); (first | rfl | simp); intro _ h)
 | ((with_reducible apply go_box h); rfl; intro _ _ h)
 | ((with_reducible apply go_rd h); (rfl))
 | ((with_reducible apply go_rdN h); (rfl))
 | ((with_reducible apply go_lenL h))
 | ((with_reducible apply go_ix h); (omega))
 | ((with_reducible apply go_elN h); (case hi => omega))
 | ((with_reducible apply go_fa h); (omega); (omega))
 | ((with_reducible apply go_f1 h); (case hi => omega); (case hx => exact inferInstance))
 | ((with_reducible apply go_rf1 h); (case hi => omega); (case hx => exact inferInstance); (case hv => rfl))
 | ((with_reducible apply go_rel h); (case hi => omega); (case hv => rfl))
))
          refine ih (i + 1) _ (by omega) (by omega) ?_ (ha.to (.drew _)) (hb.to (.drew _)) h.drew
          rw [List.take_succ_eq_append_getElem g, List.take_succ_eq_append_getElem g2, ht, Prod.ext e1 e2]
        · have e2' : decide (l[i].2 = m[i].2) = false := by simpa using e2
          (repeat (first
 | (simp (disch := omega) only [evA, evB, bAdd_i64, bSub_i64, ptr, Nat.zero_add, Bool.not_true, Bool.not_false, Option.isNone_some, Option.isNone_none, Option.isSome_some, Option.isSome_none, decide_true, decide_false, eq_self, true_and, ha.len, g', (it_at ha g), (it_at hb g2), e1', e2'])
 | ((with_reducible apply go_ld1 h))
 | ((with_reducible apply go_ldA h); (rfl))
 | ((with_reducible apply go_ldN h))
 | ((with_reducible apply go_st h); intro _ h)
 | ((with_reducible apply go_stA h); (rfl); (rfl); (first | rfl | simp); intro _ h)
 | ((with_reducible apply go_stN h); (rfl); (first | rfl | simp); intro _ h)
 | ((with_reducible apply go_box h); rfl; intro _ _ h)
 | ((with_reducible apply go_rd h); (rfl))
 | ((with_reducible apply go_rdN h); (rfl))
 | ((with_reducible apply go_lenL h))
 | ((with_reducible apply go_ix h); (omega))
 | ((with_reducible apply go_elN h); (case hi => omega))
 | ((with_reducible apply go_fa h); (omega); (omega))
 | ((with_reducible apply go_f1 h); (case hi => omega); (case hx => exact inferInstance))
 | ((with_reducible apply go_rf1 h); (case hi => omega); (case hx => exact inferInstance); (case hv => rfl))
 | ((with_reducible apply go_rel h); (case hi => omega); (case hv => rfl))
))
          have := hK _ h.drew
          rw [ne (fun e => e2 (by rw [e]))] at this
          exact this
      · have e1' : decide (l[i].1 = m[i].1) = false := by simpa using e1
        (repeat (first
 | (simp (disch := omega) only [evA, evB, bAdd_i64, bSub_i64, ptr, Nat.zero_add, Bool.not_true, Bool.not_false, Option.isNone_some, Option.isNone_none, Option.isSome_some, Option.isSome_none, decide_true, decide_false, eq_self, true_and, ha.len, g', (it_at ha g), (it_at hb g2), e1'])
 | ((with_reducible apply go_ld1 h))
 | ((with_reducible apply go_ldA h); (rfl))
 | ((with_reducible apply go_ldN h))
 | ((with_reducible apply go_st h); intro _ h)
 | ((with_reducible apply go_stA h); (rfl); (rfl); (first | rfl | simp); intro _ h)
 | ((with_reducible apply go_stN h); (rfl); (first | rfl | simp); intro _ h)
 | ((with_reducible apply go_box h); rfl; intro _ _ h)
 | ((with_reducible apply go_rd h); (rfl))
 | ((with_reducible apply go_rdN h); (rfl))
 | ((with_reducible apply go_lenL h))
 | ((with_reducible apply go_ix h); (omega))
 | ((with_reducible apply go_elN h); (case hi => omega))
 | ((with_reducible apply go_fa h); (omega); (omega))
 | ((with_reducible apply go_f1 h); (case hi => omega); (case hx => exact inferInstance))
 | ((with_reducible apply go_rf1 h); (case hi => omega); (case hx => exact inferInstance); (case hv => rfl))
 | ((with_reducible apply go_rel h); (case hi => omega); (case hv => rfl))
))
        have := hK _ h.drew
        rw [ne (fun e => e1 (by rw [e]))] at this
        exact this
    · have g' : decide ((i : Int) < (l.length : Int)) = false := by simpa using g
      (repeat (first
 | (simp (disch := omega) only [evA, evB, bAdd_i64, bSub_i64, ptr, Nat.zero_add, Bool.not_true, Bool.not_false, Option.isNone_some, Option.isNone_none, Option.isSome_some, Option.isSome_none, decide_true, decide_false, eq_self, true_and, ha.len, g'])
 | ((with_reducible apply go_ld1 h))
 | ((with_reducible apply go_ldA h); (rfl))
 | ((with_reducible apply go_ldN h))
 | ((with_reducible apply go_st h); intro _ h)
 | ((with_reducible apply go_stA h); (rfl); (rfl); (first | rfl | simp); intro _ h)
 | ((with_reducible apply go_stN h); (rfl); (first | rfl | simp); intro _ h)
 | ((with_reducible apply go_box h); rfl; intro _ _ h)
 | ((with_reducible apply go_rd h); (rfl))
 | ((with_reducible apply go_rdN h); (rfl))
 | ((with_reducible apply go_lenL h))
 | ((with_reducible apply go_ix h); (omega))
 | ((with_reducible apply go_elN h); (case hi => omega))
 | ((with_reducible apply go_fa h); (omega); (omega))
 | ((with_reducible apply go_f1 h); (case hi => omega); (case hx => exact inferInstance))
 | ((with_reducible apply go_rf1 h); (case hi => omega); (case hx => exact inferInstance); (case hv => rfl))
 | ((with_reducible apply go_rel h); (case hi => omega); (case hv => rfl))
))
      have := hK _ h
      rw [List.take_of_length_le (by omega), List.take_of_length_le (by omega)] at ht
      rw [decide_eq_true ht] at this
      exact this
theorem items_spec {s0 s1 : Value} {l m : List It} (hl : l.length ≤ 65536) (ha : Rd w 2 s0 l.length (l.flatMap cIt)) (hb : Rd w 2 s1 m.length (m.flatMap cIt)) (h : Sat w0 L w) (hK : ∀ w', Sat w0 L w' → K (.bool (decide (l = m))) w') : callP G34 [s0, s1] w K := by
  refine c34 ?_
  unfold F34 F34_1 F34_1b F34_2
  by_cases g : l.length = m.length
  · have g' : decide ((l.length : Int) = (m.length : Int)) = true := by simp; omega
    (repeat (first
 | (simp (disch := omega) only [evA, evB, bAdd_i64, bSub_i64, ptr, Nat.zero_add, Bool.not_true, Bool.not_false, Option.isNone_some, Option.isNone_none, Option.isSome_some, Option.isSome_none, decide_true, decide_false, eq_self, true_and, ha.len, hb.len, g'])
 | ((with_reducible apply go_ld1 h))
 | ((with_reducible apply go_ldA h); (rfl))
 | ((with_reducible apply go_ldN h))
 | ((with_reducible apply go_st h); intro _ h)
 | ((with_reducible apply go_stA h); (rfl); (rfl); (first | rfl | simp); intro _ h)
 | ((with_reducible apply go_stN h); (rfl); (first | rfl | simp); intro _ h)
 | ((with_reducible apply go_box h); rfl; intro _ _ h)
 | ((with_reducible apply go_rd h); (rfl))
 | ((with_reducible apply go_rdN h); (rfl))
 | ((with_reducible apply go_lenL h))
 | ((with_reducible apply go_ix h); (omega))
 | ((with_reducible apply go_elN h); (case hi => omega))
 | ((with_reducible apply go_fa h); (omega); (omega))
 | ((with_reducible apply go_f1 h); (case hi => omega); (case hx => exact inferInstance))
 | ((with_reducible apply go_rf1 h); (case hi => omega); (case hx => exact inferInstance); (case hv => rfl))
 | ((with_reducible apply go_rel h); (case hi => omega); (case hv => rfl))
))
    exact items_loop hl g hK fuel 0 w (by unfold fuel; omega) (by omega) rfl ha hb h
  · have g' : decide ((l.length : Int) = (m.length : Int)) = false := by simp; omega
    (repeat (first
 | (simp (disch := omega) only [evA, evB, bAdd_i64, bSub_i64, ptr, Nat.zero_add, Bool.not_true, Bool.not_false, Option.isNone_some, Option.isNone_none, Option.isSome_some, Option.isSome_none, decide_true, decide_false, eq_self, true_and, ha.len, hb.len, g'])
 | ((with_reducible apply go_ld1 h))
 | ((with_reducible apply go_ldA h); (rfl))
 | ((with_reducible apply go_ldN h))
 | ((with_reducible apply go_st h); intro _ h)
 | ((with_reducible apply go_stA h); (rfl); (rfl); (first | rfl | simp); intro _ h)
 | ((with_reducible apply go_stN h); (rfl); (first | rfl | simp); intro _ h)
 | ((with_reducible apply go_box h); rfl; intro _ _ h)
 | ((with_reducible apply go_rd h); (rfl))
 | ((with_reducible apply go_rdN h); (rfl))
 | ((with_reducible apply go_lenL h))
 | ((with_reducible apply go_ix h); (omega))
 | ((with_reducible apply go_elN h); (case hi => omega))
 | ((with_reducible apply go_fa h); (omega); (omega))
 | ((with_reducible apply go_f1 h); (case hi => omega); (case hx => exact inferInstance))
 | ((with_reducible apply go_rf1 h); (case hi => omega); (case hx => exact inferInstance); (case hv => rfl))
 | ((with_reducible apply go_rel h); (case hi => omega); (case hv => rfl))
))
    have := hK _ h
    rw [decide_eq_false (fun e => g (by rw [e]))] at this
    exact this
end
end Go.Proofs.Gong

/- Hq3 -/
namespace Go.Proofs.Gong
open Go Go.Sx Go.Proofs
set_option maxRecDepth 100000
attribute [local irreducible] fBuild fLook fZero eqv bEqv Cl MapH LsH SlH ld1 ldN st callP eBox eAlloc lenM lenL eMapSet eDelete eAppend eBuildSl eRange eNext
section
variable {w0 w : World} {L : List HP} {K : Value → World → Prop} {v : Value} {n n' : Int} {M : List It}
theorem ref_ptr {rv : Value} (h : Sat w0 (RefH rv n' M :: L) w) : ∃ p, rv = ptr p := by
  obtain ⟨p, _, hv, _⟩ := ref_iff.1 h; exact ⟨p, hv⟩
theorem ref_at {p : Nat} (h : Sat w0 (RefH (ptr p) n' M :: L) w) : ∃ sv, Sat w0 (Cl p #[.int .i64 n', sv] 133 :: LsH cIt 2 135 sv M :: L) w := by
  obtain ⟨q, sv, hv, h⟩ := ref_iff.1 h; cases hv; exact ⟨sv, h⟩
theorem spoil_loop {s0 s1 s7 s8 s9 s10 s11 s12 s13 s14 s16 x : Value} (hK : ∀ w', Sat w0 L w' → F38_3 s0 s1 s7 s8 s9 s10 s11 s12 s13 s14 s16 w' K) :
    ∀ (d i : Nat) (l : List It) (w : World), l.length - i < d → i ≤ l.length → l.length ≤ 65536 → Sat w0 (LsH cIt 2 55 x l :: L) w → F38_2L d s0 s1 s7 s8 s9 s10 s11 s12 s13 s14 x s16 (.int .i64 i) w K := by
  intro d
  induction d with
  | zero => intro i l w hd; omega
  | succ d ih =>
    intro i l w hd hi hl h
    rw [F38_2L]
    unfold F38_2b
    by_cases g : i < l.length
    · have g' : decide ((i : Int) < (l.length : Int)) = true := by simpa using g
      (repeat (first
 | (simp (disch := omega) only [evA, evB, bAdd_i64, bSub_i64, ptr, Nat.zero_add, Bool.not_true, Bool.not_false, Option.isNone_some, Option.isNone_none, Option.isSome_some, Option.isSome_none, decide_true, decide_false, eq_self, true_and, and_assoc, g'])
 | ((with_reducible apply go_ld1 h))
 | ((with_reducible apply go_ldA h); (rfl))
 | ((with_reducible apply go_ldN h))
 | ((with_reducible apply go_st h); intro _ h)
 | ((with_reducible apply go_stA h); (rfl); (rfl); (first | rfl | simp); intro _ h)
 | ((with_reducible apply go_stN h); (rfl); (first | rfl | simp); intro _ h)
 | ((with_reducible apply go_box h); rfl; intro _ _ h)
 | ((with_reducible apply go_rd h); (rfl))
 | ((with_reducible apply go_rdN h); (rfl))
 | ((with_reducible apply go_rlen h); (rfl))
 | ((with_reducible apply go_lenL h))
 | ((with_reducible apply go_ix h); (omega))
 | ((with_reducible apply go_elN h); (case hi => omega))
 | ((with_reducible apply go_fa h); (omega); (omega))
 | ((with_reducible apply go_f1 h); (case hi => omega); (case hx => exact inferInstance))
 | ((with_reducible apply go_rf1 h); (case hi => omega); (case hx => exact inferInstance); (case hv => rfl))
 | ((with_reducible apply go_rel h); (case hi => omega); (case hv => rfl))
))
      refine go_stF (x' := (l[i].1, -7)) h (by repeat (first | exact .here | apply Fnt.there)) CIt g (by omega) rfl fun w h => ?_
      (repeat (first
 | (simp (disch := omega) only [evA, evB, bAdd_i64, bSub_i64, ptr, Nat.zero_add, Bool.not_true, Bool.not_false, Option.isNone_some, Option.isNone_none, Option.isSome_some, Option.isSome_none, decide_true, decide_false, eq_self, true_and, and_assoc])
 | ((with_reducible apply go_ld1 h))
 | ((with_reducible apply go_ldA h); (rfl))
 | ((with_reducible apply go_ldN h))
 | ((with_reducible apply go_st h); intro _ h)
 | ((with_reducible apply go_stA h); (rfl); (rfl); (first | rfl | simp); intro _ h)
 | ((with_reducible apply go_stN h); (rfl); (first | rfl | simp); intro _ h)
 | ((with_reducible apply go_box h); rfl; intro _ _ h)
 | ((with_reducible apply go_rd h); (rfl))
 | ((with_reducible apply go_rdN h); (rfl))
 | ((with_reducible apply go_rlen h); (rfl))
 | ((with_reducible apply go_lenL h))
 | ((with_reducible apply go_ix h); (omega))
 | ((with_reducible apply go_elN h); (case hi => omega))
 | ((with_reducible apply go_fa h); (omega); (omega))
 | ((with_reducible apply go_f1 h); (case hi => omega); (case hx => exact inferInstance))
 | ((with_reducible apply go_rf1 h); (case hi => omega); (case hx => exact inferInstance); (case hv => rfl))
 | ((with_reducible apply go_rel h); (case hi => omega); (case hv => rfl))
))
      exact ih (i + 1) _ w (by simp; omega) (by simp; omega) (by simpa using hl) h
    · have g' : decide ((i : Int) < (l.length : Int)) = false := by simpa using g
      (repeat (first
 | (simp (disch := omega) only [evA, evB, bAdd_i64, bSub_i64, ptr, Nat.zero_add, Bool.not_true, Bool.not_false, Option.isNone_some, Option.isNone_none, Option.isSome_some, Option.isSome_none, decide_true, decide_false, eq_self, true_and, and_assoc, g'])
 | ((with_reducible apply go_ld1 h))
 | ((with_reducible apply go_ldA h); (rfl))
 | ((with_reducible apply go_ldN h))
 | ((with_reducible apply go_st h); intro _ h)
 | ((with_reducible apply go_stA h); (rfl); (rfl); (first | rfl | simp); intro _ h)
 | ((with_reducible apply go_stN h); (rfl); (first | rfl | simp); intro _ h)
 | ((with_reducible apply go_box h); rfl; intro _ _ h)
 | ((with_reducible apply go_rd h); (rfl))
 | ((with_reducible apply go_rdN h); (rfl))
 | ((with_reducible apply go_rlen h); (rfl))
 | ((with_reducible apply go_lenL h))
 | ((with_reducible apply go_ix h); (omega))
 | ((with_reducible apply go_elN h); (case hi => omega))
 | ((with_reducible apply go_fa h); (omega); (omega))
 | ((with_reducible apply go_f1 h); (case hi => omega); (case hx => exact inferInstance))
 | ((with_reducible apply go_rf1 h); (case hi => omega); (case hx => exact inferInstance); (case hv => rfl))
 | ((with_reducible apply go_rel h); (case hi => omega); (case hv => rfl))
))
      exact hK _ h.drop
theorem stands_spec {rv : Value} {id : Int} (h : Sat w0 (HeapH v n M :: RefH rv n' M :: L) w) (hK : ∀ w', Sat w0 (HeapH v n M :: RefH rv n' M :: L) w' → K (.bool true) w') : callP G38 [v, rv, .int .i64 id] w K := by
  obtain ⟨p, rfl⟩ := ref_ptr h.f1
  refine c38 ?_
  unfold F38 F38_1 F38_1b F38_2
  have hb := heap_bd h
  have hl : M.length ≤ 65536 := by omega
  refine get_spec (M := M) (n := n) h ?_
  unfold getR
  (repeat (first
 | (simp (disch := omega) only [evA, evB, bAdd_i64, bSub_i64, ptr, Nat.zero_add, Bool.not_true, Bool.not_false, Option.isNone_some, Option.isNone_none, Option.isSome_some, Option.isSome_none, decide_true, decide_false, eq_self, true_and, and_assoc])
 | ((with_reducible apply go_ld1 h))
 | ((with_reducible apply go_ldA h); (rfl))
 | ((with_reducible apply go_ldN h))
 | ((with_reducible apply go_st h); intro _ h)
 | ((with_reducible apply go_stA h); (rfl); (rfl); (first | rfl | simp); intro _ h)
 | ((with_reducible apply go_stN h); (rfl); (first | rfl | simp); intro _ h)
 | ((with_reducible apply go_box h); rfl; intro _ _ h)
 | ((with_reducible apply go_rd h); (rfl))
 | ((with_reducible apply go_rdN h); (rfl))
 | ((with_reducible apply go_rlen h); (rfl))
 | ((with_reducible apply go_lenL h))
 | ((with_reducible apply go_ix h); (omega))
 | ((with_reducible apply go_elN h); (case hi => omega))
 | ((with_reducible apply go_fa h); (omega); (omega))
 | ((with_reducible apply go_f1 h); (case hi => omega); (case hx => exact inferInstance))
 | ((with_reducible apply go_rf1 h); (case hi => omega); (case hx => exact inferInstance); (case hv => rfl))
 | ((with_reducible apply go_rel h); (case hi => omega); (case hv => rfl))
))
  refine rget_spec hl (h.front (by repeat (first | exact .here | apply Fnt.there))) ?_
  unfold getR
  (repeat (first
 | (simp (disch := omega) only [evA, evB, bAdd_i64, bSub_i64, ptr, Nat.zero_add, Bool.not_true, Bool.not_false, Option.isNone_some, Option.isNone_none, Option.isSome_some, Option.isSome_none, decide_true, decide_false, eq_self, true_and, and_assoc])
 | ((with_reducible apply go_ld1 h))
 | ((with_reducible apply go_ldA h); (rfl))
 | ((with_reducible apply go_ldN h))
 | ((with_reducible apply go_st h); intro _ h)
 | ((with_reducible apply go_stA h); (rfl); (rfl); (first | rfl | simp); intro _ h)
 | ((with_reducible apply go_stN h); (rfl); (first | rfl | simp); intro _ h)
 | ((with_reducible apply go_box h); rfl; intro _ _ h)
 | ((with_reducible apply go_rd h); (rfl))
 | ((with_reducible apply go_rdN h); (rfl))
 | ((with_reducible apply go_rlen h); (rfl))
 | ((with_reducible apply go_lenL h))
 | ((with_reducible apply go_ix h); (omega))
 | ((with_reducible apply go_elN h); (case hi => omega))
 | ((with_reducible apply go_fa h); (omega); (omega))
 | ((with_reducible apply go_f1 h); (case hi => omega); (case hx => exact inferInstance))
 | ((with_reducible apply go_rf1 h); (case hi => omega); (case hx => exact inferInstance); (case hv => rfl))
 | ((with_reducible apply go_rel h); (case hi => omega); (case hv => rfl))
))
  refine first_spec (M := M) (n := n) (h.front (by repeat (first | exact .here | apply Fnt.there))) fun w h => ?_
  unfold firstR
  (repeat (first
 | (simp (disch := omega) only [evA, evB, bAdd_i64, bSub_i64, ptr, Nat.zero_add, Bool.not_true, Bool.not_false, Option.isNone_some, Option.isNone_none, Option.isSome_some, Option.isSome_none, decide_true, decide_false, eq_self, true_and, and_assoc])
 | ((with_reducible apply go_ld1 h))
 | ((with_reducible apply go_ldA h); (rfl))
 | ((with_reducible apply go_ldN h))
 | ((with_reducible apply go_st h); intro _ h)
 | ((with_reducible apply go_stA h); (rfl); (rfl); (first | rfl | simp); intro _ h)
 | ((with_reducible apply go_stN h); (rfl); (first | rfl | simp); intro _ h)
 | ((with_reducible apply go_box h); rfl; intro _ _ h)
 | ((with_reducible apply go_alloc h); (first | exact z55); rfl; intro _ _ h)
 | ((with_reducible apply go_rd h); (rfl))
 | ((with_reducible apply go_rdN h); (rfl))
 | ((with_reducible apply go_rlen h); (rfl))
 | ((with_reducible apply go_lenL h))
 | ((with_reducible apply go_ix h); (omega))
 | ((with_reducible apply go_elN h); (case hi => omega))
 | ((with_reducible apply go_fa h); (omega); (omega))
 | ((with_reducible apply go_f1 h); (case hi => omega); (case hx => exact inferInstance))
 | ((with_reducible apply go_rf1 h); (case hi => omega); (case hx => exact inferInstance); (case hv => rfl))
 | ((with_reducible apply go_rel h); (case hi => omega); (case hv => rfl))
))
  refine rfirst_spec (M := M) (n := n') (h.front (by repeat (first | exact .here | apply Fnt.there))) fun w h => ?_
  unfold firstR
  (repeat (first
 | (simp (disch := omega) only [evA, evB, bAdd_i64, bSub_i64, ptr, Nat.zero_add, Bool.not_true, Bool.not_false, Option.isNone_some, Option.isNone_none, Option.isSome_some, Option.isSome_none, decide_true, decide_false, eq_self, true_and, and_assoc])
 | ((with_reducible apply go_ld1 h))
 | ((with_reducible apply go_ldA h); (rfl))
 | ((with_reducible apply go_ldN h))
 | ((with_reducible apply go_st h); intro _ h)
 | ((with_reducible apply go_stA h); (rfl); (rfl); (first | rfl | simp); intro _ h)
 | ((with_reducible apply go_stN h); (rfl); (first | rfl | simp); intro _ h)
 | ((with_reducible apply go_box h); rfl; intro _ _ h)
 | ((with_reducible apply go_alloc h); (first | exact z135); rfl; intro _ _ h)
 | ((with_reducible apply go_rd h); (rfl))
 | ((with_reducible apply go_rdN h); (rfl))
 | ((with_reducible apply go_rlen h); (rfl))
 | ((with_reducible apply go_lenL h))
 | ((with_reducible apply go_ix h); (omega))
 | ((with_reducible apply go_elN h); (case hi => omega))
 | ((with_reducible apply go_fa h); (omega); (omega))
 | ((with_reducible apply go_f1 h); (case hi => omega); (case hx => exact inferInstance))
 | ((with_reducible apply go_rf1 h); (case hi => omega); (case hx => exact inferInstance); (case hv => rfl))
 | ((with_reducible apply go_rel h); (case hi => omega); (case hv => rfl))
))
  refine all_spec (M := M) (n := n) (h.front (by repeat (first | exact .here | apply Fnt.there))) fun x w h => ?_
  replace h := h.front (A := RefH (ptr p) n' M) (by repeat (first | exact .here | apply Fnt.there))
  obtain ⟨sv, h⟩ := ref_at h
  (repeat (first
 | (simp (disch := omega) only [evA, evB, bAdd_i64, bSub_i64, ptr, Nat.zero_add, Bool.not_true, Bool.not_false, Option.isNone_some, Option.isNone_none, Option.isSome_some, Option.isSome_none, decide_true, decide_false, eq_self, true_and, and_assoc])
 | ((with_reducible apply go_ld1 h))
 | ((with_reducible apply go_ldA h); (rfl))
 | ((with_reducible apply go_ldN h))
 | ((with_reducible apply go_st h); intro _ h)
 | ((with_reducible apply go_stA h); (rfl); (rfl); (first | rfl | simp); intro _ h)
 | ((with_reducible apply go_stN h); (rfl); (first | rfl | simp); intro _ h)
 | ((with_reducible apply go_box h); rfl; intro _ _ h)
 | ((with_reducible apply go_rd h); (rfl))
 | ((with_reducible apply go_rdN h); (rfl))
 | ((with_reducible apply go_rlen h); (rfl))
 | ((with_reducible apply go_lenL h))
 | ((with_reducible apply go_ix h); (omega))
 | ((with_reducible apply go_elN h); (case hi => omega))
 | ((with_reducible apply go_fa h); (omega); (omega))
 | ((with_reducible apply go_f1 h); (case hi => omega); (case hx => exact inferInstance))
 | ((with_reducible apply go_rf1 h); (case hi => omega); (case hx => exact inferInstance); (case hv => rfl))
 | ((with_reducible apply go_rel h); (case hi => omega); (case hv => rfl))
))
  refine items_spec (l := M) (m := M) hl (ls_of h (.refl _) inferInstance) (ls_of h (.refl _) inferInstance) h fun w h => ?_
  rw [decide_eq_true rfl]
  refine spoil_loop (x := x) (L := _) (fun w h => ?_) fuel 0 M w (by unfold fuel; omega) (by omega) hl (h.front (by repeat (first | exact .here | apply Fnt.there)))
  unfold F38_3 F38_3b
  have eb : ∀ b : Bool, bEq Try.prog 4 (.tmp 65) (.tmp 66) (.bool b) (.bool b) = some (.bool true) := fun b => by rw [bEq_bool ub4]; simp
  have eb2 : ∀ b : Bool, bEq Try.prog 4 (.tmp 84) (.tmp 85) (.bool b) (.bool b) = some (.bool true) := fun b => by rw [bEq_bool ub4]; simp
  (repeat (first
 | (simp (disch := omega) only [evA, evB, bAdd_i64, bSub_i64, ptr, Nat.zero_add, Bool.not_true, Bool.not_false, Option.isNone_some, Option.isNone_none, Option.isSome_some, Option.isSome_none, decide_true, decide_false, eq_self, true_and, and_assoc, eb, eb2])
 | ((with_reducible apply go_ld1 h))
 | ((with_reducible apply go_ldA h); (rfl))
 | ((with_reducible apply go_ldN h))
 | ((with_reducible apply go_st h); intro _ h)
 | ((with_reducible apply go_stA h); (rfl); (rfl); (first | rfl | simp); intro _ h)
 | ((with_reducible apply go_stN h); (rfl); (first | rfl | simp); intro _ h)
 | ((with_reducible apply go_box h); rfl; intro _ _ h)
 | ((with_reducible apply go_rd h); (rfl))
 | ((with_reducible apply go_rdN h); (rfl))
 | ((with_reducible apply go_rlen h); (rfl))
 | ((with_reducible apply go_lenL h))
 | ((with_reducible apply go_ix h); (omega))
 | ((with_reducible apply go_elN h); (case hi => omega))
 | ((with_reducible apply go_fa h); (omega); (omega))
 | ((with_reducible apply go_f1 h); (case hi => omega); (case hx => exact inferInstance))
 | ((with_reducible apply go_rf1 h); (case hi => omega); (case hx => exact inferInstance); (case hv => rfl))
 | ((with_reducible apply go_rel h); (case hi => omega); (case hv => rfl))
))
  refine len_spec (M := M) (n := n) (h.drew.front (by repeat (first | exact .here | apply Fnt.there))) ?_
  (repeat (first
 | (simp (disch := omega) only [evA, evB, bAdd_i64, bSub_i64, ptr, Nat.zero_add, Bool.not_true, Bool.not_false, Option.isNone_some, Option.isNone_none, Option.isSome_some, Option.isSome_none, decide_true, decide_false, eq_self, true_and, and_assoc])
 | ((with_reducible apply go_ld1 h))
 | ((with_reducible apply go_ldA h); (rfl))
 | ((with_reducible apply go_ldN h))
 | ((with_reducible apply go_st h); intro _ h)
 | ((with_reducible apply go_stA h); (rfl); (rfl); (first | rfl | simp); intro _ h)
 | ((with_reducible apply go_stN h); (rfl); (first | rfl | simp); intro _ h)
 | ((with_reducible apply go_box h); rfl; intro _ _ h)
 | ((with_reducible apply go_rd h); (rfl))
 | ((with_reducible apply go_rdN h); (rfl))
 | ((with_reducible apply go_rlen h); (rfl))
 | ((with_reducible apply go_lenL h))
 | ((with_reducible apply go_ix h); (omega))
 | ((with_reducible apply go_elN h); (case hi => omega))
 | ((with_reducible apply go_fa h); (omega); (omega))
 | ((with_reducible apply go_f1 h); (case hi => omega); (case hx => exact inferInstance))
 | ((with_reducible apply go_rf1 h); (case hi => omega); (case hx => exact inferInstance); (case hv => rfl))
 | ((with_reducible apply go_rel h); (case hi => omega); (case hv => rfl))
))
  refine all_spec (M := M) (n := n) (h.drew.front (by repeat (first | exact .here | apply Fnt.there))) fun y w h => ?_
  (repeat (first
 | (simp (disch := omega) only [evA, evB, bAdd_i64, bSub_i64, ptr, Nat.zero_add, Bool.not_true, Bool.not_false, Option.isNone_some, Option.isNone_none, Option.isSome_some, Option.isSome_none, decide_true, decide_false, eq_self, true_and, and_assoc])
 | ((with_reducible apply go_ld1 h))
 | ((with_reducible apply go_ldA h); (rfl))
 | ((with_reducible apply go_ldN h))
 | ((with_reducible apply go_st h); intro _ h)
 | ((with_reducible apply go_stA h); (rfl); (rfl); (first | rfl | simp); intro _ h)
 | ((with_reducible apply go_stN h); (rfl); (first | rfl | simp); intro _ h)
 | ((with_reducible apply go_box h); rfl; intro _ _ h)
 | ((with_reducible apply go_rd h); (rfl))
 | ((with_reducible apply go_rdN h); (rfl))
 | ((with_reducible apply go_rlen h); (rfl))
 | ((with_reducible apply go_lenL h))
 | ((with_reducible apply go_ix h); (omega))
 | ((with_reducible apply go_elN h); (case hi => omega))
 | ((with_reducible apply go_fa h); (omega); (omega))
 | ((with_reducible apply go_f1 h); (case hi => omega); (case hx => exact inferInstance))
 | ((with_reducible apply go_rf1 h); (case hi => omega); (case hx => exact inferInstance); (case hv => rfl))
 | ((with_reducible apply go_rel h); (case hi => omega); (case hv => rfl))
))
  refine items_spec (l := M) (m := M) hl (ls_of h (.refl _) inferInstance) (ls_of h (.refl _) inferInstance) h fun w h => ?_
  rw [decide_eq_true rfl]
  (repeat (first
 | (simp (disch := omega) only [evA, evB, bAdd_i64, bSub_i64, ptr, Nat.zero_add, Bool.not_true, Bool.not_false, Option.isNone_some, Option.isNone_none, Option.isSome_some, Option.isSome_none, decide_true, decide_false, eq_self, true_and, and_assoc])
 | ((with_reducible apply go_ld1 h))
 | ((with_reducible apply go_ldA h); (rfl))
 | ((with_reducible apply go_ldN h))
 | ((with_reducible apply go_st h); intro _ h)
 | ((with_reducible apply go_stA h); (rfl); (rfl); (first | rfl | simp); intro _ h)
 | ((with_reducible apply go_stN h); (rfl); (first | rfl | simp); intro _ h)
 | ((with_reducible apply go_box h); rfl; intro _ _ h)
 | ((with_reducible apply go_rd h); (rfl))
 | ((with_reducible apply go_rdN h); (rfl))
 | ((with_reducible apply go_rlen h); (rfl))
 | ((with_reducible apply go_lenL h))
 | ((with_reducible apply go_ix h); (omega))
 | ((with_reducible apply go_elN h); (case hi => omega))
 | ((with_reducible apply go_fa h); (omega); (omega))
 | ((with_reducible apply go_f1 h); (case hi => omega); (case hx => exact inferInstance))
 | ((with_reducible apply go_rf1 h); (case hi => omega); (case hx => exact inferInstance); (case hv => rfl))
 | ((with_reducible apply go_rel h); (case hi => omega); (case hv => rfl))
))
  refine hK _ (Sat.f1 (ref_iff.2 ⟨p, sv, rfl, ?_⟩))
  exact h.get (by (repeat (first | exact .done | (refine .pick (by repeat (first | exact .here | apply Fnt.there)) ?_) | refine .skip ?_)))
end
end Go.Proofs.Gong

/- Hq4 -/
namespace Go.Proofs.Gong
open Go Go.Sx Go.Proofs
set_option maxRecDepth 100000
attribute [local irreducible] fBuild fLook fZero eqv bEqv Cl MapH LsH SlH ld1 ldN st callP eBox eAlloc lenM lenL eMapSet eDelete eAppend eBuildSl eRange eNext
structure HAct where
  kind : Int
  id : Int
  at' : Int
@[reducible] def cHA (a : HAct) : List Value := [.int .i64 a.kind, .int .i64 a.id, .int .i64 a.at']
theorem CHA : Cod cHA 3 := ⟨fun _ => rfl, fun _ => rfl, by omega⟩
section
variable {w0 w : World} {L : List HP} {K : Value → World → Prop} {n : Int} {M : List It}
theorem plays_tail {s1 : Value} {p q b : Nat} {i : Nat} {a : HAct} {R3 : Value → Value → Value → Value → World → Prop} (hi : i < 80) (h : Sat w0 (HeapH (ptr p) n M :: RefH (ptr q) n M :: Cl b (cHA a).toArray 62 :: L) w)
    (hR : ∀ w', Sat w0 (HeapH (ptr p) n M :: RefH (ptr q) n M :: L) w' → R3 s1 (ptr p) (ptr q) (.int .i64 ((i + 1 : Nat) : Int)) w') :
    F7_8 s1 (ptr p) (ptr q) (.int .i64 i) (.pointer (some ⟨b, 0, none⟩)) w K R3 := by
  unfold F7_8 F7_8b F7_6 F7_6b
  (repeat (first
 | (simp (disch := omega) only [evA, evB, bAdd_i64, bSub_i64, ptr, Nat.zero_add, Bool.not_true, Bool.not_false, Option.isNone_some, Option.isNone_none, Option.isSome_some, Option.isSome_none, decide_true, decide_false, eq_self, true_and, and_assoc])
 | ((with_reducible apply go_ld1 h))
 | ((with_reducible apply go_ldA h); (rfl))
 | ((with_reducible apply go_ldN h))
 | ((with_reducible apply go_st h); intro _ h)
 | ((with_reducible apply go_stA h); (rfl); (rfl); (first | rfl | simp); intro _ h)
 | ((with_reducible apply go_stN h); (rfl); (first | rfl | simp); intro _ h)
 | ((with_reducible apply go_box h); rfl; intro _ _ h)
 | ((with_reducible apply go_rd h); (rfl))
 | ((with_reducible apply go_rdN h); (rfl))
 | ((with_reducible apply go_rlen h); (rfl))
 | ((with_reducible apply go_lenL h))
 | ((with_reducible apply go_ix h); (omega))
 | ((with_reducible apply go_elN h); (case hi => omega))
 | ((with_reducible apply go_fa h); (omega); (omega))
 | ((with_reducible apply go_f1 h); (case hi => omega); (case hx => exact inferInstance))
 | ((with_reducible apply go_rf1 h); (case hi => omega); (case hx => exact inferInstance); (case hv => rfl))
 | ((with_reducible apply go_rel h); (case hi => omega); (case hv => rfl))
))
  refine stands_spec (M := M) (n := n) (n' := n) h fun w h => ?_
  (repeat (first
 | (simp (disch := omega) only [evA, evB, bAdd_i64, bSub_i64, ptr, Nat.zero_add, Bool.not_true, Bool.not_false, Option.isNone_some, Option.isNone_none, Option.isSome_some, Option.isSome_none, decide_true, decide_false, eq_self, true_and, and_assoc])
 | ((with_reducible apply go_ld1 h))
 | ((with_reducible apply go_ldA h); (rfl))
 | ((with_reducible apply go_ldN h))
 | ((with_reducible apply go_st h); intro _ h)
 | ((with_reducible apply go_stA h); (rfl); (rfl); (first | rfl | simp); intro _ h)
 | ((with_reducible apply go_stN h); (rfl); (first | rfl | simp); intro _ h)
 | ((with_reducible apply go_box h); rfl; intro _ _ h)
 | ((with_reducible apply go_rd h); (rfl))
 | ((with_reducible apply go_rdN h); (rfl))
 | ((with_reducible apply go_rlen h); (rfl))
 | ((with_reducible apply go_lenL h))
 | ((with_reducible apply go_ix h); (omega))
 | ((with_reducible apply go_elN h); (case hi => omega))
 | ((with_reducible apply go_fa h); (omega); (omega))
 | ((with_reducible apply go_f1 h); (case hi => omega); (case hx => exact inferInstance))
 | ((with_reducible apply go_rf1 h); (case hi => omega); (case hx => exact inferInstance); (case hv => rfl))
 | ((with_reducible apply go_rel h); (case hi => omega); (case hv => rfl))
))
  exact hR _ (h.get (by (repeat (first | exact .done | (refine .pick (by repeat (first | exact .here | apply Fnt.there)) ?_) | refine .skip ?_))))
theorem setR_bd {id t : Int} (hM : (M.length : Int) ≤ n) (hn : n ≤ 65536) : ((setR n id t M).2.length : Int) ≤ 65537 := by
  unfold setR
  split
  · simp; omega
  · split
    · simp; omega
    · have h1 : (setM id t M).length ≤ M.length + 1 := by
        unfold setM
        rw [(insM_perm _ _).length_eq]
        have : (dropM id M).length ≤ M.length := List.length_filter_le _ _
        simp; omega
      simp; omega
theorem plays_step {s1 : Value} {p q : Nat} {l : List HAct} {i : Nat} {R3 : Value → Value → Value → Value → World → Prop} (hrd : Rd w0 3 s1 l.length (l.flatMap cHA)) (hl : i < l.length) (hi : i < 80)
    (h : Sat w0 (HeapH (ptr p) n M :: RefH (ptr q) n M :: L) w)
    (hR : ∀ M' w', Sat w0 (HeapH (ptr p) n M' :: RefH (ptr q) n M' :: L) w' → R3 s1 (ptr p) (ptr q) (.int .i64 ((i + 1 : Nat) : Int)) w') :
    F7_5 s1 (ptr p) (ptr q) (.int .i64 i) w K R3 := by
  have hb := heap_bd h
  have hM : M.length ≤ 65536 := by omega
  unfold F7_5 F7_7 F7_7b
  have ld : ldN 3 (elP 3 s1 i) w = some (.agg (cHA l[i]).toArray) := rd_ld CHA (hrd.sat h) hl
  generalize l[i] = a at ld
  (repeat (first
 | (simp (disch := omega) only [evA, evB, bAdd_i64, bSub_i64, ptr, Nat.zero_add, Bool.not_true, Bool.not_false, Option.isNone_some, Option.isNone_none, Option.isSome_some, Option.isSome_none, decide_true, decide_false, eq_self, true_and, and_assoc])
 | (refine go_some (ix_el hrd hl ..) ?_)
 | (refine go_some (ld ..) ?_)
 | ((with_reducible apply go_ld1 h))
 | ((with_reducible apply go_ldA h); (rfl))
 | ((with_reducible apply go_ldN h))
 | ((with_reducible apply go_st h); intro _ h)
 | ((with_reducible apply go_stA h); (rfl); (rfl); (first | rfl | simp); intro _ h)
 | ((with_reducible apply go_stN h); (rfl); (first | rfl | simp); intro _ h)
 | ((with_reducible apply go_box h); rfl; intro _ _ h)
 | ((with_reducible apply go_alloc h); (first | exact z62); rfl; intro _ _ h)
 | ((with_reducible apply go_rd h); (rfl))
 | ((with_reducible apply go_rdN h); (rfl))
 | ((with_reducible apply go_rlen h); (rfl))
 | ((with_reducible apply go_lenL h))
 | ((with_reducible apply go_ix h); (omega))
 | ((with_reducible apply go_elN h); (case hi => omega))
 | ((with_reducible apply go_fa h); (omega); (omega))
 | ((with_reducible apply go_f1 h); (case hi => omega); (case hx => exact inferInstance))
 | ((with_reducible apply go_rf1 h); (case hi => omega); (case hx => exact inferInstance); (case hv => rfl))
 | ((with_reducible apply go_rel h); (case hi => omega); (case hv => rfl))
))
  refine Below_spec (n := 4) (by omega) (by omega) fun r r0 r1 _ => ?_
  have eqb : ∀ (x y : Operand) (b : Bool), bNe Try.prog 4 x y (.bool b) (.bool b) = some (.bool false) := fun x y b => by rw [bNe_bool ub4]; simp
  have d10 : decide ((1 : Int) = 0) = false := by decide
  have d20 : decide ((2 : Int) = 0) = false := by decide
  have d21 : decide ((2 : Int) = 1) = false := by decide
  by_cases k0 : r = 0
  · subst k0
    (repeat (first
 | (simp (disch := omega) only [evA, evB, bAdd_i64, bSub_i64, ptr, Nat.zero_add, Bool.not_true, Bool.not_false, Option.isNone_some, Option.isNone_none, Option.isSome_some, Option.isSome_none, decide_true, decide_false, eq_self, true_and, and_assoc])
 | ((with_reducible apply go_ld1 h))
 | ((with_reducible apply go_ldA h); (rfl))
 | ((with_reducible apply go_ldN h))
 | ((with_reducible apply go_st h); intro _ h)
 | ((with_reducible apply go_stA h); (rfl); (rfl); (first | rfl | simp); intro _ h)
 | ((with_reducible apply go_stN h); (rfl); (first | rfl | simp); intro _ h)
 | ((with_reducible apply go_box h); rfl; intro _ _ h)
 | ((with_reducible apply go_rd h); (rfl))
 | ((with_reducible apply go_rdN h); (rfl))
 | ((with_reducible apply go_rlen h); (rfl))
 | ((with_reducible apply go_lenL h))
 | ((with_reducible apply go_ix h); (omega))
 | ((with_reducible apply go_elN h); (case hi => omega))
 | ((with_reducible apply go_fa h); (omega); (omega))
 | ((with_reducible apply go_f1 h); (case hi => omega); (case hx => exact inferInstance))
 | ((with_reducible apply go_rf1 h); (case hi => omega); (case hx => exact inferInstance); (case hv => rfl))
 | ((with_reducible apply go_rel h); (case hi => omega); (case hv => rfl))
))
    refine set_spec (M := M) (n := n) (h.drew.front (by repeat (first | exact .here | apply Fnt.there))) fun w h => ?_
    (repeat (first
 | (simp (disch := omega) only [evA, evB, bAdd_i64, bSub_i64, ptr, Nat.zero_add, Bool.not_true, Bool.not_false, Option.isNone_some, Option.isNone_none, Option.isSome_some, Option.isSome_none, decide_true, decide_false, eq_self, true_and, and_assoc])
 | ((with_reducible apply go_ld1 h))
 | ((with_reducible apply go_ldA h); (rfl))
 | ((with_reducible apply go_ldN h))
 | ((with_reducible apply go_st h); intro _ h)
 | ((with_reducible apply go_stA h); (rfl); (rfl); (first | rfl | simp); intro _ h)
 | ((with_reducible apply go_stN h); (rfl); (first | rfl | simp); intro _ h)
 | ((with_reducible apply go_box h); rfl; intro _ _ h)
 | ((with_reducible apply go_rd h); (rfl))
 | ((with_reducible apply go_rdN h); (rfl))
 | ((with_reducible apply go_rlen h); (rfl))
 | ((with_reducible apply go_lenL h))
 | ((with_reducible apply go_ix h); (omega))
 | ((with_reducible apply go_elN h); (case hi => omega))
 | ((with_reducible apply go_fa h); (omega); (omega))
 | ((with_reducible apply go_f1 h); (case hi => omega); (case hx => exact inferInstance))
 | ((with_reducible apply go_rf1 h); (case hi => omega); (case hx => exact inferInstance); (case hv => rfl))
 | ((with_reducible apply go_rel h); (case hi => omega); (case hv => rfl))
))
    refine rset_spec (M := M) (n := n) hM (h.front (by repeat (first | exact .here | apply Fnt.there))) fun w h => ?_
    (repeat (first
 | (simp (disch := omega) only [evA, evB, bAdd_i64, bSub_i64, ptr, Nat.zero_add, Bool.not_true, Bool.not_false, Option.isNone_some, Option.isNone_none, Option.isSome_some, Option.isSome_none, decide_true, decide_false, eq_self, true_and, and_assoc])
 | ((with_reducible apply go_ld1 h))
 | ((with_reducible apply go_ldA h); (rfl))
 | ((with_reducible apply go_ldN h))
 | ((with_reducible apply go_st h); intro _ h)
 | ((with_reducible apply go_stA h); (rfl); (rfl); (first | rfl | simp); intro _ h)
 | ((with_reducible apply go_stN h); (rfl); (first | rfl | simp); intro _ h)
 | ((with_reducible apply go_box h); rfl; intro _ _ h)
 | ((with_reducible apply go_rd h); (rfl))
 | ((with_reducible apply go_rdN h); (rfl))
 | ((with_reducible apply go_rlen h); (rfl))
 | ((with_reducible apply go_lenL h))
 | ((with_reducible apply go_ix h); (omega))
 | ((with_reducible apply go_elN h); (case hi => omega))
 | ((with_reducible apply go_fa h); (omega); (omega))
 | ((with_reducible apply go_f1 h); (case hi => omega); (case hx => exact inferInstance))
 | ((with_reducible apply go_rf1 h); (case hi => omega); (case hx => exact inferInstance); (case hv => rfl))
 | ((with_reducible apply go_rel h); (case hi => omega); (case hv => rfl))
))
    exact plays_tail hi (h.get (by (repeat (first | exact .done | (refine .pick (by repeat (first | exact .here | apply Fnt.there)) ?_) | refine .skip ?_)))) fun w h => hR _ w h
  have k0' : decide (r = 0) = false := by simpa using k0
  by_cases k1 : r = 1
  · subst k1
    (repeat (first
 | (simp (disch := omega) only [evA, evB, bAdd_i64, bSub_i64, ptr, Nat.zero_add, Bool.not_true, Bool.not_false, Option.isNone_some, Option.isNone_none, Option.isSome_some, Option.isSome_none, decide_true, decide_false, eq_self, true_and, and_assoc, d10])
 | ((with_reducible apply go_ld1 h))
 | ((with_reducible apply go_ldA h); (rfl))
 | ((with_reducible apply go_ldN h))
 | ((with_reducible apply go_st h); intro _ h)
 | ((with_reducible apply go_stA h); (rfl); (rfl); (first | rfl | simp); intro _ h)
 | ((with_reducible apply go_stN h); (rfl); (first | rfl | simp); intro _ h)
 | ((with_reducible apply go_box h); rfl; intro _ _ h)
 | ((with_reducible apply go_rd h); (rfl))
 | ((with_reducible apply go_rdN h); (rfl))
 | ((with_reducible apply go_rlen h); (rfl))
 | ((with_reducible apply go_lenL h))
 | ((with_reducible apply go_ix h); (omega))
 | ((with_reducible apply go_elN h); (case hi => omega))
 | ((with_reducible apply go_fa h); (omega); (omega))
 | ((with_reducible apply go_f1 h); (case hi => omega); (case hx => exact inferInstance))
 | ((with_reducible apply go_rf1 h); (case hi => omega); (case hx => exact inferInstance); (case hv => rfl))
 | ((with_reducible apply go_rel h); (case hi => omega); (case hv => rfl))
))
    refine drop_spec (M := M) (n := n) (h.drew.front (by repeat (first | exact .here | apply Fnt.there))) fun w h => ?_
    (repeat (first
 | (simp (disch := omega) only [evA, evB, bAdd_i64, bSub_i64, ptr, Nat.zero_add, Bool.not_true, Bool.not_false, Option.isNone_some, Option.isNone_none, Option.isSome_some, Option.isSome_none, decide_true, decide_false, eq_self, true_and, and_assoc])
 | ((with_reducible apply go_ld1 h))
 | ((with_reducible apply go_ldA h); (rfl))
 | ((with_reducible apply go_ldN h))
 | ((with_reducible apply go_st h); intro _ h)
 | ((with_reducible apply go_stA h); (rfl); (rfl); (first | rfl | simp); intro _ h)
 | ((with_reducible apply go_stN h); (rfl); (first | rfl | simp); intro _ h)
 | ((with_reducible apply go_box h); rfl; intro _ _ h)
 | ((with_reducible apply go_rd h); (rfl))
 | ((with_reducible apply go_rdN h); (rfl))
 | ((with_reducible apply go_rlen h); (rfl))
 | ((with_reducible apply go_lenL h))
 | ((with_reducible apply go_ix h); (omega))
 | ((with_reducible apply go_elN h); (case hi => omega))
 | ((with_reducible apply go_fa h); (omega); (omega))
 | ((with_reducible apply go_f1 h); (case hi => omega); (case hx => exact inferInstance))
 | ((with_reducible apply go_rf1 h); (case hi => omega); (case hx => exact inferInstance); (case hv => rfl))
 | ((with_reducible apply go_rel h); (case hi => omega); (case hv => rfl))
))
    refine rdrop_spec (M := M) (n := n) hM (h.front (by repeat (first | exact .here | apply Fnt.there))) fun w h => ?_
    (repeat (first
 | (simp (disch := omega) only [evA, evB, bAdd_i64, bSub_i64, ptr, Nat.zero_add, Bool.not_true, Bool.not_false, Option.isNone_some, Option.isNone_none, Option.isSome_some, Option.isSome_none, decide_true, decide_false, eq_self, true_and, and_assoc, eqb])
 | ((with_reducible apply go_ld1 h))
 | ((with_reducible apply go_ldA h); (rfl))
 | ((with_reducible apply go_ldN h))
 | ((with_reducible apply go_st h); intro _ h)
 | ((with_reducible apply go_stA h); (rfl); (rfl); (first | rfl | simp); intro _ h)
 | ((with_reducible apply go_stN h); (rfl); (first | rfl | simp); intro _ h)
 | ((with_reducible apply go_box h); rfl; intro _ _ h)
 | ((with_reducible apply go_rd h); (rfl))
 | ((with_reducible apply go_rdN h); (rfl))
 | ((with_reducible apply go_rlen h); (rfl))
 | ((with_reducible apply go_lenL h))
 | ((with_reducible apply go_ix h); (omega))
 | ((with_reducible apply go_elN h); (case hi => omega))
 | ((with_reducible apply go_fa h); (omega); (omega))
 | ((with_reducible apply go_f1 h); (case hi => omega); (case hx => exact inferInstance))
 | ((with_reducible apply go_rf1 h); (case hi => omega); (case hx => exact inferInstance); (case hv => rfl))
 | ((with_reducible apply go_rel h); (case hi => omega); (case hv => rfl))
))
    exact plays_tail hi (h.get (by (repeat (first | exact .done | (refine .pick (by repeat (first | exact .here | apply Fnt.there)) ?_) | refine .skip ?_)))) fun w h => hR _ w h
  have k1' : decide (r = 1) = false := by simpa using k1
  by_cases k2 : r = 2
  · subst k2
    (repeat (first
 | (simp (disch := omega) only [evA, evB, bAdd_i64, bSub_i64, ptr, Nat.zero_add, Bool.not_true, Bool.not_false, Option.isNone_some, Option.isNone_none, Option.isSome_some, Option.isSome_none, decide_true, decide_false, eq_self, true_and, and_assoc, d20, d21])
 | ((with_reducible apply go_ld1 h))
 | ((with_reducible apply go_ldA h); (rfl))
 | ((with_reducible apply go_ldN h))
 | ((with_reducible apply go_st h); intro _ h)
 | ((with_reducible apply go_stA h); (rfl); (rfl); (first | rfl | simp); intro _ h)
 | ((with_reducible apply go_stN h); (rfl); (first | rfl | simp); intro _ h)
 | ((with_reducible apply go_box h); rfl; intro _ _ h)
 | ((with_reducible apply go_rd h); (rfl))
 | ((with_reducible apply go_rdN h); (rfl))
 | ((with_reducible apply go_rlen h); (rfl))
 | ((with_reducible apply go_lenL h))
 | ((with_reducible apply go_ix h); (omega))
 | ((with_reducible apply go_elN h); (case hi => omega))
 | ((with_reducible apply go_fa h); (omega); (omega))
 | ((with_reducible apply go_f1 h); (case hi => omega); (case hx => exact inferInstance))
 | ((with_reducible apply go_rf1 h); (case hi => omega); (case hx => exact inferInstance); (case hv => rfl))
 | ((with_reducible apply go_rel h); (case hi => omega); (case hv => rfl))
))
    refine due_spec (M := M) (n := n) (h.drew.front (by repeat (first | exact .here | apply Fnt.there))) fun x w h => ?_
    (repeat (first
 | (simp (disch := omega) only [evA, evB, bAdd_i64, bSub_i64, ptr, Nat.zero_add, Bool.not_true, Bool.not_false, Option.isNone_some, Option.isNone_none, Option.isSome_some, Option.isSome_none, decide_true, decide_false, eq_self, true_and, and_assoc])
 | ((with_reducible apply go_ld1 h))
 | ((with_reducible apply go_ldA h); (rfl))
 | ((with_reducible apply go_ldN h))
 | ((with_reducible apply go_st h); intro _ h)
 | ((with_reducible apply go_stA h); (rfl); (rfl); (first | rfl | simp); intro _ h)
 | ((with_reducible apply go_stN h); (rfl); (first | rfl | simp); intro _ h)
 | ((with_reducible apply go_box h); rfl; intro _ _ h)
 | ((with_reducible apply go_rd h); (rfl))
 | ((with_reducible apply go_rdN h); (rfl))
 | ((with_reducible apply go_rlen h); (rfl))
 | ((with_reducible apply go_lenL h))
 | ((with_reducible apply go_ix h); (omega))
 | ((with_reducible apply go_elN h); (case hi => omega))
 | ((with_reducible apply go_fa h); (omega); (omega))
 | ((with_reducible apply go_f1 h); (case hi => omega); (case hx => exact inferInstance))
 | ((with_reducible apply go_rf1 h); (case hi => omega); (case hx => exact inferInstance); (case hv => rfl))
 | ((with_reducible apply go_rel h); (case hi => omega); (case hv => rfl))
))
    refine rdue_spec (M := M) (n := n) hM (h.front (by repeat (first | exact .here | apply Fnt.there))) fun y w h => ?_
    have hT : (takeM a.at' M).length ≤ 65536 := Nat.le_trans (List.takeWhile_sublist _).length_le hM
    (repeat (first
 | (simp (disch := omega) only [evA, evB, bAdd_i64, bSub_i64, ptr, Nat.zero_add, Bool.not_true, Bool.not_false, Option.isNone_some, Option.isNone_none, Option.isSome_some, Option.isSome_none, decide_true, decide_false, eq_self, true_and, and_assoc])
 | ((with_reducible apply go_ld1 h))
 | ((with_reducible apply go_ldA h); (rfl))
 | ((with_reducible apply go_ldN h))
 | ((with_reducible apply go_st h); intro _ h)
 | ((with_reducible apply go_stA h); (rfl); (rfl); (first | rfl | simp); intro _ h)
 | ((with_reducible apply go_stN h); (rfl); (first | rfl | simp); intro _ h)
 | ((with_reducible apply go_box h); rfl; intro _ _ h)
 | ((with_reducible apply go_rd h); (rfl))
 | ((with_reducible apply go_rdN h); (rfl))
 | ((with_reducible apply go_rlen h); (rfl))
 | ((with_reducible apply go_lenL h))
 | ((with_reducible apply go_ix h); (omega))
 | ((with_reducible apply go_elN h); (case hi => omega))
 | ((with_reducible apply go_fa h); (omega); (omega))
 | ((with_reducible apply go_f1 h); (case hi => omega); (case hx => exact inferInstance))
 | ((with_reducible apply go_rf1 h); (case hi => omega); (case hx => exact inferInstance); (case hv => rfl))
 | ((with_reducible apply go_rel h); (case hi => omega); (case hv => rfl))
))
    refine items_spec (l := takeM a.at' M) (m := takeM a.at' M) hT (ls_of h (.refl _) inferInstance) (ls_of h (.refl _) inferInstance) h fun w h => ?_
    rw [decide_eq_true rfl]
    (repeat (first
 | (simp (disch := omega) only [evA, evB, bAdd_i64, bSub_i64, ptr, Nat.zero_add, Bool.not_true, Bool.not_false, Option.isNone_some, Option.isNone_none, Option.isSome_some, Option.isSome_none, decide_true, decide_false, eq_self, true_and, and_assoc])
 | ((with_reducible apply go_ld1 h))
 | ((with_reducible apply go_ldA h); (rfl))
 | ((with_reducible apply go_ldN h))
 | ((with_reducible apply go_st h); intro _ h)
 | ((with_reducible apply go_stA h); (rfl); (rfl); (first | rfl | simp); intro _ h)
 | ((with_reducible apply go_stN h); (rfl); (first | rfl | simp); intro _ h)
 | ((with_reducible apply go_box h); rfl; intro _ _ h)
 | ((with_reducible apply go_rd h); (rfl))
 | ((with_reducible apply go_rdN h); (rfl))
 | ((with_reducible apply go_rlen h); (rfl))
 | ((with_reducible apply go_lenL h))
 | ((with_reducible apply go_ix h); (omega))
 | ((with_reducible apply go_elN h); (case hi => omega))
 | ((with_reducible apply go_fa h); (omega); (omega))
 | ((with_reducible apply go_f1 h); (case hi => omega); (case hx => exact inferInstance))
 | ((with_reducible apply go_rf1 h); (case hi => omega); (case hx => exact inferInstance); (case hv => rfl))
 | ((with_reducible apply go_rel h); (case hi => omega); (case hv => rfl))
))
    exact plays_tail hi (h.get (by (repeat (first | exact .done | (refine .pick (by repeat (first | exact .here | apply Fnt.there)) ?_) | refine .skip ?_)))) fun w h => hR _ w h
  have k2' : decide (r = 2) = false := by simpa using k2
  (repeat (first
 | (simp (disch := omega) only [evA, evB, bAdd_i64, bSub_i64, ptr, Nat.zero_add, Bool.not_true, Bool.not_false, Option.isNone_some, Option.isNone_none, Option.isSome_some, Option.isSome_none, decide_true, decide_false, eq_self, true_and, and_assoc, k0', k1', k2'])
 | ((with_reducible apply go_ld1 h))
 | ((with_reducible apply go_ldA h); (rfl))
 | ((with_reducible apply go_ldN h))
 | ((with_reducible apply go_st h); intro _ h)
 | ((with_reducible apply go_stA h); (rfl); (rfl); (first | rfl | simp); intro _ h)
 | ((with_reducible apply go_stN h); (rfl); (first | rfl | simp); intro _ h)
 | ((with_reducible apply go_box h); rfl; intro _ _ h)
 | ((with_reducible apply go_rd h); (rfl))
 | ((with_reducible apply go_rdN h); (rfl))
 | ((with_reducible apply go_rlen h); (rfl))
 | ((with_reducible apply go_lenL h))
 | ((with_reducible apply go_ix h); (omega))
 | ((with_reducible apply go_elN h); (case hi => omega))
 | ((with_reducible apply go_fa h); (omega); (omega))
 | ((with_reducible apply go_f1 h); (case hi => omega); (case hx => exact inferInstance))
 | ((with_reducible apply go_rf1 h); (case hi => omega); (case hx => exact inferInstance); (case hv => rfl))
 | ((with_reducible apply go_rel h); (case hi => omega); (case hv => rfl))
))
  refine fork_spec (M := M) (n := n) (h.front (by repeat (first | exact .here | apply Fnt.there))) fun x w h => ?_
  (repeat (first
 | (simp (disch := omega) only [evA, evB, bAdd_i64, bSub_i64, ptr, Nat.zero_add, Bool.not_true, Bool.not_false, Option.isNone_some, Option.isNone_none, Option.isSome_some, Option.isSome_none, decide_true, decide_false, eq_self, true_and, and_assoc])
 | (refine go_some (bEq_nilp up46 ..) ?_)
 | ((with_reducible apply go_ld1 h))
 | ((with_reducible apply go_ldA h); (rfl))
 | ((with_reducible apply go_ldN h))
 | ((with_reducible apply go_st h); intro _ h)
 | ((with_reducible apply go_stA h); (rfl); (rfl); (first | rfl | simp); intro _ h)
 | ((with_reducible apply go_stN h); (rfl); (first | rfl | simp); intro _ h)
 | ((with_reducible apply go_box h); rfl; intro _ _ h)
 | ((with_reducible apply go_rd h); (rfl))
 | ((with_reducible apply go_rdN h); (rfl))
 | ((with_reducible apply go_rlen h); (rfl))
 | ((with_reducible apply go_lenL h))
 | ((with_reducible apply go_ix h); (omega))
 | ((with_reducible apply go_elN h); (case hi => omega))
 | ((with_reducible apply go_fa h); (omega); (omega))
 | ((with_reducible apply go_f1 h); (case hi => omega); (case hx => exact inferInstance))
 | ((with_reducible apply go_rf1 h); (case hi => omega); (case hx => exact inferInstance); (case hv => rfl))
 | ((with_reducible apply go_rel h); (case hi => omega); (case hv => rfl))
))
  refine stands_spec (v := ptr x) (rv := ptr q) (M := M) (n := n) (n' := n) ((h.front (A := RefH (ptr q) n M) (by repeat (first | exact .here | apply Fnt.there))).front (A := HeapH (ptr x) n M) (by repeat (first | exact .here | apply Fnt.there))) fun w h => ?_
  (repeat (first
 | (simp (disch := omega) only [evA, evB, bAdd_i64, bSub_i64, ptr, Nat.zero_add, Bool.not_true, Bool.not_false, Option.isNone_some, Option.isNone_none, Option.isSome_some, Option.isSome_none, decide_true, decide_false, eq_self, true_and, and_assoc])
 | ((with_reducible apply go_ld1 h))
 | ((with_reducible apply go_ldA h); (rfl))
 | ((with_reducible apply go_ldN h))
 | ((with_reducible apply go_st h); intro _ h)
 | ((with_reducible apply go_stA h); (rfl); (rfl); (first | rfl | simp); intro _ h)
 | ((with_reducible apply go_stN h); (rfl); (first | rfl | simp); intro _ h)
 | ((with_reducible apply go_box h); rfl; intro _ _ h)
 | ((with_reducible apply go_rd h); (rfl))
 | ((with_reducible apply go_rdN h); (rfl))
 | ((with_reducible apply go_rlen h); (rfl))
 | ((with_reducible apply go_lenL h))
 | ((with_reducible apply go_ix h); (omega))
 | ((with_reducible apply go_elN h); (case hi => omega))
 | ((with_reducible apply go_fa h); (omega); (omega))
 | ((with_reducible apply go_f1 h); (case hi => omega); (case hx => exact inferInstance))
 | ((with_reducible apply go_rf1 h); (case hi => omega); (case hx => exact inferInstance); (case hv => rfl))
 | ((with_reducible apply go_rel h); (case hi => omega); (case hv => rfl))
))
  refine set_spec (M := M) (n := n) (h.front (by repeat (first | exact .here | apply Fnt.there))) fun w h => ?_
  (repeat (first
 | (simp (disch := omega) only [evA, evB, bAdd_i64, bSub_i64, ptr, Nat.zero_add, Bool.not_true, Bool.not_false, Option.isNone_some, Option.isNone_none, Option.isSome_some, Option.isSome_none, decide_true, decide_false, eq_self, true_and, and_assoc])
 | ((with_reducible apply go_ld1 h))
 | ((with_reducible apply go_ldA h); (rfl))
 | ((with_reducible apply go_ldN h))
 | ((with_reducible apply go_st h); intro _ h)
 | ((with_reducible apply go_stA h); (rfl); (rfl); (first | rfl | simp); intro _ h)
 | ((with_reducible apply go_stN h); (rfl); (first | rfl | simp); intro _ h)
 | ((with_reducible apply go_box h); rfl; intro _ _ h)
 | ((with_reducible apply go_rd h); (rfl))
 | ((with_reducible apply go_rdN h); (rfl))
 | ((with_reducible apply go_rlen h); (rfl))
 | ((with_reducible apply go_lenL h))
 | ((with_reducible apply go_ix h); (omega))
 | ((with_reducible apply go_elN h); (case hi => omega))
 | ((with_reducible apply go_fa h); (omega); (omega))
 | ((with_reducible apply go_f1 h); (case hi => omega); (case hx => exact inferInstance))
 | ((with_reducible apply go_rf1 h); (case hi => omega); (case hx => exact inferInstance); (case hv => rfl))
 | ((with_reducible apply go_rel h); (case hi => omega); (case hv => rfl))
))
  refine due_spec (v := ptr x) (M := _) (n := n) (h.front (by repeat (first | exact .here | apply Fnt.there))) fun y w h => ?_
  (repeat (first
 | (simp (disch := omega) only [evA, evB, bAdd_i64, bSub_i64, ptr, Nat.zero_add, Bool.not_true, Bool.not_false, Option.isNone_some, Option.isNone_none, Option.isSome_some, Option.isSome_none, decide_true, decide_false, eq_self, true_and, and_assoc])
 | ((with_reducible apply go_ld1 h))
 | ((with_reducible apply go_ldA h); (rfl))
 | ((with_reducible apply go_ldN h))
 | ((with_reducible apply go_st h); intro _ h)
 | ((with_reducible apply go_stA h); (rfl); (rfl); (first | rfl | simp); intro _ h)
 | ((with_reducible apply go_stN h); (rfl); (first | rfl | simp); intro _ h)
 | ((with_reducible apply go_box h); rfl; intro _ _ h)
 | ((with_reducible apply go_rd h); (rfl))
 | ((with_reducible apply go_rdN h); (rfl))
 | ((with_reducible apply go_rlen h); (rfl))
 | ((with_reducible apply go_lenL h))
 | ((with_reducible apply go_ix h); (omega))
 | ((with_reducible apply go_elN h); (case hi => omega))
 | ((with_reducible apply go_fa h); (omega); (omega))
 | ((with_reducible apply go_f1 h); (case hi => omega); (case hx => exact inferInstance))
 | ((with_reducible apply go_rf1 h); (case hi => omega); (case hx => exact inferInstance); (case hv => rfl))
 | ((with_reducible apply go_rel h); (case hi => omega); (case hv => rfl))
))
  exact plays_tail hi (h.get (by (repeat (first | exact .done | (refine .pick (by repeat (first | exact .here | apply Fnt.there)) ?_) | refine .skip ?_)))) fun w h => hR _ w h
theorem plays_loop {s1 : Value} {p q : Nat} {l : List HAct} (hrd : Rd w0 3 s1 l.length (l.flatMap cHA)) (hK : ∀ w', Sat w0 L w' → K (.bool true) w') : ∀ (d i : Nat) (M : List It) (w : World), 80 - i < d → i ≤ 80 →
    Sat w0 (HeapH (ptr p) n M :: RefH (ptr q) n M :: L) w → F7_2L d s1 (ptr p) (ptr q) (.int .i64 i) w K := by
  intro d
  induction d with
  | zero => intro i M w hd; omega
  | succ d ih =>
    intro i M w hd hi h
    rw [F7_2L]
    unfold F7_4 F7_4b F7_3 F7_3b
    have ne : ∀ x y, bNe Try.prog 58 x y (ptr q) (.pointer none) = some (.bool true) := fun x y => bNe_nilp up58 _
    by_cases g : i < l.length
    · have g' : decide ((i : Int) < (l.length : Int)) = true := by simpa using g
      by_cases g2 : i < 80
      · have g2' : decide ((i : Int) < 80) = true := by simp; omega
        refine go_some (ne _ _) ?_
        (repeat (first
 | (simp (disch := omega) only [evA, evB, bAdd_i64, bSub_i64, ptr, Nat.zero_add, Bool.not_true, Bool.not_false, Option.isNone_some, Option.isNone_none, Option.isSome_some, Option.isSome_none, decide_true, decide_false, eq_self, true_and, and_assoc, hrd.len, g', g2'])
 | ((with_reducible apply go_ld1 h))
 | ((with_reducible apply go_ldA h); (rfl))
 | ((with_reducible apply go_ldN h))
 | ((with_reducible apply go_st h); intro _ h)
 | ((with_reducible apply go_stA h); (rfl); (rfl); (first | rfl | simp); intro _ h)
 | ((with_reducible apply go_stN h); (rfl); (first | rfl | simp); intro _ h)
 | ((with_reducible apply go_box h); rfl; intro _ _ h)
 | ((with_reducible apply go_rd h); (rfl))
 | ((with_reducible apply go_rdN h); (rfl))
 | ((with_reducible apply go_rlen h); (rfl))
 | ((with_reducible apply go_lenL h))
 | ((with_reducible apply go_ix h); (omega))
 | ((with_reducible apply go_elN h); (case hi => omega))
 | ((with_reducible apply go_fa h); (omega); (omega))
 | ((with_reducible apply go_f1 h); (case hi => omega); (case hx => exact inferInstance))
 | ((with_reducible apply go_rf1 h); (case hi => omega); (case hx => exact inferInstance); (case hv => rfl))
 | ((with_reducible apply go_rel h); (case hi => omega); (case hv => rfl))
))
        exact plays_step hrd g g2 h fun M' w h => ih (i + 1) M' w (by omega) (by omega) h
      · have g2' : decide ((i : Int) < 80) = false := by simp; omega
        refine go_some (ne _ _) ?_
        (repeat (first
 | (simp (disch := omega) only [evA, evB, bAdd_i64, bSub_i64, ptr, Nat.zero_add, Bool.not_true, Bool.not_false, Option.isNone_some, Option.isNone_none, Option.isSome_some, Option.isSome_none, decide_true, decide_false, eq_self, true_and, and_assoc, hrd.len, g', g2'])
 | ((with_reducible apply go_ld1 h))
 | ((with_reducible apply go_ldA h); (rfl))
 | ((with_reducible apply go_ldN h))
 | ((with_reducible apply go_st h); intro _ h)
 | ((with_reducible apply go_stA h); (rfl); (rfl); (first | rfl | simp); intro _ h)
 | ((with_reducible apply go_stN h); (rfl); (first | rfl | simp); intro _ h)
 | ((with_reducible apply go_box h); rfl; intro _ _ h)
 | ((with_reducible apply go_rd h); (rfl))
 | ((with_reducible apply go_rdN h); (rfl))
 | ((with_reducible apply go_rlen h); (rfl))
 | ((with_reducible apply go_lenL h))
 | ((with_reducible apply go_ix h); (omega))
 | ((with_reducible apply go_elN h); (case hi => omega))
 | ((with_reducible apply go_fa h); (omega); (omega))
 | ((with_reducible apply go_f1 h); (case hi => omega); (case hx => exact inferInstance))
 | ((with_reducible apply go_rf1 h); (case hi => omega); (case hx => exact inferInstance); (case hv => rfl))
 | ((with_reducible apply go_rel h); (case hi => omega); (case hv => rfl))
))
        exact hK _ h.drop.drop
    · have g' : decide ((i : Int) < (l.length : Int)) = false := by simpa using g
      refine go_some (ne _ _) ?_
      (repeat (first
 | (simp (disch := omega) only [evA, evB, bAdd_i64, bSub_i64, ptr, Nat.zero_add, Bool.not_true, Bool.not_false, Option.isNone_some, Option.isNone_none, Option.isSome_some, Option.isSome_none, decide_true, decide_false, eq_self, true_and, and_assoc, hrd.len, g'])
 | ((with_reducible apply go_ld1 h))
 | ((with_reducible apply go_ldA h); (rfl))
 | ((with_reducible apply go_ldN h))
 | ((with_reducible apply go_st h); intro _ h)
 | ((with_reducible apply go_stA h); (rfl); (rfl); (first | rfl | simp); intro _ h)
 | ((with_reducible apply go_stN h); (rfl); (first | rfl | simp); intro _ h)
 | ((with_reducible apply go_box h); rfl; intro _ _ h)
 | ((with_reducible apply go_rd h); (rfl))
 | ((with_reducible apply go_rdN h); (rfl))
 | ((with_reducible apply go_rlen h); (rfl))
 | ((with_reducible apply go_lenL h))
 | ((with_reducible apply go_ix h); (omega))
 | ((with_reducible apply go_elN h); (case hi => omega))
 | ((with_reducible apply go_fa h); (omega); (omega))
 | ((with_reducible apply go_f1 h); (case hi => omega); (case hx => exact inferInstance))
 | ((with_reducible apply go_rf1 h); (case hi => omega); (case hx => exact inferInstance); (case hv => rfl))
 | ((with_reducible apply go_rel h); (case hi => omega); (case hv => rfl))
))
      exact hK _ h.drop.drop
theorem heapPlays_spec {s1 : Value} {l : List HAct} (hrd : Rd w0 3 s1 l.length (l.flatMap cHA)) (h : Sat w0 L w) (hK : ∀ w', Sat w0 L w' → K (.bool true) w') : callP G7 [.int .i64 n, s1] w K := by
  refine c7 ?_
  unfold F7 F7_1 F7_1b F7_2
  have eqb : ∀ (x y : Operand) (b : Bool), bNe Try.prog 4 x y (.bool b) (.bool b) = some (.bool false) := fun x y b => by rw [bNe_bool ub4]; simp
  refine new_spec h (fun hn => ?_) fun p w n1 n2 h => ?_
  · (repeat (first
 | (simp (disch := omega) only [evA, evB, bAdd_i64, bSub_i64, ptr, Nat.zero_add, Bool.not_true, Bool.not_false, Option.isNone_some, Option.isNone_none, Option.isSome_some, Option.isSome_none, decide_true, decide_false, eq_self, true_and, and_assoc])
 | ((with_reducible apply go_ld1 h))
 | ((with_reducible apply go_ldA h); (rfl))
 | ((with_reducible apply go_ldN h))
 | ((with_reducible apply go_st h); intro _ h)
 | ((with_reducible apply go_stA h); (rfl); (rfl); (first | rfl | simp); intro _ h)
 | ((with_reducible apply go_stN h); (rfl); (first | rfl | simp); intro _ h)
 | ((with_reducible apply go_box h); rfl; intro _ _ h)
 | ((with_reducible apply go_rd h); (rfl))
 | ((with_reducible apply go_rdN h); (rfl))
 | ((with_reducible apply go_rlen h); (rfl))
 | ((with_reducible apply go_lenL h))
 | ((with_reducible apply go_ix h); (omega))
 | ((with_reducible apply go_elN h); (case hi => omega))
 | ((with_reducible apply go_fa h); (omega); (omega))
 | ((with_reducible apply go_f1 h); (case hi => omega); (case hx => exact inferInstance))
 | ((with_reducible apply go_rf1 h); (case hi => omega); (case hx => exact inferInstance); (case hv => rfl))
 | ((with_reducible apply go_rel h); (case hi => omega); (case hv => rfl))
))
    refine rnew_spec h (fun _ => ?_) fun p w n1 n2 h => by omega
    (repeat (first
 | (simp (disch := omega) only [evA, evB, bAdd_i64, bSub_i64, ptr, Nat.zero_add, Bool.not_true, Bool.not_false, Option.isNone_some, Option.isNone_none, Option.isSome_some, Option.isSome_none, decide_true, decide_false, eq_self, true_and, and_assoc, eqb])
 | (refine go_some (bEq_nilp up46 ..) ?_)
 | (refine go_some (bEq_nilp up58 ..) ?_)
 | ((with_reducible apply go_ld1 h))
 | ((with_reducible apply go_ldA h); (rfl))
 | ((with_reducible apply go_ldN h))
 | ((with_reducible apply go_st h); intro _ h)
 | ((with_reducible apply go_stA h); (rfl); (rfl); (first | rfl | simp); intro _ h)
 | ((with_reducible apply go_stN h); (rfl); (first | rfl | simp); intro _ h)
 | ((with_reducible apply go_box h); rfl; intro _ _ h)
 | ((with_reducible apply go_rd h); (rfl))
 | ((with_reducible apply go_rdN h); (rfl))
 | ((with_reducible apply go_rlen h); (rfl))
 | ((with_reducible apply go_lenL h))
 | ((with_reducible apply go_ix h); (omega))
 | ((with_reducible apply go_elN h); (case hi => omega))
 | ((with_reducible apply go_fa h); (omega); (omega))
 | ((with_reducible apply go_f1 h); (case hi => omega); (case hx => exact inferInstance))
 | ((with_reducible apply go_rf1 h); (case hi => omega); (case hx => exact inferInstance); (case hv => rfl))
 | ((with_reducible apply go_rel h); (case hi => omega); (case hv => rfl))
))
    refine works_spec h fun w h => ?_
    (repeat (first
 | (simp (disch := omega) only [evA, evB, bAdd_i64, bSub_i64, ptr, Nat.zero_add, Bool.not_true, Bool.not_false, Option.isNone_some, Option.isNone_none, Option.isSome_some, Option.isSome_none, decide_true, decide_false, eq_self, true_and, and_assoc])
 | ((with_reducible apply go_ld1 h))
 | ((with_reducible apply go_ldA h); (rfl))
 | ((with_reducible apply go_ldN h))
 | ((with_reducible apply go_st h); intro _ h)
 | ((with_reducible apply go_stA h); (rfl); (rfl); (first | rfl | simp); intro _ h)
 | ((with_reducible apply go_stN h); (rfl); (first | rfl | simp); intro _ h)
 | ((with_reducible apply go_box h); rfl; intro _ _ h)
 | ((with_reducible apply go_rd h); (rfl))
 | ((with_reducible apply go_rdN h); (rfl))
 | ((with_reducible apply go_rlen h); (rfl))
 | ((with_reducible apply go_lenL h))
 | ((with_reducible apply go_ix h); (omega))
 | ((with_reducible apply go_elN h); (case hi => omega))
 | ((with_reducible apply go_fa h); (omega); (omega))
 | ((with_reducible apply go_f1 h); (case hi => omega); (case hx => exact inferInstance))
 | ((with_reducible apply go_rf1 h); (case hi => omega); (case hx => exact inferInstance); (case hv => rfl))
 | ((with_reducible apply go_rel h); (case hi => omega); (case hv => rfl))
))
    show F7_2L (fuel - 1 + 1) _ _ _ _ _ _
    rw [F7_2L]
    unfold F7_4 F7_4b F7_3 F7_3b
    refine go_some (bNe_nilp up58 _) ?_
    (repeat (first
 | (simp (disch := omega) only [evA, evB, bAdd_i64, bSub_i64, ptr, Nat.zero_add, Bool.not_true, Bool.not_false, Option.isNone_some, Option.isNone_none, Option.isSome_some, Option.isSome_none, decide_true, decide_false, eq_self, true_and, and_assoc])
 | ((with_reducible apply go_ld1 h))
 | ((with_reducible apply go_ldA h); (rfl))
 | ((with_reducible apply go_ldN h))
 | ((with_reducible apply go_st h); intro _ h)
 | ((with_reducible apply go_stA h); (rfl); (rfl); (first | rfl | simp); intro _ h)
 | ((with_reducible apply go_stN h); (rfl); (first | rfl | simp); intro _ h)
 | ((with_reducible apply go_box h); rfl; intro _ _ h)
 | ((with_reducible apply go_rd h); (rfl))
 | ((with_reducible apply go_rdN h); (rfl))
 | ((with_reducible apply go_rlen h); (rfl))
 | ((with_reducible apply go_lenL h))
 | ((with_reducible apply go_ix h); (omega))
 | ((with_reducible apply go_elN h); (case hi => omega))
 | ((with_reducible apply go_fa h); (omega); (omega))
 | ((with_reducible apply go_f1 h); (case hi => omega); (case hx => exact inferInstance))
 | ((with_reducible apply go_rf1 h); (case hi => omega); (case hx => exact inferInstance); (case hv => rfl))
 | ((with_reducible apply go_rel h); (case hi => omega); (case hv => rfl))
))
    exact hK _ h
  · (repeat (first
 | (simp (disch := omega) only [evA, evB, bAdd_i64, bSub_i64, ptr, Nat.zero_add, Bool.not_true, Bool.not_false, Option.isNone_some, Option.isNone_none, Option.isSome_some, Option.isSome_none, decide_true, decide_false, eq_self, true_and, and_assoc])
 | ((with_reducible apply go_ld1 h))
 | ((with_reducible apply go_ldA h); (rfl))
 | ((with_reducible apply go_ldN h))
 | ((with_reducible apply go_st h); intro _ h)
 | ((with_reducible apply go_stA h); (rfl); (rfl); (first | rfl | simp); intro _ h)
 | ((with_reducible apply go_stN h); (rfl); (first | rfl | simp); intro _ h)
 | ((with_reducible apply go_box h); rfl; intro _ _ h)
 | ((with_reducible apply go_rd h); (rfl))
 | ((with_reducible apply go_rdN h); (rfl))
 | ((with_reducible apply go_rlen h); (rfl))
 | ((with_reducible apply go_lenL h))
 | ((with_reducible apply go_ix h); (omega))
 | ((with_reducible apply go_elN h); (case hi => omega))
 | ((with_reducible apply go_fa h); (omega); (omega))
 | ((with_reducible apply go_f1 h); (case hi => omega); (case hx => exact inferInstance))
 | ((with_reducible apply go_rf1 h); (case hi => omega); (case hx => exact inferInstance); (case hv => rfl))
 | ((with_reducible apply go_rel h); (case hi => omega); (case hv => rfl))
))
    refine rnew_spec h (fun hn => by omega) fun q w _ _ h => ?_
    (repeat (first
 | (simp (disch := omega) only [evA, evB, bAdd_i64, bSub_i64, ptr, Nat.zero_add, Bool.not_true, Bool.not_false, Option.isNone_some, Option.isNone_none, Option.isSome_some, Option.isSome_none, decide_true, decide_false, eq_self, true_and, and_assoc, eqb])
 | (refine go_some (bEq_nilp up46 ..) ?_)
 | (refine go_some (bEq_nilp up58 ..) ?_)
 | ((with_reducible apply go_ld1 h))
 | ((with_reducible apply go_ldA h); (rfl))
 | ((with_reducible apply go_ldN h))
 | ((with_reducible apply go_st h); intro _ h)
 | ((with_reducible apply go_stA h); (rfl); (rfl); (first | rfl | simp); intro _ h)
 | ((with_reducible apply go_stN h); (rfl); (first | rfl | simp); intro _ h)
 | ((with_reducible apply go_box h); rfl; intro _ _ h)
 | ((with_reducible apply go_rd h); (rfl))
 | ((with_reducible apply go_rdN h); (rfl))
 | ((with_reducible apply go_rlen h); (rfl))
 | ((with_reducible apply go_lenL h))
 | ((with_reducible apply go_ix h); (omega))
 | ((with_reducible apply go_elN h); (case hi => omega))
 | ((with_reducible apply go_fa h); (omega); (omega))
 | ((with_reducible apply go_f1 h); (case hi => omega); (case hx => exact inferInstance))
 | ((with_reducible apply go_rf1 h); (case hi => omega); (case hx => exact inferInstance); (case hv => rfl))
 | ((with_reducible apply go_rel h); (case hi => omega); (case hv => rfl))
))
    refine works_spec h fun w h => ?_
    (repeat (first
 | (simp (disch := omega) only [evA, evB, bAdd_i64, bSub_i64, ptr, Nat.zero_add, Bool.not_true, Bool.not_false, Option.isNone_some, Option.isNone_none, Option.isSome_some, Option.isSome_none, decide_true, decide_false, eq_self, true_and, and_assoc])
 | ((with_reducible apply go_ld1 h))
 | ((with_reducible apply go_ldA h); (rfl))
 | ((with_reducible apply go_ldN h))
 | ((with_reducible apply go_st h); intro _ h)
 | ((with_reducible apply go_stA h); (rfl); (rfl); (first | rfl | simp); intro _ h)
 | ((with_reducible apply go_stN h); (rfl); (first | rfl | simp); intro _ h)
 | ((with_reducible apply go_box h); rfl; intro _ _ h)
 | ((with_reducible apply go_rd h); (rfl))
 | ((with_reducible apply go_rdN h); (rfl))
 | ((with_reducible apply go_rlen h); (rfl))
 | ((with_reducible apply go_lenL h))
 | ((with_reducible apply go_ix h); (omega))
 | ((with_reducible apply go_elN h); (case hi => omega))
 | ((with_reducible apply go_fa h); (omega); (omega))
 | ((with_reducible apply go_f1 h); (case hi => omega); (case hx => exact inferInstance))
 | ((with_reducible apply go_rf1 h); (case hi => omega); (case hx => exact inferInstance); (case hv => rfl))
 | ((with_reducible apply go_rel h); (case hi => omega); (case hv => rfl))
))
    exact plays_loop hrd hK fuel 0 [] w (by unfold fuel; omega) (by omega) h.f1
end
theorem fit_hact {W : World} {B : Nat} {c : List Value} (h : FitL2 W B [.int .i64, .int .i64, .int .i64] c) : ∃ x : HAct, c = cHA x ∧ True := by
  obtain ⟨a, vs, rfl, _, h1⟩ := fitL2_int h
  obtain ⟨b, vs, rfl, _, h2⟩ := fitL2_int h1
  obtain ⟨d, vs, rfl, _, h3⟩ := fitL2_int h2
  rw [fitL2_nil h3]; exact ⟨⟨a, b, d⟩, rfl, trivial⟩
theorem lawHeapPlays {W : World} (a : Int) (_ : (Lit.int .i64 a).wf = true) {v : Value} {n : Nat} {cs : List Value} (rd : Rd W 3 v n cs) (_ : n ≤ 140737488351232) (ft : ∀ i, i < n → FitL2 W 140737488351232 [.int .i64, .int .i64, .int .i64] ((cs.drop (i * 3)).take 3)) :
    callP G7 [.int .i64 a, v] W fun v w' => v = .bool true ∧ Sat W [] w' := by
  obtain ⟨l, rfl, rfl, _⟩ := fit_list2 (fun c h => fit_hact h) n cs rd.length ft
  exact heapPlays_spec rd (Sat.start W) fun w' h => ⟨rfl, h⟩
end Go.Proofs.Gong
