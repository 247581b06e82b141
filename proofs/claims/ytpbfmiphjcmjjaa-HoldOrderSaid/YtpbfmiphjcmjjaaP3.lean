/- A part of the proofs: what stands below it, told in lemmas. No condition. -/
import Derived.Test.YtpbfmiphjcmjjaaP2
import Derived.Test.YtpbfmiphjcmjjaaP1
set_option linter.all false

/- Hq1 -/
namespace Go.Proofs.Gong
open Go Go.Sx Go.Proofs
set_option maxRecDepth 100000
attribute [local irreducible] fBuild fLook fZero eqv bEqv Cl MapH LsH SlH ld1 ldN st callP eBox eAlloc lenM lenL eMapSet eDelete eAppend eBuildSl eRange eNext
instance : CodC cIt 2 := ⟨CIt⟩
def RefH (v : Value) (n : Int) (M : List It) : HP := HEx fun p => HEx fun sv => HPr (v = ptr p) (HSt (Cl p #[.int .i64 n, sv] 133) (LsH cIt 2 135 sv M))
section
variable {w0 w : World} {L : List HP} {K : Value → World → Prop} {v : Value} {n : Int} {M : List It}
theorem ref_iff : Sat w0 (RefH v n M :: L) w ↔ ∃ p sv, v = ptr p ∧ Sat w0 (Cl p #[.int .i64 n, sv] 133 :: LsH cIt 2 135 sv M :: L) w := by
  simp only [RefH, Sat.ex_iff, Sat.pr_iff, Sat.star_iff]
theorem rnew_spec {n : Int} (h : Sat w0 L w) (hK0 : (n < 1 ∨ 65536 < n) → K (.tuple #[.pointer none, .int .i64 1]) w)
    (hK : ∀ p w', 1 ≤ n → n ≤ 65536 → Sat w0 (RefH (ptr p) n [] :: L) w' → K (.tuple #[ptr p, .int .i64 0]) w') : callP G31 [.int .i64 n] w K := by
  refine c31 ?_
  unfold F31
  by_cases h1 : n < 1
  · (repeat (first
 | (simp (disch := omega) only [evA, evB, bAdd_i64, bSub_i64, ptr, Nat.zero_add, Bool.not_true, Bool.not_false, Option.isNone_some, Option.isNone_none, Option.isSome_some, Option.isSome_none, decide_true, decide_false, eq_self, true_and, h1])
 | ((with_reducible apply go_ld1 h))
 | ((with_reducible apply go_ldA h); (rfl))
 | ((with_reducible apply go_ldN h))
 | ((with_reducible apply go_st h); intro _ h)
 | ((with_reducible apply go_stA h); (rfl); (rfl); (first | rfl | simp); intro _ h)
 | ((with_reducible apply go_stN h); (rfl); (first | rfl | simp); intro _ h)
 | ((with_reducible apply go_box h); rfl; intro _ _ h)
 | ((with_reducible apply go_rd h); (rfl))
 | ((with_reducible apply go_rdN h); (rfl))
 | ((with_reducible apply go_lenL h))
 | ((with_reducible apply go_ix h); (omega))
 | ((with_reducible apply go_elN h); (case hi => omega))
 | ((with_reducible apply go_fa h); (omega); (omega))
 | ((with_reducible apply go_f1 h); (case hi => omega); (case hx => exact inferInstance))
 | ((with_reducible apply go_rf1 h); (case hi => omega); (case hx => exact inferInstance); (case hv => rfl))
 | ((with_reducible apply go_rel h); (case hi => omega); (case hv => rfl))
)); exact hK0 (.inl h1)
  by_cases h2 : 65536 < n
  · (repeat (first
 | (simp (disch := omega) only [evA, evB, bAdd_i64, bSub_i64, ptr, Nat.zero_add, Bool.not_true, Bool.not_false, Option.isNone_some, Option.isNone_none, Option.isSome_some, Option.isSome_none, decide_true, decide_false, eq_self, true_and, h1, gt_iff_lt, h2])
 | ((with_reducible apply go_ld1 h))
 | ((with_reducible apply go_ldA h); (rfl))
 | ((with_reducible apply go_ldN h))
 | ((with_reducible apply go_st h); intro _ h)
 | ((with_reducible apply go_stA h); (rfl); (rfl); (first | rfl | simp); intro _ h)
 | ((with_reducible apply go_stN h); (rfl); (first | rfl | simp); intro _ h)
 | ((with_reducible apply go_box h); rfl; intro _ _ h)
 | ((with_reducible apply go_rd h); (rfl))
 | ((with_reducible apply go_rdN h); (rfl))
 | ((with_reducible apply go_lenL h))
 | ((with_reducible apply go_ix h); (omega))
 | ((with_reducible apply go_elN h); (case hi => omega))
 | ((with_reducible apply go_fa h); (omega); (omega))
 | ((with_reducible apply go_f1 h); (case hi => omega); (case hx => exact inferInstance))
 | ((with_reducible apply go_rf1 h); (case hi => omega); (case hx => exact inferInstance); (case hv => rfl))
 | ((with_reducible apply go_rel h); (case hi => omega); (case hv => rfl))
)); exact hK0 (.inr h2)
  have close : ∀ p w', Sat w0 (Cl p #[.int .i64 n, .slice none 0 0] 133 :: L) w' → Sat w0 (RefH (ptr p) n [] :: L) w' := fun p w' h => ref_iff.2 ⟨p, .slice none 0 0, rfl, (ls_nil h).f1⟩
  (repeat (first
 | (simp (disch := omega) only [evA, evB, bAdd_i64, bSub_i64, ptr, Nat.zero_add, Bool.not_true, Bool.not_false, Option.isNone_some, Option.isNone_none, Option.isSome_some, Option.isSome_none, decide_true, decide_false, eq_self, true_and, h1, gt_iff_lt, h2])
 | (refine go_some (fb133_0 ..) ?_)
 | ((with_reducible apply go_ld1 h))
 | ((with_reducible apply go_ldA h); (rfl))
 | ((with_reducible apply go_ldN h))
 | ((with_reducible apply go_st h); intro _ h)
 | ((with_reducible apply go_stA h); (rfl); (rfl); (first | rfl | simp); intro _ h)
 | ((with_reducible apply go_stN h); (rfl); (first | rfl | simp); intro _ h)
 | ((with_reducible apply go_box h); rfl; intro _ _ h)
 | ((with_reducible apply go_rd h); (rfl))
 | ((with_reducible apply go_rdN h); (rfl))
 | ((with_reducible apply go_lenL h))
 | ((with_reducible apply go_ix h); (omega))
 | ((with_reducible apply go_elN h); (case hi => omega))
 | ((with_reducible apply go_fa h); (omega); (omega))
 | ((with_reducible apply go_f1 h); (case hi => omega); (case hx => exact inferInstance))
 | ((with_reducible apply go_rf1 h); (case hi => omega); (case hx => exact inferInstance); (case hv => rfl))
 | ((with_reducible apply go_rel h); (case hi => omega); (case hv => rfl))
))

  exact hK _ _ (by omega) (by omega) (close _ _ h)
theorem getM_cons (x : It) (M : List It) (id : Int) : getM id (x :: M) = if x.1 = id then some x.2 else getM id M := by
  unfold getM
  rw [List.find?_cons]
  by_cases e : x.1 = id <;> simp [e]
theorem rget_loop {p : Nat} {sv : Value} {id : Int} (hlen : M.length ≤ 65536) (h : Sat w0 (Cl p #[.int .i64 n, sv] 133 :: LsH cIt 2 135 sv M :: L) w) (hK : K (getR id M) w) :
    ∀ (d i : Nat), M.length - i < d → i ≤ M.length → getM id (M.drop i) = getM id M → F82_2L d (ptr p) (.int .i64 id) (.int .i64 i) w K := by
  intro d
  induction d with
  | zero => intro i hd; omega
  | succ d ih =>
    intro i hd hi hg
    rw [F82_2L]
    unfold F82_2b F82_3 F82_3b
    by_cases g : i < M.length
    · have g' : decide ((i : Int) < (M.length : Int)) = true := by simpa using g
      rw [List.drop_eq_getElem_cons g, getM_cons] at hg
      (repeat (first
 | (simp (disch := omega) only [evA, evB, bAdd_i64, bSub_i64, ptr, Nat.zero_add, Bool.not_true, Bool.not_false, Option.isNone_some, Option.isNone_none, Option.isSome_some, Option.isSome_none, decide_true, decide_false, eq_self, true_and, g'])
 | ((with_reducible apply go_ld1 h))
 | ((with_reducible apply go_ldA h); (rfl))
 | ((with_reducible apply go_ldN h))
 | ((with_reducible apply go_st h); intro _ h)
 | ((with_reducible apply go_stA h); (rfl); (rfl); (first | rfl | simp); intro _ h)
 | ((with_reducible apply go_stN h); (rfl); (first | rfl | simp); intro _ h)
 | ((with_reducible apply go_box h); rfl; intro _ _ h)
 | ((with_reducible apply go_rd h); (rfl))
 | ((with_reducible apply go_rdN h); (rfl))
 | ((with_reducible apply go_lenL h))
 | ((with_reducible apply go_ix h); (omega))
 | ((with_reducible apply go_elN h); (case hi => omega))
 | ((with_reducible apply go_fa h); (omega); (omega))
 | ((with_reducible apply go_f1 h); (case hi => omega); (case hx => exact inferInstance))
 | ((with_reducible apply go_rf1 h); (case hi => omega); (case hx => exact inferInstance); (case hv => rfl))
 | ((with_reducible apply go_rel h); (case hi => omega); (case hv => rfl))
))
      by_cases e : M[i].1 = id
      · have e' : decide (M[i].1 = id) = true := by simpa using e
        rw [if_pos e] at hg
        (repeat (first
 | (simp (disch := omega) only [evA, evB, bAdd_i64, bSub_i64, ptr, Nat.zero_add, Bool.not_true, Bool.not_false, Option.isNone_some, Option.isNone_none, Option.isSome_some, Option.isSome_none, decide_true, decide_false, eq_self, true_and, e'])
 | ((with_reducible apply go_ld1 h))
 | ((with_reducible apply go_ldA h); (rfl))
 | ((with_reducible apply go_ldN h))
 | ((with_reducible apply go_st h); intro _ h)
 | ((with_reducible apply go_stA h); (rfl); (rfl); (first | rfl | simp); intro _ h)
 | ((with_reducible apply go_stN h); (rfl); (first | rfl | simp); intro _ h)
 | ((with_reducible apply go_box h); rfl; intro _ _ h)
 | ((with_reducible apply go_rd h); (rfl))
 | ((with_reducible apply go_rdN h); (rfl))
 | ((with_reducible apply go_lenL h))
 | ((with_reducible apply go_ix h); (omega))
 | ((with_reducible apply go_elN h); (case hi => omega))
 | ((with_reducible apply go_fa h); (omega); (omega))
 | ((with_reducible apply go_f1 h); (case hi => omega); (case hx => exact inferInstance))
 | ((with_reducible apply go_rf1 h); (case hi => omega); (case hx => exact inferInstance); (case hv => rfl))
 | ((with_reducible apply go_rel h); (case hi => omega); (case hv => rfl))
))
        unfold getR at hK
        rw [← hg] at hK
        exact hK
      · have e' : decide (M[i].1 = id) = false := by simpa using e
        rw [if_neg e] at hg
        (repeat (first
 | (simp (disch := omega) only [evA, evB, bAdd_i64, bSub_i64, ptr, Nat.zero_add, Bool.not_true, Bool.not_false, Option.isNone_some, Option.isNone_none, Option.isSome_some, Option.isSome_none, decide_true, decide_false, eq_self, true_and, e'])
 | ((with_reducible apply go_ld1 h))
 | ((with_reducible apply go_ldA h); (rfl))
 | ((with_reducible apply go_ldN h))
 | ((with_reducible apply go_st h); intro _ h)
 | ((with_reducible apply go_stA h); (rfl); (rfl); (first | rfl | simp); intro _ h)
 | ((with_reducible apply go_stN h); (rfl); (first | rfl | simp); intro _ h)
 | ((with_reducible apply go_box h); rfl; intro _ _ h)
 | ((with_reducible apply go_rd h); (rfl))
 | ((with_reducible apply go_rdN h); (rfl))
 | ((with_reducible apply go_lenL h))
 | ((with_reducible apply go_ix h); (omega))
 | ((with_reducible apply go_elN h); (case hi => omega))
 | ((with_reducible apply go_fa h); (omega); (omega))
 | ((with_reducible apply go_f1 h); (case hi => omega); (case hx => exact inferInstance))
 | ((with_reducible apply go_rf1 h); (case hi => omega); (case hx => exact inferInstance); (case hv => rfl))
 | ((with_reducible apply go_rel h); (case hi => omega); (case hv => rfl))
))
        exact ih (i + 1) (by omega) (by omega) hg
    · have g' : decide ((i : Int) < (M.length : Int)) = false := by simpa using g
      rw [List.drop_of_length_le (by omega)] at hg
      (repeat (first
 | (simp (disch := omega) only [evA, evB, bAdd_i64, bSub_i64, ptr, Nat.zero_add, Bool.not_true, Bool.not_false, Option.isNone_some, Option.isNone_none, Option.isSome_some, Option.isSome_none, decide_true, decide_false, eq_self, true_and, g'])
 | ((with_reducible apply go_ld1 h))
 | ((with_reducible apply go_ldA h); (rfl))
 | ((with_reducible apply go_ldN h))
 | ((with_reducible apply go_st h); intro _ h)
 | ((with_reducible apply go_stA h); (rfl); (rfl); (first | rfl | simp); intro _ h)
 | ((with_reducible apply go_stN h); (rfl); (first | rfl | simp); intro _ h)
 | ((with_reducible apply go_box h); rfl; intro _ _ h)
 | ((with_reducible apply go_rd h); (rfl))
 | ((with_reducible apply go_rdN h); (rfl))
 | ((with_reducible apply go_lenL h))
 | ((with_reducible apply go_ix h); (omega))
 | ((with_reducible apply go_elN h); (case hi => omega))
 | ((with_reducible apply go_fa h); (omega); (omega))
 | ((with_reducible apply go_f1 h); (case hi => omega); (case hx => exact inferInstance))
 | ((with_reducible apply go_rf1 h); (case hi => omega); (case hx => exact inferInstance); (case hv => rfl))
 | ((with_reducible apply go_rel h); (case hi => omega); (case hv => rfl))
))
      unfold getR at hK
      rw [← hg] at hK
      exact hK
theorem rget_spec {id : Int} (hlen : M.length ≤ 65536) (h : Sat w0 (RefH v n M :: L) w) (hK : K (getR id M) w) : callP G82 [v, .int .i64 id] w K := by
  refine c82 ?_
  unfold F82 F82_1 F82_1b F82_2
  replace h := ref_iff.1 h
  obtain ⟨p, sv, rfl, h⟩ := h
  exact rget_loop hlen h hK fuel 0 (by unfold fuel; omega) (by omega) rfl
theorem tw_at {α : Type} {q : α → Bool} : ∀ {l : List α} {i : Nat}, (∀ x ∈ l.take i, q x = true) → (∀ x, l[i]? = some x → q x = false) → l.takeWhile q = l.take i ∧ l.dropWhile q = l.drop i
  | [], i, _, _ => by simp
  | x :: l, 0, _, h => by
    have := h x (by simp)
    simp [this]
  | x :: l, i + 1, h, h2 => by
    have h1 := h x (by simp)
    obtain ⟨e1, e2⟩ := tw_at (l := l) (i := i) (fun y hy => h y (by simp [hy])) (fun y hy => h2 y (by simpa using hy))
    simp [h1, e1, e2]
theorem dropM_cons (id : Int) (x : It) (M : List It) : dropM id (x :: M) = if x.1 = id then dropM id M else x :: dropM id M := by
  by_cases e : x.1 = id <;> simp [dropM, e]
theorem drop_some (id : Int) (M : List It) : decide (((dropM id M).length : Int) < (M.length : Int)) = (getM id M).isSome := by
  induction M with
  | nil => simp [dropM, getM]
  | cons x M ih =>
    rw [getM_cons]
    have hle : (dropM id M).length ≤ M.length := List.length_filter_le _ _
    by_cases e : x.1 = id
    · rw [if_pos e]
      have : dropM id (x :: M) = dropM id M := by simp [dropM, e]
      rw [this]; simp; omega
    · rw [if_neg e, ← ih]
      have : dropM id (x :: M) = x :: dropM id M := by simp [dropM, e]
      rw [this, Bool.eq_iff_iff]; simp
theorem fbIt (x : It) : fBuildSl Try.prog 135 1 [(0, .agg (cIt x).toArray)] = some (cIt x).toArray := by
  obtain ⟨a, b⟩ := x
  kernel_rfl
theorem rdrop_loop {p : Nat} {sv : Value} {id : Int} (hlen : M.length ≤ 65536) (hK : ∀ w', Sat w0 (RefH (ptr p) n (dropM id M) :: L) w' → K (.bool (getM id M).isSome) w') :
    ∀ (d i : Nat) (out : List It) (s5 : Value) (w : World), M.length - i < d → i ≤ M.length → out ++ dropM id (M.drop i) = dropM id M → out.length ≤ i → Sat w0 (LsH cIt 2 135 s5 out :: Cl p #[.int .i64 n, sv] 133 :: LsH cIt 2 135 sv M :: L) w →
      F33_2L d (ptr p) (.int .i64 id) s5 (.int .i64 i) w K := by
  intro d
  induction d with
  | zero => intro i out s5 w hd; omega
  | succ d ih =>
    intro i out s5 w hd hi ho hol h
    rw [F33_2L]
    unfold F33_4 F33_4b F33_5 F33_5b F33_3 F33_3b
    by_cases g : i < M.length
    · have g' : decide ((i : Int) < (M.length : Int)) = true := by simpa using g
      rw [List.drop_eq_getElem_cons g] at ho
      (repeat (first
 | (simp (disch := omega) only [evA, evB, bAdd_i64, bSub_i64, ptr, Nat.zero_add, Bool.not_true, Bool.not_false, Option.isNone_some, Option.isNone_none, Option.isSome_some, Option.isSome_none, decide_true, decide_false, eq_self, true_and, g'])
 | ((with_reducible apply go_ld1 h))
 | ((with_reducible apply go_ldA h); (rfl))
 | ((with_reducible apply go_ldN h))
 | ((with_reducible apply go_st h); intro _ h)
 | ((with_reducible apply go_stA h); (rfl); (rfl); (first | rfl | simp); intro _ h)
 | ((with_reducible apply go_stN h); (rfl); (first | rfl | simp); intro _ h)
 | ((with_reducible apply go_box h); rfl; intro _ _ h)
 | ((with_reducible apply go_rd h); (rfl))
 | ((with_reducible apply go_rdN h); (rfl))
 | ((with_reducible apply go_lenL h))
 | ((with_reducible apply go_ix h); (omega))
 | ((with_reducible apply go_elN h); (case hi => omega))
 | ((with_reducible apply go_fa h); (omega); (omega))
 | ((with_reducible apply go_f1 h); (case hi => omega); (case hx => exact inferInstance))
 | ((with_reducible apply go_rf1 h); (case hi => omega); (case hx => exact inferInstance); (case hv => rfl))
 | ((with_reducible apply go_rel h); (case hi => omega); (case hv => rfl))
))
      by_cases e : M[i].1 = id
      · have e' : decide (M[i].1 = id) = true := by simpa using e
        rw [dropM_cons, if_pos e] at ho
        (repeat (first
 | (simp (disch := omega) only [evA, evB, bAdd_i64, bSub_i64, ptr, Nat.zero_add, Bool.not_true, Bool.not_false, Option.isNone_some, Option.isNone_none, Option.isSome_some, Option.isSome_none, decide_true, decide_false, eq_self, true_and, e'])
 | ((with_reducible apply go_ld1 h))
 | ((with_reducible apply go_ldA h); (rfl))
 | ((with_reducible apply go_ldN h))
 | ((with_reducible apply go_st h); intro _ h)
 | ((with_reducible apply go_stA h); (rfl); (rfl); (first | rfl | simp); intro _ h)
 | ((with_reducible apply go_stN h); (rfl); (first | rfl | simp); intro _ h)
 | ((with_reducible apply go_box h); rfl; intro _ _ h)
 | ((with_reducible apply go_rd h); (rfl))
 | ((with_reducible apply go_rdN h); (rfl))
 | ((with_reducible apply go_lenL h))
 | ((with_reducible apply go_ix h); (omega))
 | ((with_reducible apply go_elN h); (case hi => omega))
 | ((with_reducible apply go_fa h); (omega); (omega))
 | ((with_reducible apply go_f1 h); (case hi => omega); (case hx => exact inferInstance))
 | ((with_reducible apply go_rf1 h); (case hi => omega); (case hx => exact inferInstance); (case hv => rfl))
 | ((with_reducible apply go_rel h); (case hi => omega); (case hv => rfl))
))
        exact ih (i + 1) out s5 w (by omega) (by omega) ho (by omega) h
      · have e' : decide (M[i].1 = id) = false := by simpa using e
        rw [dropM_cons, if_neg e] at ho
        (repeat (first
 | (simp (disch := omega) only [evA, evB, bAdd_i64, bSub_i64, ptr, Nat.zero_add, Bool.not_true, Bool.not_false, Option.isNone_some, Option.isNone_none, Option.isSome_some, Option.isSome_none, decide_true, decide_false, eq_self, true_and, e'])
 | ((with_reducible apply go_ld1 h))
 | ((with_reducible apply go_ldA h); (rfl))
 | ((with_reducible apply go_ldN h))
 | ((with_reducible apply go_st h); intro _ h)
 | ((with_reducible apply go_stA h); (rfl); (rfl); (first | rfl | simp); intro _ h)
 | ((with_reducible apply go_stN h); (rfl); (first | rfl | simp); intro _ h)
 | ((with_reducible apply go_box h); rfl; intro _ _ h)
 | ((with_reducible apply go_rd h); (rfl))
 | ((with_reducible apply go_rdN h); (rfl))
 | ((with_reducible apply go_lenL h))
 | ((with_reducible apply go_ix h); (omega))
 | ((with_reducible apply go_elN h); (case hi => omega))
 | ((with_reducible apply go_fa h); (omega); (omega))
 | ((with_reducible apply go_f1 h); (case hi => omega); (case hx => exact inferInstance))
 | ((with_reducible apply go_rf1 h); (case hi => omega); (case hx => exact inferInstance); (case hv => rfl))
 | ((with_reducible apply go_rel h); (case hi => omega); (case hv => rfl))
))
        refine go_lit1 (x := M[i]) CIt h u65 (fbIt _) rfl fun s w h => ?_
        refine ls_app (l := out) (m := [M[i]]) CIt (h.front (by repeat (first | exact .here | apply Fnt.there))) sl65 ss65 (ls_rd h) (by simp; omega) fun s2 w h => ?_
        (repeat (first
 | (simp (disch := omega) only [evA, evB, bAdd_i64, bSub_i64, ptr, Nat.zero_add, Bool.not_true, Bool.not_false, Option.isNone_some, Option.isNone_none, Option.isSome_some, Option.isSome_none, decide_true, decide_false, eq_self, true_and])
 | ((with_reducible apply go_ld1 h))
 | ((with_reducible apply go_ldA h); (rfl))
 | ((with_reducible apply go_ldN h))
 | ((with_reducible apply go_st h); intro _ h)
 | ((with_reducible apply go_stA h); (rfl); (rfl); (first | rfl | simp); intro _ h)
 | ((with_reducible apply go_stN h); (rfl); (first | rfl | simp); intro _ h)
 | ((with_reducible apply go_box h); rfl; intro _ _ h)
 | ((with_reducible apply go_rd h); (rfl))
 | ((with_reducible apply go_rdN h); (rfl))
 | ((with_reducible apply go_lenL h))
 | ((with_reducible apply go_ix h); (omega))
 | ((with_reducible apply go_elN h); (case hi => omega))
 | ((with_reducible apply go_fa h); (omega); (omega))
 | ((with_reducible apply go_f1 h); (case hi => omega); (case hx => exact inferInstance))
 | ((with_reducible apply go_rf1 h); (case hi => omega); (case hx => exact inferInstance); (case hv => rfl))
 | ((with_reducible apply go_rel h); (case hi => omega); (case hv => rfl))
))
        exact ih (i + 1) (out ++ [M[i]]) s2 w (by omega) (by omega) (by simpa using ho) (by simp; omega) (h.get (by (repeat (first | exact .done | (refine .pick (by repeat (first | exact .here | apply Fnt.there)) ?_) | refine .skip ?_))))
    · have g' : decide ((i : Int) < (M.length : Int)) = false := by simpa using g
      have e0 : out = dropM id M := by rw [← ho, List.drop_of_length_le (by omega)]; simp [dropM]
      subst e0
      have := ls_one h
      (repeat (first
 | (simp (disch := omega) only [evA, evB, bAdd_i64, bSub_i64, ptr, Nat.zero_add, Bool.not_true, Bool.not_false, Option.isNone_some, Option.isNone_none, Option.isSome_some, Option.isSome_none, decide_true, decide_false, eq_self, true_and, g', drop_some])
 | ((with_reducible apply go_ld1 h))
 | ((with_reducible apply go_ldA h); (rfl))
 | ((with_reducible apply go_ldN h))
 | ((with_reducible apply go_st h); intro _ h)
 | ((with_reducible apply go_stA h); (rfl); (rfl); (first | rfl | simp); intro _ h)
 | ((with_reducible apply go_stN h); (rfl); (first | rfl | simp); intro _ h)
 | ((with_reducible apply go_box h); rfl; intro _ _ h)
 | ((with_reducible apply go_rd h); (rfl))
 | ((with_reducible apply go_rdN h); (rfl))
 | ((with_reducible apply go_lenL h))
 | ((with_reducible apply go_ix h); (omega))
 | ((with_reducible apply go_elN h); (case hi => omega))
 | ((with_reducible apply go_fa h); (omega); (omega))
 | ((with_reducible apply go_f1 h); (case hi => omega); (case hx => exact inferInstance))
 | ((with_reducible apply go_rf1 h); (case hi => omega); (case hx => exact inferInstance); (case hv => rfl))
 | ((with_reducible apply go_rel h); (case hi => omega); (case hv => rfl))
))
      exact hK _ (ref_iff.2 ⟨p, s5, rfl, h.get (by (repeat (first | exact .done | (refine .pick (by repeat (first | exact .here | apply Fnt.there)) ?_) | refine .skip ?_)))⟩)
theorem rdrop_spec {id : Int} (hlen : M.length ≤ 65536) (h : Sat w0 (RefH v n M :: L) w) (hK : ∀ w', Sat w0 (RefH v n (dropM id M) :: L) w' → K (.bool (getM id M).isSome) w') : callP G33 [v, .int .i64 id] w K := by
  refine c33 ?_
  unfold F33 F33_1 F33_1b F33_2
  replace h := ref_iff.1 h
  obtain ⟨p, sv, rfl, h⟩ := h
  exact rdrop_loop hlen hK fuel 0 [] (.slice none 0 0) w (by unfold fuel; omega) (by omega) rfl (by simp) (ls_nil h)
theorem rfirst_spec (h : Sat w0 (RefH v n M :: L) w) (hK : ∀ w', Sat w0 (RefH v n M :: L) w' → K (firstR M) w') : callP G86 [v] w K := by
  refine c86 ?_
  unfold F86
  replace h := ref_iff.1 h
  obtain ⟨p, sv, rfl, h⟩ := h
  (repeat (first
 | (simp (disch := omega) only [evA, evB, bAdd_i64, bSub_i64, ptr, Nat.zero_add, Bool.not_true, Bool.not_false, Option.isNone_some, Option.isNone_none, Option.isSome_some, Option.isSome_none, decide_true, decide_false, eq_self, true_and])
 | ((with_reducible apply go_ld1 h))
 | ((with_reducible apply go_ldA h); (rfl))
 | ((with_reducible apply go_ldN h))
 | ((with_reducible apply go_st h); intro _ h)
 | ((with_reducible apply go_stA h); (rfl); (rfl); (first | rfl | simp); intro _ h)
 | ((with_reducible apply go_stN h); (rfl); (first | rfl | simp); intro _ h)
 | ((with_reducible apply go_box h); rfl; intro _ _ h)
 | ((with_reducible apply go_alloc h); (first | exact z135); rfl; intro _ _ h)
 | ((with_reducible apply go_rd h); (rfl))
 | ((with_reducible apply go_rdN h); (rfl))
 | ((with_reducible apply go_lenL h))
 | ((with_reducible apply go_ix h); (omega))
 | ((with_reducible apply go_elN h); (case hi => omega))
 | ((with_reducible apply go_fa h); (omega); (omega))
 | ((with_reducible apply go_f1 h); (case hi => omega); (case hx => exact inferInstance))
 | ((with_reducible apply go_rf1 h); (case hi => omega); (case hx => exact inferInstance); (case hv => rfl))
 | ((with_reducible apply go_rel h); (case hi => omega); (case hv => rfl))
))
  cases M with
  | nil =>
    (repeat (first
 | (simp (disch := omega) only [evA, evB, bAdd_i64, bSub_i64, ptr, Nat.zero_add, Bool.not_true, Bool.not_false, Option.isNone_some, Option.isNone_none, Option.isSome_some, Option.isSome_none, decide_true, decide_false, eq_self, true_and, List.length_nil])
 | (refine go_some (fb135 ..) ?_)
 | ((with_reducible apply go_ld1 h))
 | ((with_reducible apply go_ldA h); (rfl))
 | ((with_reducible apply go_ldN h))
 | ((with_reducible apply go_st h); intro _ h)
 | ((with_reducible apply go_stA h); (rfl); (rfl); (first | rfl | simp); intro _ h)
 | ((with_reducible apply go_stN h); (rfl); (first | rfl | simp); intro _ h)
 | ((with_reducible apply go_box h); rfl; intro _ _ h)
 | ((with_reducible apply go_rd h); (rfl))
 | ((with_reducible apply go_rdN h); (rfl))
 | ((with_reducible apply go_lenL h))
 | ((with_reducible apply go_ix h); (omega))
 | ((with_reducible apply go_elN h); (case hi => omega))
 | ((with_reducible apply go_fa h); (omega); (omega))
 | ((with_reducible apply go_f1 h); (case hi => omega); (case hx => exact inferInstance))
 | ((with_reducible apply go_rf1 h); (case hi => omega); (case hx => exact inferInstance); (case hv => rfl))
 | ((with_reducible apply go_rel h); (case hi => omega); (case hv => rfl))
))
    exact hK _ (ref_iff.2 ⟨p, sv, rfl, h.get (by (repeat (first | exact .done | (refine .pick (by repeat (first | exact .here | apply Fnt.there)) ?_) | refine .skip ?_)))⟩)
  | cons x M =>
    have e : decide (((x :: M).length : Int) = 0) = false := by simp; omega
    have hix : pIndexL 2 sv (.int .i64 0) = some (elP 2 sv 0) := ls_ix (i := 0) (l := x :: M) (h.front (by repeat (first | exact .here | apply Fnt.there))) (by simp)
    have hld : ldN 2 (elP 2 sv 0) _ = some (.agg (cIt x).toArray) := ls_ld (i := 0) (l := x :: M) CIt (h.front (by repeat (first | exact .here | apply Fnt.there))) (by simp)
    (repeat (first
 | (simp (disch := omega) only [evA, evB, bAdd_i64, bSub_i64, ptr, Nat.zero_add, Bool.not_true, Bool.not_false, Option.isNone_some, Option.isNone_none, Option.isSome_some, Option.isSome_none, decide_true, decide_false, eq_self, true_and, e, hix, hld])
 | ((with_reducible apply go_ld1 h))
 | ((with_reducible apply go_ldA h); (rfl))
 | ((with_reducible apply go_ldN h))
 | ((with_reducible apply go_st h); intro _ h)
 | ((with_reducible apply go_stA h); (rfl); (rfl); (first | rfl | simp); intro _ h)
 | ((with_reducible apply go_stN h); (rfl); (first | rfl | simp); intro _ h)
 | ((with_reducible apply go_box h); rfl; intro _ _ h)
 | ((with_reducible apply go_rd h); (rfl))
 | ((with_reducible apply go_rdN h); (rfl))
 | ((with_reducible apply go_lenL h))
 | ((with_reducible apply go_ix h); (omega))
 | ((with_reducible apply go_elN h); (case hi => omega))
 | ((with_reducible apply go_fa h); (omega); (omega))
 | ((with_reducible apply go_f1 h); (case hi => omega); (case hx => exact inferInstance))
 | ((with_reducible apply go_rf1 h); (case hi => omega); (case hx => exact inferInstance); (case hv => rfl))
 | ((with_reducible apply go_rel h); (case hi => omega); (case hv => rfl))
))
    exact hK _ (ref_iff.2 ⟨p, sv, rfl, h.get (by (repeat (first | exact .done | (refine .pick (by repeat (first | exact .here | apply Fnt.there)) ?_) | refine .skip ?_)))⟩)
theorem rdue_loop {p : Nat} {sv : Value} {now : Int} (hlen : M.length ≤ 65536) (h : Sat w0 (Cl p #[.int .i64 n, sv] 133 :: LsH cIt 2 135 sv M :: L) w)
    (hK : ∀ s w', Sat w0 (LsH cIt 2 135 s (takeM now M) :: RefH (ptr p) n (leaveM now M) :: L) w' → K s w') :
    ∀ (d i : Nat), M.length - i < d → i ≤ M.length → (∀ x ∈ M.take i, decide (x.2 ≤ now) = true) → F36_2L d (ptr p) (.int .i64 now) (.int .i64 i) w K := by
  intro d
  induction d with
  | zero => intro i hd; omega
  | succ d ih =>
    intro i hd hi ha
    rw [F36_2L]
    unfold F36_2b F36_3 F36_3b
    have fin : (∀ x, M[i]? = some x → decide (x.2 ≤ now) = false) → F36_3 (ptr p) (.int .i64 i) w K := by
      intro hx
      obtain ⟨e1, e2⟩ := tw_at (q := fun x : It => decide (x.2 ≤ now)) ha hx
      unfold F36_3 F36_3b
      have hh := h
      refine go_lit0 CIt h u65 (by kernel_rfl) fun s w h => ?_
      (repeat (first
 | (simp (disch := omega) only [evA, evB, bAdd_i64, bSub_i64, ptr, Nat.zero_add, Bool.not_true, Bool.not_false, Option.isNone_some, Option.isNone_none, Option.isSome_some, Option.isSome_none, decide_true, decide_false, eq_self, true_and])
 | ((with_reducible apply go_ld1 h))
 | ((with_reducible apply go_ldA h); (rfl))
 | ((with_reducible apply go_ldN h))
 | ((with_reducible apply go_st h); intro _ h)
 | ((with_reducible apply go_stA h); (rfl); (rfl); (first | rfl | simp); intro _ h)
 | ((with_reducible apply go_stN h); (rfl); (first | rfl | simp); intro _ h)
 | ((with_reducible apply go_box h); rfl; intro _ _ h)
 | ((with_reducible apply go_rd h); (rfl))
 | ((with_reducible apply go_rdN h); (rfl))
 | ((with_reducible apply go_lenL h))
 | ((with_reducible apply go_ix h); (omega))
 | ((with_reducible apply go_elN h); (case hi => omega))
 | ((with_reducible apply go_fa h); (omega); (omega))
 | ((with_reducible apply go_f1 h); (case hi => omega); (case hx => exact inferInstance))
 | ((with_reducible apply go_rf1 h); (case hi => omega); (case hx => exact inferInstance); (case hv => rfl))
 | ((with_reducible apply go_rel h); (case hi => omega); (case hv => rfl))
))
      refine go_subTo h (by omega) fun v' hr => ?_
      refine ls_app (l := []) (m := M.take i) CIt (h.front (by repeat (first | exact .here | apply Fnt.there))) sl65 ss65 hr (by simp; omega) fun s2 w h => ?_
      refine go_lit0 CIt h u65 (by kernel_rfl) fun s3 w h => ?_
      (repeat (first
 | (simp (disch := omega) only [evA, evB, bAdd_i64, bSub_i64, ptr, Nat.zero_add, Bool.not_true, Bool.not_false, Option.isNone_some, Option.isNone_none, Option.isSome_some, Option.isSome_none, decide_true, decide_false, eq_self, true_and])
 | ((with_reducible apply go_ld1 h))
 | ((with_reducible apply go_ldA h); (rfl))
 | ((with_reducible apply go_ldN h))
 | ((with_reducible apply go_st h); intro _ h)
 | ((with_reducible apply go_stA h); (rfl); (rfl); (first | rfl | simp); intro _ h)
 | ((with_reducible apply go_stN h); (rfl); (first | rfl | simp); intro _ h)
 | ((with_reducible apply go_box h); rfl; intro _ _ h)
 | ((with_reducible apply go_rd h); (rfl))
 | ((with_reducible apply go_rdN h); (rfl))
 | ((with_reducible apply go_lenL h))
 | ((with_reducible apply go_ix h); (omega))
 | ((with_reducible apply go_elN h); (case hi => omega))
 | ((with_reducible apply go_fa h); (omega); (omega))
 | ((with_reducible apply go_f1 h); (case hi => omega); (case hx => exact inferInstance))
 | ((with_reducible apply go_rf1 h); (case hi => omega); (case hx => exact inferInstance); (case hv => rfl))
 | ((with_reducible apply go_rel h); (case hi => omega); (case hv => rfl))
))
      refine go_subFrom h (by omega) fun v' hr => ?_
      refine ls_app (l := []) (m := M.drop i) CIt (h.front (by repeat (first | exact .here | apply Fnt.there))) sl65 ss65 hr (by simp; omega) fun s4 w h => ?_
      have := ls_one h
      (repeat (first
 | (simp (disch := omega) only [evA, evB, bAdd_i64, bSub_i64, ptr, Nat.zero_add, Bool.not_true, Bool.not_false, Option.isNone_some, Option.isNone_none, Option.isSome_some, Option.isSome_none, decide_true, decide_false, eq_self, true_and])
 | ((with_reducible apply go_ld1 h))
 | ((with_reducible apply go_ldA h); (rfl))
 | ((with_reducible apply go_ldN h))
 | ((with_reducible apply go_st h); intro _ h)
 | ((with_reducible apply go_stA h); (rfl); (rfl); (first | rfl | simp); intro _ h)
 | ((with_reducible apply go_stN h); (rfl); (first | rfl | simp); intro _ h)
 | ((with_reducible apply go_box h); rfl; intro _ _ h)
 | ((with_reducible apply go_rd h); (rfl))
 | ((with_reducible apply go_rdN h); (rfl))
 | ((with_reducible apply go_lenL h))
 | ((with_reducible apply go_ix h); (omega))
 | ((with_reducible apply go_elN h); (case hi => omega))
 | ((with_reducible apply go_fa h); (omega); (omega))
 | ((with_reducible apply go_f1 h); (case hi => omega); (case hx => exact inferInstance))
 | ((with_reducible apply go_rf1 h); (case hi => omega); (case hx => exact inferInstance); (case hv => rfl))
 | ((with_reducible apply go_rel h); (case hi => omega); (case hv => rfl))
))
      rw [List.nil_append] at h
      refine hK s2 _ (Sat.f1 (ref_iff.2 ⟨p, s4, rfl, ?_⟩))
      have e3 : leaveM now M = M.drop i := e2
      have e4 : takeM now M = M.take i := e1
      rw [e3, e4]
      exact h.get (by (repeat (first | exact .done | (refine .pick (by repeat (first | exact .here | apply Fnt.there)) ?_) | refine .skip ?_)))
    by_cases g : i < M.length
    · have g' : decide ((i : Int) < (M.length : Int)) = true := by simpa using g
      by_cases e : M[i].2 ≤ now
      · have e' : decide (M[i].2 ≤ now) = true := by simpa using e
        (repeat (first
 | (simp (disch := omega) only [evA, evB, bAdd_i64, bSub_i64, ptr, Nat.zero_add, Bool.not_true, Bool.not_false, Option.isNone_some, Option.isNone_none, Option.isSome_some, Option.isSome_none, decide_true, decide_false, eq_self, true_and, g', e'])
 | ((with_reducible apply go_ld1 h))
 | ((with_reducible apply go_ldA h); (rfl))
 | ((with_reducible apply go_ldN h))
 | ((with_reducible apply go_st h); intro _ h)
 | ((with_reducible apply go_stA h); (rfl); (rfl); (first | rfl | simp); intro _ h)
 | ((with_reducible apply go_stN h); (rfl); (first | rfl | simp); intro _ h)
 | ((with_reducible apply go_box h); rfl; intro _ _ h)
 | ((with_reducible apply go_rd h); (rfl))
 | ((with_reducible apply go_rdN h); (rfl))
 | ((with_reducible apply go_lenL h))
 | ((with_reducible apply go_ix h); (omega))
 | ((with_reducible apply go_elN h); (case hi => omega))
 | ((with_reducible apply go_fa h); (omega); (omega))
 | ((with_reducible apply go_f1 h); (case hi => omega); (case hx => exact inferInstance))
 | ((with_reducible apply go_rf1 h); (case hi => omega); (case hx => exact inferInstance); (case hv => rfl))
 | ((with_reducible apply go_rel h); (case hi => omega); (case hv => rfl))
))
        refine ih (i + 1) (by omega) (by omega) fun x hx => ?_
        rw [List.take_succ_eq_append_getElem g] at hx
        rcases List.mem_append.1 hx with hx | hx
        · exact ha x hx
        · simp at hx; subst hx; exact e'
      · have e' : decide (M[i].2 ≤ now) = false := by simpa using e
        (repeat (first
 | (simp (disch := omega) only [evA, evB, bAdd_i64, bSub_i64, ptr, Nat.zero_add, Bool.not_true, Bool.not_false, Option.isNone_some, Option.isNone_none, Option.isSome_some, Option.isSome_none, decide_true, decide_false, eq_self, true_and, g', e'])
 | ((with_reducible apply go_ld1 h))
 | ((with_reducible apply go_ldA h); (rfl))
 | ((with_reducible apply go_ldN h))
 | ((with_reducible apply go_st h); intro _ h)
 | ((with_reducible apply go_stA h); (rfl); (rfl); (first | rfl | simp); intro _ h)
 | ((with_reducible apply go_stN h); (rfl); (first | rfl | simp); intro _ h)
 | ((with_reducible apply go_box h); rfl; intro _ _ h)
 | ((with_reducible apply go_rd h); (rfl))
 | ((with_reducible apply go_rdN h); (rfl))
 | ((with_reducible apply go_lenL h))
 | ((with_reducible apply go_ix h); (omega))
 | ((with_reducible apply go_elN h); (case hi => omega))
 | ((with_reducible apply go_fa h); (omega); (omega))
 | ((with_reducible apply go_f1 h); (case hi => omega); (case hx => exact inferInstance))
 | ((with_reducible apply go_rf1 h); (case hi => omega); (case hx => exact inferInstance); (case hv => rfl))
 | ((with_reducible apply go_rel h); (case hi => omega); (case hv => rfl))
))
        refine fin fun x hx => ?_
        rw [List.getElem?_eq_getElem g] at hx
        cases hx; exact e'
    · have g' : decide ((i : Int) < (M.length : Int)) = false := by simpa using g
      (repeat (first
 | (simp (disch := omega) only [evA, evB, bAdd_i64, bSub_i64, ptr, Nat.zero_add, Bool.not_true, Bool.not_false, Option.isNone_some, Option.isNone_none, Option.isSome_some, Option.isSome_none, decide_true, decide_false, eq_self, true_and, g'])
 | ((with_reducible apply go_ld1 h))
 | ((with_reducible apply go_ldA h); (rfl))
 | ((with_reducible apply go_ldN h))
 | ((with_reducible apply go_st h); intro _ h)
 | ((with_reducible apply go_stA h); (rfl); (rfl); (first | rfl | simp); intro _ h)
 | ((with_reducible apply go_stN h); (rfl); (first | rfl | simp); intro _ h)
 | ((with_reducible apply go_box h); rfl; intro _ _ h)
 | ((with_reducible apply go_rd h); (rfl))
 | ((with_reducible apply go_rdN h); (rfl))
 | ((with_reducible apply go_lenL h))
 | ((with_reducible apply go_ix h); (omega))
 | ((with_reducible apply go_elN h); (case hi => omega))
 | ((with_reducible apply go_fa h); (omega); (omega))
 | ((with_reducible apply go_f1 h); (case hi => omega); (case hx => exact inferInstance))
 | ((with_reducible apply go_rf1 h); (case hi => omega); (case hx => exact inferInstance); (case hv => rfl))
 | ((with_reducible apply go_rel h); (case hi => omega); (case hv => rfl))
))
      refine fin fun x hx => ?_
      rw [List.getElem?_eq_none (by omega)] at hx; cases hx
theorem rdue_spec {now : Int} (hlen : M.length ≤ 65536) (h : Sat w0 (RefH v n M :: L) w) (hK : ∀ s w', Sat w0 (LsH cIt 2 135 s (takeM now M) :: RefH v n (leaveM now M) :: L) w' → K s w') : callP G36 [v, .int .i64 now] w K := by
  refine c36 ?_
  unfold F36 F36_1 F36_1b F36_2
  replace h := ref_iff.1 h
  obtain ⟨p, sv, rfl, h⟩ := h
  exact rdue_loop hlen h hK fuel 0 (by unfold fuel; omega) (by omega) (by simp)
end
end Go.Proofs.Gong

/- Nm0 -/
namespace Go.Proofs.Gong
open Go Go.Sx
/-! UTF-8, plainly: as the program reads it, and as the document has it -/
def longP (b : Nat) : Nat × Nat := if b < 128 then (1, b) else if b / 32 = 6 then (2, b % 32) else if b / 16 = 14 then (3, b % 16) else if b / 8 = 30 then (4, b % 8) else (0, 0)
def leastP (n : Nat) : Nat := if n = 2 then 128 else if n = 3 then 2048 else if n = 4 then 65536 else 0
def isC (c : Nat) : Bool := decide (c ≤ 1114111) && (decide (c < 55296) || decide (57343 < c))
def contP : Nat → Nat → List UInt8 → Option Nat
  | 0, c, _ => some c
  | _ + 1, _, [] => none
  | k + 1, c, b :: s => if b.toNat / 64 = 2 then contP k (c * 64 + b.toNat % 64) s else none
def firstP : List UInt8 → Option (Nat × Nat)
  | [] => none
  | b :: s => if (longP b.toNat).1 = 0 ∨ s.length + 1 < (longP b.toNat).1 then none else
    match contP ((longP b.toNat).1 - 1) (longP b.toNat).2 s with
    | none => none
    | some c => if isC c = true ∧ leastP (longP b.toNat).1 ≤ c then some (c, (longP b.toNat).1) else none
def madeP (c : Nat) : List UInt8 :=
  if c < 128 then [UInt8.ofNat c] else if c < 2048 then [UInt8.ofNat (192 + c / 64), UInt8.ofNat (128 + c % 64)] else
  if c < 65536 then [UInt8.ofNat (224 + c / 4096), UInt8.ofNat (128 + c / 64 % 64), UInt8.ofNat (128 + c % 64)] else
  [UInt8.ofNat (240 + c / 262144), UInt8.ofNat (128 + c / 4096 % 64), UInt8.ofNat (128 + c / 64 % 64), UInt8.ofNat (128 + c % 64)]
def foldP (c : Nat) (l : List UInt8) : Nat := l.foldl (fun c b => c * 64 + b.toNat % 64) c
def guessP (s : List UInt8) (n : Nat) : Nat := match s with
  | [] => 0
  | b :: t => if n = 1 then b.toNat else foldP (if n = 2 then b.toNat % 32 else if n = 3 then b.toNat % 16 else b.toNat % 8) (t.take (n - 1))
def hitP (s : List UInt8) (n : Nat) : Bool := isC (guessP s n) && decide (madeP (guessP s n) = s.take n)
def refP (s : List UInt8) : Nat → Nat → Option (Nat × Nat)
  | 0, _ => none
  | k + 1, n => if n ≤ s.length then if hitP s n = true then some (guessP s n, n) else refP s k (n + 1) else none
theorem u8eq {x : Nat} {b : UInt8} : UInt8.ofNat x = b ↔ x % 256 = b.toNat := by
  rw [← UInt8.toNat_inj]; simp
theorem isC_iff (x : Nat) : isC x = true ↔ x ≤ 1114111 ∧ (x < 55296 ∨ 57343 < x) := by simp [isC]
theorem made1 {x : Nat} (h : x < 128) : madeP x = [UInt8.ofNat x] := by unfold madeP; rw [if_pos h]
theorem made2 {x : Nat} (h1 : ¬ x < 128) (h2 : x < 2048) : madeP x = [UInt8.ofNat (192 + x / 64), UInt8.ofNat (128 + x % 64)] := by unfold madeP; rw [if_neg h1, if_pos h2]
theorem made3 {x : Nat} (h1 : ¬ x < 128) (h2 : ¬ x < 2048) (h3 : x < 65536) : madeP x = [UInt8.ofNat (224 + x / 4096), UInt8.ofNat (128 + x / 64 % 64), UInt8.ofNat (128 + x % 64)] := by unfold madeP; rw [if_neg h1, if_neg h2, if_pos h3]
theorem made4 {x : Nat} (h1 : ¬ x < 128) (h2 : ¬ x < 2048) (h3 : ¬ x < 65536) : madeP x = [UInt8.ofNat (240 + x / 262144), UInt8.ofNat (128 + x / 4096 % 64), UInt8.ofNat (128 + x / 64 % 64), UInt8.ofNat (128 + x % 64)] := by unfold madeP; rw [if_neg h1, if_neg h2, if_neg h3]
theorem hit1 (a : UInt8) (t : List UInt8) : hitP (a :: t) 1 = true ↔ a.toNat < 128 := by
  have := a.toNat_lt
  have hg : guessP (a :: t) 1 = a.toNat := rfl
  rw [hitP, hg, Bool.and_eq_true, decide_eq_true_eq, isC_iff, List.take_succ_cons, List.take_zero]
  by_cases h : a.toNat < 128
  · rw [made1 h]; simp only [List.cons.injEq, u8eq, and_true]; omega
  · rw [made2 h (by omega)]; simp only [List.cons.injEq, reduceCtorEq, and_false, false_iff]; exact h
theorem hit2 (a b : UInt8) (t : List UInt8) : hitP (a :: b :: t) 2 = true ↔ a.toNat / 32 = 6 ∧ b.toNat / 64 = 2 ∧ 128 ≤ a.toNat % 32 * 64 + b.toNat % 64 := by
  have := a.toNat_lt
  have := b.toNat_lt
  have hg : guessP (a :: b :: t) 2 = a.toNat % 32 * 64 + b.toNat % 64 := rfl
  rw [hitP, hg, Bool.and_eq_true, decide_eq_true_eq, isC_iff, List.take_succ_cons, List.take_succ_cons, List.take_zero]
  generalize hx : a.toNat % 32 * 64 + b.toNat % 64 = x
  by_cases h1 : x < 128
  · rw [made1 h1]; simp only [List.cons.injEq, reduceCtorEq, and_false, false_iff]; omega
  · rw [made2 h1 (by omega)]; simp only [List.cons.injEq, u8eq, and_true]; omega
theorem hit3 (a b c : UInt8) (t : List UInt8) : hitP (a :: b :: c :: t) 3 = true ↔ a.toNat / 16 = 14 ∧ b.toNat / 64 = 2 ∧ c.toNat / 64 = 2 ∧ isC ((a.toNat % 16 * 64 + b.toNat % 64) * 64 + c.toNat % 64) = true ∧ 2048 ≤ (a.toNat % 16 * 64 + b.toNat % 64) * 64 + c.toNat % 64 := by
  have := a.toNat_lt
  have := b.toNat_lt
  have := c.toNat_lt
  have hg : guessP (a :: b :: c :: t) 3 = (a.toNat % 16 * 64 + b.toNat % 64) * 64 + c.toNat % 64 := rfl
  rw [hitP, hg, Bool.and_eq_true, decide_eq_true_eq, isC_iff, List.take_succ_cons, List.take_succ_cons, List.take_succ_cons, List.take_zero]
  generalize hx : (a.toNat % 16 * 64 + b.toNat % 64) * 64 + c.toNat % 64 = x
  by_cases h1 : x < 128
  · rw [made1 h1]; simp only [List.cons.injEq, reduceCtorEq, and_false, false_iff]; omega
  · by_cases h2 : x < 2048
    · rw [made2 h1 h2]; simp only [List.cons.injEq, reduceCtorEq, and_false, false_iff]; omega
    · rw [made3 h1 h2 (by omega)]; simp only [List.cons.injEq, u8eq, and_true]; omega
theorem hit4 (a b c d : UInt8) (t : List UInt8) : hitP (a :: b :: c :: d :: t) 4 = true ↔ a.toNat / 8 = 30 ∧ b.toNat / 64 = 2 ∧ c.toNat / 64 = 2 ∧ d.toNat / 64 = 2 ∧ isC (((a.toNat % 8 * 64 + b.toNat % 64) * 64 + c.toNat % 64) * 64 + d.toNat % 64) = true ∧ 65536 ≤ ((a.toNat % 8 * 64 + b.toNat % 64) * 64 + c.toNat % 64) * 64 + d.toNat % 64 := by
  have := a.toNat_lt
  have := b.toNat_lt
  have := c.toNat_lt
  have := d.toNat_lt
  have hg : guessP (a :: b :: c :: d :: t) 4 = ((a.toNat % 8 * 64 + b.toNat % 64) * 64 + c.toNat % 64) * 64 + d.toNat % 64 := rfl
  rw [hitP, hg, Bool.and_eq_true, decide_eq_true_eq, isC_iff, List.take_succ_cons, List.take_succ_cons, List.take_succ_cons, List.take_succ_cons, List.take_zero]
  generalize hx : ((a.toNat % 8 * 64 + b.toNat % 64) * 64 + c.toNat % 64) * 64 + d.toNat % 64 = x
  by_cases h1 : x < 128
  · rw [made1 h1]; simp only [List.cons.injEq, reduceCtorEq, and_false, false_iff]; omega
  · by_cases h2 : x < 2048
    · rw [made2 h1 h2]; simp only [List.cons.injEq, reduceCtorEq, and_false, false_iff]; omega
    · by_cases h3 : x < 65536
      · rw [made3 h1 h2 h3]; simp only [List.cons.injEq, reduceCtorEq, and_false, false_iff]; omega
      · rw [made4 h1 h2 h3]; simp only [List.cons.injEq, u8eq, and_true]; omega
theorem refP_step {s : List UInt8} {k n : Nat} (h : n ≤ s.length) : refP s (k + 1) n = if hitP s n = true then some (guessP s n, n) else refP s k (n + 1) := by rw [refP, if_pos h]
theorem refP_end {s : List UInt8} {k n : Nat} (h : s.length < n) : refP s k n = none := by
  cases k with
  | zero => rfl
  | succ k => rw [refP, if_neg (by omega)]
theorem first_of {b : UInt8} {s : List UInt8} {n c0 : Nat} (hl : longP b.toNat = (n, c0)) (hn : n ≠ 0) : firstP (b :: s) = if s.length + 1 < n then none else match contP (n - 1) c0 s with
    | none => none
    | some c => if isC c = true ∧ leastP n ≤ c then some (c, n) else none := by
  rw [firstP, hl]
  simp only
  by_cases h : s.length + 1 < n
  · rw [if_pos (.inr h), if_pos h]
  · rw [if_neg (by rintro (h' | h') <;> omega), if_neg h]
theorem ref_skip {s : List UInt8} {k n : Nat} (h : n ≤ s.length → ¬ hitP s n = true) : refP s (k + 1) n = refP s k (n + 1) := by
  by_cases hl : n ≤ s.length
  · rw [refP_step hl, if_neg (h hl)]
  · rw [refP_end (by omega), refP_end (by omega)]
theorem miss2 {a : UInt8} {t : List UInt8} (h : a.toNat / 32 ≠ 6) (hl : 2 ≤ (a :: t).length) : ¬ hitP (a :: t) 2 = true := by
  match t, hl with
  | b :: t, _ => rw [hit2]; omega
theorem miss3 {a : UInt8} {t : List UInt8} (h : a.toNat / 16 ≠ 14) (hl : 3 ≤ (a :: t).length) : ¬ hitP (a :: t) 3 = true := by
  match t, hl with
  | b :: c :: t, _ => rw [hit3]; exact fun x => h x.1
theorem miss4 {a : UInt8} {t : List UInt8} (h : a.toNat / 8 ≠ 30) (hl : 4 ≤ (a :: t).length) : ¬ hitP (a :: t) 4 = true := by
  match t, hl with
  | b :: c :: d :: t, _ => rw [hit4]; exact fun x => h x.1
theorem refP_first (s : List UInt8) : refP s 4 1 = firstP s := by
  cases s with
  | nil => rfl
  | cons a t =>
    have ha := a.toNat_lt
    by_cases h1 : a.toNat < 128
    · rw [refP_step (by simp), if_pos ((hit1 a t).2 h1), first_of (n := 1) (c0 := a.toNat) (by simp [longP, h1]) (by omega), if_neg (by omega)]
      have : isC a.toNat = true := by rw [isC_iff]; omega
      simp [contP, this, leastP, guessP]
    · rw [ref_skip (fun _ => by rw [hit1]; exact h1)]
      by_cases h2 : a.toNat / 32 = 6
      · rw [first_of (n := 2) (c0 := a.toNat % 32) (by simp [longP, h1, h2]) (by omega)]
        cases t with
        | nil => rw [refP_end (by simp)]; simp
        | cons b t =>
          rw [if_neg (by simp)]
          have hb := b.toNat_lt
          by_cases hb2 : b.toNat / 64 = 2
          · simp only [contP, hb2, if_true, show (2 - 1 : Nat) = 0 + 1 from rfl]
            by_cases hc : 128 ≤ a.toNat % 32 * 64 + b.toNat % 64
            · rw [refP_step (by simp), if_pos ((hit2 a b t).2 ⟨h2, hb2, hc⟩), if_pos ⟨by rw [isC_iff]; omega, by simpa [leastP] using hc⟩]
              rfl
            · rw [ref_skip (fun _ => by rw [hit2]; omega), ref_skip (fun h => miss3 (by omega) h), ref_skip (fun h => miss4 (by omega) h), if_neg (by rintro ⟨_, h⟩; apply hc; simpa [leastP] using h)]
              rfl
          · rw [ref_skip (fun _ => by rw [hit2]; omega), ref_skip (fun h => miss3 (by omega) h), ref_skip (fun h => miss4 (by omega) h)]
            simp [contP, hb2, refP]
      · rw [ref_skip (fun h => miss2 h2 h)]
        by_cases h3 : a.toNat / 16 = 14
        · rw [first_of (n := 3) (c0 := a.toNat % 16) (by simp [longP, h1, h2, h3]) (by omega)]
          match t with
          | [] => rw [refP_end (by simp)]; simp
          | [b] => rw [refP_end (by simp)]; simp
          | b :: c :: t =>
            rw [if_neg (by simp)]
            have hb := b.toNat_lt
            have hc := c.toNat_lt
            by_cases hb2 : b.toNat / 64 = 2
            · by_cases hc2 : c.toNat / 64 = 2
              · simp only [contP, hb2, hc2, if_true, show (3 - 1 : Nat) = 0 + 1 + 1 from rfl]
                by_cases hk : isC ((a.toNat % 16 * 64 + b.toNat % 64) * 64 + c.toNat % 64) = true ∧ 2048 ≤ (a.toNat % 16 * 64 + b.toNat % 64) * 64 + c.toNat % 64
                · rw [refP_step (by simp), if_pos ((hit3 a b c t).2 ⟨h3, hb2, hc2, hk⟩), if_pos ⟨hk.1, by simpa [leastP] using hk.2⟩]
                  rfl
                · rw [ref_skip (fun _ => by rw [hit3]; exact fun x => hk ⟨x.2.2.2.1, x.2.2.2.2⟩), ref_skip (fun h => miss4 (by omega) h), if_neg (by rintro ⟨g, h⟩; apply hk; exact ⟨g, by simpa [leastP] using h⟩)]
                  rfl
              · rw [ref_skip (fun _ => by rw [hit3]; exact fun x => hc2 x.2.2.1), ref_skip (fun h => miss4 (by omega) h)]
                simp [contP, hb2, hc2, refP]
            · rw [ref_skip (fun _ => by rw [hit3]; exact fun x => hb2 x.2.1), ref_skip (fun h => miss4 (by omega) h)]
              simp [contP, hb2, refP]
        · rw [ref_skip (fun h => miss3 h3 h)]
          by_cases h4 : a.toNat / 8 = 30
          · rw [first_of (n := 4) (c0 := a.toNat % 8) (by simp [longP, h1, h2, h3, h4]) (by omega)]
            match t with
            | [] => rw [refP_end (by simp)]; simp
            | [b] => rw [refP_end (by simp)]; simp
            | [b, c] => rw [refP_end (by simp)]; simp
            | b :: c :: d :: t =>
              rw [if_neg (by simp)]
              by_cases hb2 : b.toNat / 64 = 2
              · by_cases hc2 : c.toNat / 64 = 2
                · by_cases hd2 : d.toNat / 64 = 2
                  · simp only [contP, hb2, hc2, hd2, if_true, show (4 - 1 : Nat) = 0 + 1 + 1 + 1 from rfl]
                    by_cases hk : isC (((a.toNat % 8 * 64 + b.toNat % 64) * 64 + c.toNat % 64) * 64 + d.toNat % 64) = true ∧ 65536 ≤ ((a.toNat % 8 * 64 + b.toNat % 64) * 64 + c.toNat % 64) * 64 + d.toNat % 64
                    · rw [refP_step (by simp), if_pos ((hit4 a b c d t).2 ⟨h4, hb2, hc2, hd2, hk⟩), if_pos ⟨hk.1, by simpa [leastP] using hk.2⟩]
                      rfl
                    · rw [ref_skip (fun _ => by rw [hit4]; exact fun x => hk x.2.2.2.2), if_neg (by rintro ⟨g, h⟩; apply hk; exact ⟨g, by simpa [leastP] using h⟩)]
                      rfl
                  · rw [ref_skip (fun _ => by rw [hit4]; exact fun x => hd2 x.2.2.2.1)]
                    simp [contP, hb2, hc2, hd2, refP]
                · rw [ref_skip (fun _ => by rw [hit4]; exact fun x => hc2 x.2.2.1)]
                  simp [contP, hb2, hc2, refP]
              · rw [ref_skip (fun _ => by rw [hit4]; exact fun x => hb2 x.2.1)]
                simp [contP, hb2, refP]
          · rw [ref_skip (fun h => miss4 h4 h)]
            have : longP a.toNat = (0, 0) := by simp [longP, h1, h2, h3, h4]
            rw [firstP, this]
            simp [refP]
end Go.Proofs.Gong

/- Norm -/
namespace Go.Proofs.Gong
open Go Go.Sx Go.Proofs
set_option maxRecDepth 100000
-- 180 gong/utf.long
def T180 : List (Nat × FnT) := []
def F180 (x0 : Value) (w : World) (K : Value → World → Prop) : Prop :=
bindP (bLt x0 (.int .u8 128)) fun v1 =>
ifB v1 (
bindP (cInt .i64 x0) fun v2 =>
K (.tuple #[(.int .i64 1), v2]) w) (
bindP (bShr x0 (.int .u64 5)) fun v3 =>
bindP (bEq Try.prog 5 (.tmp 11) (.const (.int .u8 6)) v3 (.int .u8 6)) fun v4 =>
ifB v4 (
bindP (bBit .and x0 (.int .u8 31)) fun v5 =>
bindP (cInt .i64 v5) fun v6 =>
K (.tuple #[(.int .i64 2), v6]) w) (
bindP (bShr x0 (.int .u64 4)) fun v7 =>
bindP (bEq Try.prog 5 (.tmp 18) (.const (.int .u8 14)) v7 (.int .u8 14)) fun v8 =>
ifB v8 (
bindP (bBit .and x0 (.int .u8 15)) fun v9 =>
bindP (cInt .i64 v9) fun v10 =>
K (.tuple #[(.int .i64 3), v10]) w) (
bindP (bShr x0 (.int .u64 3)) fun v11 =>
bindP (bEq Try.prog 5 (.tmp 25) (.const (.int .u8 30)) v11 (.int .u8 30)) fun v12 =>
ifB v12 (
bindP (bBit .and x0 (.int .u8 7)) fun v13 =>
bindP (cInt .i64 v13) fun v14 =>
K (.tuple #[(.int .i64 4), v14]) w) (
K (.tuple #[(.int .i64 0), (.int .i64 0)]) w))))

def G180 : FnT := fun args w K => on1 (fun x0 => F180 x0 w K) args
theorem c180 {x0 : Value} {w : World} {K : Value → World → Prop} (h : F180 x0 w K) : callP G180 [x0] w K := callP_intro (on1_mk (p := fun x0 => F180 x0 w K) h)
theorem ok180 : OkF Try.prog 180 G180 := by
  refine okF_of (tab_ok (l := T180) trivial) mixed (n := fuel) Try.func180 Try.call180 fun args w K h => ?_
  obtain ⟨x0, rfl, hh⟩ := of_on1 h
  exact fnD_list (c := bodyOf Try.f180) (by kernel_rfl) (by kernel_rfl) (Eq.mp (by kernel_rfl) hh)

-- 181 gong/utf.is
def T181 : List (Nat × FnT) := []
def F181 (x0 : Value) (w : World) (K : Value → World → Prop) : Prop :=
bindP (bGe x0 (.int .i64 0)) fun v1 =>
stepM (gd true v1) x0 fun v2 =>
Sx.stepG (gd true v1) (bLe v2 (.int .i64 1114111)) fun v3 =>
bindP (pPick v1 v3 (.bool false)) fun v4 =>
stepM (gd true v4) x0 fun v5 =>
Sx.stepG (gd true v4) (bLt v5 (.int .i64 55296)) fun v6 =>
stepM (gd true v4) v6 fun v7 =>
stepM (gd false v7) x0 fun v8 =>
Sx.stepG (gd false v7) (bGt v8 (.int .i64 57343)) fun v9 =>
Sx.stepG (gd true v4) (pPick v7 (.bool true) v9) fun v10 =>
bindP (pPick v4 v10 (.bool false)) fun v11 =>
K v11 w

def G181 : FnT := fun args w K => on1 (fun x0 => F181 x0 w K) args
theorem c181 {x0 : Value} {w : World} {K : Value → World → Prop} (h : F181 x0 w K) : callP G181 [x0] w K := callP_intro (on1_mk (p := fun x0 => F181 x0 w K) h)
theorem ok181 : OkF Try.prog 181 G181 := by
  refine okF_of (tab_ok (l := T181) trivial) mixed (n := fuel) Try.func181 Try.call181 fun args w K h => ?_
  obtain ⟨x0, rfl, hh⟩ := of_on1 h
  exact fnD_list (c := bodyOf Try.f181) (by kernel_rfl) (by kernel_rfl) (Eq.mp (by kernel_rfl) hh)

-- 182 gong/utf.least
def T182 : List (Nat × FnT) := []
def F182 (x0 : Value) (w : World) (K : Value → World → Prop) : Prop :=
bindP (bEq Try.prog 3 (.tmp 3) (.const (.int .i64 2)) x0 (.int .i64 2)) fun v1 =>
ifB v1 (
K (.int .i64 128) w) (
bindP (bEq Try.prog 3 (.tmp 3) (.const (.int .i64 3)) x0 (.int .i64 3)) fun v2 =>
ifB v2 (
K (.int .i64 2048) w) (
bindP (bEq Try.prog 3 (.tmp 3) (.const (.int .i64 4)) x0 (.int .i64 4)) fun v3 =>
ifB v3 (
K (.int .i64 65536) w) (
K (.int .i64 0) w)))

def G182 : FnT := fun args w K => on1 (fun x0 => F182 x0 w K) args
theorem c182 {x0 : Value} {w : World} {K : Value → World → Prop} (h : F182 x0 w K) : callP G182 [x0] w K := callP_intro (on1_mk (p := fun x0 => F182 x0 w K) h)
theorem ok182 : OkF Try.prog 182 G182 := by
  refine okF_of (tab_ok (l := T182) trivial) mixed (n := fuel) Try.func182 Try.call182 fun args w K h => ?_
  obtain ⟨x0, rfl, hh⟩ := of_on1 h
  exact fnD_list (c := bodyOf Try.f182) (by kernel_rfl) (by kernel_rfl) (Eq.mp (by kernel_rfl) hh)

-- 161 gong/utf.First
def T161 : List (Nat × FnT) := [(180, G180), (181, G181), (182, G182)]
def F161_3b (s2 : Value) (s3 : Value) (w : World) (K : Value → World → Prop) : Prop :=
callP G181 [s2] w fun v2 w1 =>
bindP (uNot v2) fun v3 =>
stepM (gd false v3) s2 fun v4 =>
stepM (gd false v3) s3 fun v5 =>
stepE (gd false v3) (fun k => callP G182 [v5] w1 k) w1 fun v7 w6 =>
Sx.stepG (gd false v3) (bLt v4 v7) fun v8 =>
bindP (pPick v3 (.bool true) v8) fun v9 =>
ifB v9 (
K (.tuple #[(.int .i64 0), (.int .i64 0), (.int .i64 40)]) w6) (
K (.tuple #[s2, s3, (.int .i64 0)]) w6)

def F161_3 (s2 : Value) (s3 : Value) (w : World) (K : Value → World → Prop) : Prop := F161_3b s2 s3 w K

theorem ok161_3 {K : Value → World → Prop} {kn kr : Env → World → Prop} {ke : Nat → Env → World → Prop}
    (hn : ∀ e w, (fun e w => K (.tuple #[(e 2), (e 3), (e 4)]) w) e w → kn e w) (hr : ∀ e w, endD Try.prog [.tmp 2, .tmp 3, .tmp 4] K e w → kr e w) (he : ∀ i e w, noE i e w → ke i e w) :
    ∀ e w, F161_3 (e 2) (e 3) w K → denL Try.prog (tabOf T161) 51 fuel ((flat (bodyOf Try.f161)).drop 8) e w kn kr ke := by
  intro e w h
  unfold F161_3 at h
  have e1 : ∀ (_ : Unit), F161_3b (e 2) (e 3) w K = denL Try.prog (tabOf T161) 51 fuel ((flat (bodyOf Try.f161)).drop 8) e w (fun e w => K (.tuple #[(e 2), (e 3), (e 4)]) w) (endD Try.prog [.tmp 2, .tmp 3, .tmp 4] K) noE := by intro _; kernel_rfl
  exact seg_end (Eq.mp (e1 ()) h) hn hr he

def F161_2b (s0 : Value) (s2 : Value) (s3 : Value) (s5 : Value) (w : World) (K : Value → World → Prop) (Y0 : Value → Value → Value → Value → World → Prop) (Y1 : Value → Value → World → Prop) : Prop :=
bindP (bLt s5 s3) fun v10 =>
ifB v10 (
bindP (pIndexS s0 s5) fun v11 =>
bindP (bShr v11 (.int .u64 6)) fun v12 =>
bindP (bNe Try.prog 5 (.tmp 30) (.const (.int .u8 2)) v12 (.int .u8 2)) fun v13 =>
ifB v13 (
K (.tuple #[(.int .i64 0), (.int .i64 0), (.int .i64 40)]) w) (
bindP (bShl s2 (.int .u64 6)) fun v14 =>
bindP (pIndexS s0 s5) fun v15 =>
bindP (bBit .and v15 (.int .u8 63)) fun v16 =>
bindP (cInt .i64 v16) fun v17 =>
bindP (bBit .or v14 v17) fun v18 =>
bindP (bAdd s5 (.int .i64 1)) fun v19 =>
Y0 s0 v18 s3 v19 w)) (
Y1 s2 s3 w)

def F161_2L : Nat → Value → Value → Value → Value → World → (Value → World → Prop) → Prop
  | 0, _, _, _, _, _, _ => False
  | n + 1, s0, s2, s3, s5, w, K => F161_2b s0 s2 s3 s5 w K (fun a0 a2 a3 a5 w => F161_2L n a0 a2 a3 a5 w K) (fun a2 a3 w => F161_3 a2 a3 w K)

def F161_2 (s0 : Value) (s2 : Value) (s3 : Value) (s5 : Value) (w : World) (K : Value → World → Prop) : Prop := F161_2L fuel s0 s2 s3 s5 w K

theorem ok161_2 {K : Value → World → Prop} {kn kr : Env → World → Prop} {ke : Nat → Env → World → Prop}
    (hn : ∀ e w, (fun e w => K (.tuple #[(e 2), (e 3), (e 4)]) w) e w → kn e w) (hr : ∀ e w, endD Try.prog [.tmp 2, .tmp 3, .tmp 4] K e w → kr e w) (he : ∀ i e w, noE i e w → ke i e w) :
    ∀ e w, F161_2 (e 0) (e 2) (e 3) (e 5) w K → denL Try.prog (tabOf T161) 51 fuel ((flat (bodyOf Try.f161)).drop 7) e w kn kr ke := by
  intro e w h
  unfold F161_2 at h
  refine seg_loop (id := 0) (body := (loopB (blkB (nthC (flat (bodyOf Try.f161)) 7)))) (l2 := (flat (bodyOf Try.f161)).drop 8) (by kernel_rfl) ?_
  refine loop_ok (FL := fun m e w => F161_2L m (e 0) (e 2) (e 3) (e 5) w K) (fr := endD Try.prog [.tmp 2, .tmp 3, .tmp 4] K) (fe := (blkK 0 (fun e w => F161_3 (e 2) (e 3) w K) noE)) (fun _ _ h => h) ?_ hr (blkK_mono (fun e w h => ok161_3 hn hr he e w h) he) fuel e w h
  intro m e w h
  have h : F161_2L (m + 1) (e 0) (e 2) (e 3) (e 5) w K := h
  rw [F161_2L] at h
  have e1 : ∀ (Y0 : Value → Value → Value → Value → World → Prop) (Y1 : Value → Value → World → Prop), F161_2b (e 0) (e 2) (e 3) (e 5) w K Y0 Y1 = denL Try.prog (tabOf T161) 51 fuel (flat (loopB (blkB (nthC (flat (bodyOf Try.f161)) 7)))) e w (fun e w => Y0 (e 0) (e 2) (e 3) (e 5) w) (endD Try.prog [.tmp 2, .tmp 3, .tmp 4] K) (blkK 0 (fun e w => Y1 (e 2) (e 3) w) noE) := by intro Y0 Y1; kernel_rfl
  exact Eq.mp (e1 (fun a0 a2 a3 a5 w => F161_2L m a0 a2 a3 a5 w K) (fun a2 a3 w => F161_3 a2 a3 w K)) h

def F161_1b (s0 : Value) (w : World) (K : Value → World → Prop) (Y0 : Value → Value → Value → Value → World → Prop) : Prop :=
bindP (bEq Try.prog 9 (.tmp 6) (.const (.string ⟨#[]⟩)) s0 (.string ⟨#[]⟩)) fun v20 =>
ifB v20 (
K (.tuple #[(.int .i64 0), (.int .i64 0), (.int .i64 40)]) w) (
bindP (pIndexS s0 (.int .i64 0)) fun v21 =>
callP G180 [v21] w fun v23 w22 =>
bindP (pTuple v23 0) fun v24 =>
bindP (pTuple v23 1) fun v25 =>
bindP (bEq Try.prog 3 (.tmp 14) (.const (.int .i64 0)) v24 (.int .i64 0)) fun v26 =>
stepM (gd false v26) v24 fun v27 =>
stepM (gd false v26) s0 fun v28 =>
Sx.stepG (gd false v26) (lenS v28) fun v29 =>
Sx.stepG (gd false v26) (bGt v27 v29) fun v30 =>
bindP (pPick v26 (.bool true) v30) fun v31 =>
ifB v31 (
K (.tuple #[(.int .i64 0), (.int .i64 0), (.int .i64 40)]) w22) (
Y0 s0 v25 v24 (.int .i64 1) w22))

def F161_1 (s0 : Value) (w : World) (K : Value → World → Prop) : Prop := F161_1b s0 w K (fun a0 a2 a3 a5 w => F161_2 a0 a2 a3 a5 w K)

theorem ok161_1 {K : Value → World → Prop} {kn kr : Env → World → Prop} {ke : Nat → Env → World → Prop}
    (hn : ∀ e w, (fun e w => K (.tuple #[(e 2), (e 3), (e 4)]) w) e w → kn e w) (hr : ∀ e w, endD Try.prog [.tmp 2, .tmp 3, .tmp 4] K e w → kr e w) (he : ∀ i e w, noE i e w → ke i e w) :
    ∀ e w, F161_1 (e 0) w K → denL Try.prog (tabOf T161) 51 fuel ((flat (bodyOf Try.f161)).drop 0) e w kn kr ke := by
  intro e w h
  unfold F161_1 at h
  have e1 : ∀ (Y0 : Value → Value → Value → Value → World → Prop), F161_1b (e 0) w K Y0 = denL Try.prog (tabOf T161) 51 fuel (((flat (bodyOf Try.f161)).drop 0).take 7) e w (fun e w => Y0 (e 0) (e 2) (e 3) (e 5) w) (endD Try.prog [.tmp 2, .tmp 3, .tmp 4] K) noE := by intro Y0; kernel_rfl
  exact seg 7 (Eq.mp (e1 (fun a0 a2 a3 a5 w => F161_2 a0 a2 a3 a5 w K)) h) (fun e w h => ok161_2 hn hr he e w h) hr he

def F161 (x0 : Value) (w : World) (K : Value → World → Prop) : Prop := F161_1 x0 w K

def G161 : FnT := fun args w K => on1 (fun x0 => F161 x0 w K) args
theorem c161 {x0 : Value} {w : World} {K : Value → World → Prop} (h : F161 x0 w K) : callP G161 [x0] w K := callP_intro (on1_mk (p := fun x0 => F161 x0 w K) h)
theorem ok161 : OkF Try.prog 161 G161 := by
  refine okF_of (tab_ok (l := T161) ⟨ok180, ok181, ok182, trivial⟩) mixed (n := fuel) Try.func161 Try.call161 fun args w K h => ?_
  obtain ⟨x0, rfl, hh⟩ := of_on1 h
  unfold F161 at hh
  exact fnD_list (c := bodyOf Try.f161) (by kernel_rfl) (by kernel_rfl) (ok161_1 (fun _ _ h => h) (fun _ _ h => h) (fun _ _ _ h => h) (initE [x0]) w hh)

-- 135 gong/utf.Chars
def T135 : List (Nat × FnT) := [(161, G161)]
def F135_3b (s4 : Value) (w : World) (K : Value → World → Prop) : Prop :=
K (.tuple #[s4, (.int .i64 0)]) w

def F135_3 (s4 : Value) (w : World) (K : Value → World → Prop) : Prop := F135_3b s4 w K

theorem ok135_3 {K : Value → World → Prop} {kn kr : Env → World → Prop} {ke : Nat → Env → World → Prop}
    (hn : ∀ e w, (fun e w => K (.tuple #[(e 2), (e 3)]) w) e w → kn e w) (hr : ∀ e w, endD Try.prog [.tmp 2, .tmp 3] K e w → kr e w) (he : ∀ i e w, noE i e w → ke i e w) :
    ∀ e w, F135_3 (e 4) w K → denL Try.prog (tabOf T135) 27 fuel ((flat (bodyOf Try.f135)).drop 3) e w kn kr ke := by
  intro e w h
  unfold F135_3 at h
  have e1 : ∀ (_ : Unit), F135_3b (e 4) w K = denL Try.prog (tabOf T135) 27 fuel ((flat (bodyOf Try.f135)).drop 3) e w (fun e w => K (.tuple #[(e 2), (e 3)]) w) (endD Try.prog [.tmp 2, .tmp 3] K) noE := by intro _; kernel_rfl
  exact seg_end (Eq.mp (e1 ()) h) hn hr he

def F135_2b (s0 : Value) (s4 : Value) (w : World) (K : Value → World → Prop) (Y0 : Value → Value → World → Prop) (Y1 : Value → World → Prop) : Prop :=
bindP (bNe Try.prog 9 (.tmp 8) (.const (.string ⟨#[]⟩)) s0 (.string ⟨#[]⟩)) fun v1 =>
ifB v1 (
callP G161 [s0] w fun v3 w2 =>
bindP (pTuple v3 0) fun v4 =>
bindP (pTuple v3 1) fun v5 =>
bindP (pTuple v3 2) fun v6 =>
bindP (bNe Try.prog 24 (.tmp 16) (.const (.int .i64 0)) v6 (.int .i64 0)) fun v7 =>
ifB v7 (
K (.tuple #[(.slice none 0 0), v6]) w2) (
eBuildSl Try.prog 22 1 [(0, v4)] w2 fun v9 w8 =>
eAppend Try.prog 22 22 s4 v9 w8 fun v11 w10 =>
bindP (pSliceS s0 (some v5) none) fun v12 =>
Y0 v12 v11 w10)) (
Y1 s4 w)

def F135_2L : Nat → Value → Value → World → (Value → World → Prop) → Prop
  | 0, _, _, _, _ => False
  | n + 1, s0, s4, w, K => F135_2b s0 s4 w K (fun a0 a4 w => F135_2L n a0 a4 w K) (fun a4 w => F135_3 a4 w K)

def F135_2 (s0 : Value) (s4 : Value) (w : World) (K : Value → World → Prop) : Prop := F135_2L fuel s0 s4 w K

theorem ok135_2 {K : Value → World → Prop} {kn kr : Env → World → Prop} {ke : Nat → Env → World → Prop}
    (hn : ∀ e w, (fun e w => K (.tuple #[(e 2), (e 3)]) w) e w → kn e w) (hr : ∀ e w, endD Try.prog [.tmp 2, .tmp 3] K e w → kr e w) (he : ∀ i e w, noE i e w → ke i e w) :
    ∀ e w, F135_2 (e 0) (e 4) w K → denL Try.prog (tabOf T135) 27 fuel ((flat (bodyOf Try.f135)).drop 2) e w kn kr ke := by
  intro e w h
  unfold F135_2 at h
  refine seg_loop (id := 0) (body := (loopB (blkB (nthC (flat (bodyOf Try.f135)) 2)))) (l2 := (flat (bodyOf Try.f135)).drop 3) (by kernel_rfl) ?_
  refine loop_ok (FL := fun m e w => F135_2L m (e 0) (e 4) w K) (fr := endD Try.prog [.tmp 2, .tmp 3] K) (fe := (blkK 0 (fun e w => F135_3 (e 4) w K) noE)) (fun _ _ h => h) ?_ hr (blkK_mono (fun e w h => ok135_3 hn hr he e w h) he) fuel e w h
  intro m e w h
  have h : F135_2L (m + 1) (e 0) (e 4) w K := h
  rw [F135_2L] at h
  have e1 : ∀ (Y0 : Value → Value → World → Prop) (Y1 : Value → World → Prop), F135_2b (e 0) (e 4) w K Y0 Y1 = denL Try.prog (tabOf T135) 27 fuel (flat (loopB (blkB (nthC (flat (bodyOf Try.f135)) 2)))) e w (fun e w => Y0 (e 0) (e 4) w) (endD Try.prog [.tmp 2, .tmp 3] K) (blkK 0 (fun e w => Y1 (e 4) w) noE) := by intro Y0 Y1; kernel_rfl
  exact Eq.mp (e1 (fun a0 a4 w => F135_2L m a0 a4 w K) (fun a4 w => F135_3 a4 w K)) h

def F135_1b (s0 : Value) (w : World) (_K : Value → World → Prop) (Y0 : Value → Value → World → Prop) : Prop :=
Y0 s0 (.slice none 0 0) w

def F135_1 (s0 : Value) (w : World) (K : Value → World → Prop) : Prop := F135_1b s0 w K (fun a0 a4 w => F135_2 a0 a4 w K)

theorem ok135_1 {K : Value → World → Prop} {kn kr : Env → World → Prop} {ke : Nat → Env → World → Prop}
    (hn : ∀ e w, (fun e w => K (.tuple #[(e 2), (e 3)]) w) e w → kn e w) (hr : ∀ e w, endD Try.prog [.tmp 2, .tmp 3] K e w → kr e w) (he : ∀ i e w, noE i e w → ke i e w) :
    ∀ e w, F135_1 (e 0) w K → denL Try.prog (tabOf T135) 27 fuel ((flat (bodyOf Try.f135)).drop 0) e w kn kr ke := by
  intro e w h
  unfold F135_1 at h
  have e1 : ∀ (Y0 : Value → Value → World → Prop), F135_1b (e 0) w K Y0 = denL Try.prog (tabOf T135) 27 fuel (((flat (bodyOf Try.f135)).drop 0).take 2) e w (fun e w => Y0 (e 0) (e 4) w) (endD Try.prog [.tmp 2, .tmp 3] K) noE := by intro Y0; kernel_rfl
  exact seg 2 (Eq.mp (e1 (fun a0 a4 w => F135_2 a0 a4 w K)) h) (fun e w h => ok135_2 hn hr he e w h) hr he

def F135 (x0 : Value) (w : World) (K : Value → World → Prop) : Prop := F135_1 x0 w K

def G135 : FnT := fun args w K => on1 (fun x0 => F135 x0 w K) args
theorem c135 {x0 : Value} {w : World} {K : Value → World → Prop} (h : F135 x0 w K) : callP G135 [x0] w K := callP_intro (on1_mk (p := fun x0 => F135 x0 w K) h)
theorem ok135 : OkF Try.prog 135 G135 := by
  refine okF_of (tab_ok (l := T135) ⟨ok161, trivial⟩) mixed (n := fuel) Try.func135 Try.call135 fun args w K h => ?_
  obtain ⟨x0, rfl, hh⟩ := of_on1 h
  unfold F135 at hh
  exact fnD_list (c := bodyOf Try.f135) (by kernel_rfl) (by kernel_rfl) (ok135_1 (fun _ _ h => h) (fun _ _ h => h) (fun _ _ _ h => h) (initE [x0]) w hh)

-- 137 gong/norm.plain$1
def T137 : List (Nat × FnT) := []
def F137 (x0 : Value) (w : World) (K : Value → World → Prop) : Prop :=
bindP (bLt x0 (.int .i64 32)) fun v1 =>
stepM (gd false v1) x0 fun v2 =>
Sx.stepG (gd false v1) (bEq Try.prog 3 (.tmp 6) (.const (.int .i64 127)) v2 (.int .i64 127)) fun v3 =>
bindP (pPick v1 (.bool true) v3) fun v4 =>
K v4 w

def G137 : FnT := fun args w K => on1 (fun x0 => F137 x0 w K) args
theorem c137 {x0 : Value} {w : World} {K : Value → World → Prop} (h : F137 x0 w K) : callP G137 [x0] w K := callP_intro (on1_mk (p := fun x0 => F137 x0 w K) h)
theorem ok137 : OkF Try.prog 137 G137 := by
  refine okF_of (tab_ok (l := T137) trivial) mixed (n := fuel) Try.func137 Try.call137 fun args w K h => ?_
  obtain ⟨x0, rfl, hh⟩ := of_on1 h
  exact fnD_list (c := bodyOf Try.f137) (by kernel_rfl) (by kernel_rfl) (Eq.mp (by kernel_rfl) hh)

-- 162 slices.IndexFunc[[]int,int]
def T162 : List (Nat × FnT) := [(137, G137)]
def F162_3b (w : World) (K : Value → World → Prop) : Prop :=
K (.int .i64 (-1)) w

def F162_3 (w : World) (K : Value → World → Prop) : Prop := F162_3b w K

theorem ok162_3 {K : Value → World → Prop} {kn kr : Env → World → Prop} {ke : Nat → Env → World → Prop}
    (hn : ∀ e w, (fun e w => K (e 4) w) e w → kn e w) (hr : ∀ e w, endD Try.prog [.tmp 4] K e w → kr e w) (he : ∀ i e w, noE i e w → ke i e w) :
    ∀ e w, F162_3 w K → denL Try.prog (tabOf T162) 19 fuel ((flat (bodyOf Try.f162)).drop 3) e w kn kr ke := by
  intro e w h
  unfold F162_3 at h
  have e1 : ∀ (_ : Unit), F162_3b w K = denL Try.prog (tabOf T162) 19 fuel ((flat (bodyOf Try.f162)).drop 3) e w (fun e w => K (e 4) w) (endD Try.prog [.tmp 4] K) noE := by intro _; kernel_rfl
  exact seg_end (Eq.mp (e1 ()) h) hn hr he

def F162_2b (s0 : Value) (s1 : Value) (s7 : Value) (s8 : Value) (w : World) (K : Value → World → Prop) (Y0 : Value → Value → Value → Value → World → Prop) (Y1 : World → Prop) : Prop :=
bindP (bLt s8 s7) fun v1 =>
ifB v1 (
bindP (pIndexL 1 s0 s8) fun v2 =>
bindP (ld1 v2 w) fun v3 =>
eCallV (tabOf T162) s1 [v3] w fun v5 w4 =>
ifB v5 (
K s8 w4) (
bindP (bAdd s8 (.int .i64 1)) fun v6 =>
Y0 s0 s1 s7 v6 w4)) (
Y1 w)

def F162_2L : Nat → Value → Value → Value → Value → World → (Value → World → Prop) → Prop
  | 0, _, _, _, _, _, _ => False
  | n + 1, s0, s1, s7, s8, w, K => F162_2b s0 s1 s7 s8 w K (fun a0 a1 a7 a8 w => F162_2L n a0 a1 a7 a8 w K) (fun w => F162_3 w K)

def F162_2 (s0 : Value) (s1 : Value) (s7 : Value) (s8 : Value) (w : World) (K : Value → World → Prop) : Prop := F162_2L fuel s0 s1 s7 s8 w K

theorem ok162_2 {K : Value → World → Prop} {kn kr : Env → World → Prop} {ke : Nat → Env → World → Prop}
    (hn : ∀ e w, (fun e w => K (e 4) w) e w → kn e w) (hr : ∀ e w, endD Try.prog [.tmp 4] K e w → kr e w) (he : ∀ i e w, noE i e w → ke i e w) :
    ∀ e w, F162_2 (e 0) (e 1) (e 7) (e 8) w K → denL Try.prog (tabOf T162) 19 fuel ((flat (bodyOf Try.f162)).drop 2) e w kn kr ke := by
  intro e w h
  unfold F162_2 at h
  refine seg_loop (id := 0) (body := (loopB (blkB (nthC (flat (bodyOf Try.f162)) 2)))) (l2 := (flat (bodyOf Try.f162)).drop 3) (by kernel_rfl) ?_
  refine loop_ok (FL := fun m e w => F162_2L m (e 0) (e 1) (e 7) (e 8) w K) (fr := endD Try.prog [.tmp 4] K) (fe := (blkK 0 (fun e w => F162_3 w K) noE)) (fun _ _ h => h) ?_ hr (blkK_mono (fun e w h => ok162_3 hn hr he e w h) he) fuel e w h
  intro m e w h
  have h : F162_2L (m + 1) (e 0) (e 1) (e 7) (e 8) w K := h
  rw [F162_2L] at h
  have e1 : ∀ (Y0 : Value → Value → Value → Value → World → Prop) (Y1 : World → Prop), F162_2b (e 0) (e 1) (e 7) (e 8) w K Y0 Y1 = denL Try.prog (tabOf T162) 19 fuel (flat (loopB (blkB (nthC (flat (bodyOf Try.f162)) 2)))) e w (fun e w => Y0 (e 0) (e 1) (e 7) (e 8) w) (endD Try.prog [.tmp 4] K) (blkK 0 (fun e w => Y1 w) noE) := by intro Y0 Y1; kernel_rfl
  exact Eq.mp (e1 (fun a0 a1 a7 a8 w => F162_2L m a0 a1 a7 a8 w K) (fun w => F162_3 w K)) h

def F162_1b (s0 : Value) (s1 : Value) (w : World) (_K : Value → World → Prop) (Y0 : Value → Value → Value → Value → World → Prop) : Prop :=
bindP (lenL s0) fun v7 =>
Y0 s0 s1 v7 (.int .i64 0) w

def F162_1 (s0 : Value) (s1 : Value) (w : World) (K : Value → World → Prop) : Prop := F162_1b s0 s1 w K (fun a0 a1 a7 a8 w => F162_2 a0 a1 a7 a8 w K)

theorem ok162_1 {K : Value → World → Prop} {kn kr : Env → World → Prop} {ke : Nat → Env → World → Prop}
    (hn : ∀ e w, (fun e w => K (e 4) w) e w → kn e w) (hr : ∀ e w, endD Try.prog [.tmp 4] K e w → kr e w) (he : ∀ i e w, noE i e w → ke i e w) :
    ∀ e w, F162_1 (e 0) (e 1) w K → denL Try.prog (tabOf T162) 19 fuel ((flat (bodyOf Try.f162)).drop 0) e w kn kr ke := by
  intro e w h
  unfold F162_1 at h
  have e1 : ∀ (Y0 : Value → Value → Value → Value → World → Prop), F162_1b (e 0) (e 1) w K Y0 = denL Try.prog (tabOf T162) 19 fuel (((flat (bodyOf Try.f162)).drop 0).take 2) e w (fun e w => Y0 (e 0) (e 1) (e 7) (e 8) w) (endD Try.prog [.tmp 4] K) noE := by intro Y0; kernel_rfl
  exact seg 2 (Eq.mp (e1 (fun a0 a1 a7 a8 w => F162_2 a0 a1 a7 a8 w K)) h) (fun e w h => ok162_2 hn hr he e w h) hr he

def F162 (x0 : Value) (x1 : Value) (w : World) (K : Value → World → Prop) : Prop := F162_1 x0 x1 w K

def G162 : FnT := fun args w K => on2 (fun x0 x1 => F162 x0 x1 w K) args
theorem c162 {x0 x1 : Value} {w : World} {K : Value → World → Prop} (h : F162 x0 x1 w K) : callP G162 [x0, x1] w K := callP_intro (on2_mk (p := fun x0 x1 => F162 x0 x1 w K) h)
theorem ok162 : OkF Try.prog 162 G162 := by
  refine okF_of (tab_ok (l := T162) ⟨ok137, trivial⟩) mixed (n := fuel) Try.func162 Try.call162 fun args w K h => ?_
  obtain ⟨x0, x1, rfl, hh⟩ := of_on2 h
  unfold F162 at hh
  exact fnD_list (c := bodyOf Try.f162) (by kernel_rfl) (by kernel_rfl) (ok162_1 (fun _ _ h => h) (fun _ _ h => h) (fun _ _ _ h => h) (initE [x0, x1]) w hh)

-- 136 slices.ContainsFunc[[]int,int]
def T136 : List (Nat × FnT) := [(162, G162)]
def F136 (x0 : Value) (x1 : Value) (w : World) (K : Value → World → Prop) : Prop :=
callP G162 [x0, x1] w fun v2 w1 =>
bindP (bGe v2 (.int .i64 0)) fun v3 =>
K v3 w1

def G136 : FnT := fun args w K => on2 (fun x0 x1 => F136 x0 x1 w K) args
theorem c136 {x0 x1 : Value} {w : World} {K : Value → World → Prop} (h : F136 x0 x1 w K) : callP G136 [x0, x1] w K := callP_intro (on2_mk (p := fun x0 x1 => F136 x0 x1 w K) h)
theorem ok136 : OkF Try.prog 136 G136 := by
  refine okF_of (tab_ok (l := T136) ⟨ok162, trivial⟩) mixed (n := fuel) Try.func136 Try.call136 fun args w K h => ?_
  obtain ⟨x0, x1, rfl, hh⟩ := of_on2 h
  exact fnD_list (c := bodyOf Try.f136) (by kernel_rfl) (by kernel_rfl) (Eq.mp (by kernel_rfl) hh)

-- 111 gong/norm.plain
def T111 : List (Nat × FnT) := [(135, G135), (136, G136)]
def F111 (x0 : Value) (x1 : Value) (w : World) (K : Value → World → Prop) : Prop :=
callP G135 [x0] w fun v2 w1 =>
bindP (pTuple v2 0) fun v3 =>
bindP (pTuple v2 1) fun v4 =>
callP G136 [v3, (.func (.func 137) #[] #[])] w1 fun v6 w5 =>
bindP (bEq Try.prog 24 (.tmp 15) (.const (.int .i64 0)) v4 (.int .i64 0)) fun v7 =>
stepM (gd true v7) v6 fun v8 =>
Sx.stepG (gd true v7) (uNot v8) fun v9 =>
bindP (pPick v7 v9 (.bool false)) fun v10 =>
stepM (gd true v10) x0 fun v11 =>
Sx.stepG (gd true v10) (lenS v11) fun v12 =>
stepM (gd true v10) x1 fun v13 =>
Sx.stepG (gd true v10) (bLe v12 v13) fun v14 =>
bindP (pPick v10 v14 (.bool false)) fun v15 =>
K v15 w5

def G111 : FnT := fun args w K => on2 (fun x0 x1 => F111 x0 x1 w K) args
theorem c111 {x0 x1 : Value} {w : World} {K : Value → World → Prop} (h : F111 x0 x1 w K) : callP G111 [x0, x1] w K := callP_intro (on2_mk (p := fun x0 x1 => F111 x0 x1 w K) h)
theorem ok111 : OkF Try.prog 111 G111 := by
  refine okF_of (tab_ok (l := T111) ⟨ok135, ok136, trivial⟩) mixed (n := fuel) Try.func111 Try.call111 fun args w K h => ?_
  obtain ⟨x0, x1, rfl, hh⟩ := of_on2 h
  exact fnD_list (c := bodyOf Try.f111) (by kernel_rfl) (by kernel_rfl) (Eq.mp (by kernel_rfl) hh)

-- 61 gong/norm.Check
def T61 : List (Nat × FnT) := [(111, G111)]
def F61 (x0 : Value) (w : World) (K : Value → World → Prop) : Prop :=
eBox 31 x0 w fun v2 w1 =>
bindP (pFieldAddr 0 v2) fun v3 =>
bindP (ld1 v3 w1) fun v4 =>
bindP (bNe Try.prog 9 (.tmp 5) (.const (.string ⟨#[]⟩)) v4 (.string ⟨#[]⟩)) fun v5 =>
Sx.stepG (gd true v5) (pFieldAddr 1 v2) fun v6 =>
Sx.stepG (gd true v5) (ld1 v6 w1) fun v7 =>
Sx.stepG (gd true v5) (bNe Try.prog 9 (.tmp 9) (.const (.string ⟨#[]⟩)) v7 (.string ⟨#[]⟩)) fun v8 =>
bindP (pPick v5 v8 (.bool false)) fun v9 =>
Sx.stepG (gd true v9) (pFieldAddr 0 v2) fun v10 =>
Sx.stepG (gd true v9) (ld1 v10 w1) fun v11 =>
stepE (gd true v9) (fun k => callP G111 [v11, (.int .i64 64)] w1 k) w1 fun v13 w12 =>
bindP (pPick v9 v13 (.bool false)) fun v14 =>
Sx.stepG (gd true v14) (pFieldAddr 1 v2) fun v15 =>
Sx.stepG (gd true v14) (ld1 v15 w12) fun v16 =>
stepE (gd true v14) (fun k => callP G111 [v16, (.int .i64 64)] w12 k) w12 fun v18 w17 =>
bindP (pPick v14 v18 (.bool false)) fun v19 =>
bindP (uNot v19) fun v20 =>
Sx.stepG (gd false v20) (pFieldAddr 2 v2) fun v21 =>
Sx.stepG (gd false v20) (ld1 v21 w17) fun v22 =>
stepE (gd false v20) (fun k => callP G111 [v22, (.int .i64 128)] w17 k) w17 fun v24 w23 =>
Sx.stepG (gd false v20) (uNot v24) fun v25 =>
bindP (pPick v20 (.bool true) v25) fun v26 =>
Sx.stepG (gd false v26) (pFieldAddr 4 v2) fun v27 =>
Sx.stepG (gd false v26) (ld1 v27 w23) fun v28 =>
stepE (gd false v26) (fun k => callP G111 [v28, (.int .i64 1024)] w23 k) w23 fun v30 w29 =>
Sx.stepG (gd false v26) (uNot v30) fun v31 =>
bindP (pPick v26 (.bool true) v31) fun v32 =>
Sx.stepG (gd false v32) (pFieldAddr 3 v2) fun v33 =>
Sx.stepG (gd false v32) (ld1 v33 w29) fun v34 =>
Sx.stepG (gd false v32) (bLt v34 (.int .i64 0)) fun v35 =>
bindP (pPick v32 (.bool true) v35) fun v36 =>
Sx.stepG (gd false v36) (pFieldAddr 3 v2) fun v37 =>
Sx.stepG (gd false v36) (ld1 v37 w29) fun v38 =>
Sx.stepG (gd false v36) (bGt v38 (.int .i64 5)) fun v39 =>
bindP (pPick v36 (.bool true) v39) fun v40 =>
ifB v40 (
K (.int .i64 180) w29) (
K (.int .i64 0) w29)

def G61 : FnT := fun args w K => on1 (fun x0 => F61 x0 w K) args
theorem c61 {x0 : Value} {w : World} {K : Value → World → Prop} (h : F61 x0 w K) : callP G61 [x0] w K := callP_intro (on1_mk (p := fun x0 => F61 x0 w K) h)
theorem ok61 : OkF Try.prog 61 G61 := by
  refine okF_of (tab_ok (l := T61) ⟨ok111, trivial⟩) mixed (n := fuel) Try.func61 Try.call61 fun args w K h => ?_
  obtain ⟨x0, rfl, hh⟩ := of_on1 h
  exact fnD_list (c := bodyOf Try.f61) (by kernel_rfl) (by kernel_rfl) (Eq.mp (by kernel_rfl) hh)

-- 183 gong/gongref04.guess
def T183 : List (Nat × FnT) := []
def F183_4b (s5 : Value) (w : World) (K : Value → World → Prop) : Prop :=
K s5 w

def F183_4 (s5 : Value) (w : World) (K : Value → World → Prop) : Prop := F183_4b s5 w K

theorem ok183_4 {K : Value → World → Prop} {kn kr : Env → World → Prop} {ke : Nat → Env → World → Prop}
    (hn : ∀ e w, (fun e w => K (e 4) w) e w → kn e w) (hr : ∀ e w, endD Try.prog [.tmp 4] K e w → kr e w) (he : ∀ i e w, noE i e w → ke i e w) :
    ∀ e w, F183_4 (e 5) w K → denL Try.prog (tabOf T183) 38 fuel ((flat (bodyOf Try.f183)).drop 6) e w kn kr ke := by
  intro e w h
  unfold F183_4 at h
  have e1 : ∀ (_ : Unit), F183_4b (e 5) w K = denL Try.prog (tabOf T183) 38 fuel ((flat (bodyOf Try.f183)).drop 6) e w (fun e w => K (e 4) w) (endD Try.prog [.tmp 4] K) noE := by intro _; kernel_rfl
  exact seg_end (Eq.mp (e1 ()) h) hn hr he

def F183_3b (s0 : Value) (s1 : Value) (s5 : Value) (s6 : Value) (w : World) (_K : Value → World → Prop) (Y0 : Value → Value → Value → Value → World → Prop) (Y1 : Value → World → Prop) : Prop :=
bindP (bLt s6 s1) fun v1 =>
ifB v1 (
bindP (bMul s5 (.int .i64 64)) fun v2 =>
bindP (pIndexS s0 s6) fun v3 =>
bindP (bRem v3 (.int .u8 64)) fun v4 =>
bindP (cInt .i64 v4) fun v5 =>
bindP (bAdd v2 v5) fun v6 =>
bindP (bAdd s6 (.int .i64 1)) fun v7 =>
Y0 s0 s1 v6 v7 w) (
Y1 s5 w)

def F183_3L : Nat → Value → Value → Value → Value → World → (Value → World → Prop) → Prop
  | 0, _, _, _, _, _, _ => False
  | n + 1, s0, s1, s5, s6, w, K => F183_3b s0 s1 s5 s6 w K (fun a0 a1 a5 a6 w => F183_3L n a0 a1 a5 a6 w K) (fun a5 w => F183_4 a5 w K)

def F183_3 (s0 : Value) (s1 : Value) (s5 : Value) (s6 : Value) (w : World) (K : Value → World → Prop) : Prop := F183_3L fuel s0 s1 s5 s6 w K

theorem ok183_3 {K : Value → World → Prop} {kn kr : Env → World → Prop} {ke : Nat → Env → World → Prop}
    (hn : ∀ e w, (fun e w => K (e 4) w) e w → kn e w) (hr : ∀ e w, endD Try.prog [.tmp 4] K e w → kr e w) (he : ∀ i e w, noE i e w → ke i e w) :
    ∀ e w, F183_3 (e 0) (e 1) (e 5) (e 6) w K → denL Try.prog (tabOf T183) 38 fuel ((flat (bodyOf Try.f183)).drop 5) e w kn kr ke := by
  intro e w h
  unfold F183_3 at h
  refine seg_loop (id := 1) (body := (loopB (blkB (nthC (flat (bodyOf Try.f183)) 5)))) (l2 := (flat (bodyOf Try.f183)).drop 6) (by kernel_rfl) ?_
  refine loop_ok (FL := fun m e w => F183_3L m (e 0) (e 1) (e 5) (e 6) w K) (fr := endD Try.prog [.tmp 4] K) (fe := (blkK 1 (fun e w => F183_4 (e 5) w K) noE)) (fun _ _ h => h) ?_ hr (blkK_mono (fun e w h => ok183_4 hn hr he e w h) he) fuel e w h
  intro m e w h
  have h : F183_3L (m + 1) (e 0) (e 1) (e 5) (e 6) w K := h
  rw [F183_3L] at h
  have e1 : ∀ (Y0 : Value → Value → Value → Value → World → Prop) (Y1 : Value → World → Prop), F183_3b (e 0) (e 1) (e 5) (e 6) w K Y0 Y1 = denL Try.prog (tabOf T183) 38 fuel (flat (loopB (blkB (nthC (flat (bodyOf Try.f183)) 5)))) e w (fun e w => Y0 (e 0) (e 1) (e 5) (e 6) w) (endD Try.prog [.tmp 4] K) (blkK 1 (fun e w => Y1 (e 5) w) noE) := by intro Y0 Y1; kernel_rfl
  exact Eq.mp (e1 (fun a0 a1 a5 a6 w => F183_3L m a0 a1 a5 a6 w K) (fun a5 w => F183_4 a5 w K)) h

def F183_2b (s0 : Value) (s1 : Value) (s5 : Value) (w : World) (_K : Value → World → Prop) (Y0 : Value → Value → Value → Value → World → Prop) : Prop :=
Y0 s0 s1 s5 (.int .i64 1) w

def F183_2 (s0 : Value) (s1 : Value) (s5 : Value) (w : World) (K : Value → World → Prop) : Prop := F183_2b s0 s1 s5 w K (fun a0 a1 a5 a6 w => F183_3 a0 a1 a5 a6 w K)

theorem ok183_2 {K : Value → World → Prop} {kn kr : Env → World → Prop} {ke : Nat → Env → World → Prop}
    (hn : ∀ e w, (fun e w => K (e 4) w) e w → kn e w) (hr : ∀ e w, endD Try.prog [.tmp 4] K e w → kr e w) (he : ∀ i e w, noE i e w → ke i e w) :
    ∀ e w, F183_2 (e 0) (e 1) (e 5) w K → denL Try.prog (tabOf T183) 38 fuel ((flat (bodyOf Try.f183)).drop 4) e w kn kr ke := by
  intro e w h
  unfold F183_2 at h
  have e1 : ∀ (Y0 : Value → Value → Value → Value → World → Prop), F183_2b (e 0) (e 1) (e 5) w K Y0 = denL Try.prog (tabOf T183) 38 fuel (((flat (bodyOf Try.f183)).drop 4).take 1) e w (fun e w => Y0 (e 0) (e 1) (e 5) (e 6) w) (endD Try.prog [.tmp 4] K) noE := by intro Y0; kernel_rfl
  exact seg 1 (Eq.mp (e1 (fun a0 a1 a5 a6 w => F183_3 a0 a1 a5 a6 w K)) h) (fun e w h => ok183_3 hn hr he e w h) hr he

def F183_1b (s0 : Value) (s1 : Value) (w : World) (K : Value → World → Prop) (Y0 : Value → Value → Value → World → Prop) : Prop :=
bindP (pIndexS s0 (.int .i64 0)) fun v8 =>
bindP (cInt .i64 v8) fun v9 =>
bindP (bEq Try.prog 3 (.tmp 10) (.const (.int .i64 1)) s1 (.int .i64 1)) fun v10 =>
ifB v10 (
K v9 w) (
bindP (bEq Try.prog 3 (.tmp 10) (.const (.int .i64 2)) s1 (.int .i64 2)) fun v11 =>
ifB v11 (
bindP (bRem v9 (.int .i64 32)) fun v12 =>
Y0 s0 s1 v12 w) (
bindP (bEq Try.prog 3 (.tmp 10) (.const (.int .i64 3)) s1 (.int .i64 3)) fun v13 =>
ifB v13 (
bindP (bRem v9 (.int .i64 16)) fun v14 =>
Y0 s0 s1 v14 w) (
bindP (bRem v9 (.int .i64 8)) fun v15 =>
Y0 s0 s1 v15 w)))

def F183_1 (s0 : Value) (s1 : Value) (w : World) (K : Value → World → Prop) : Prop := F183_1b s0 s1 w K (fun a0 a1 a5 w => F183_2 a0 a1 a5 w K)

theorem ok183_1 {K : Value → World → Prop} {kn kr : Env → World → Prop} {ke : Nat → Env → World → Prop}
    (hn : ∀ e w, (fun e w => K (e 4) w) e w → kn e w) (hr : ∀ e w, endD Try.prog [.tmp 4] K e w → kr e w) (he : ∀ i e w, noE i e w → ke i e w) :
    ∀ e w, F183_1 (e 0) (e 1) w K → denL Try.prog (tabOf T183) 38 fuel ((flat (bodyOf Try.f183)).drop 0) e w kn kr ke := by
  intro e w h
  unfold F183_1 at h
  have e1 : ∀ (Y0 : Value → Value → Value → World → Prop), F183_1b (e 0) (e 1) w K Y0 = denL Try.prog (tabOf T183) 38 fuel (((flat (bodyOf Try.f183)).drop 0).take 4) e w (fun e w => Y0 (e 0) (e 1) (e 5) w) (endD Try.prog [.tmp 4] K) noE := by intro Y0; kernel_rfl
  exact seg 4 (Eq.mp (e1 (fun a0 a1 a5 w => F183_2 a0 a1 a5 w K)) h) (fun e w h => ok183_2 hn hr he e w h) hr he

def F183 (x0 : Value) (x1 : Value) (w : World) (K : Value → World → Prop) : Prop := F183_1 x0 x1 w K

def G183 : FnT := fun args w K => on2 (fun x0 x1 => F183 x0 x1 w K) args
theorem c183 {x0 x1 : Value} {w : World} {K : Value → World → Prop} (h : F183 x0 x1 w K) : callP G183 [x0, x1] w K := callP_intro (on2_mk (p := fun x0 x1 => F183 x0 x1 w K) h)
theorem ok183 : OkF Try.prog 183 G183 := by
  refine okF_of (tab_ok (l := T183) trivial) mixed (n := fuel) Try.func183 Try.call183 fun args w K h => ?_
  obtain ⟨x0, x1, rfl, hh⟩ := of_on2 h
  unfold F183 at hh
  exact fnD_list (c := bodyOf Try.f183) (by kernel_rfl) (by kernel_rfl) (ok183_1 (fun _ _ h => h) (fun _ _ h => h) (fun _ _ _ h => h) (initE [x0, x1]) w hh)

-- 184 gong/gongref04.Is
def T184 : List (Nat × FnT) := []
def F184 (x0 : Value) (w : World) (K : Value → World → Prop) : Prop :=
bindP (bGe x0 (.int .i64 0)) fun v1 =>
stepM (gd true v1) x0 fun v2 =>
Sx.stepG (gd true v1) (bLe v2 (.int .i64 1114111)) fun v3 =>
bindP (pPick v1 v3 (.bool false)) fun v4 =>
stepM (gd true v4) x0 fun v5 =>
Sx.stepG (gd true v4) (bLt v5 (.int .i64 55296)) fun v6 =>
stepM (gd true v4) v6 fun v7 =>
stepM (gd false v7) x0 fun v8 =>
Sx.stepG (gd false v7) (bGt v8 (.int .i64 57343)) fun v9 =>
Sx.stepG (gd true v4) (pPick v7 (.bool true) v9) fun v10 =>
bindP (pPick v4 v10 (.bool false)) fun v11 =>
K v11 w

def G184 : FnT := fun args w K => on1 (fun x0 => F184 x0 w K) args
theorem c184 {x0 : Value} {w : World} {K : Value → World → Prop} (h : F184 x0 w K) : callP G184 [x0] w K := callP_intro (on1_mk (p := fun x0 => F184 x0 w K) h)
theorem ok184 : OkF Try.prog 184 G184 := by
  refine okF_of (tab_ok (l := T184) trivial) mixed (n := fuel) Try.func184 Try.call184 fun args w K h => ?_
  obtain ⟨x0, rfl, hh⟩ := of_on1 h
  exact fnD_list (c := bodyOf Try.f184) (by kernel_rfl) (by kernel_rfl) (Eq.mp (by kernel_rfl) hh)

-- 185 gong/gongref04.Made
def T185 : List (Nat × FnT) := []
def F185 (x0 : Value) (w : World) (K : Value → World → Prop) : Prop :=
bindP (bLt x0 (.int .i64 128)) fun v1 =>
ifB v1 (
bindP (cInt .u8 x0) fun v2 =>
eBuildSl Try.prog 29 1 [(0, v2)] w fun v4 w3 =>
bindP (cBytes v4 w3) fun v5 =>
K v5 w3) (
bindP (bLt x0 (.int .i64 2048)) fun v6 =>
ifB v6 (
bindP (bQuo x0 (.int .i64 64)) fun v7 =>
bindP (bAdd (.int .i64 192) v7) fun v8 =>
bindP (cInt .u8 v8) fun v9 =>
bindP (bRem x0 (.int .i64 64)) fun v10 =>
bindP (bAdd (.int .i64 128) v10) fun v11 =>
bindP (cInt .u8 v11) fun v12 =>
eBuildSl Try.prog 29 2 [(0, v9), (1, v12)] w fun v14 w13 =>
bindP (cBytes v14 w13) fun v15 =>
K v15 w13) (
bindP (bLt x0 (.int .i64 65536)) fun v16 =>
ifB v16 (
bindP (bQuo x0 (.int .i64 4096)) fun v17 =>
bindP (bAdd (.int .i64 224) v17) fun v18 =>
bindP (cInt .u8 v18) fun v19 =>
bindP (bQuo x0 (.int .i64 64)) fun v20 =>
bindP (bRem v20 (.int .i64 64)) fun v21 =>
bindP (bAdd (.int .i64 128) v21) fun v22 =>
bindP (cInt .u8 v22) fun v23 =>
bindP (bRem x0 (.int .i64 64)) fun v24 =>
bindP (bAdd (.int .i64 128) v24) fun v25 =>
bindP (cInt .u8 v25) fun v26 =>
eBuildSl Try.prog 29 3 [(0, v19), (1, v23), (2, v26)] w fun v28 w27 =>
bindP (cBytes v28 w27) fun v29 =>
K v29 w27) (
bindP (bQuo x0 (.int .i64 262144)) fun v30 =>
bindP (bAdd (.int .i64 240) v30) fun v31 =>
bindP (cInt .u8 v31) fun v32 =>
bindP (bQuo x0 (.int .i64 4096)) fun v33 =>
bindP (bRem v33 (.int .i64 64)) fun v34 =>
bindP (bAdd (.int .i64 128) v34) fun v35 =>
bindP (cInt .u8 v35) fun v36 =>
bindP (bQuo x0 (.int .i64 64)) fun v37 =>
bindP (bRem v37 (.int .i64 64)) fun v38 =>
bindP (bAdd (.int .i64 128) v38) fun v39 =>
bindP (cInt .u8 v39) fun v40 =>
bindP (bRem x0 (.int .i64 64)) fun v41 =>
bindP (bAdd (.int .i64 128) v41) fun v42 =>
bindP (cInt .u8 v42) fun v43 =>
eBuildSl Try.prog 29 4 [(0, v32), (1, v36), (2, v40), (3, v43)] w fun v45 w44 =>
bindP (cBytes v45 w44) fun v46 =>
K v46 w44)))

def G185 : FnT := fun args w K => on1 (fun x0 => F185 x0 w K) args
theorem c185 {x0 : Value} {w : World} {K : Value → World → Prop} (h : F185 x0 w K) : callP G185 [x0] w K := callP_intro (on1_mk (p := fun x0 => F185 x0 w K) h)
theorem ok185 : OkF Try.prog 185 G185 := by
  refine okF_of (tab_ok (l := T185) trivial) mixed (n := fuel) Try.func185 Try.call185 fun args w K h => ?_
  obtain ⟨x0, rfl, hh⟩ := of_on1 h
  exact fnD_list (c := bodyOf Try.f185) (by kernel_rfl) (by kernel_rfl) (Eq.mp (by kernel_rfl) hh)

-- 163 gong/gongref04.First
def T163 : List (Nat × FnT) := [(183, G183), (184, G184), (185, G185)]
def F163_3b (w : World) (K : Value → World → Prop) : Prop :=
K (.tuple #[(.int .i64 0), (.int .i64 0), (.int .i64 40)]) w

def F163_3 (w : World) (K : Value → World → Prop) : Prop := F163_3b w K

theorem ok163_3 {K : Value → World → Prop} {kn kr : Env → World → Prop} {ke : Nat → Env → World → Prop}
    (hn : ∀ e w, (fun e w => K (.tuple #[(e 2), (e 3), (e 4)]) w) e w → kn e w) (hr : ∀ e w, endD Try.prog [.tmp 2, .tmp 3, .tmp 4] K e w → kr e w) (he : ∀ i e w, noE i e w → ke i e w) :
    ∀ e w, F163_3 w K → denL Try.prog (tabOf T163) 32 fuel ((flat (bodyOf Try.f163)).drop 3) e w kn kr ke := by
  intro e w h
  unfold F163_3 at h
  have e1 : ∀ (_ : Unit), F163_3b w K = denL Try.prog (tabOf T163) 32 fuel ((flat (bodyOf Try.f163)).drop 3) e w (fun e w => K (.tuple #[(e 2), (e 3), (e 4)]) w) (endD Try.prog [.tmp 2, .tmp 3, .tmp 4] K) noE := by intro _; kernel_rfl
  exact seg_end (Eq.mp (e1 ()) h) hn hr he

def F163_2b (s0 : Value) (s5 : Value) (w : World) (K : Value → World → Prop) (Y0 : Value → Value → World → Prop) (Y1 : World → Prop) : Prop :=
bindP (bLe s5 (.int .i64 4)) fun v1 =>
stepM (gd true v1) s5 fun v2 =>
stepM (gd true v1) s0 fun v3 =>
Sx.stepG (gd true v1) (lenS v3) fun v4 =>
Sx.stepG (gd true v1) (bLe v2 v4) fun v5 =>
bindP (pPick v1 v5 (.bool false)) fun v6 =>
ifB v6 (
callP G183 [s0, s5] w fun v8 w7 =>
callP G184 [v8] w7.drew fun v10 w9 =>
stepM (gd true v10) v8 fun v11 =>
stepM (gd true v10) s0 fun v12 =>
stepM (gd true v10) s5 fun v13 =>
Sx.stepG (gd true v10) (pSliceS v12 none (some v13)) fun v14 =>
stepE (gd true v10) (fun k => callP G185 [v11] w9 k) w9 fun v16 w15 =>
Sx.stepG (gd true v10) (bEq Try.prog 9 (.tmp 24) (.tmp 27) v16 v14) fun v17 =>
bindP (pPick v10 v17 (.bool false)) fun v18 =>
ifB v18 (
K (.tuple #[v8, s5, (.int .i64 0)]) w15) (
bindP (bAdd s5 (.int .i64 1)) fun v19 =>
Y0 s0 v19 w15)) (
Y1 w)

def F163_2L : Nat → Value → Value → World → (Value → World → Prop) → Prop
  | 0, _, _, _, _ => False
  | n + 1, s0, s5, w, K => F163_2b s0 s5 w K (fun a0 a5 w => F163_2L n a0 a5 w K) (fun w => F163_3 w K)

def F163_2 (s0 : Value) (s5 : Value) (w : World) (K : Value → World → Prop) : Prop := F163_2L fuel s0 s5 w K

theorem ok163_2 {K : Value → World → Prop} {kn kr : Env → World → Prop} {ke : Nat → Env → World → Prop}
    (hn : ∀ e w, (fun e w => K (.tuple #[(e 2), (e 3), (e 4)]) w) e w → kn e w) (hr : ∀ e w, endD Try.prog [.tmp 2, .tmp 3, .tmp 4] K e w → kr e w) (he : ∀ i e w, noE i e w → ke i e w) :
    ∀ e w, F163_2 (e 0) (e 5) w K → denL Try.prog (tabOf T163) 32 fuel ((flat (bodyOf Try.f163)).drop 2) e w kn kr ke := by
  intro e w h
  unfold F163_2 at h
  refine seg_loop (id := 0) (body := (loopB (blkB (nthC (flat (bodyOf Try.f163)) 2)))) (l2 := (flat (bodyOf Try.f163)).drop 3) (by kernel_rfl) ?_
  refine loop_ok (FL := fun m e w => F163_2L m (e 0) (e 5) w K) (fr := endD Try.prog [.tmp 2, .tmp 3, .tmp 4] K) (fe := (blkK 0 (fun e w => F163_3 w K) noE)) (fun _ _ h => h) ?_ hr (blkK_mono (fun e w h => ok163_3 hn hr he e w h) he) fuel e w h
  intro m e w h
  have h : F163_2L (m + 1) (e 0) (e 5) w K := h
  rw [F163_2L] at h
  have e1 : ∀ (Y0 : Value → Value → World → Prop) (Y1 : World → Prop), F163_2b (e 0) (e 5) w K Y0 Y1 = denL Try.prog (tabOf T163) 32 fuel (flat (loopB (blkB (nthC (flat (bodyOf Try.f163)) 2)))) e w (fun e w => Y0 (e 0) (e 5) w) (endD Try.prog [.tmp 2, .tmp 3, .tmp 4] K) (blkK 0 (fun e w => Y1 w) noE) := by intro Y0 Y1; kernel_rfl
  exact Eq.mp (e1 (fun a0 a5 w => F163_2L m a0 a5 w K) (fun w => F163_3 w K)) h

def F163_1b (s0 : Value) (w : World) (_K : Value → World → Prop) (Y0 : Value → Value → World → Prop) : Prop :=
Y0 s0 (.int .i64 1) w

def F163_1 (s0 : Value) (w : World) (K : Value → World → Prop) : Prop := F163_1b s0 w K (fun a0 a5 w => F163_2 a0 a5 w K)

theorem ok163_1 {K : Value → World → Prop} {kn kr : Env → World → Prop} {ke : Nat → Env → World → Prop}
    (hn : ∀ e w, (fun e w => K (.tuple #[(e 2), (e 3), (e 4)]) w) e w → kn e w) (hr : ∀ e w, endD Try.prog [.tmp 2, .tmp 3, .tmp 4] K e w → kr e w) (he : ∀ i e w, noE i e w → ke i e w) :
    ∀ e w, F163_1 (e 0) w K → denL Try.prog (tabOf T163) 32 fuel ((flat (bodyOf Try.f163)).drop 0) e w kn kr ke := by
  intro e w h
  unfold F163_1 at h
  have e1 : ∀ (Y0 : Value → Value → World → Prop), F163_1b (e 0) w K Y0 = denL Try.prog (tabOf T163) 32 fuel (((flat (bodyOf Try.f163)).drop 0).take 2) e w (fun e w => Y0 (e 0) (e 5) w) (endD Try.prog [.tmp 2, .tmp 3, .tmp 4] K) noE := by intro Y0; kernel_rfl
  exact seg 2 (Eq.mp (e1 (fun a0 a5 w => F163_2 a0 a5 w K)) h) (fun e w h => ok163_2 hn hr he e w h) hr he

def F163 (x0 : Value) (w : World) (K : Value → World → Prop) : Prop := F163_1 x0 w K

def G163 : FnT := fun args w K => on1 (fun x0 => F163 x0 w K) args
theorem c163 {x0 : Value} {w : World} {K : Value → World → Prop} (h : F163 x0 w K) : callP G163 [x0] w K := callP_intro (on1_mk (p := fun x0 => F163 x0 w K) h)
theorem ok163 : OkF Try.prog 163 G163 := by
  refine okF_of (tab_ok (l := T163) ⟨ok183, ok184, ok185, trivial⟩) mixed (n := fuel) Try.func163 Try.call163 fun args w K h => ?_
  obtain ⟨x0, rfl, hh⟩ := of_on1 h
  unfold F163 at hh
  exact fnD_list (c := bodyOf Try.f163) (by kernel_rfl) (by kernel_rfl) (ok163_1 (fun _ _ h => h) (fun _ _ h => h) (fun _ _ _ h => h) (initE [x0]) w hh)

-- 138 gong/gongref04.Chars
def T138 : List (Nat × FnT) := [(163, G163)]
def F138_3b (s4 : Value) (w : World) (K : Value → World → Prop) : Prop :=
K (.tuple #[s4, (.int .i64 0)]) w

def F138_3 (s4 : Value) (w : World) (K : Value → World → Prop) : Prop := F138_3b s4 w K

theorem ok138_3 {K : Value → World → Prop} {kn kr : Env → World → Prop} {ke : Nat → Env → World → Prop}
    (hn : ∀ e w, (fun e w => K (.tuple #[(e 2), (e 3)]) w) e w → kn e w) (hr : ∀ e w, endD Try.prog [.tmp 2, .tmp 3] K e w → kr e w) (he : ∀ i e w, noE i e w → ke i e w) :
    ∀ e w, F138_3 (e 4) w K → denL Try.prog (tabOf T138) 32 fuel ((flat (bodyOf Try.f138)).drop 4) e w kn kr ke := by
  intro e w h
  unfold F138_3 at h
  have e1 : ∀ (_ : Unit), F138_3b (e 4) w K = denL Try.prog (tabOf T138) 32 fuel ((flat (bodyOf Try.f138)).drop 4) e w (fun e w => K (.tuple #[(e 2), (e 3)]) w) (endD Try.prog [.tmp 2, .tmp 3] K) noE := by intro _; kernel_rfl
  exact seg_end (Eq.mp (e1 ()) h) hn hr he

def F138_2b (s0 : Value) (s4 : Value) (s5 : Value) (w : World) (K : Value → World → Prop) (Y0 : Value → Value → Value → World → Prop) (Y1 : Value → World → Prop) : Prop :=
bindP (lenS s0) fun v1 =>
bindP (bLt s5 v1) fun v2 =>
ifB v2 (
bindP (pSliceS s0 (some s5) none) fun v3 =>
callP G163 [v3] w fun v5 w4 =>
bindP (pTuple v5 0) fun v6 =>
bindP (pTuple v5 1) fun v7 =>
bindP (pTuple v5 2) fun v8 =>
bindP (bNe Try.prog 24 (.tmp 21) (.const (.int .i64 0)) v8 (.int .i64 0)) fun v9 =>
ifB v9 (
K (.tuple #[(.slice none 0 0), v8]) w4) (
eBuildSl Try.prog 22 1 [(0, v6)] w4 fun v11 w10 =>
eAppend Try.prog 22 22 s4 v11 w10 fun v13 w12 =>
bindP (bAdd s5 v7) fun v14 =>
Y0 s0 v13 v14 w12)) (
Y1 s4 w)

def F138_2L : Nat → Value → Value → Value → World → (Value → World → Prop) → Prop
  | 0, _, _, _, _, _ => False
  | n + 1, s0, s4, s5, w, K => F138_2b s0 s4 s5 w K (fun a0 a4 a5 w => F138_2L n a0 a4 a5 w K) (fun a4 w => F138_3 a4 w K)

def F138_2 (s0 : Value) (s4 : Value) (s5 : Value) (w : World) (K : Value → World → Prop) : Prop := F138_2L fuel s0 s4 s5 w K

theorem ok138_2 {K : Value → World → Prop} {kn kr : Env → World → Prop} {ke : Nat → Env → World → Prop}
    (hn : ∀ e w, (fun e w => K (.tuple #[(e 2), (e 3)]) w) e w → kn e w) (hr : ∀ e w, endD Try.prog [.tmp 2, .tmp 3] K e w → kr e w) (he : ∀ i e w, noE i e w → ke i e w) :
    ∀ e w, F138_2 (e 0) (e 4) (e 5) w K → denL Try.prog (tabOf T138) 32 fuel ((flat (bodyOf Try.f138)).drop 3) e w kn kr ke := by
  intro e w h
  unfold F138_2 at h
  refine seg_loop (id := 0) (body := (loopB (blkB (nthC (flat (bodyOf Try.f138)) 3)))) (l2 := (flat (bodyOf Try.f138)).drop 4) (by kernel_rfl) ?_
  refine loop_ok (FL := fun m e w => F138_2L m (e 0) (e 4) (e 5) w K) (fr := endD Try.prog [.tmp 2, .tmp 3] K) (fe := (blkK 0 (fun e w => F138_3 (e 4) w K) noE)) (fun _ _ h => h) ?_ hr (blkK_mono (fun e w h => ok138_3 hn hr he e w h) he) fuel e w h
  intro m e w h
  have h : F138_2L (m + 1) (e 0) (e 4) (e 5) w K := h
  rw [F138_2L] at h
  have e1 : ∀ (Y0 : Value → Value → Value → World → Prop) (Y1 : Value → World → Prop), F138_2b (e 0) (e 4) (e 5) w K Y0 Y1 = denL Try.prog (tabOf T138) 32 fuel (flat (loopB (blkB (nthC (flat (bodyOf Try.f138)) 3)))) e w (fun e w => Y0 (e 0) (e 4) (e 5) w) (endD Try.prog [.tmp 2, .tmp 3] K) (blkK 0 (fun e w => Y1 (e 4) w) noE) := by intro Y0 Y1; kernel_rfl
  exact Eq.mp (e1 (fun a0 a4 a5 w => F138_2L m a0 a4 a5 w K) (fun a4 w => F138_3 a4 w K)) h

def F138_1b (s0 : Value) (w : World) (_K : Value → World → Prop) (Y0 : Value → Value → Value → World → Prop) : Prop :=
Y0 s0 (.slice none 0 0) (.int .i64 0) w

def F138_1 (s0 : Value) (w : World) (K : Value → World → Prop) : Prop := F138_1b s0 w K (fun a0 a4 a5 w => F138_2 a0 a4 a5 w K)

theorem ok138_1 {K : Value → World → Prop} {kn kr : Env → World → Prop} {ke : Nat → Env → World → Prop}
    (hn : ∀ e w, (fun e w => K (.tuple #[(e 2), (e 3)]) w) e w → kn e w) (hr : ∀ e w, endD Try.prog [.tmp 2, .tmp 3] K e w → kr e w) (he : ∀ i e w, noE i e w → ke i e w) :
    ∀ e w, F138_1 (e 0) w K → denL Try.prog (tabOf T138) 32 fuel ((flat (bodyOf Try.f138)).drop 0) e w kn kr ke := by
  intro e w h
  unfold F138_1 at h
  have e1 : ∀ (Y0 : Value → Value → Value → World → Prop), F138_1b (e 0) w K Y0 = denL Try.prog (tabOf T138) 32 fuel (((flat (bodyOf Try.f138)).drop 0).take 3) e w (fun e w => Y0 (e 0) (e 4) (e 5) w) (endD Try.prog [.tmp 2, .tmp 3] K) noE := by intro Y0; kernel_rfl
  exact seg 3 (Eq.mp (e1 (fun a0 a4 a5 w => F138_2 a0 a4 a5 w K)) h) (fun e w h => ok138_2 hn hr he e w h) hr he

def F138 (x0 : Value) (w : World) (K : Value → World → Prop) : Prop := F138_1 x0 w K

def G138 : FnT := fun args w K => on1 (fun x0 => F138 x0 w K) args
theorem c138 {x0 : Value} {w : World} {K : Value → World → Prop} (h : F138 x0 w K) : callP G138 [x0] w K := callP_intro (on1_mk (p := fun x0 => F138 x0 w K) h)
theorem ok138 : OkF Try.prog 138 G138 := by
  refine okF_of (tab_ok (l := T138) ⟨ok163, trivial⟩) mixed (n := fuel) Try.func138 Try.call138 fun args w K h => ?_
  obtain ⟨x0, rfl, hh⟩ := of_on1 h
  unfold F138 at hh
  exact fnD_list (c := bodyOf Try.f138) (by kernel_rfl) (by kernel_rfl) (ok138_1 (fun _ _ h => h) (fun _ _ h => h) (fun _ _ _ h => h) (initE [x0]) w hh)

-- 112 gong/gongref18.plain
def T112 : List (Nat × FnT) := [(138, G138)]
def F112_3b (s0 : Value) (s1 : Value) (s6 : Value) (w : World) (K : Value → World → Prop) : Prop :=
bindP (bEq Try.prog 24 (.tmp 31) (.const (.int .i64 0)) s6 (.int .i64 0)) fun v1 =>
stepM (gd true v1) s0 fun v2 =>
Sx.stepG (gd true v1) (lenS v2) fun v3 =>
stepM (gd true v1) s1 fun v4 =>
Sx.stepG (gd true v1) (bLe v3 v4) fun v5 =>
bindP (pPick v1 v5 (.bool false)) fun v6 =>
K v6 w

def F112_3 (s0 : Value) (s1 : Value) (s6 : Value) (w : World) (K : Value → World → Prop) : Prop := F112_3b s0 s1 s6 w K

theorem ok112_3 {K : Value → World → Prop} {kn kr : Env → World → Prop} {ke : Nat → Env → World → Prop}
    (hn : ∀ e w, (fun e w => K (e 4) w) e w → kn e w) (hr : ∀ e w, endD Try.prog [.tmp 4] K e w → kr e w) (he : ∀ i e w, noE i e w → ke i e w) :
    ∀ e w, F112_3 (e 0) (e 1) (e 6) w K → denL Try.prog (tabOf T112) 39 fuel ((flat (bodyOf Try.f112)).drop 4) e w kn kr ke := by
  intro e w h
  unfold F112_3 at h
  have e1 : ∀ (_ : Unit), F112_3b (e 0) (e 1) (e 6) w K = denL Try.prog (tabOf T112) 39 fuel ((flat (bodyOf Try.f112)).drop 4) e w (fun e w => K (e 4) w) (endD Try.prog [.tmp 4] K) noE := by intro _; kernel_rfl
  exact seg_end (Eq.mp (e1 ()) h) hn hr he

def F112_2b (s0 : Value) (s1 : Value) (s5 : Value) (s6 : Value) (s7 : Value) (w : World) (K : Value → World → Prop) (Y0 : Value → Value → Value → Value → Value → World → Prop) (Y1 : Value → Value → Value → World → Prop) : Prop :=
bindP (lenL s5) fun v7 =>
bindP (bLt s7 v7) fun v8 =>
ifB v8 (
bindP (pIndexL 1 s5 s7) fun v9 =>
bindP (ld1 v9 w) fun v10 =>
bindP (bLt v10 (.int .i64 32)) fun v11 =>
stepM (gd false v11) s5 fun v12 =>
stepM (gd false v11) s7 fun v13 =>
Sx.stepG (gd false v11) (pIndexL 1 v12 v13) fun v14 =>
Sx.stepG (gd false v11) (ld1 v14 w) fun v15 =>
Sx.stepG (gd false v11) (bEq Try.prog 3 (.tmp 28) (.const (.int .i64 127)) v15 (.int .i64 127)) fun v16 =>
bindP (pPick v11 (.bool true) v16) fun v17 =>
ifB v17 (
K (.bool false) w) (
bindP (bAdd s7 (.int .i64 1)) fun v18 =>
Y0 s0 s1 s5 s6 v18 w)) (
Y1 s0 s1 s6 w)

def F112_2L : Nat → Value → Value → Value → Value → Value → World → (Value → World → Prop) → Prop
  | 0, _, _, _, _, _, _, _ => False
  | n + 1, s0, s1, s5, s6, s7, w, K => F112_2b s0 s1 s5 s6 s7 w K (fun a0 a1 a5 a6 a7 w => F112_2L n a0 a1 a5 a6 a7 w K) (fun a0 a1 a6 w => F112_3 a0 a1 a6 w K)

def F112_2 (s0 : Value) (s1 : Value) (s5 : Value) (s6 : Value) (s7 : Value) (w : World) (K : Value → World → Prop) : Prop := F112_2L fuel s0 s1 s5 s6 s7 w K

theorem ok112_2 {K : Value → World → Prop} {kn kr : Env → World → Prop} {ke : Nat → Env → World → Prop}
    (hn : ∀ e w, (fun e w => K (e 4) w) e w → kn e w) (hr : ∀ e w, endD Try.prog [.tmp 4] K e w → kr e w) (he : ∀ i e w, noE i e w → ke i e w) :
    ∀ e w, F112_2 (e 0) (e 1) (e 5) (e 6) (e 7) w K → denL Try.prog (tabOf T112) 39 fuel ((flat (bodyOf Try.f112)).drop 3) e w kn kr ke := by
  intro e w h
  unfold F112_2 at h
  refine seg_loop (id := 0) (body := (loopB (blkB (nthC (flat (bodyOf Try.f112)) 3)))) (l2 := (flat (bodyOf Try.f112)).drop 4) (by kernel_rfl) ?_
  refine loop_ok (FL := fun m e w => F112_2L m (e 0) (e 1) (e 5) (e 6) (e 7) w K) (fr := endD Try.prog [.tmp 4] K) (fe := (blkK 0 (fun e w => F112_3 (e 0) (e 1) (e 6) w K) noE)) (fun _ _ h => h) ?_ hr (blkK_mono (fun e w h => ok112_3 hn hr he e w h) he) fuel e w h
  intro m e w h
  have h : F112_2L (m + 1) (e 0) (e 1) (e 5) (e 6) (e 7) w K := h
  rw [F112_2L] at h
  have e1 : ∀ (Y0 : Value → Value → Value → Value → Value → World → Prop) (Y1 : Value → Value → Value → World → Prop), F112_2b (e 0) (e 1) (e 5) (e 6) (e 7) w K Y0 Y1 = denL Try.prog (tabOf T112) 39 fuel (flat (loopB (blkB (nthC (flat (bodyOf Try.f112)) 3)))) e w (fun e w => Y0 (e 0) (e 1) (e 5) (e 6) (e 7) w) (endD Try.prog [.tmp 4] K) (blkK 0 (fun e w => Y1 (e 0) (e 1) (e 6) w) noE) := by intro Y0 Y1; kernel_rfl
  exact Eq.mp (e1 (fun a0 a1 a5 a6 a7 w => F112_2L m a0 a1 a5 a6 a7 w K) (fun a0 a1 a6 w => F112_3 a0 a1 a6 w K)) h

def F112_1b (s0 : Value) (s1 : Value) (w : World) (_K : Value → World → Prop) (Y0 : Value → Value → Value → Value → Value → World → Prop) : Prop :=
callP G138 [s0] w fun v20 w19 =>
bindP (pTuple v20 0) fun v21 =>
bindP (pTuple v20 1) fun v22 =>
Y0 s0 s1 v21 v22 (.int .i64 0) w19

def F112_1 (s0 : Value) (s1 : Value) (w : World) (K : Value → World → Prop) : Prop := F112_1b s0 s1 w K (fun a0 a1 a5 a6 a7 w => F112_2 a0 a1 a5 a6 a7 w K)

theorem ok112_1 {K : Value → World → Prop} {kn kr : Env → World → Prop} {ke : Nat → Env → World → Prop}
    (hn : ∀ e w, (fun e w => K (e 4) w) e w → kn e w) (hr : ∀ e w, endD Try.prog [.tmp 4] K e w → kr e w) (he : ∀ i e w, noE i e w → ke i e w) :
    ∀ e w, F112_1 (e 0) (e 1) w K → denL Try.prog (tabOf T112) 39 fuel ((flat (bodyOf Try.f112)).drop 0) e w kn kr ke := by
  intro e w h
  unfold F112_1 at h
  have e1 : ∀ (Y0 : Value → Value → Value → Value → Value → World → Prop), F112_1b (e 0) (e 1) w K Y0 = denL Try.prog (tabOf T112) 39 fuel (((flat (bodyOf Try.f112)).drop 0).take 3) e w (fun e w => Y0 (e 0) (e 1) (e 5) (e 6) (e 7) w) (endD Try.prog [.tmp 4] K) noE := by intro Y0; kernel_rfl
  exact seg 3 (Eq.mp (e1 (fun a0 a1 a5 a6 a7 w => F112_2 a0 a1 a5 a6 a7 w K)) h) (fun e w h => ok112_2 hn hr he e w h) hr he

def F112 (x0 : Value) (x1 : Value) (w : World) (K : Value → World → Prop) : Prop := F112_1 x0 x1 w K

def G112 : FnT := fun args w K => on2 (fun x0 x1 => F112 x0 x1 w K) args
theorem c112 {x0 x1 : Value} {w : World} {K : Value → World → Prop} (h : F112 x0 x1 w K) : callP G112 [x0, x1] w K := callP_intro (on2_mk (p := fun x0 x1 => F112 x0 x1 w K) h)
theorem ok112 : OkF Try.prog 112 G112 := by
  refine okF_of (tab_ok (l := T112) ⟨ok138, trivial⟩) mixed (n := fuel) Try.func112 Try.call112 fun args w K h => ?_
  obtain ⟨x0, x1, rfl, hh⟩ := of_on2 h
  unfold F112 at hh
  exact fnD_list (c := bodyOf Try.f112) (by kernel_rfl) (by kernel_rfl) (ok112_1 (fun _ _ h => h) (fun _ _ h => h) (fun _ _ _ h => h) (initE [x0, x1]) w hh)

-- 68 gong/gongref18.Check
def T68 : List (Nat × FnT) := [(112, G112)]
def F68 (x0 : Value) (w : World) (K : Value → World → Prop) : Prop :=
eBox 31 x0 w fun v2 w1 =>
bindP (pFieldAddr 0 v2) fun v3 =>
bindP (ld1 v3 w1) fun v4 =>
bindP (bEq Try.prog 9 (.tmp 4) (.const (.string ⟨#[]⟩)) v4 (.string ⟨#[]⟩)) fun v5 =>
Sx.stepG (gd false v5) (pFieldAddr 1 v2) fun v6 =>
Sx.stepG (gd false v5) (ld1 v6 w1) fun v7 =>
Sx.stepG (gd false v5) (bEq Try.prog 9 (.tmp 8) (.const (.string ⟨#[]⟩)) v7 (.string ⟨#[]⟩)) fun v8 =>
bindP (pPick v5 (.bool true) v8) fun v9 =>
Sx.stepG (gd false v9) (pFieldAddr 0 v2) fun v10 =>
Sx.stepG (gd false v9) (ld1 v10 w1) fun v11 =>
stepE (gd false v9) (fun k => callP G112 [v11, (.int .i64 64)] w1 k) w1 fun v13 w12 =>
Sx.stepG (gd false v9) (uNot v13) fun v14 =>
bindP (pPick v9 (.bool true) v14) fun v15 =>
Sx.stepG (gd false v15) (pFieldAddr 1 v2) fun v16 =>
Sx.stepG (gd false v15) (ld1 v16 w12) fun v17 =>
stepE (gd false v15) (fun k => callP G112 [v17, (.int .i64 64)] w12 k) w12 fun v19 w18 =>
Sx.stepG (gd false v15) (uNot v19) fun v20 =>
bindP (pPick v15 (.bool true) v20) fun v21 =>
Sx.stepG (gd false v21) (pFieldAddr 2 v2) fun v22 =>
Sx.stepG (gd false v21) (ld1 v22 w18) fun v23 =>
stepE (gd false v21) (fun k => callP G112 [v23, (.int .i64 128)] w18 k) w18 fun v25 w24 =>
Sx.stepG (gd false v21) (uNot v25) fun v26 =>
bindP (pPick v21 (.bool true) v26) fun v27 =>
Sx.stepG (gd false v27) (pFieldAddr 4 v2) fun v28 =>
Sx.stepG (gd false v27) (ld1 v28 w24) fun v29 =>
stepE (gd false v27) (fun k => callP G112 [v29, (.int .i64 1024)] w24 k) w24 fun v31 w30 =>
Sx.stepG (gd false v27) (uNot v31) fun v32 =>
bindP (pPick v27 (.bool true) v32) fun v33 =>
Sx.stepG (gd false v33) (pFieldAddr 3 v2) fun v34 =>
Sx.stepG (gd false v33) (ld1 v34 w30) fun v35 =>
Sx.stepG (gd false v33) (bLt v35 (.int .i64 0)) fun v36 =>
bindP (pPick v33 (.bool true) v36) fun v37 =>
Sx.stepG (gd false v37) (pFieldAddr 3 v2) fun v38 =>
Sx.stepG (gd false v37) (ld1 v38 w30) fun v39 =>
Sx.stepG (gd false v37) (bGt v39 (.int .i64 5)) fun v40 =>
bindP (pPick v37 (.bool true) v40) fun v41 =>
ifB v41 (
K (.int .i64 180) w30) (
K (.int .i64 0) w30)

def G68 : FnT := fun args w K => on1 (fun x0 => F68 x0 w K) args
theorem c68 {x0 : Value} {w : World} {K : Value → World → Prop} (h : F68 x0 w K) : callP G68 [x0] w K := callP_intro (on1_mk (p := fun x0 => F68 x0 w K) h)
theorem ok68 : OkF Try.prog 68 G68 := by
  refine okF_of (tab_ok (l := T68) ⟨ok112, trivial⟩) mixed (n := fuel) Try.func68 Try.call68 fun args w K h => ?_
  obtain ⟨x0, rfl, hh⟩ := of_on1 h
  exact fnD_list (c := bodyOf Try.f68) (by kernel_rfl) (by kernel_rfl) (Eq.mp (by kernel_rfl) hh)

end Go.Proofs.Gong

/- Nm1 -/
namespace Go.Proofs.Gong
open Go Go.Sx Go.Proofs
set_option maxRecDepth 100000
theorem nil_b : (⟨#[]⟩ : ByteArray) = bs [] := by simp [bs]
theorem gd_undef (b : Bool) : gd b undef = false := by cases b <;> rfl
theorem and31 : ∀ n : Fin 256, bBits .and .u8 (n.val : Int) 31 = some ((n.val % 32 : Nat) : Int) := by decide +kernel
theorem and15 : ∀ n : Fin 256, bBits .and .u8 (n.val : Int) 15 = some ((n.val % 16 : Nat) : Int) := by decide +kernel
theorem and7 : ∀ n : Fin 256, bBits .and .u8 (n.val : Int) 7 = some ((n.val % 8 : Nat) : Int) := by decide +kernel
theorem and63 : ∀ n : Fin 256, bBits .and .u8 (n.val : Int) 63 = some ((n.val % 64 : Nat) : Int) := by decide +kernel
theorem bAnd_u8 {k m : Nat} (h : ∀ n : Fin 256, bBits .and .u8 (n.val : Int) (k : Int) = some ((n.val % m : Nat) : Int)) (b : UInt8) : bBit .and (.int .u8 b.toNat) (.int .u8 k) = some (.int .u8 ((b.toNat % m : Nat))) := by
  have := h ⟨b.toNat, b.toNat_lt⟩
  simp only at this
  simp only [bBit, if_true, this, Option.map_some]
theorem shr_u8 (n k : Nat) (h : k ≤ 8) : bShr (.int .u8 n) (.int .u64 k) = some (.int .u8 ((n / 2 ^ k : Nat))) := bShr_nat (j := .u8) (by exact h)
theorem to64 (n : Nat) (h : n < 9223372036854775808) : cInt .i64 (.int .u8 n) = some (.int .i64 n) := by
  simp only [cInt]; rw [wrap_id (by omega)]
theorem shl6 {n : Nat} (h : n < 72057594037927936) : bShl (.int .i64 n) (.int .u64 6) = some (.int .i64 ((n * 64 : Nat))) := by
  have e : min ((6 : Int).toNat) IntKind.i64.bits = 6 := by decide
  simp only [bShl]
  rw [if_neg (by decide), e, show ((n : Int) * 2 ^ 6) = ((n * 64 : Nat) : Int) by omega, wrap_id (by omega)]
theorem plus1 {a : Nat} (h : a + 1 < 9223372036854775808) : bAdd (.int .i64 a) (.int .i64 1) = some (.int .i64 ((a + 1 : Nat))) := by
  rw [bAdd_int, show ((a : Int) + 1) = ((a + 1 : Nat) : Int) by omega, wrap_id (by omega)]
section
variable {w : World} {K : Value → World → Prop}
theorem long_spec {b : UInt8} (hK : K (.tuple #[.int .i64 (longP b.toNat).1, .int .i64 (longP b.toNat).2]) w) : callP G180 [.int .u8 b.toNat] w K := by
  refine c180 ?_
  unfold F180
  have hb := b.toNat_lt
  unfold longP at hK
  by_cases h1 : b.toNat < 128
  · rw [if_pos h1] at hK
    have e : bLt (.int .u8 (b.toNat : Int)) (.int .u8 128) = some (.bool true) := by simp; omega
    simp only [e, bindP_some, ifB_true, to64 _ (show b.toNat < 9223372036854775808 by omega)]
    exact hK
  · rw [if_neg h1] at hK
    have e : bLt (.int .u8 (b.toNat : Int)) (.int .u8 128) = some (.bool false) := by simp; omega
    have s5 : bShr (.int .u8 (b.toNat : Int)) (.int .u64 5) = some (.int .u8 ((b.toNat / 32 : Nat))) := shr_u8 _ 5 (by omega)
    have s4 : bShr (.int .u8 (b.toNat : Int)) (.int .u64 4) = some (.int .u8 ((b.toNat / 16 : Nat))) := shr_u8 _ 4 (by omega)
    have s3 : bShr (.int .u8 (b.toNat : Int)) (.int .u64 3) = some (.int .u8 ((b.toNat / 8 : Nat))) := shr_u8 _ 3 (by omega)
    have a31 : bBit .and (.int .u8 (b.toNat : Int)) (.int .u8 31) = _ := bAnd_u8 (k := 31) and31 b
    have a15 : bBit .and (.int .u8 (b.toNat : Int)) (.int .u8 15) = _ := bAnd_u8 (k := 15) and15 b
    have a7 : bBit .and (.int .u8 (b.toNat : Int)) (.int .u8 7) = _ := bAnd_u8 (k := 7) and7 b
    simp only [e, bindP_some, ifB_false, s5, s4, s3, a31, a15, a7, bEq_int]
    by_cases h2 : b.toNat / 32 = 6
    · rw [if_pos h2] at hK
      have : decide (((b.toNat / 32 : Nat) : Int) = 6) = true := by rw [h2]; rfl
      simp only [this, ifB_true, to64 _ (show b.toNat % 32 < 9223372036854775808 by omega), bindP_some]
      exact hK
    · rw [if_neg h2] at hK
      have : decide (((b.toNat / 32 : Nat) : Int) = 6) = false := by rw [decide_eq_false_iff_not]; omega
      simp only [this, ifB_false]
      by_cases h3 : b.toNat / 16 = 14
      · rw [if_pos h3] at hK
        have : decide (((b.toNat / 16 : Nat) : Int) = 14) = true := by rw [h3]; rfl
        simp only [this, ifB_true, to64 _ (show b.toNat % 16 < 9223372036854775808 by omega), bindP_some]
        exact hK
      · rw [if_neg h3] at hK
        have : decide (((b.toNat / 16 : Nat) : Int) = 14) = false := by rw [decide_eq_false_iff_not]; omega
        simp only [this, ifB_false]
        by_cases h4 : b.toNat / 8 = 30
        · rw [if_pos h4] at hK
          have : decide (((b.toNat / 8 : Nat) : Int) = 30) = true := by rw [h4]; rfl
          simp only [this, ifB_true, to64 _ (show b.toNat % 8 < 9223372036854775808 by omega), bindP_some]
          exact hK
        · rw [if_neg h4] at hK
          have : decide (((b.toNat / 8 : Nat) : Int) = 30) = false := by rw [decide_eq_false_iff_not]; omega
          simp only [this, ifB_false]
          exact hK
theorem is_spec {c : Nat} (hK : K (.bool (isC c)) w) : callP G181 [.int .i64 c] w K := by
  refine c181 ?_
  unfold F181
  unfold isC at hK
  by_cases h1 : c ≤ 1114111
  · by_cases h2 : c < 55296
    · have e1 : decide ((c : Int) ≥ 0) = true := by simp
      have e2 : decide ((c : Int) ≤ 1114111) = true := by simp; omega
      have e3 : decide ((c : Int) < 55296) = true := by simp; omega
      simp only [bGe_int, bLe_int, bLt_int, e1, e2, e3, bindP_some, gd_true, gd_false, Bool.not_true, stepM_true, stepM_false, stepG_true, stepG_false, pPick_true]
      simpa [h1, h2] using hK
    · have e1 : decide ((c : Int) ≥ 0) = true := by simp
      have e2 : decide ((c : Int) ≤ 1114111) = true := by simp; omega
      have e3 : decide ((c : Int) < 55296) = false := by simp; omega
      have e4 : decide ((c : Int) > 57343) = decide (57343 < c) := by rw [decide_eq_decide]; omega
      simp only [bGe_int, bLe_int, bLt_int, bGt_int, e1, e2, e3, e4, bindP_some, gd_true, gd_false, Bool.not_false, stepM_true, stepG_true, pPick_true, pPick_false]
      simpa [h1, h2] using hK
  · have e1 : decide ((c : Int) ≥ 0) = true := by simp
    have e2 : decide ((c : Int) ≤ 1114111) = false := by simp; omega
    simp only [bGe_int, bLe_int, e1, e2, bindP_some, gd_true, gd_false, Bool.not_false, stepM_true, stepM_false, stepG_true, stepG_false, pPick_true, pPick_false, gd_undef]
    simpa [h1] using hK
theorem least_spec {n : Nat} (hK : K (.int .i64 (leastP n)) w) : callP G182 [.int .i64 n] w K := by
  refine c182 ?_
  unfold F182
  unfold leastP at hK
  by_cases h2 : n = 2
  · subst h2; simpa using hK
  · by_cases h3 : n = 3
    · subst h3; simpa using hK
    · by_cases h4 : n = 4
      · subst h4; simpa using hK
      · have e2 : decide ((n : Int) = 2) = false := by rw [decide_eq_false_iff_not]; omega
        have e3 : decide ((n : Int) = 3) = false := by rw [decide_eq_false_iff_not]; omega
        have e4 : decide ((n : Int) = 4) = false := by rw [decide_eq_false_iff_not]; omega
        simp only [bEq_int, e2, e3, e4, bindP_some, ifB_false]
        simpa [h2, h3, h4] using hK
def errV : Value := .tuple #[.int .i64 0, .int .i64 0, .int .i64 40]
def firstV (s : List UInt8) : Value := match firstP s with
  | some x => .tuple #[.int .i64 x.1, .int .i64 x.2, .int .i64 0]
  | none => errV
theorem cont_spec {s : List UInt8} {n : Nat} (hs : n ≤ s.length) (h4 : n ≤ 4) : ∀ (k i c m : Nat), k + i = n → k ≤ m → c < 256 * 64 ^ i → (match contP k c (s.drop i) with | none => K errV w | some c' => F161_3 (.int .i64 c') (.int .i64 n) w K) →
    F161_2L (m + 1) (.string (bs s)) (.int .i64 c) (.int .i64 n) (.int .i64 i) w K := by
  intro k
  induction k with
  | zero =>
    intro i c m hk hm hc hK
    rw [F161_2L]; unfold F161_2b
    obtain rfl : i = n := by omega
    rw [bLt_int]
    simp only [bindP_some, Int.lt_irrefl, decide_false, ifB_false]
    simpa [contP] using hK
  | succ k ih =>
    intro i c m hk hm hc hK
    obtain ⟨m, rfl⟩ : ∃ j, m = j + 1 := ⟨m - 1, by omega⟩
    rw [F161_2L]; unfold F161_2b
    have hi : i < s.length := by omega
    have e : bLt (.int .i64 (i : Int)) (.int .i64 n) = some (.bool true) := by simp; omega
    have hdr : s.drop i = s[i] :: s.drop (i + 1) := List.drop_eq_getElem_cons hi
    rw [hdr] at hK
    rw [e]
    simp only [bindP_some, ifB_true, ix_txt hi]
    generalize s[i] = b at hK
    have hb := b.toNat_lt
    have s6 : bShr (.int .u8 (b.toNat : Int)) (.int .u64 6) = some (.int .u8 ((b.toNat / 64 : Nat))) := shr_u8 _ 6 (by omega)
    simp only [s6, bindP_some, bNe_int]
    simp only [contP] at hK
    by_cases h2 : b.toNat / 64 = 2
    · rw [if_pos h2] at hK
      have : (!decide (((b.toNat / 64 : Nat) : Int) = 2)) = false := by rw [h2]; rfl
      have a63 : bBit .and (.int .u8 (b.toNat : Int)) (.int .u8 63) = _ := bAnd_u8 (k := 63) and63 b
      have hp : 64 ^ i ≤ 64 ^ 4 := Nat.pow_le_pow_right (by omega) (by omega)
      have e4 : 64 ^ 4 = 16777216 := by decide
      simp only [this, ifB_false, shl6 (show c < 72057594037927936 by omega), a63, to64 _ (show b.toNat % 64 < 9223372036854775808 by omega), bindP_some]
      rw [bOr_i64 (by omega) (by omega), or_add (a := c) (i := 6) (by omega)]
      simp only [bindP_some, plus1 (show i + 1 < 9223372036854775808 by omega)]
      refine ih (i + 1) (c * 64 + b.toNat % 64) m (by omega) (by omega) (by rw [Nat.pow_succ]; omega) hK
    · rw [if_neg h2] at hK
      have : (!decide (((b.toNat / 64 : Nat) : Int) = 2)) = true := by simp; omega
      simp only [this, ifB_true]
      exact hK
theorem first_spec4 {s : List UInt8} (hK : K (firstV s) w) : callP G161 [.string (bs s)] w K := by
  refine c161 ?_
  unfold F161 F161_1 F161_1b
  rw [nil_b]
  cases s with
  | nil =>
    simp only [bEq_str, bs_beq, decide_true, bindP_some, ifB_true]
    exact hK
  | cons b s =>
    have e : decide (bs (b :: s) = bs []) = false := by simp
    have ix := ix_txt (l := b :: s) (i := 0) (j := .i64) (by simp)
    simp only [List.getElem_cons_zero] at ix
    have ix0 : pIndexS (.string (bs (b :: s))) (.int .i64 0) = some (.int .u8 b.toNat) := ix
    simp only [bEq_str, bs_beq, e, bindP_some, ifB_false, ix0]
    refine long_spec ?_
    simp only [pTuple, List.getElem?_toArray, List.getElem?_cons_zero, List.getElem?_cons_succ, bindP_some, bEq_int]
    have hl4 : (longP b.toNat).1 ≤ 4 ∧ (longP b.toNat).2 < 256 := by
      have := b.toNat_lt
      unfold longP
      split
      · exact ⟨by simp, by simp; omega⟩
      · split
        · exact ⟨by simp, by simp; omega⟩
        · split
          · exact ⟨by simp, by simp; omega⟩
          · split
            · exact ⟨by simp, by simp; omega⟩
            · exact ⟨by simp, by simp⟩
    unfold firstV firstP at hK
    simp only at hK
    generalize longP b.toNat = x at hK hl4
    by_cases h0 : x.1 = 0
    · rw [if_pos (.inl h0)] at hK
      have : decide ((x.1 : Int) = 0) = true := by simp; omega
      simp only [this, gd_false, Bool.not_true, stepM_false, stepG_false, pPick_true, bindP_some, ifB_true]
      exact hK
    · have : decide ((x.1 : Int) = 0) = false := by simp; omega
      simp only [this, gd_false, Bool.not_false, stepM_true, stepG_true, lenS_mk, bs_size, bGt_int, pPick_false, bindP_some]
      by_cases h1 : s.length + 1 < x.1
      · rw [if_pos (.inr h1)] at hK
        have : decide ((x.1 : Int) > ((b :: s).length : Int)) = true := by simp; omega
        simp only [this, ifB_true]
        exact hK
      · rw [if_neg (by rintro (h | h) <;> omega)] at hK
        have : decide ((x.1 : Int) > ((b :: s).length : Int)) = false := by simp; omega
        simp only [this, ifB_false]
        unfold F161_2
        refine cont_spec (n := x.1) (by simp; omega) hl4.1 (x.1 - 1) 1 x.2 (fuel - 1) (by omega) (Nat.le_trans (show x.1 - 1 ≤ 4 by omega) (by decide)) (by omega) ?_
        simp only [List.drop_succ_cons, List.drop_zero]
        cases hc : contP (x.1 - 1) x.2 s with
        | none => rw [hc] at hK; exact hK
        | some c =>
          rw [hc] at hK
          simp only at hK ⊢
          unfold F161_3 F161_3b
          refine is_spec ?_
          by_cases h5 : isC c = true
          · simp only [h5, uNot_bool, Bool.not_true, bindP_some, gd_false, Bool.not_false, stepM_true, stepE_true]
            refine least_spec ?_
            by_cases h6 : leastP x.1 ≤ c
            · rw [if_pos ⟨h5, h6⟩] at hK
              have : decide ((c : Int) < (leastP x.1 : Int)) = false := by simp; omega
              simp only [bLt_int, this, stepG_true, bindP_some, pPick_false, ifB_false]
              exact hK
            · rw [if_neg (fun h => h6 h.2)] at hK
              have : decide ((c : Int) < (leastP x.1 : Int)) = true := by simp; omega
              simp only [bLt_int, this, stepG_true, bindP_some, pPick_false, ifB_true]
              exact hK
          · rw [if_neg (fun h => h5 h.1)] at hK
            have h5' : isC c = false := by simpa using h5
            simp only [h5', uNot_bool, Bool.not_false, bindP_some, gd_false, Bool.not_true, stepM_false, stepG_false, stepE_false, pPick_true, ifB_true]
            exact hK
end
end Go.Proofs.Gong

/- Nm2 -/
namespace Go.Proofs.Gong
open Go Go.Sx Go.Proofs
set_option maxRecDepth 100000
theorem to8n (n : Nat) : cInt .u8 (.int .i64 n) = some (.int .u8 (UInt8.ofNat n).toNat) := by
  simp only [cInt]; rw [wrap_u8]; congr 2
theorem quoN (n k : Nat) (hk : k ≠ 0) (h : n < 9223372036854775808) : bQuo (.int .i64 n) (.int .i64 k) = some (.int .i64 ((n / k : Nat))) := by
  rw [bQuo_int _ _ _ (by omega)]
  have e : (n : Int).tdiv k = ((n / k : Nat) : Int) := by rw [Int.tdiv_eq_ediv_of_nonneg (by omega)]; rfl
  have hq := Nat.div_le_self n k
  rw [e]
  generalize n / k = q at hq
  rw [wrap_id (by omega)]
theorem remN (j : IntKind) (n k : Nat) (hk : k ≠ 0) : bRem (.int j n) (.int j k) = some (.int j ((n % k : Nat))) := by
  rw [bRem_int _ _ _ (by omega)]
  have e : (n : Int).tmod k = ((n % k : Nat) : Int) := by rw [Int.tmod_eq_emod_of_nonneg (by omega)]; rfl
  rw [e]
theorem addN {a b : Nat} (h : a + b < 9223372036854775808) : bAdd (.int .i64 a) (.int .i64 b) = some (.int .i64 ((a + b : Nat))) := by
  rw [bAdd_int, show ((a : Int) + b) = ((a + b : Nat) : Int) by omega, wrap_id (by omega)]
theorem mul64 {n : Nat} (h : n < 72057594037927936) : bMul (.int .i64 n) (.int .i64 64) = some (.int .i64 ((n * 64 : Nat))) := by
  rw [bMul_int, show ((n : Int) * 64) = ((n * 64 : Nat) : Int) by omega, wrap_id (by omega)]
section
variable {w0 w : World} {L : List HP} {K : Value → World → Prop}
theorem fis_spec {c : Nat} (hK : K (.bool (isC c)) w) : callP G184 [.int .i64 c] w K := by
  refine c184 ?_
  unfold F184
  unfold isC at hK
  by_cases h1 : c ≤ 1114111
  · by_cases h2 : c < 55296
    · have e1 : decide ((c : Int) ≥ 0) = true := by simp
      have e2 : decide ((c : Int) ≤ 1114111) = true := by simp; omega
      have e3 : decide ((c : Int) < 55296) = true := by simp; omega
      simp only [bGe_int, bLe_int, bLt_int, e1, e2, e3, bindP_some, gd_true, gd_false, Bool.not_true, stepM_true, stepM_false, stepG_true, stepG_false, pPick_true]
      simpa [h1, h2] using hK
    · have e1 : decide ((c : Int) ≥ 0) = true := by simp
      have e2 : decide ((c : Int) ≤ 1114111) = true := by simp; omega
      have e3 : decide ((c : Int) < 55296) = false := by simp; omega
      have e4 : decide ((c : Int) > 57343) = decide (57343 < c) := by rw [decide_eq_decide]; omega
      simp only [bGe_int, bLe_int, bLt_int, bGt_int, e1, e2, e3, e4, bindP_some, gd_true, gd_false, Bool.not_false, stepM_true, stepG_true, pPick_true, pPick_false]
      simpa [h1, h2] using hK
  · have e1 : decide ((c : Int) ≥ 0) = true := by simp
    have e2 : decide ((c : Int) ≤ 1114111) = false := by simp; omega
    simp only [bGe_int, bLe_int, e1, e2, bindP_some, gd_true, gd_false, Bool.not_false, stepM_true, stepM_false, stepG_true, stepG_false, pPick_true, pPick_false, gd_undef]
    simpa [h1] using hK
theorem foldP_lt : ∀ (l : List UInt8) (c j : Nat), c < 256 * 64 ^ j → foldP c l < 256 * 64 ^ (j + l.length)
  | [], c, j, h => by simpa [foldP] using h
  | b :: l, c, j, h => by
    have := foldP_lt l (c * 64 + b.toNat % 64) (j + 1) (by rw [Nat.pow_succ]; omega)
    rw [List.length_cons, show j + (l.length + 1) = j + 1 + l.length by omega]
    exact this
theorem guessL_spec {s : List UInt8} {n : Nat} (hs : n ≤ s.length) (h4 : n ≤ 4) : ∀ (k i c m : Nat), k + i = n → k ≤ m → c < 256 * 64 ^ i → K (.int .i64 (foldP c ((s.drop i).take k))) w →
    F183_3L (m + 1) (.string (bs s)) (.int .i64 n) (.int .i64 c) (.int .i64 i) w K := by
  intro k
  induction k with
  | zero =>
    intro i c m hk hm hc hK
    rw [F183_3L]; unfold F183_3b F183_4 F183_4b
    obtain rfl : i = n := by omega
    rw [bLt_int]
    simp only [bindP_some, Int.lt_irrefl, decide_false, ifB_false]
    simpa [foldP] using hK
  | succ k ih =>
    intro i c m hk hm hc hK
    obtain ⟨m, rfl⟩ : ∃ j, m = j + 1 := ⟨m - 1, by omega⟩
    rw [F183_3L]; unfold F183_3b
    have hi : i < s.length := by omega
    have e : bLt (.int .i64 (i : Int)) (.int .i64 n) = some (.bool true) := by simp; omega
    have hdr : s.drop i = s[i] :: s.drop (i + 1) := List.drop_eq_getElem_cons hi
    rw [hdr, List.take_succ_cons] at hK
    have hp : 64 ^ i ≤ 64 ^ 4 := Nat.pow_le_pow_right (by omega) (by omega)
    have e4 : 64 ^ 4 = 16777216 := by decide
    rw [e]
    simp only [bindP_some, ifB_true, ix_txt hi]
    generalize s[i] = b at hK
    have hb := b.toNat_lt
    have r64 : bRem (.int .u8 (b.toNat : Int)) (.int .u8 64) = some (.int .u8 ((b.toNat % 64 : Nat))) := remN .u8 _ 64 (by omega)
    simp only [mul64 (show c < 72057594037927936 by omega), r64, bindP_some, to64 _ (show b.toNat % 64 < 9223372036854775808 by omega)]
    rw [addN (by omega)]
    simp only [bindP_some, plus1 (show i + 1 < 9223372036854775808 by omega)]
    exact ih (i + 1) (c * 64 + b.toNat % 64) m (by omega) (by omega) (by rw [Nat.pow_succ]; omega) hK
theorem guess_spec {s : List UInt8} {n : Nat} (hn : 1 ≤ n ∧ n ≤ 4) (hs : n ≤ s.length) (hK : K (.int .i64 (guessP s n)) w) : callP G183 [.string (bs s), .int .i64 n] w K := by
  refine c183 ?_
  unfold F183 F183_1 F183_1b
  cases s with
  | nil => simp at hs; omega
  | cons b t =>
    have ix : pIndexS (.string (bs (b :: t))) (.int .i64 0) = some (.int .u8 b.toNat) := ix_txt (l := b :: t) (i := 0) (j := .i64) (by simp)
    have hb := b.toNat_lt
    have r32 : bRem (.int .i64 (b.toNat : Int)) (.int .i64 32) = some (.int .i64 ((b.toNat % 32 : Nat))) := remN .i64 _ 32 (by omega)
    have r16 : bRem (.int .i64 (b.toNat : Int)) (.int .i64 16) = some (.int .i64 ((b.toNat % 16 : Nat))) := remN .i64 _ 16 (by omega)
    have r8 : bRem (.int .i64 (b.toNat : Int)) (.int .i64 8) = some (.int .i64 ((b.toNat % 8 : Nat))) := remN .i64 _ 8 (by omega)
    have go : ∀ c : Nat, c < 256 → n ≠ 1 → K (.int .i64 (foldP c (t.take (n - 1)))) w → F183_2 (.string (bs (b :: t))) (.int .i64 n) (.int .i64 c) w K := by
      intro c hc h1 hk
      unfold F183_2 F183_2b F183_3
      exact guessL_spec hs hn.2 (n - 1) 1 c (fuel - 1) (by omega) (Nat.le_trans (show n - 1 ≤ 4 by omega) (by decide)) (by omega) (by simpa using hk)
    simp only [ix, bindP_some, to64 _ (show b.toNat < 9223372036854775808 by omega), bEq_int, r32, r16, r8]
    unfold guessP at hK
    simp only at hK
    by_cases h1 : n = 1
    · rw [if_pos h1] at hK
      have e1 : decide ((n : Int) = 1) = true := by rw [h1]; rfl
      simp only [e1, ifB_true]
      exact hK
    · rw [if_neg h1] at hK
      have e1 : decide ((n : Int) = 1) = false := by rw [decide_eq_false_iff_not]; omega
      simp only [e1, ifB_false]
      by_cases h2 : n = 2
      · rw [if_pos h2] at hK
        have e2 : decide ((n : Int) = 2) = true := by simp; omega
        simp only [e2, ifB_true]
        exact go _ (by omega) h1 hK
      · rw [if_neg h2] at hK
        have e2 : decide ((n : Int) = 2) = false := by rw [decide_eq_false_iff_not]; omega
        simp only [e2, ifB_false]
        by_cases h3 : n = 3
        · rw [if_pos h3] at hK
          have e3 : decide ((n : Int) = 3) = true := by simp; omega
          simp only [e3, ifB_true]
          exact go _ (by omega) h1 hK
        · rw [if_neg h3] at hK
          have e3 : decide ((n : Int) = 3) = false := by rw [decide_eq_false_iff_not]; omega
          simp only [e3, ifB_false]
          exact go _ (by omega) h1 hK
theorem bytesOfN {l : List UInt8} {parts : List (Nat × Value)} {n : Nat} {k : Value → World → Prop} (h : Sat w0 L w) (hb : fBuildSl Try.prog 5 n parts = some (cellsB l).toArray) (hn : l.length = n) (h0 : 0 < n) (hK : ∀ sv w', Sat w0 L w' → cBytes sv w' = some (.string (bs l)) → k sv w') : eBuildSl Try.prog 29 n parts w k := by
  refine eBuildSl_sat (es := 1) h u29 hb (by simp [hn]) fun s w' h' => hK s w' h'.drop ?_
  have := h'.rd
  exact cBytes_rd this h0
theorem d65 {c : Nat} (h : c < 65536) : decide ((c : Int) < 65536) = true := by simp; omega
theorem n65 {c : Nat} (h : ¬ c < 65536) : decide ((c : Int) < 65536) = false := by simp; omega
theorem d128 {c : Nat} (h : c < 128) : decide ((c : Int) < 128) = true := by simp; omega
theorem n128 {c : Nat} (h : ¬ c < 128) : decide ((c : Int) < 128) = false := by simp; omega
theorem d2048 {c : Nat} (h : c < 2048) : decide ((c : Int) < 2048) = true := by simp; omega
theorem n2048 {c : Nat} (h : ¬ c < 2048) : decide ((c : Int) < 2048) = false := by simp; omega
theorem made_a {c : Nat} (h1 : c < 128) (h : Sat w0 L w) (hK : ∀ w', Sat w0 L w' → K (.string (bs (madeP c))) w') : callP G185 [.int .i64 c] w K := by
  refine c185 ?_
  unfold F185
  simp only [bLt_int, bindP_some, d128 h1, ifB_true, to8n]
  rw [made1 h1] at hK
  exact bytesOfN (l := [_]) h (by kernel_rfl) rfl (by omega) fun sv w1 h1 hb => by rw [hb]; exact hK _ h1
theorem made_b {c : Nat} (h1 : ¬ c < 128) (h2 : c < 2048) (h : Sat w0 L w) (hK : ∀ w', Sat w0 L w' → K (.string (bs (madeP c))) w') : callP G185 [.int .i64 c] w K := by
  have q64 : bQuo (.int .i64 (c : Int)) (.int .i64 64) = some (.int .i64 ((c / 64 : Nat))) := quoN _ 64 (by omega) (by omega)
  have r64 : ∀ n : Nat, bRem (.int .i64 (n : Int)) (.int .i64 64) = some (.int .i64 ((n % 64 : Nat))) := fun n => remN .i64 _ 64 (by omega)
  have a192 : ∀ n : Nat, n < 16777216 → bAdd (.int .i64 192) (.int .i64 (n : Int)) = some (.int .i64 ((192 + n : Nat))) := fun n hn => addN (a := 192) (by omega)
  have a128 : ∀ n : Nat, n < 16777216 → bAdd (.int .i64 128) (.int .i64 (n : Int)) = some (.int .i64 ((128 + n : Nat))) := fun n hn => addN (a := 128) (by omega)
  refine c185 ?_
  unfold F185
  simp only [bLt_int, bindP_some, n128 h1, d2048 h2, ifB_true, ifB_false, q64, r64, a192 (c / 64) (by omega), a128 (c % 64) (by omega), to8n]
  rw [made2 h1 h2] at hK
  exact bytesOfN (l := [_, _]) h (by kernel_rfl) rfl (by omega) fun sv w1 h1 hb => by rw [hb]; exact hK _ h1
theorem made_c {c : Nat} (h1 : ¬ c < 128) (h2 : ¬ c < 2048) (h3 : c < 65536) (h : Sat w0 L w) (hK : ∀ w', Sat w0 L w' → K (.string (bs (madeP c))) w') : callP G185 [.int .i64 c] w K := by
  have q64 : bQuo (.int .i64 (c : Int)) (.int .i64 64) = some (.int .i64 ((c / 64 : Nat))) := quoN _ 64 (by omega) (by omega)
  have q4096 : bQuo (.int .i64 (c : Int)) (.int .i64 4096) = some (.int .i64 ((c / 4096 : Nat))) := quoN _ 4096 (by omega) (by omega)
  have r64 : ∀ n : Nat, bRem (.int .i64 (n : Int)) (.int .i64 64) = some (.int .i64 ((n % 64 : Nat))) := fun n => remN .i64 _ 64 (by omega)
  have a128 : ∀ n : Nat, n < 16777216 → bAdd (.int .i64 128) (.int .i64 (n : Int)) = some (.int .i64 ((128 + n : Nat))) := fun n hn => addN (a := 128) (by omega)
  have a224 : ∀ n : Nat, n < 16777216 → bAdd (.int .i64 224) (.int .i64 (n : Int)) = some (.int .i64 ((224 + n : Nat))) := fun n hn => addN (a := 224) (by omega)
  refine c185 ?_
  unfold F185
  simp only [bLt_int, bindP_some, n128 h1, n2048 h2, d65 h3, ifB_true, ifB_false, q64, q4096, r64, a224 (c / 4096) (by omega), a128 (c / 64 % 64) (by omega), a128 (c % 64) (by omega), to8n]
  rw [made3 h1 h2 h3] at hK
  exact bytesOfN (l := [_, _, _]) h (by kernel_rfl) rfl (by omega) fun sv w1 h1 hb => by rw [hb]; exact hK _ h1
theorem made_d {c : Nat} (hc : c < 16777216) (h1 : ¬ c < 128) (h2 : ¬ c < 2048) (h3 : ¬ c < 65536) (h : Sat w0 L w) (hK : ∀ w', Sat w0 L w' → K (.string (bs (madeP c))) w') : callP G185 [.int .i64 c] w K := by
  have q64 : bQuo (.int .i64 (c : Int)) (.int .i64 64) = some (.int .i64 ((c / 64 : Nat))) := quoN _ 64 (by omega) (by omega)
  have q4096 : bQuo (.int .i64 (c : Int)) (.int .i64 4096) = some (.int .i64 ((c / 4096 : Nat))) := quoN _ 4096 (by omega) (by omega)
  have q26 : bQuo (.int .i64 (c : Int)) (.int .i64 262144) = some (.int .i64 ((c / 262144 : Nat))) := quoN _ 262144 (by omega) (by omega)
  have r64 : ∀ n : Nat, bRem (.int .i64 (n : Int)) (.int .i64 64) = some (.int .i64 ((n % 64 : Nat))) := fun n => remN .i64 _ 64 (by omega)
  have a128 : ∀ n : Nat, n < 16777216 → bAdd (.int .i64 128) (.int .i64 (n : Int)) = some (.int .i64 ((128 + n : Nat))) := fun n hn => addN (a := 128) (by omega)
  have a240 : ∀ n : Nat, n < 16777216 → bAdd (.int .i64 240) (.int .i64 (n : Int)) = some (.int .i64 ((240 + n : Nat))) := fun n hn => addN (a := 240) (by omega)
  refine c185 ?_
  unfold F185
  simp only [bLt_int, bindP_some, n128 h1, n2048 h2, n65 h3, ifB_false, q64, q4096, q26, r64, a240 (c / 262144) (by omega), a128 (c / 4096 % 64) (by omega), a128 (c / 64 % 64) (by omega), a128 (c % 64) (by omega), to8n]
  rw [made4 h1 h2 h3] at hK
  exact bytesOfN (l := [_, _, _, _]) h (by kernel_rfl) rfl (by omega) fun sv w1 h1 hb => by rw [hb]; exact hK _ h1
theorem made_spec {c : Nat} (hc : c < 16777216) (h : Sat w0 L w) (hK : ∀ w', Sat w0 L w' → K (.string (bs (madeP c))) w') : callP G185 [.int .i64 c] w K := by
  by_cases h1 : c < 128
  · exact made_a h1 h hK
  · by_cases h2 : c < 2048
    · exact made_b h1 h2 h hK
    · by_cases h3 : c < 65536
      · exact made_c h1 h2 h3 h hK
      · exact made_d hc h1 h2 h3 h hK
end
end Go.Proofs.Gong

/- Nm3 -/
namespace Go.Proofs.Gong
open Go Go.Sx Go.Proofs
set_option maxRecDepth 100000
def optV (o : Option (Nat × Nat)) : Value := match o with
  | some x => .tuple #[.int .i64 x.1, .int .i64 x.2, .int .i64 0]
  | none => errV
theorem guessP_lt {s : List UInt8} {n : Nat} (hn : 1 ≤ n ∧ n ≤ 4) : guessP s n < 16777216 * 256 := by
  cases s with
  | nil => simp [guessP]
  | cons b t =>
    have hb := b.toNat_lt
    unfold guessP
    simp only
    split
    · omega
    · have h := foldP_lt (t.take (n - 1)) (if n = 2 then b.toNat % 32 else if n = 3 then b.toNat % 16 else b.toNat % 8) 0 (by split <;> (try split) <;> omega)
      have hl : (t.take (n - 1)).length ≤ 3 := by simp; omega
      have hp : 64 ^ (0 + (t.take (n - 1)).length) ≤ 64 ^ 3 := Nat.pow_le_pow_right (by omega) (by omega)
      have e3 : 64 ^ 3 = 262144 := by decide
      omega
theorem isC_lt {c : Nat} (h : isC c = true) : c < 16777216 := by rw [isC_iff] at h; omega
section
variable {w0 w : World} {L : List HP} {K : Value → World → Prop}
theorem ffL_spec {s : List UInt8} : ∀ (k n m : Nat) (w : World), k + n = 5 → 1 ≤ n → k ≤ m → Sat w0 L w → (∀ w', Sat w0 L w' → K (optV (refP s k n)) w') → F163_2L (m + 1) (.string (bs s)) (.int .i64 n) w K := by
  intro k
  induction k with
  | zero =>
    intro n m w hk h1 hm hs hK
    rw [F163_2L]; unfold F163_2b F163_3 F163_3b
    have e : decide ((n : Int) ≤ 4) = false := by simp; omega
    simp only [bLe_int, e, bindP_some, gd_true, stepM_false, stepG_false, pPick_false, ifB_false]
    exact hK _ hs
  | succ k ih =>
    intro n m w hk h1 hm hs hK
    obtain ⟨m, rfl⟩ : ∃ j, m = j + 1 := ⟨m - 1, by omega⟩
    rw [F163_2L]; unfold F163_2b
    have e : decide ((n : Int) ≤ 4) = true := by simp; omega
    by_cases hl : n ≤ s.length
    · have e2 : decide ((n : Int) ≤ (s.length : Int)) = true := by simp; omega
      simp only [bLe_int, e, e2, bindP_some, gd_true, stepM_true, stepG_true, lenS_mk, bs_size, pPick_true, ifB_true]
      refine guess_spec ⟨h1, by omega⟩ hl ?_
      refine fis_spec ?_
      rw [refP_step hl] at hK
      have hs' := hs.drew
      have next : hitP s n = false → ∀ w2, Sat w0 L w2 → bindP (bAdd (.int .i64 (n : Int)) (.int .i64 1)) (fun v19 => F163_2L (m + 1) (.string (bs s)) v19 w2 K) := by
        intro hh w2 h2
        rw [if_neg (by rw [hh]; decide)] at hK
        rw [plus1 (by omega)]
        simp only [bindP_some]
        exact ih (n + 1) m w2 (by omega) (by omega) (by omega) h2 hK
      by_cases hi : isC (guessP s n) = true
      · simp only [hi, gd_true, stepM_true, stepG_true, stepE_true]
        have e3 : pSliceS (.string (bs s)) none (some (.int .i64 (n : Int))) = _ := sub_to hl
        rw [e3]
        simp only [bindP_some]
        refine made_spec (isC_lt hi) hs' fun w3 h3 => ?_
        simp only [bEq_str, bs_beq, bs_inj, bindP_some, pPick_true]
        by_cases hm2 : madeP (guessP s n) = s.take n
        · have hh : hitP s n = true := by simp [hitP, hi, hm2]
          rw [if_pos hh] at hK
          simp only [hm2, decide_true, ifB_true]
          exact hK _ h3
        · have hh : hitP s n = false := by simp [hitP, hm2]
          simp only [hm2, decide_false, ifB_false]
          exact next hh _ h3
      · have hi' : isC (guessP s n) = false := by simpa using hi
        have hh : hitP s n = false := by simp [hitP, hi']
        simp only [hi', gd_true, stepM_false, stepG_false, stepE_false, bindP_some, pPick_false, ifB_false]
        exact next hh _ hs'
    · have e2 : decide ((n : Int) ≤ (s.length : Int)) = false := by simp; omega
      simp only [bLe_int, e, e2, bindP_some, gd_true, stepM_true, stepG_true, lenS_mk, bs_size, pPick_true, ifB_false]
      unfold F163_3 F163_3b
      rw [refP_end (by omega)] at hK
      exact hK _ hs
theorem ffirst_spec {s : List UInt8} (h : Sat w0 L w) (hK : ∀ w', Sat w0 L w' → K (optV (firstP s)) w') : callP G163 [.string (bs s)] w K := by
  refine c163 ?_
  unfold F163 F163_1 F163_1b F163_2
  rw [← refP_first] at hK
  exact ffL_spec 4 1 (fuel - 1) w (by omega) (by omega) (by decide) h hK
def charsF : Nat → List UInt8 → Option (List Int)
  | _, [] => some []
  | 0, _ :: _ => none
  | k + 1, b :: s => match firstP (b :: s) with
    | none => none
    | some x => (charsF k ((b :: s).drop x.2)).map ((x.1 : Int) :: ·)
def charsP (s : List UInt8) : Option (List Int) := charsF s.length s
theorem firstP_len {s : List UInt8} {c n : Nat} (h : firstP s = some (c, n)) : 1 ≤ n ∧ n ≤ s.length := by
  cases s with
  | nil => simp [firstP] at h
  | cons b s =>
    unfold firstP at h
    simp only at h
    split at h
    · cases h
    · rename_i hn
      split at h
      · cases h
      · split at h
        · simp only [Option.some.injEq, Prod.mk.injEq] at h
          simp only [List.length_cons]
          omega
        · cases h
theorem one_lit {c : Int} {v : Value} {l : List Int} (h : Sat w0 (LsH cI 1 3 v l :: L) w) (hl : l.length < 1000000) (hK : ∀ v' w', Sat w0 (LsH cI 1 3 v' (l ++ [c]) :: L) w' → K v' w') :
    eBuildSl Try.prog 22 1 [(0, .int .i64 c)] w fun v9 w8 => eAppend Try.prog 22 22 v v9 w8 K := by
  have hb : fBuildSl Try.prog 3 1 [(0, .int .i64 c)] = some #[.int .i64 c] := by kernel_rfl
  refine ls_lit (m := [c]) CI h u22 hb rfl fun sv w1 h1 => ?_
  exact ls_app (m := [c]) CI h1.f1 sl22 ss22 (ls_rd h1) (by simp; omega) fun s' w' h' => hK s' w' (h'.f1.drop)
theorem chL_spec : ∀ (k m : Nat) (s : List UInt8) (l : List Int) (v : Value) (w : World), s.length ≤ k → k ≤ m → l.length + s.length < 1000000 → Sat w0 (LsH cI 1 3 v l :: L) w →
    (∀ w', Sat w0 L w' → charsF k s = none → K (.tuple #[.slice none 0 0, .int .i64 40]) w') → (∀ v' r w', charsF k s = some r → Sat w0 (LsH cI 1 3 v' (l ++ r) :: L) w' → K (.tuple #[v', .int .i64 0]) w') →
    F135_2L (m + 1) (.string (bs s)) v w K := by
  intro k
  induction k with
  | zero =>
    intro m s l v w hs hm hl h hN hK
    obtain rfl : s = [] := List.length_eq_zero_iff.1 (by omega)
    rw [F135_2L]; unfold F135_2b F135_3 F135_3b
    rw [nil_b]
    simp only [bNe_str, bs_beq, decide_true, Bool.not_true, bindP_some, ifB_false]
    exact hK v [] w rfl (by simpa using h)
  | succ k ih =>
    intro m s l v w hs hm hl h hN hK
    obtain ⟨m, rfl⟩ : ∃ j, m = j + 1 := ⟨m - 1, by omega⟩
    rw [F135_2L]; unfold F135_2b
    rw [nil_b]
    cases s with
    | nil =>
      unfold F135_3 F135_3b
      simp only [bNe_str, bs_beq, decide_true, Bool.not_true, bindP_some, ifB_false]
      exact hK v [] w rfl (by simpa using h)
    | cons b s =>
      have e : (!decide (bs (b :: s) = bs [])) = true := by simp
      simp only [bNe_str, bs_beq, e, bindP_some, ifB_true]
      refine first_spec4 ?_
      unfold firstV
      cases hf : firstP (b :: s) with
      | none =>
        have e1 : (!decide ((40 : Int) = 0)) = true := by decide
        simp only [errV, pTuple, List.getElem?_toArray, List.getElem?_cons_zero, List.getElem?_cons_succ, bindP_some, bNe_int, e1, ifB_true]
        exact hN w h.drop (by simp [charsF, hf])
      | some x =>
        obtain ⟨g1, g2⟩ := firstP_len (c := x.1) (n := x.2) hf
        simp only [pTuple, List.getElem?_toArray, List.getElem?_cons_zero, List.getElem?_cons_succ, bindP_some, bNe_int, decide_true, Bool.not_true, ifB_false]
        refine one_lit h (by omega) fun v' w' h' => ?_
        rw [sub_from g2]
        simp only [bindP_some]
        refine ih m ((b :: s).drop x.2) (l ++ [(x.1 : Int)]) v' w' (by simp at hs ⊢; omega) (by omega) (by simp at hl ⊢; omega) h' (fun w2 h2 hn => hN w2 h2 (by simp [charsF, hf, hn])) fun v2 r w2 hr h2 => ?_
        refine hK v2 ((x.1 : Int) :: r) w2 (by simp [charsF, hf, hr]) ?_
        simpa using h2
theorem chars_spec {s : List UInt8} (hs : s.length < 1000000) (h : Sat w0 L w) (hN : ∀ w', Sat w0 L w' → charsP s = none → K (.tuple #[.slice none 0 0, .int .i64 40]) w')
    (hK : ∀ v' r w', charsP s = some r → Sat w0 (LsH cI 1 3 v' r :: L) w' → K (.tuple #[v', .int .i64 0]) w') : callP G135 [.string (bs s)] w K := by
  refine c135 ?_
  unfold F135 F135_1 F135_1b F135_2
  exact chL_spec s.length (fuel - 1) s [] _ w (Nat.le_refl _) (Nat.le_trans (show s.length ≤ 1000000 by omega) (by decide)) (by simpa using hs) (ls_nil h) hN fun v' r w' hr h' => hK v' r w' hr (by simpa using h')
theorem fchL_spec {s : List UInt8} (hsl : s.length < 1000000) : ∀ (k m a : Nat) (l : List Int) (v : Value) (w : World), a ≤ s.length → (s.drop a).length ≤ k → k ≤ m → l.length + (s.drop a).length < 1000000 → Sat w0 (LsH cI 1 3 v l :: L) w →
    (∀ w', Sat w0 L w' → charsF k (s.drop a) = none → K (.tuple #[.slice none 0 0, .int .i64 40]) w') → (∀ v' r w', charsF k (s.drop a) = some r → Sat w0 (LsH cI 1 3 v' (l ++ r) :: L) w' → K (.tuple #[v', .int .i64 0]) w') →
    F138_2L (m + 1) (.string (bs s)) v (.int .i64 a) w K := by
  intro k
  induction k with
  | zero =>
    intro m a l v w ha hs hm hl h hN hK
    rw [F138_2L]; unfold F138_2b F138_3 F138_3b
    have hal : a = s.length := by simp at hs; omega
    have e : decide ((a : Int) < (s.length : Int)) = false := by simp; omega
    simp only [lenS_mk, bs_size, bLt_int, e, bindP_some, ifB_false]
    exact hK v [] w (by rw [List.drop_of_length_le (by omega)]; rfl) (by simpa using h)
  | succ k ih =>
    intro m a l v w ha hs hm hl h hN hK
    obtain ⟨m, rfl⟩ : ∃ j, m = j + 1 := ⟨m - 1, by omega⟩
    rw [F138_2L]; unfold F138_2b
    by_cases hal : a = s.length
    · unfold F138_3 F138_3b
      have e : decide ((a : Int) < (s.length : Int)) = false := by simp; omega
      simp only [lenS_mk, bs_size, bLt_int, e, bindP_some, ifB_false]
      exact hK v [] w (by rw [List.drop_of_length_le (by omega)]; rfl) (by simpa using h)
    · have e : decide ((a : Int) < (s.length : Int)) = true := by simp; omega
      simp only [lenS_mk, bs_size, bLt_int, e, bindP_some, ifB_true, sub_from ha]
      have hdl : (s.drop a).length = s.length - a := by simp
      generalize hd : s.drop a = t at *
      refine ffirst_spec h fun w1 h1 => ?_
      cases t with
      | nil => simp at hdl; omega
      | cons b t =>
      cases hf : firstP (b :: t) with
      | none =>
        have e1 : (!decide ((40 : Int) = 0)) = true := by decide
        simp only [optV, errV, pTuple, List.getElem?_toArray, List.getElem?_cons_zero, List.getElem?_cons_succ, bindP_some, bNe_int, e1, ifB_true]
        exact hN w1 h1.drop (by simp [charsF, hf])
      | some x =>
        obtain ⟨g1, g2⟩ := firstP_len (c := x.1) (n := x.2) hf
        simp only [optV, pTuple, List.getElem?_toArray, List.getElem?_cons_zero, List.getElem?_cons_succ, bindP_some, bNe_int, decide_true, Bool.not_true, ifB_false]
        refine one_lit h1 (by omega) fun v' w' h' => ?_
        have ea : bAdd (.int .i64 (a : Int)) (.int .i64 (x.2 : Int)) = some (.int .i64 ((a + x.2 : Nat))) := addN (by omega)
        rw [ea]
        simp only [bindP_some]
        have hd2 : s.drop (a + x.2) = (b :: t).drop x.2 := by rw [← List.drop_drop, hd]
        refine ih m (a + x.2) (l ++ [(x.1 : Int)]) v' w' (by omega) (by rw [hd2]; simp at hs ⊢; omega) (by omega) (by rw [hd2]; simp at hl ⊢; omega) h' (fun w2 h2 hn => hN w2 h2 (by rw [hd2] at hn; simp [charsF, hf, hn])) fun v2 r w2 hr h2 => ?_
        refine hK v2 ((x.1 : Int) :: r) w2 (by rw [hd2] at hr; simp [charsF, hf, hr]) ?_
        simpa using h2
theorem fchars_spec {s : List UInt8} (hs : s.length < 1000000) (h : Sat w0 L w) (hN : ∀ w', Sat w0 L w' → charsP s = none → K (.tuple #[.slice none 0 0, .int .i64 40]) w')
    (hK : ∀ v' r w', charsP s = some r → Sat w0 (LsH cI 1 3 v' r :: L) w' → K (.tuple #[v', .int .i64 0]) w') : callP G138 [.string (bs s)] w K := by
  refine c138 ?_
  unfold F138 F138_1 F138_1b F138_2
  exact fchL_spec hs s.length (fuel - 1) 0 [] _ w (by omega) (by simp) (Nat.le_trans (show s.length ≤ 1000000 by omega) (by decide)) (by simpa using hs) (ls_nil h) hN fun v' r w' hr h' => hK v' r w' hr (by simpa using h')
end
end Go.Proofs.Gong

/- Nm4 -/
namespace Go.Proofs.Gong
open Go Go.Sx Go.Proofs
set_option maxRecDepth 100000
def ctlP (c : Int) : Bool := decide (c < 32) || decide (c = 127)
def plainP (s : List UInt8) (most : Nat) : Bool := match charsP s with
  | none => false
  | some l => !(l.any ctlP) && decide (s.length ≤ most)
section
variable {w0 w : World} {L : List HP} {K : Value → World → Prop}
theorem ctl_spec {c : Int} (hK : K (.bool (ctlP c)) w) : callP G137 [.int .i64 c] w K := by
  refine c137 ?_
  unfold F137
  unfold ctlP at hK
  by_cases h : c < 32
  · simp [h] at hK ⊢; exact hK
  · simp [h] at hK ⊢; exact hK
def fnV : Value := .func (.func 137) #[] #[]
theorem ixL_spec {l : List Int} {v : Value} (h : Rd w 1 v l.length (l.flatMap cI)) (hl : l.length ≤ 1000000) : ∀ (k i m : Nat), k + i = l.length → k ≤ m → (∀ j : Int, (decide (j ≥ 0) = (l.drop i).any ctlP) → K (.int .i64 j) w) →
    F162_2L (m + 1) v fnV (.int .i64 l.length) (.int .i64 i) w K := by
  intro k
  induction k with
  | zero =>
    intro i m hk hm hK
    rw [F162_2L]; unfold F162_2b F162_3 F162_3b
    obtain rfl : i = l.length := by omega
    rw [bLt_int]
    simp only [bindP_some, Int.lt_irrefl, decide_false, ifB_false]
    exact hK (-1) (by simp)
  | succ k ih =>
    intro i m hk hm hK
    obtain ⟨m, rfl⟩ : ∃ j, m = j + 1 := ⟨m - 1, by omega⟩
    rw [F162_2L]; unfold F162_2b
    have hi : i < l.length := by omega
    have e : bLt (.int .i64 (i : Int)) (.int .i64 l.length) = some (.bool true) := by simp; omega
    have e1 := ix_el h hi
    have e2 := rd_ld1 (g := fun c : Int => Value.int .i64 c) h hi
    have hdr : l.drop i = l[i] :: l.drop (i + 1) := List.drop_eq_getElem_cons hi
    rw [hdr, List.any_cons] at hK
    rw [e]
    simp only [bindP_some, ifB_true, e1, e2]
    generalize l[i] = c at hK
    have call : ∀ k : Value → World → Prop, callP G137 [.int .i64 c] w k → eCallV (tabOf T162) fnV [.int .i64 c] w k := by
      intro k h
      show callP (tabOf T162 137) _ _ _
      exact h
    refine call _ (ctl_spec ?_)
    by_cases hc : ctlP c = true
    · simp only [hc, ifB_true]
      exact hK i (by simp [hc])
    · have hc' : ctlP c = false := by simpa using hc
      simp only [hc', ifB_false, plus1 (show i + 1 < 9223372036854775808 by omega), bindP_some]
      exact ih (i + 1) m (by omega) (by omega) fun j hj => hK j (by rw [hj, hc']; simp)
theorem contains_spec {l : List Int} {v : Value} (h : Rd w 1 v l.length (l.flatMap cI)) (hl : l.length ≤ 1000000) (hK : K (.bool (l.any ctlP)) w) : callP G136 [v, fnV] w K := by
  refine c136 ?_
  unfold F136
  refine c162 ?_
  unfold F162 F162_1 F162_1b
  rw [h.len]
  simp only [bindP_some]
  unfold F162_2
  refine ixL_spec h hl l.length 0 (fuel - 1) (by omega) (Nat.le_trans hl (by decide)) fun j hj => ?_
  simp only [bGe_int, bindP_some]
  rw [hj, List.drop_zero]
  exact hK
theorem charsF_len : ∀ (k : Nat) (s : List UInt8) (r : List Int), charsF k s = some r → r.length ≤ s.length
  | _, [], r, h => by
    have : some r = some [] := by rw [← h]; cases ‹Nat› <;> rfl
    simp at this; subst this; simp
  | 0, _ :: _, r, h => by simp [charsF] at h
  | k + 1, b :: s, r, h => by
    unfold charsF at h
    split at h
    · cases h
    · rename_i x hf
      obtain ⟨g1, g2⟩ := firstP_len (c := x.1) (n := x.2) hf
      simp only [Option.map_eq_some_iff] at h
      obtain ⟨r', h1, rfl⟩ := h
      have := charsF_len k _ r' h1
      simp at this ⊢
      simp at g2
      omega
theorem plain_spec {s : List UInt8} {most : Nat} (hs : s.length < 1000000) (h : Sat w0 L w) (hK : ∀ w', Sat w0 L w' → K (.bool (plainP s most)) w') : callP G111 [.string (bs s), .int .i64 most] w K := by
  refine c111 ?_
  unfold F111
  unfold plainP at hK
  refine chars_spec hs h (fun w1 h1 hn => ?_) fun v r w1 hr h1 => ?_
  · rw [hn] at hK
    simp only [pTuple, List.getElem?_toArray, List.getElem?_cons_zero, List.getElem?_cons_succ, bindP_some]
    refine contains_spec (l := []) (.emp _ _) (by simp) ?_
    have e : decide ((40 : Int) = 0) = false := by decide
    simp only [bEq_int, e, bindP_some, gd_true, stepM_false, stepG_false, pPick_false]
    exact hK _ h1
  · rw [hr] at hK
    have hl := charsF_len _ _ _ hr
    simp only [pTuple, List.getElem?_toArray, List.getElem?_cons_zero, List.getElem?_cons_succ, bindP_some]
    refine contains_spec (ls_rd h1) (by omega) ?_
    have hk := hK _ h1.drop
    simp only at hk
    by_cases hc : r.any ctlP = true
    · simp only [hc, Bool.not_true, Bool.false_and] at hk
      simp only [bEq_int, decide_true, bindP_some, gd_true, stepM_true, stepG_true, hc, uNot_bool, Bool.not_true, pPick_true, stepM_false, stepG_false, pPick_false]
      exact hk
    · have hc' : r.any ctlP = false := by simpa using hc
      simp only [hc', Bool.not_false, Bool.true_and] at hk
      have e : decide ((s.length : Int) ≤ (most : Int)) = decide (s.length ≤ most) := by rw [decide_eq_decide]; omega
      simp only [bEq_int, decide_true, bindP_some, gd_true, stepM_true, stepG_true, hc', uNot_bool, Bool.not_false, pPick_true, lenS_mk, bs_size, bLe_int, e]
      exact hk
theorem fpL_spec {s : List UInt8} {most : Nat} {l : List Int} {v : Value} (h : Rd w 1 v l.length (l.flatMap cI)) (hl : l.length ≤ 1000000) (hK : K (.bool (!(l.any ctlP) && decide (s.length ≤ most))) w) : ∀ (k i m : Nat), k + i = l.length → k ≤ m → (l.take i).any ctlP = false →
    F112_2L (m + 1) (.string (bs s)) (.int .i64 most) v (.int .i64 0) (.int .i64 i) w K := by
  intro k
  have e0 : decide ((s.length : Int) ≤ (most : Int)) = decide (s.length ≤ most) := by rw [decide_eq_decide]; omega
  induction k with
  | zero =>
    intro i m hk hm hi
    rw [F112_2L]; unfold F112_2b F112_3 F112_3b
    obtain rfl : i = l.length := by omega
    rw [List.take_length] at hi
    rw [hi] at hK
    rw [h.len]
    simp only [bLt_int, bindP_some, Int.lt_irrefl, decide_false, ifB_false, bEq_int, decide_true, gd_true, stepM_true, stepG_true, lenS_mk, bs_size, bLe_int, e0, pPick_true]
    simpa using hK
  | succ k ih =>
    intro i m hk hm hi0
    obtain ⟨m, rfl⟩ : ∃ j, m = j + 1 := ⟨m - 1, by omega⟩
    rw [F112_2L]; unfold F112_2b
    have hi : i < l.length := by omega
    have e : bLt (.int .i64 (i : Int)) (.int .i64 l.length) = some (.bool true) := by simp; omega
    have e1 := ix_el h hi
    have e2 := rd_ld1 (g := fun c : Int => Value.int .i64 c) h hi
    rw [h.len]
    simp only [bindP_some, e, ifB_true, e1, e2]
    have htk : (l.take (i + 1)).any ctlP = ctlP l[i] := by
      rw [List.take_succ_eq_append_getElem hi, List.any_append, hi0]; simp
    have hany : ctlP l[i] = true → l.any ctlP = true := fun h => List.any_eq_true.2 ⟨l[i], List.getElem_mem hi, h⟩
    generalize l[i] = c at htk hany e2 ⊢
    unfold ctlP at htk hany
    have out : ctlP c = true → K (.bool false) w := by
      intro hc
      have := hany hc
      rw [show (fun c => decide (c < 32) || decide (c = 127)) = ctlP from rfl] at this
      rw [this] at hK
      simpa using hK
    have step : ctlP c = false → bindP (bAdd (.int .i64 (i : Int)) (.int .i64 1)) (fun v18 => F112_2L (m + 1) (.string (bs s)) (.int .i64 most) v (.int .i64 0) v18 w K) := by
      intro hc
      rw [plus1 (by omega)]
      simp only [bindP_some]
      refine ih (i + 1) m (by omega) (by omega) ?_
      rw [show ctlP = (fun c => decide (c < 32) || decide (c = 127)) from rfl] at hc ⊢
      rw [htk]; exact hc
    by_cases h1 : c < 32
    · simp only [bLt_int, h1, decide_true, bindP_some, gd_false, Bool.not_true, stepM_false, stepG_false, pPick_true, ifB_true]
      exact out (by simp [ctlP, h1])
    · simp only [bLt_int, h1, decide_false, bindP_some, gd_false, Bool.not_false, stepM_true, stepG_true, e1, e2, bEq_int, pPick_false]
      by_cases h2 : c = 127
      · simp only [h2, decide_true, ifB_true]
        exact out (by simp [ctlP, h2])
      · simp only [h2, decide_false, ifB_false]
        exact step (by simp [ctlP, h1, h2])
theorem fplain_spec {s : List UInt8} {most : Nat} (hs : s.length < 1000000) (h : Sat w0 L w) (hK : ∀ w', Sat w0 L w' → K (.bool (plainP s most)) w') : callP G112 [.string (bs s), .int .i64 most] w K := by
  refine c112 ?_
  unfold F112 F112_1 F112_1b
  unfold plainP at hK
  refine fchars_spec hs h (fun w1 h1 hn => ?_) fun v r w1 hr h1 => ?_
  · rw [hn] at hK
    simp only [pTuple, List.getElem?_toArray, List.getElem?_cons_zero, List.getElem?_cons_succ, bindP_some]
    unfold F112_2
    obtain ⟨m, hm⟩ : ∃ m, fuel = m + 1 := ⟨fuel - 1, by decide⟩
    rw [hm, F112_2L]
    unfold F112_2b F112_3 F112_3b
    have e : decide ((40 : Int) = 0) = false := by decide
    have e1 : bLt (.int .i64 0) (.int .i64 ((0 : Nat) : Int)) = some (.bool false) := by simp
    simp only [lenL_mk, e1, bEq_int, e, bindP_some, ifB_false, gd_true, stepM_false, stepG_false, pPick_false]
    exact hK _ h1
  · rw [hr] at hK
    have hl := charsF_len _ _ _ hr
    simp only [pTuple, List.getElem?_toArray, List.getElem?_cons_zero, List.getElem?_cons_succ, bindP_some]
    unfold F112_2
    exact fpL_spec (ls_rd h1) (by omega) (hK _ h1.drop) r.length 0 (fuel - 1) (by omega) (Nat.le_trans (show r.length ≤ 1000000 by omega) (by decide)) (by simp)
end
end Go.Proofs.Gong

/- Nm5 -/
namespace Go.Proofs.Gong
open Go Go.Sx Go.Proofs
set_option maxRecDepth 100000
structure Evt where
  node : List UInt8
  cls : List UInt8
  key : List UInt8
  level : Int
  text : List UInt8
  deriving DecidableEq
@[reducible] def cEv (e : Evt) : List Value := [.string (bs e.node), .string (bs e.cls), .string (bs e.key), .int .i64 e.level, .string (bs e.text)]
abbrev evV (e : Evt) : Value := .agg (cEv e).toArray
def Evt.fits (e : Evt) : Prop := e.node.length < 1000000 ∧ e.cls.length < 1000000 ∧ e.key.length < 1000000 ∧ e.text.length < 1000000
def okE (e : Evt) : Bool := !decide (e.node = []) && !decide (e.cls = []) && plainP e.node 64 && plainP e.cls 64 && plainP e.key 128 && plainP e.text 1024 && decide (0 ≤ e.level) && decide (e.level ≤ 5)
def chkE (e : Evt) : Int := if okE e = true then 0 else 180
section
variable {w0 w : World} {L : List HP} {K : Value → World → Prop} {e : Evt}
theorem ncheck_spec (he : e.fits) (h : Sat w0 L w) (hK : ∀ w', Sat w0 L w' → K (.int .i64 (chkE e)) w') : callP G61 [evV e] w K := by
  refine c61 ?_
  unfold F61
  refine eBox_sat h fun p w1 h1 => ?_
  have e0 : (evV e).cells = (cEv e).toArray := rfl
  rw [e0] at h1
  have cs : ∀ {w' : World}, Sat w0 (Cl p (cEv e).toArray 31 :: L) w' → ∀ i, w'.cell? ⟨p, i, none⟩ = (cEv e)[i]? := fun h i => by rw [cell_of h.cl, List.getElem?_toArray]
  have k0 : (cEv e)[0]? = some (.string (bs e.node)) := rfl
  have k1 : (cEv e)[1]? = some (.string (bs e.cls)) := rfl
  have k2 : (cEv e)[2]? = some (.string (bs e.key)) := rfl
  have k3 : (cEv e)[3]? = some (.int .i64 e.level) := rfl
  have k4 : (cEv e)[4]? = some (.string (bs e.text)) := rfl
  obtain ⟨f1, f2, f3, f4⟩ := he
  unfold chkE okE at hK
  rw [nil_b]
  simp only [ptr, pFieldAddr_ptr, bindP_some, Nat.zero_add, ld1_ptr, cs h1, k0, k1, bNe_str, bs_beq, bs_inj]
  have bad : ∀ w', Sat w0 (Cl p (cEv e).toArray 31 :: L) w' → okE e = false → K (.int .i64 180) w' := by
    intro w' hs ho
    have := hK _ hs.drop
    unfold okE at ho
    rw [ho] at this
    exact this
  by_cases n1 : e.node = []
  · have ho : okE e = false := by simp [okE, n1]
    simp only [ld1_ptr, k0, k1, k2, k3, k4, bNe_str, bs_beq, bs_inj, cs h1, n1, decide_true, Bool.not_true, gd_true, stepG_false, stepE_false, pPick_false, bindP_some, uNot_bool, Bool.not_false, gd_false, pPick_true, ifB_true]
    exact bad _ h1 ho
  · by_cases n2 : e.cls = []
    · have ho : okE e = false := by simp [okE, n2]
      simp only [ld1_ptr, k0, k1, k2, k3, k4, bNe_str, bs_beq, bs_inj, cs h1, n1, n2, decide_true, decide_false, Bool.not_true, Bool.not_false, gd_true, stepG_true, stepG_false, stepE_false, pPick_true, pPick_false, bindP_some, uNot_bool, gd_false, ifB_true]
      exact bad _ h1 ho
    · simp only [ld1_ptr, k0, k1, k2, k3, k4, bNe_str, bs_beq, bs_inj, cs h1, n1, n2, decide_false, Bool.not_false, gd_true, stepG_true, stepE_true, pPick_true, bindP_some]
      refine plain_spec (most := 64) f1 h1 fun w2 h2 => ?_
      by_cases p1 : plainP e.node 64 = true
      · simp only [ld1_ptr, k0, k1, k2, k3, k4, bNe_str, bs_beq, bs_inj, p1, pPick_true, bindP_some, gd_true, stepG_true, stepE_true, cs h2, k1]
        refine plain_spec (most := 64) f2 h2 fun w3 h3 => ?_
        by_cases p2 : plainP e.cls 64 = true
        · simp only [ld1_ptr, k0, k1, k2, k3, k4, bNe_str, bs_beq, bs_inj, p2, pPick_true, bindP_some, uNot_bool, Bool.not_true, gd_false, Bool.not_false, stepG_true, stepE_true, cs h3, k2]
          refine plain_spec (most := 128) f3 h3 fun w4 h4 => ?_
          by_cases p3 : plainP e.key 128 = true
          · simp only [ld1_ptr, k0, k1, k2, k3, k4, bNe_str, bs_beq, bs_inj, p3, uNot_bool, Bool.not_true, pPick_false, bindP_some, gd_false, Bool.not_false, stepG_true, stepE_true, cs h4, k4]
            refine plain_spec (most := 1024) f4 h4 fun w5 h5 => ?_
            by_cases p4 : plainP e.text 1024 = true
            · simp only [ld1_ptr, k0, k1, k2, k3, k4, bNe_str, bs_beq, bs_inj, p4, uNot_bool, Bool.not_true, pPick_false, bindP_some, gd_false, Bool.not_false, stepG_true, cs h5, k3, bLt_int]
              by_cases l1 : e.level < 0
              · have ho : okE e = false := by
                  have : ¬ (0 ≤ e.level) := by omega
                  simp [okE, this]
                simp only [ld1_ptr, k0, k1, k2, k3, k4, bNe_str, bs_beq, bs_inj, l1, decide_true, pPick_true, bindP_some, gd_false, Bool.not_true, stepG_false, ifB_true]
                exact bad _ h5 ho
              · by_cases l2 : e.level > 5
                · have ho : okE e = false := by
                    have : ¬ (e.level ≤ 5) := by omega
                    simp [okE, this]
                  simp only [ld1_ptr, k0, k1, k2, k3, k4, bNe_str, bs_beq, bs_inj, cs h5, l1, l2, bGt_int, decide_true, decide_false, pPick_false, bindP_some, gd_false, Bool.not_false, stepG_true, ifB_true]
                  exact bad _ h5 ho
                · have hk := hK _ h5.drop
                  have g1 : 0 ≤ e.level := by omega
                  have g2 : e.level ≤ 5 := by omega
                  simp only [n1, n2, p1, p2, p3, p4, g1, g2, decide_true, decide_false, Bool.not_false, Bool.and_self, if_true] at hk
                  simp only [ld1_ptr, k0, k1, k2, k3, k4, bNe_str, bs_beq, bs_inj, cs h5, l1, l2, bGt_int, decide_false, pPick_false, bindP_some, gd_false, Bool.not_false, stepG_true, ifB_false]
                  exact hk
            · have p4' : plainP e.text 1024 = false := by simpa using p4
              have ho : okE e = false := by simp [okE, p4']
              simp only [ld1_ptr, k0, k1, k2, k3, k4, bNe_str, bs_beq, bs_inj, p4', uNot_bool, Bool.not_false, pPick_false, pPick_true, bindP_some, gd_false, Bool.not_true, stepG_false, ifB_true]
              exact bad _ h5 ho
          · have p3' : plainP e.key 128 = false := by simpa using p3
            have ho : okE e = false := by simp [okE, p3']
            simp only [ld1_ptr, k0, k1, k2, k3, k4, bNe_str, bs_beq, bs_inj, p3', uNot_bool, Bool.not_false, pPick_false, pPick_true, bindP_some, gd_false, Bool.not_true, stepG_false, stepE_false, ifB_true]
            exact bad _ h4 ho
        · have p2' : plainP e.cls 64 = false := by simpa using p2
          have ho : okE e = false := by simp [okE, p2']
          simp only [ld1_ptr, k0, k1, k2, k3, k4, bNe_str, bs_beq, bs_inj, p2', uNot_bool, Bool.not_false, pPick_false, pPick_true, bindP_some, gd_false, Bool.not_true, stepG_false, stepE_false, ifB_true]
          exact bad _ h3 ho
      · have p1' : plainP e.node 64 = false := by simpa using p1
        have ho : okE e = false := by simp [okE, p1']
        simp only [ld1_ptr, k0, k1, k2, k3, k4, bNe_str, bs_beq, bs_inj, p1', gd_true, uNot_bool, Bool.not_false, pPick_false, pPick_true, bindP_some, gd_false, Bool.not_true, stepG_false, stepE_false, ifB_true]
        exact bad _ h2 ho
theorem nfcheck_spec (he : e.fits) (h : Sat w0 L w) (hK : ∀ w', Sat w0 L w' → K (.int .i64 (chkE e)) w') : callP G68 [evV e] w K := by
  refine c68 ?_
  unfold F68
  refine eBox_sat h fun p w1 h1 => ?_
  have e0 : (evV e).cells = (cEv e).toArray := rfl
  rw [e0] at h1
  have cs : ∀ {w' : World}, Sat w0 (Cl p (cEv e).toArray 31 :: L) w' → ∀ i, w'.cell? ⟨p, i, none⟩ = (cEv e)[i]? := fun h i => by rw [cell_of h.cl, List.getElem?_toArray]
  have k0 : (cEv e)[0]? = some (.string (bs e.node)) := rfl
  have k1 : (cEv e)[1]? = some (.string (bs e.cls)) := rfl
  have k2 : (cEv e)[2]? = some (.string (bs e.key)) := rfl
  have k3 : (cEv e)[3]? = some (.int .i64 e.level) := rfl
  have k4 : (cEv e)[4]? = some (.string (bs e.text)) := rfl
  obtain ⟨f1, f2, f3, f4⟩ := he
  unfold chkE okE at hK
  rw [nil_b]
  simp only [ptr, pFieldAddr_ptr, bindP_some, Nat.zero_add, ld1_ptr, cs h1, k0, k1, bEq_str, bs_beq, bs_inj]
  have bad : ∀ w', Sat w0 (Cl p (cEv e).toArray 31 :: L) w' → okE e = false → K (.int .i64 180) w' := by
    intro w' hs ho
    have := hK _ hs.drop
    unfold okE at ho
    rw [ho] at this
    exact this
  by_cases n1 : e.node = []
  · have ho : okE e = false := by simp [okE, n1]
    simp only [cs h1, n1, ld1_ptr, k0, k1, k2, k3, k4, bEq_str, bs_beq, bs_inj, gd_undef, uNot_bool, decide_true, decide_false, Bool.not_true, Bool.not_false, gd_true, gd_false, stepG_true, stepG_false, stepE_true, stepE_false, stepM_true, stepM_false, pPick_true, pPick_false, bindP_some, ifB_true, ifB_false, bLt_int, bGt_int]
    exact bad _ h1 ho
  · by_cases n2 : e.cls = []
    · have ho : okE e = false := by simp [okE, n2]
      simp only [cs h1, n1, n2, ld1_ptr, k0, k1, k2, k3, k4, bEq_str, bs_beq, bs_inj, gd_undef, uNot_bool, decide_true, decide_false, Bool.not_true, Bool.not_false, gd_true, gd_false, stepG_true, stepG_false, stepE_true, stepE_false, stepM_true, stepM_false, pPick_true, pPick_false, bindP_some, ifB_true, ifB_false, bLt_int, bGt_int]
      exact bad _ h1 ho
    · simp only [cs h1, n1, n2, ld1_ptr, k0, k1, k2, k3, k4, bEq_str, bs_beq, bs_inj, gd_undef, uNot_bool, decide_true, decide_false, Bool.not_true, Bool.not_false, gd_true, gd_false, stepG_true, stepG_false, stepE_true, stepE_false, stepM_true, stepM_false, pPick_true, pPick_false, bindP_some, ifB_true, ifB_false, bLt_int, bGt_int]
      refine fplain_spec (most := 64) f1 h1 fun w2 h2 => ?_
      by_cases p1 : plainP e.node 64 = true
      · simp only [p1, cs h2, ld1_ptr, k0, k1, k2, k3, k4, bEq_str, bs_beq, bs_inj, gd_undef, uNot_bool, decide_true, decide_false, Bool.not_true, Bool.not_false, gd_true, gd_false, stepG_true, stepG_false, stepE_true, stepE_false, stepM_true, stepM_false, pPick_true, pPick_false, bindP_some, ifB_true, ifB_false, bLt_int, bGt_int]
        refine fplain_spec (most := 64) f2 h2 fun w3 h3 => ?_
        by_cases p2 : plainP e.cls 64 = true
        · simp only [p2, cs h3, ld1_ptr, k0, k1, k2, k3, k4, bEq_str, bs_beq, bs_inj, gd_undef, uNot_bool, decide_true, decide_false, Bool.not_true, Bool.not_false, gd_true, gd_false, stepG_true, stepG_false, stepE_true, stepE_false, stepM_true, stepM_false, pPick_true, pPick_false, bindP_some, ifB_true, ifB_false, bLt_int, bGt_int]
          refine fplain_spec (most := 128) f3 h3 fun w4 h4 => ?_
          by_cases p3 : plainP e.key 128 = true
          · simp only [p3, cs h4, ld1_ptr, k0, k1, k2, k3, k4, bEq_str, bs_beq, bs_inj, gd_undef, uNot_bool, decide_true, decide_false, Bool.not_true, Bool.not_false, gd_true, gd_false, stepG_true, stepG_false, stepE_true, stepE_false, stepM_true, stepM_false, pPick_true, pPick_false, bindP_some, ifB_true, ifB_false, bLt_int, bGt_int]
            refine fplain_spec (most := 1024) f4 h4 fun w5 h5 => ?_
            by_cases p4 : plainP e.text 1024 = true
            · simp only [p4, cs h5, ld1_ptr, k0, k1, k2, k3, k4, bEq_str, bs_beq, bs_inj, gd_undef, uNot_bool, decide_true, decide_false, Bool.not_true, Bool.not_false, gd_true, gd_false, stepG_true, stepG_false, stepE_true, stepE_false, stepM_true, stepM_false, pPick_true, pPick_false, bindP_some, ifB_true, ifB_false, bLt_int, bGt_int]
              by_cases l1 : e.level < 0
              · have ho : okE e = false := by
                  have : ¬ (0 ≤ e.level) := by omega
                  simp [okE, this]
                simp only [l1, cs h5, ld1_ptr, k0, k1, k2, k3, k4, bEq_str, bs_beq, bs_inj, gd_undef, uNot_bool, decide_true, decide_false, Bool.not_true, Bool.not_false, gd_true, gd_false, stepG_true, stepG_false, stepE_true, stepE_false, stepM_true, stepM_false, pPick_true, pPick_false, bindP_some, ifB_true, ifB_false, bLt_int, bGt_int]
                exact bad _ h5 ho
              · by_cases l2 : e.level > 5
                · have ho : okE e = false := by
                    have : ¬ (e.level ≤ 5) := by omega
                    simp [okE, this]
                  simp only [l1, l2, cs h5, ld1_ptr, k0, k1, k2, k3, k4, bEq_str, bs_beq, bs_inj, gd_undef, uNot_bool, decide_true, decide_false, Bool.not_true, Bool.not_false, gd_true, gd_false, stepG_true, stepG_false, stepE_true, stepE_false, stepM_true, stepM_false, pPick_true, pPick_false, bindP_some, ifB_true, ifB_false, bLt_int, bGt_int]
                  exact bad _ h5 ho
                · have hk := hK _ h5.drop
                  have g1 : 0 ≤ e.level := by omega
                  have g2 : e.level ≤ 5 := by omega
                  simp only [n1, n2, p1, p2, p3, p4, g1, g2, decide_true, decide_false, Bool.not_false, Bool.and_self, if_true] at hk
                  simp only [l1, l2, cs h5, ld1_ptr, k0, k1, k2, k3, k4, bEq_str, bs_beq, bs_inj, gd_undef, uNot_bool, decide_true, decide_false, Bool.not_true, Bool.not_false, gd_true, gd_false, stepG_true, stepG_false, stepE_true, stepE_false, stepM_true, stepM_false, pPick_true, pPick_false, bindP_some, ifB_true, ifB_false, bLt_int, bGt_int]
                  exact hk
            · have p4' : plainP e.text 1024 = false := by simpa using p4
              have ho : okE e = false := by simp [okE, p4']
              simp only [p4', cs h5, ld1_ptr, k0, k1, k2, k3, k4, bEq_str, bs_beq, bs_inj, gd_undef, uNot_bool, decide_true, decide_false, Bool.not_true, Bool.not_false, gd_true, gd_false, stepG_true, stepG_false, stepE_true, stepE_false, stepM_true, stepM_false, pPick_true, pPick_false, bindP_some, ifB_true, ifB_false, bLt_int, bGt_int]
              exact bad _ h5 ho
          · have p3' : plainP e.key 128 = false := by simpa using p3
            have ho : okE e = false := by simp [okE, p3']
            simp only [p3', cs h4, ld1_ptr, k0, k1, k2, k3, k4, bEq_str, bs_beq, bs_inj, gd_undef, uNot_bool, decide_true, decide_false, Bool.not_true, Bool.not_false, gd_true, gd_false, stepG_true, stepG_false, stepE_true, stepE_false, stepM_true, stepM_false, pPick_true, pPick_false, bindP_some, ifB_true, ifB_false, bLt_int, bGt_int]
            exact bad _ h4 ho
        · have p2' : plainP e.cls 64 = false := by simpa using p2
          have ho : okE e = false := by simp [okE, p2']
          simp only [p2', cs h3, ld1_ptr, k0, k1, k2, k3, k4, bEq_str, bs_beq, bs_inj, gd_undef, uNot_bool, decide_true, decide_false, Bool.not_true, Bool.not_false, gd_true, gd_false, stepG_true, stepG_false, stepE_true, stepE_false, stepM_true, stepM_false, pPick_true, pPick_false, bindP_some, ifB_true, ifB_false, bLt_int, bGt_int]
          exact bad _ h3 ho
      · have p1' : plainP e.node 64 = false := by simpa using p1
        have ho : okE e = false := by simp [okE, p1']
        simp only [p1', cs h2, ld1_ptr, k0, k1, k2, k3, k4, bEq_str, bs_beq, bs_inj, gd_undef, uNot_bool, decide_true, decide_false, Bool.not_true, Bool.not_false, gd_true, gd_false, stepG_true, stepG_false, stepE_true, stepE_false, stepM_true, stepM_false, pPick_true, pPick_false, bindP_some, ifB_true, ifB_false, bLt_int, bGt_int]
        exact bad _ h2 ho
end
end Go.Proofs.Gong

/- Board1 -/
namespace Go.Proofs.Gong
open Go Go.Sx Go.Proofs
set_option maxRecDepth 100000
-- 13 gong/board.New
def T13 : List (Nat × FnT) := []
def F13 (x0 : Value) (w : World) (K : Value → World → Prop) : Prop :=
bindP (bLt x0 (.int .i64 1)) fun v1 =>
stepM (gd false v1) x0 fun v2 =>
Sx.stepG (gd false v1) (bGt v2 (.int .i64 65536)) fun v3 =>
bindP (pPick v1 (.bool true) v3) fun v4 =>
ifB v4 (
K (.tuple #[(.pointer none), (.int .i64 1)]) w) (
eMakeMap none w fun v6 w5 =>
eMakeMap none w5 fun v8 w7 =>
bindP (fBuild Try.prog 110 [(0, x0), (1, (.int .i64 1)), (2, v6), (3, v8)]) fun v9 =>
eBox 110 v9 w7 fun v11 w10 =>
K (.tuple #[v11, (.int .i64 0)]) w10)

def G13 : FnT := fun args w K => on1 (fun x0 => F13 x0 w K) args
theorem c13 {x0 : Value} {w : World} {K : Value → World → Prop} (h : F13 x0 w K) : callP G13 [x0] w K := callP_intro (on1_mk (p := fun x0 => F13 x0 w K) h)
theorem ok13 : OkF Try.prog 13 G13 := by
  refine okF_of (tab_ok (l := T13) trivial) mixed (n := fuel) Try.func13 Try.call13 fun args w K h => ?_
  obtain ⟨x0, rfl, hh⟩ := of_on1 h
  exact fnD_list (c := bodyOf Try.f13) (by kernel_rfl) (by kernel_rfl) (Eq.mp (by kernel_rfl) hh)

-- 62 gong/board.isTime
def T62 : List (Nat × FnT) := []
def F62 (x0 : Value) (w : World) (K : Value → World → Prop) : Prop :=
bindP (bGe x0 (.int .i64 0)) fun v1 =>
stepM (gd true v1) x0 fun v2 =>
Sx.stepG (gd true v1) (bLe v2 (.int .i64 2305843009213693952)) fun v3 =>
bindP (pPick v1 v3 (.bool false)) fun v4 =>
K v4 w

def G62 : FnT := fun args w K => on1 (fun x0 => F62 x0 w K) args
theorem c62 {x0 : Value} {w : World} {K : Value → World → Prop} (h : F62 x0 w K) : callP G62 [x0] w K := callP_intro (on1_mk (p := fun x0 => F62 x0 w K) h)
theorem ok62 : OkF Try.prog 62 G62 := by
  refine okF_of (tab_ok (l := T62) trivial) mixed (n := fuel) Try.func62 Try.call62 fun args w K h => ?_
  obtain ⟨x0, rfl, hh⟩ := of_on1 h
  exact fnD_list (c := bodyOf Try.f62) (by kernel_rfl) (by kernel_rfl) (Eq.mp (by kernel_rfl) hh)

-- 63 gong/board.of
def T63 : List (Nat × FnT) := []
def F63 (x0 : Value) (w : World) (K : Value → World → Prop) : Prop :=
eBox 31 x0 w fun v2 w1 =>
eAlloc Try.prog 114 w1 fun v4 w3 =>
bindP (pFieldAddr 0 v2) fun v5 =>
bindP (ld1 v5 w3) fun v6 =>
bindP (pFieldAddr 1 v2) fun v7 =>
bindP (ld1 v7 w3) fun v8 =>
bindP (pFieldAddr 2 v2) fun v9 =>
bindP (ld1 v9 w3) fun v10 =>
bindP (fBuild Try.prog 114 [(0, v6), (1, v8), (2, v10)]) fun v11 =>
bindW (st 3 v4 v11 w3) fun w12 =>
bindP (ldN 3 v4 w12) fun v14 =>
K v14 w12

def G63 : FnT := fun args w K => on1 (fun x0 => F63 x0 w K) args
theorem c63 {x0 : Value} {w : World} {K : Value → World → Prop} (h : F63 x0 w K) : callP G63 [x0] w K := callP_intro (on1_mk (p := fun x0 => F63 x0 w K) h)
theorem ok63 : OkF Try.prog 63 G63 := by
  refine okF_of (tab_ok (l := T63) trivial) mixed (n := fuel) Try.func63 Try.call63 fun args w K h => ?_
  obtain ⟨x0, rfl, hh⟩ := of_on1 h
  exact fnD_list (c := bodyOf Try.f63) (by kernel_rfl) (by kernel_rfl) (Eq.mp (by kernel_rfl) hh)

-- 64 (*gong/board.Board).take
def T64 : List (Nat × FnT) := [(63, G63)]
def F64 (x0 : Value) (x1 : Value) (w : World) (K : Value → World → Prop) : Prop :=
eBox 33 x1 w fun v2 w1 =>
bindP (pNil x0) fun v3 =>
bindP (pFieldAddr 2 v3) fun v4 =>
bindP (ld1 v4 w1.drew) fun v5 =>
bindP (pFieldAddr 0 v2) fun v6 =>
bindP (ld1 v6 w1.drew) fun v7 =>
eDelete Try.prog 107 v5 v7 w1.drew fun _ w8 =>
bindP (pNil x0) fun v10 =>
bindP (pFieldAddr 3 v10) fun v11 =>
bindP (ld1 v11 w8.drew) fun v12 =>
bindP (pFieldAddr 1 v2) fun v13 =>
bindP (ldN 5 v13 w8.drew) fun v14 =>
callP G63 [v14] w8.drew fun v16 w15 =>
fok true (ld1 v11 w15) v12 ∧ (eDelete Try.prog 108 v12 v16 w15 fun _ w17 =>
K (.tuple #[]) w17)

def G64 : FnT := fun args w K => on2 (fun x0 x1 => F64 x0 x1 w K) args
theorem c64 {x0 x1 : Value} {w : World} {K : Value → World → Prop} (h : F64 x0 x1 w K) : callP G64 [x0, x1] w K := callP_intro (on2_mk (p := fun x0 x1 => F64 x0 x1 w K) h)
theorem ok64 : OkF Try.prog 64 G64 := by
  refine okF_of (tab_ok (l := T64) ⟨ok63, trivial⟩) mixed (n := fuel) Try.func64 Try.call64 fun args w K h => ?_
  obtain ⟨x0, x1, rfl, hh⟩ := of_on2 h
  exact fnD_list (c := bodyOf Try.f64) (by kernel_rfl) (by kernel_rfl) (Eq.mp (by kernel_rfl) hh)

-- 65 gong/board.again
def T65 : List (Nat × FnT) := []
def F65_2b (s3 : Value) (s4 : Value) (s6 : Value) (w : World) (K : Value → World → Prop) : Prop :=
bindP (pFieldAddr 3 s4) fun v1 =>
bindP (ld1 v1 w) fun v2 =>
bindP (pFieldAddr 1 s3) fun v3 =>
bindP (pFieldAddr 3 v3) fun v4 =>
bindW (st 1 v4 v2 w) fun w5 =>
bindP (ldN 11 s3 w5) fun v7 =>
bindW (st 11 s6 v7 w5) fun w8 =>
bindP (ldN 11 s6 w8) fun v10 =>
K (.tuple #[v10, (.int .i64 2)]) w8

def F65_2 (s3 : Value) (s4 : Value) (s6 : Value) (w : World) (K : Value → World → Prop) : Prop := F65_2b s3 s4 s6 w K

theorem ok65_2 {K : Value → World → Prop} {kn kr : Env → World → Prop} {ke : Nat → Env → World → Prop}
    (hn : ∀ e w, (fun e w => bindP (ldN 11 (e 6) w) fun v12 =>
K (.tuple #[v12, (e 7)]) w) e w → kn e w) (hr : ∀ e w, endD Try.prog [.cell 6 33, .tmp 7] K e w → kr e w) (he : ∀ i e w, noE i e w → ke i e w) :
    ∀ e w, F65_2 (e 3) (e 4) (e 6) w K → denL Try.prog (tabOf T65) 42 fuel ((flat (bodyOf Try.f65)).drop 8) e w kn kr ke := by
  intro e w h
  unfold F65_2 at h
  have e1 : ∀ (_ : Unit), F65_2b (e 3) (e 4) (e 6) w K = denL Try.prog (tabOf T65) 42 fuel ((flat (bodyOf Try.f65)).drop 8) e w (fun e w => bindP (ldN 11 (e 6) w) fun v11 =>
K (.tuple #[v11, (e 7)]) w) (endD Try.prog [.cell 6 33, .tmp 7] K) noE := by intro _; kernel_rfl
  exact seg_end (Eq.mp (e1 ()) h) hn hr he

def F65_1b (s0 : Value) (s1 : Value) (s2 : Value) (w : World) (K : Value → World → Prop) (Y0 : Value → Value → Value → World → Prop) : Prop :=
eBox 33 s0 w fun v14 w13 =>
eBox 31 s1 w13 fun v16 w15 =>
eAlloc Try.prog 33 w15 fun v18 w17 =>
bindP (pFieldAddr 6 v14) fun v19 =>
bindP (ld1 v19 w17) fun v20 =>
bindP (bAdd v20 (.int .i64 1)) fun v21 =>
bindP (pMin v21 (.int .i64 1099511627776)) fun v22 =>
bindP (pFieldAddr 6 v14) fun v23 =>
bindW (st 1 v23 v22 w17) fun w24 =>
bindP (pFieldAddr 8 v14) fun v26 =>
bindP (ld1 v26 w24) fun v27 =>
bindP (pMax v27 s2) fun v28 =>
bindP (pFieldAddr 8 v14) fun v29 =>
bindW (st 1 v29 v28 w24) fun w30 =>
bindP (pFieldAddr 4 v16) fun v32 =>
bindP (ld1 v32 w30) fun v33 =>
bindP (pFieldAddr 1 v14) fun v34 =>
bindP (pFieldAddr 4 v34) fun v35 =>
bindW (st 1 v35 v33 w30) fun w36 =>
bindP (pFieldAddr 1 v14) fun v38 =>
bindP (pFieldAddr 3 v38) fun v39 =>
bindP (ld1 v39 w36) fun v40 =>
bindP (pFieldAddr 3 v16) fun v41 =>
bindP (ld1 v41 w36) fun v42 =>
bindP (bEq Try.prog 3 (.tmp 24) (.tmp 26) v40 v42) fun v43 =>
ifB v43 (
bindP (ldN 11 v14 w36) fun v44 =>
bindW (st 11 v18 v44 w36) fun w45 =>
bindP (ldN 11 v18 w45) fun v47 =>
K (.tuple #[v47, (.int .i64 0)]) w45) (
bindP (pFieldAddr 3 v16) fun v48 =>
bindP (ld1 v48 w36) fun v49 =>
bindP (pFieldAddr 1 v14) fun v50 =>
bindP (pFieldAddr 3 v50) fun v51 =>
bindP (ld1 v51 w36) fun v52 =>
bindP (bGt v49 v52) fun v53 =>
ifB v53 (
bindP (pFieldAddr 9 v14) fun v54 =>
bindW (st 1 v54 (.bool false) w36) fun w55 =>
bindP (pFieldAddr 10 v14) fun v57 =>
bindW (st 1 v57 (.string ⟨#[]⟩) w55) fun w58 =>
Y0 v14 v16 v18 w58) (
Y0 v14 v16 v18 w36))

def F65_1 (s0 : Value) (s1 : Value) (s2 : Value) (w : World) (K : Value → World → Prop) : Prop := F65_1b s0 s1 s2 w K (fun a3 a4 a6 w => F65_2 a3 a4 a6 w K)

theorem ok65_1 {K : Value → World → Prop} {kn kr : Env → World → Prop} {ke : Nat → Env → World → Prop}
    (hn : ∀ e w, (fun e w => bindP (ldN 11 (e 6) w) fun v60 =>
K (.tuple #[v60, (e 7)]) w) e w → kn e w) (hr : ∀ e w, endD Try.prog [.cell 6 33, .tmp 7] K e w → kr e w) (he : ∀ i e w, noE i e w → ke i e w) :
    ∀ e w, F65_1 (e 0) (e 1) (e 2) w K → denL Try.prog (tabOf T65) 42 fuel ((flat (bodyOf Try.f65)).drop 0) e w kn kr ke := by
  intro e w h
  unfold F65_1 at h
  have e1 : ∀ (Y0 : Value → Value → Value → World → Prop), F65_1b (e 0) (e 1) (e 2) w K Y0 = denL Try.prog (tabOf T65) 42 fuel (((flat (bodyOf Try.f65)).drop 0).take 8) e w (fun e w => Y0 (e 3) (e 4) (e 6) w) (endD Try.prog [.cell 6 33, .tmp 7] K) noE := by intro Y0; kernel_rfl
  exact seg 8 (Eq.mp (e1 (fun a3 a4 a6 w => F65_2 a3 a4 a6 w K)) h) (fun e w h => ok65_2 hn hr he e w h) hr he

def F65 (x0 : Value) (x1 : Value) (x2 : Value) (w : World) (K : Value → World → Prop) : Prop := F65_1 x0 x1 x2 w K

def G65 : FnT := fun args w K => on3 (fun x0 x1 x2 => F65 x0 x1 x2 w K) args
theorem c65 {x0 x1 x2 : Value} {w : World} {K : Value → World → Prop} (h : F65 x0 x1 x2 w K) : callP G65 [x0, x1, x2] w K := callP_intro (on3_mk (p := fun x0 x1 x2 => F65 x0 x1 x2 w K) h)
theorem ok65 : OkF Try.prog 65 G65 := by
  refine okF_of (tab_ok (l := T65) trivial) mixed (n := fuel) Try.func65 Try.call65 fun args w K h => ?_
  obtain ⟨x0, x1, x2, rfl, hh⟩ := of_on3 h
  unfold F65 at hh
  exact fnD_list (c := bodyOf Try.f65) (by kernel_rfl) (by kernel_rfl) (ok65_1 (fun _ _ h => h) (fun _ _ h => h) (fun _ _ _ h => h) (initE [x0, x1, x2]) w hh)

-- 66 (*gong/board.Board).put
def T66 : List (Nat × FnT) := [(63, G63)]
def F66 (x0 : Value) (x1 : Value) (w : World) (K : Value → World → Prop) : Prop :=
eBox 33 x1 w fun v2 w1 =>
bindP (pNil x0) fun v3 =>
bindP (pFieldAddr 2 v3) fun v4 =>
bindP (ld1 v4 w1.drew) fun v5 =>
bindP (pFieldAddr 0 v2) fun v6 =>
bindP (ld1 v6 w1.drew) fun v7 =>
bindP (ldN 11 v2 w1.drew) fun v8 =>
eMapSet Try.prog 107 v5 v7 v8 w1.drew fun _ w9 =>
bindP (pNil x0) fun v11 =>
bindP (pFieldAddr 3 v11) fun v12 =>
bindP (ld1 v12 w9.drew) fun v13 =>
bindP (pFieldAddr 1 v2) fun v14 =>
bindP (ldN 5 v14 w9.drew) fun v15 =>
bindP (pFieldAddr 0 v2) fun v16 =>
bindP (ld1 v16 w9.drew) fun v17 =>
callP G63 [v15] w9.drew fun v19 w18 =>
(fok true (ld1 v12 w18) v13 ∧ fok true (ld1 v16 w18) v17) ∧ (eMapSet Try.prog 108 v13 v19 v17 w18 fun _ w20 =>
K (.tuple #[]) w20)

def G66 : FnT := fun args w K => on2 (fun x0 x1 => F66 x0 x1 w K) args
theorem c66 {x0 x1 : Value} {w : World} {K : Value → World → Prop} (h : F66 x0 x1 w K) : callP G66 [x0, x1] w K := callP_intro (on2_mk (p := fun x0 x1 => F66 x0 x1 w K) h)
theorem ok66 : OkF Try.prog 66 G66 := by
  refine okF_of (tab_ok (l := T66) ⟨ok63, trivial⟩) mixed (n := fuel) Try.func66 Try.call66 fun args w K h => ?_
  obtain ⟨x0, x1, rfl, hh⟩ := of_on2 h
  exact fnD_list (c := bodyOf Try.f66) (by kernel_rfl) (by kernel_rfl) (Eq.mp (by kernel_rfl) hh)

-- 16 (*gong/board.Board).Raise
def T16 : List (Nat × FnT) := [(61, G61), (62, G62), (63, G63), (64, G64), (65, G65), (66, G66)]
def F16_2b (s0 : Value) (s6 : Value) (s7 : Value) (w : World) (K : Value → World → Prop) : Prop :=
bindP (ldN 11 s6 w) fun v1 =>
callP G66 [s0, v1] w fun _ w2 =>
bindP (ldN 11 s6 w2) fun v4 =>
bindW (st 11 s6 v4 w2) fun w5 =>
bindP (ldN 11 s6 w5) fun v7 =>
K (.tuple #[v7, s7, (.int .i64 0)]) w5

def F16_2 (s0 : Value) (s6 : Value) (s7 : Value) (w : World) (K : Value → World → Prop) : Prop := F16_2b s0 s6 s7 w K

theorem ok16_2 {K : Value → World → Prop} {kn kr : Env → World → Prop} {ke : Nat → Env → World → Prop}
    (hn : ∀ e w, (fun e w => bindP (ldN 11 (e 6) w) fun v9 =>
K (.tuple #[v9, (e 7), (e 8)]) w) e w → kn e w) (hr : ∀ e w, endD Try.prog [.cell 6 33, .tmp 7, .tmp 8] K e w → kr e w) (he : ∀ i e w, noE i e w → ke i e w) :
    ∀ e w, F16_2 (e 0) (e 6) (e 7) w K → denL Try.prog (tabOf T16) 101 fuel ((flat (bodyOf Try.f16)).drop 4) e w kn kr ke := by
  intro e w h
  unfold F16_2 at h
  have e1 : ∀ (_ : Unit), F16_2b (e 0) (e 6) (e 7) w K = denL Try.prog (tabOf T16) 101 fuel ((flat (bodyOf Try.f16)).drop 4) e w (fun e w => bindP (ldN 11 (e 6) w) fun v8 =>
K (.tuple #[v8, (e 7), (e 8)]) w) (endD Try.prog [.cell 6 33, .tmp 7, .tmp 8] K) noE := by intro _; kernel_rfl
  exact seg_end (Eq.mp (e1 ()) h) hn hr he

def F16_1b (s0 : Value) (s1 : Value) (s2 : Value) (w : World) (K : Value → World → Prop) (Y0 : Value → Value → Value → World → Prop) : Prop :=
eBox 31 s1 w fun v11 w10 =>
eAlloc Try.prog 33 w10 fun v13 w12 =>
bindP (ldN 5 v11 w12) fun v14 =>
callP G61 [v14] w12 fun v16 w15 =>
bindP (bNe Try.prog 24 (.tmp 13) (.const (.int .i64 0)) v16 (.int .i64 0)) fun v17 =>
ifB v17 (
bindP (fBuild Try.prog 33 []) fun v18 =>
bindW (st 11 v13 v18 w15) fun w19 =>
bindP (ldN 11 v13 w19) fun v21 =>
K (.tuple #[v21, (.int .i64 0), (.int .i64 180)]) w19) (
callP G62 [s2] w15 fun v23 w22 =>
bindP (uNot v23) fun v24 =>
ifB v24 (
bindP (fBuild Try.prog 33 []) fun v25 =>
bindW (st 11 v13 v25 w22) fun w26 =>
bindP (ldN 11 v13 w26) fun v28 =>
K (.tuple #[v28, (.int .i64 0), (.int .i64 1)]) w26) (
bindP (pNil s0) fun v29 =>
bindP (pFieldAddr 3 v29) fun v30 =>
bindP (ld1 v30 w22.drew) fun v31 =>
bindP (ldN 5 v11 w22.drew) fun v32 =>
callP G63 [v32] w22.drew fun v34 w33 =>
fok true (ld1 v30 w33) v31 ∧ (bindP (fLook Try.prog 108 v31 v34 true w33) fun v35 =>
bindP (pTuple v35 0) fun v36 =>
bindP (pTuple v35 1) fun v37 =>
bindP (pFieldAddr 3 v11) fun v38 =>
bindP (ld1 v38 w33) fun v39 =>
bindP (bEq Try.prog 3 (.tmp 48) (.const (.int .i64 0)) v39 (.int .i64 0)) fun v40 =>
stepM (gd true v40) v37 fun v41 =>
Sx.stepG (gd true v40) (uNot v41) fun v42 =>
bindP (pPick v40 v42 (.bool false)) fun v43 =>
ifB v43 (
bindP (fBuild Try.prog 33 []) fun v44 =>
bindW (st 11 v13 v44 w33) fun w45 =>
bindP (ldN 11 v13 w45) fun v47 =>
K (.tuple #[v47, (.int .i64 0), (.int .i64 5)]) w45) (
bindP (pFieldAddr 3 v11) fun v48 =>
bindP (ld1 v48 w33) fun v49 =>
bindP (bEq Try.prog 3 (.tmp 57) (.const (.int .i64 0)) v49 (.int .i64 0)) fun v50 =>
ifB v50 (
bindP (pNil s0) fun v51 =>
bindP (pFieldAddr 2 v51) fun v52 =>
bindP (ld1 v52 w33) fun v53 =>
bindP (fLook Try.prog 107 v53 v36 false w33) fun v54 =>
bindW (st 11 v13 v54 w33) fun w55 =>
bindP (ldN 11 v13 w55) fun v57 =>
callP G64 [s0, v57] w55 fun _ w58 =>
bindP (ldN 11 v13 w58) fun v60 =>
bindW (st 11 v13 v60 w58) fun w61 =>
bindP (ldN 11 v13 w61) fun v63 =>
K (.tuple #[v63, (.int .i64 3), (.int .i64 0)]) w61) (
ifB v37 (
bindP (pNil s0) fun v64 =>
bindP (pFieldAddr 2 v64) fun v65 =>
bindP (ld1 v65 w33.drew) fun v66 =>
bindP (fLook Try.prog 107 v66 v36 false w33.drew) fun v67 =>
bindP (ldN 5 v11 w33.drew) fun v68 =>
callP G65 [v67, v68, s2] w33.drew fun v70 w69 =>
bindP (pTuple v70 0) fun v71 =>
bindP (pTuple v70 1) fun v72 =>
bindW (st 11 v13 v71 w69) fun w73 =>
Y0 s0 v13 v72 w73) (
bindP (pNil s0) fun v75 =>
bindP (pFieldAddr 2 v75) fun v76 =>
bindP (ld1 v76 w33.drew) fun v77 =>
bindP (lenM v77 w33.drew) fun v78 =>
bindP (pNil s0) fun v79 =>
bindP (pFieldAddr 0 v79) fun v80 =>
bindP (ld1 v80 w33.drew) fun v81 =>
bindP (bGe v78 v81) fun v82 =>
ifB v82 (
bindP (fBuild Try.prog 33 []) fun v83 =>
bindW (st 11 v13 v83 w33.drew) fun w84 =>
bindP (ldN 11 v13 w84) fun v86 =>
K (.tuple #[v86, (.int .i64 0), (.int .i64 200)]) w84) (
bindP (pNil s0) fun v87 =>
bindP (pFieldAddr 1 v87) fun v88 =>
bindP (ld1 v88 (w33.drew).drew) fun v89 =>
bindP (ldN 5 v11 (w33.drew).drew) fun v90 =>
bindP (fBuild Try.prog 33 [(0, v89), (1, v90), (2, (.int .i64 1)), (3, s2), (4, s2)]) fun v91 =>
bindW (st 11 v13 v91 (w33.drew).drew) fun w92 =>
bindP (pNil s0) fun v94 =>
bindP (pFieldAddr 1 v94) fun v95 =>
bindP (ld1 v95 w92) fun v96 =>
bindP (bAdd v96 (.int .i64 1)) fun v97 =>
bindP (pNil s0) fun v98 =>
bindP (pFieldAddr 1 v98) fun v99 =>
bindW (st 1 v99 v97 w92) fun w100 =>
Y0 s0 v13 (.int .i64 1) w100)))))))

def F16_1 (s0 : Value) (s1 : Value) (s2 : Value) (w : World) (K : Value → World → Prop) : Prop := F16_1b s0 s1 s2 w K (fun a0 a6 a7 w => F16_2 a0 a6 a7 w K)

theorem ok16_1 {K : Value → World → Prop} {kn kr : Env → World → Prop} {ke : Nat → Env → World → Prop}
    (hn : ∀ e w, (fun e w => bindP (ldN 11 (e 6) w) fun v102 =>
K (.tuple #[v102, (e 7), (e 8)]) w) e w → kn e w) (hr : ∀ e w, endD Try.prog [.cell 6 33, .tmp 7, .tmp 8] K e w → kr e w) (he : ∀ i e w, noE i e w → ke i e w) :
    ∀ e w, F16_1 (e 0) (e 1) (e 2) w K → denL Try.prog (tabOf T16) 101 fuel ((flat (bodyOf Try.f16)).drop 0) e w kn kr ke := by
  intro e w h
  unfold F16_1 at h
  have e1 : ∀ (Y0 : Value → Value → Value → World → Prop), F16_1b (e 0) (e 1) (e 2) w K Y0 = denL Try.prog (tabOf T16) 101 fuel (((flat (bodyOf Try.f16)).drop 0).take 4) e w (fun e w => Y0 (e 0) (e 6) (e 7) w) (endD Try.prog [.cell 6 33, .tmp 7, .tmp 8] K) noE := by intro Y0; kernel_rfl
  exact seg 4 (Eq.mp (e1 (fun a0 a6 a7 w => F16_2 a0 a6 a7 w K)) h) (fun e w h => ok16_2 hn hr he e w h) hr he

def F16 (x0 : Value) (x1 : Value) (x2 : Value) (w : World) (K : Value → World → Prop) : Prop := F16_1 x0 x1 x2 w K

def G16 : FnT := fun args w K => on3 (fun x0 x1 x2 => F16 x0 x1 x2 w K) args
theorem c16 {x0 x1 x2 : Value} {w : World} {K : Value → World → Prop} (h : F16 x0 x1 x2 w K) : callP G16 [x0, x1, x2] w K := callP_intro (on3_mk (p := fun x0 x1 x2 => F16 x0 x1 x2 w K) h)
theorem ok16 : OkF Try.prog 16 G16 := by
  refine okF_of (tab_ok (l := T16) ⟨ok61, ok62, ok63, ok64, ok65, ok66, trivial⟩) mixed (n := fuel) Try.func16 Try.call16 fun args w K h => ?_
  obtain ⟨x0, x1, x2, rfl, hh⟩ := of_on3 h
  unfold F16 at hh
  exact fnD_list (c := bodyOf Try.f16) (by kernel_rfl) (by kernel_rfl) (ok16_1 (fun _ _ h => h) (fun _ _ h => h) (fun _ _ _ h => h) (initE [x0, x1, x2]) w hh)

-- 17 (*gong/board.Board).Len
def T17 : List (Nat × FnT) := []
def F17 (x0 : Value) (w : World) (K : Value → World → Prop) : Prop :=
bindP (pNil x0) fun v1 =>
bindP (pFieldAddr 2 v1) fun v2 =>
bindP (ld1 v2 w) fun v3 =>
bindP (lenM v3 w) fun v4 =>
K v4 w

def G17 : FnT := fun args w K => on1 (fun x0 => F17 x0 w K) args
theorem c17 {x0 : Value} {w : World} {K : Value → World → Prop} (h : F17 x0 w K) : callP G17 [x0] w K := callP_intro (on1_mk (p := fun x0 => F17 x0 w K) h)
theorem ok17 : OkF Try.prog 17 G17 := by
  refine okF_of (tab_ok (l := T17) trivial) mixed (n := fuel) Try.func17 Try.call17 fun args w K h => ?_
  obtain ⟨x0, rfl, hh⟩ := of_on1 h
  exact fnD_list (c := bodyOf Try.f17) (by kernel_rfl) (by kernel_rfl) (Eq.mp (by kernel_rfl) hh)

-- 14 gong/gonglaw20.works
def T14 : List (Nat × FnT) := [(13, G13), (16, G16), (17, G17)]
def F14 (w : World) (K : Value → World → Prop) : Prop :=
callP G13 [(.int .i64 5)] w fun v2 w1 =>
bindP (pTuple v2 0) fun v3 =>
bindP (pTuple v2 1) fun v4 =>
bindP (bEq Try.prog 23 (.tmp 17) (.const (.pointer none)) v3 (.pointer none)) fun v5 =>
stepM (gd false v5) v4 fun v6 =>
Sx.stepG (gd false v5) (bNe Try.prog 24 (.tmp 20) (.const (.int .i64 0)) v6 (.int .i64 0)) fun v7 =>
bindP (pPick v5 (.bool true) v7) fun v8 =>
ifB v8 (
K (.bool false) w1) (
bindP (fBuild Try.prog 31 [(0, (.string ⟨#[110]⟩)), (1, (.string ⟨#[108, 105, 110, 107]⟩)), (3, (.int .i64 4))]) fun v9 =>
bindP (fBuild Try.prog 31 [(0, (.string ⟨#[110]⟩)), (1, (.string ⟨#[108, 105, 110, 107]⟩))]) fun v10 =>
eAlloc Try.prog 31 w1 fun v12 w11 =>
eAlloc Try.prog 31 w11 fun v14 w13 =>
bindW (st 5 v12 v9 w13) fun w15 =>
bindW (st 5 v14 v10 w15) fun w17 =>
bindP (ldN 5 v12 w17) fun v19 =>
callP G16 [v3, v19, (.int .i64 1)] w17 fun v21 w20 =>
bindP (pTuple v21 0) fun v22 =>
bindP (pTuple v21 1) fun v23 =>
bindP (pTuple v21 2) fun v24 =>
eAlloc Try.prog 33 w20 fun v26 w25 =>
bindW (st 11 v26 v22 w25) fun w27 =>
bindP (ldN 5 v12 w27) fun v29 =>
callP G16 [v3, v29, (.int .i64 2)] w27 fun v31 w30 =>
bindP (pTuple v31 0) fun v32 =>
bindP (pTuple v31 1) fun v33 =>
bindP (pTuple v31 2) fun v34 =>
eAlloc Try.prog 33 w30 fun v36 w35 =>
bindW (st 11 v36 v32 w35) fun w37 =>
bindP (ldN 5 v14 w37) fun v39 =>
callP G16 [v3, v39, (.int .i64 3)] w37 fun v41 w40 =>
bindP (pTuple v41 0) fun v42 =>
bindP (pTuple v41 1) fun v43 =>
bindP (pTuple v41 2) fun v44 =>
eAlloc Try.prog 33 w40 fun v46 w45 =>
bindW (st 11 v46 v42 w45) fun w47 =>
bindP (bEq Try.prog 24 (.tmp 46) (.const (.int .i64 0)) v24 (.int .i64 0)) fun v49 =>
stepM (gd true v49) v34 fun v50 =>
Sx.stepG (gd true v49) (bEq Try.prog 24 (.tmp 49) (.const (.int .i64 0)) v50 (.int .i64 0)) fun v51 =>
bindP (pPick v49 v51 (.bool false)) fun v52 =>
stepM (gd true v52) v44 fun v53 =>
Sx.stepG (gd true v52) (bEq Try.prog 24 (.tmp 53) (.const (.int .i64 0)) v53 (.int .i64 0)) fun v54 =>
bindP (pPick v52 v54 (.bool false)) fun v55 =>
stepM (gd true v55) v23 fun v56 =>
Sx.stepG (gd true v55) (bEq Try.prog 3 (.tmp 57) (.const (.int .i64 1)) v56 (.int .i64 1)) fun v57 =>
bindP (pPick v55 v57 (.bool false)) fun v58 =>
stepM (gd true v58) v33 fun v59 =>
Sx.stepG (gd true v58) (bEq Try.prog 3 (.tmp 61) (.const (.int .i64 0)) v59 (.int .i64 0)) fun v60 =>
bindP (pPick v58 v60 (.bool false)) fun v61 =>
stepM (gd true v61) v43 fun v62 =>
Sx.stepG (gd true v61) (bEq Try.prog 3 (.tmp 65) (.const (.int .i64 3)) v62 (.int .i64 3)) fun v63 =>
bindP (pPick v61 v63 (.bool false)) fun v64 =>
Sx.stepG (gd true v64) (pFieldAddr 6 v46) fun v65 =>
Sx.stepG (gd true v64) (ld1 v65 w47) fun v66 =>
Sx.stepG (gd true v64) (bEq Try.prog 3 (.tmp 70) (.const (.int .i64 2)) v66 (.int .i64 2)) fun v67 =>
bindP (pPick v64 v67 (.bool false)) fun v68 =>
stepM (gd true v68) v3 fun v69 =>
stepE (gd true v68) (fun k => callP G17 [v69] w47 k) w47 fun v71 w70 =>
Sx.stepG (gd true v68) (bEq Try.prog 3 (.tmp 75) (.const (.int .i64 0)) v71 (.int .i64 0)) fun v72 =>
bindP (pPick v68 v72 (.bool false)) fun v73 =>
K v73 w70)

def G14 : FnT := fun args w K => on0 (F14 w K) args
theorem c14 {w : World} {K : Value → World → Prop} (h : F14 w K) : callP G14 [] w K := callP_intro (on0_mk (p := F14 w K) h)
theorem ok14 : OkF Try.prog 14 G14 := by
  refine okF_of (tab_ok (l := T14) ⟨ok13, ok16, ok17, trivial⟩) mixed (n := fuel) Try.func14 Try.call14 fun args w K h => ?_
  obtain ⟨rfl, hh⟩ := of_on0 h
  exact fnD_list (c := bodyOf Try.f14) (by kernel_rfl) (by kernel_rfl) (Eq.mp (by kernel_rfl) hh)

-- 67 gong/board.isWho
def T67 : List (Nat × FnT) := [(61, G61)]
def F67 (x0 : Value) (w : World) (K : Value → World → Prop) : Prop :=
bindP (fBuild Try.prog 31 [(0, x0), (1, (.string ⟨#[99]⟩))]) fun v1 =>
callP G61 [v1] w fun v3 w2 =>
bindP (bEq Try.prog 24 (.tmp 5) (.const (.int .i64 0)) v3 (.int .i64 0)) fun v4 =>
K v4 w2

def G67 : FnT := fun args w K => on1 (fun x0 => F67 x0 w K) args
theorem c67 {x0 : Value} {w : World} {K : Value → World → Prop} (h : F67 x0 w K) : callP G67 [x0] w K := callP_intro (on1_mk (p := fun x0 => F67 x0 w K) h)
theorem ok67 : OkF Try.prog 67 G67 := by
  refine okF_of (tab_ok (l := T67) ⟨ok61, trivial⟩) mixed (n := fuel) Try.func67 Try.call67 fun args w K h => ?_
  obtain ⟨x0, rfl, hh⟩ := of_on1 h
  exact fnD_list (c := bodyOf Try.f67) (by kernel_rfl) (by kernel_rfl) (Eq.mp (by kernel_rfl) hh)

-- 18 gong/board.Check
def T18 : List (Nat × FnT) := [(61, G61), (62, G62), (67, G67)]
def F18 (x0 : Value) (w : World) (K : Value → World → Prop) : Prop :=
eBox 33 x0 w fun v2 w1 =>
bindP (pFieldAddr 7 v2) fun v3 =>
bindP (ld1 v3 w1) fun v4 =>
callP G62 [v4] w1 fun v6 w5 =>
Sx.stepG (gd true v6) (pFieldAddr 8 v2) fun v7 =>
Sx.stepG (gd true v6) (ld1 v7 w5) fun v8 =>
stepE (gd true v6) (fun k => callP G62 [v8] w5 k) w5 fun v10 w9 =>
bindP (pPick v6 v10 (.bool false)) fun v11 =>
Sx.stepG (gd true v11) (pFieldAddr 7 v2) fun v12 =>
Sx.stepG (gd true v11) (ld1 v12 w9) fun v13 =>
Sx.stepG (gd true v11) (pFieldAddr 8 v2) fun v14 =>
Sx.stepG (gd true v11) (ld1 v14 w9) fun v15 =>
Sx.stepG (gd true v11) (bLe v13 v15) fun v16 =>
bindP (pPick v11 v16 (.bool false)) fun v17 =>
bindP (pFieldAddr 9 v2) fun v18 =>
bindP (ld1 v18 w9) fun v19 =>
Sx.stepG (gd true v19) (pFieldAddr 10 v2) fun v20 =>
Sx.stepG (gd true v19) (ld1 v20 w9) fun v21 =>
stepE (gd true v19) (fun k => callP G67 [v21] w9 k) w9 fun v23 w22 =>
bindP (pPick v19 v23 (.bool false)) fun v24 =>
Sx.stepG (gd false v24) (pFieldAddr 9 v2) fun v25 =>
Sx.stepG (gd false v24) (ld1 v25 w22) fun v26 =>
Sx.stepG (gd false v24) (uNot v26) fun v27 =>
stepM (gd false v24) v27 fun v28 =>
Sx.stepG (gd true v28) (pFieldAddr 10 v2) fun v29 =>
Sx.stepG (gd true v28) (ld1 v29 w22) fun v30 =>
Sx.stepG (gd true v28) (bEq Try.prog 9 (.tmp 33) (.const (.string ⟨#[]⟩)) v30 (.string ⟨#[]⟩)) fun v31 =>
Sx.stepG (gd false v24) (pPick v28 v31 (.bool false)) fun v32 =>
bindP (pPick v24 (.bool true) v32) fun v33 =>
bindP (pFieldAddr 0 v2) fun v34 =>
bindP (ld1 v34 w22) fun v35 =>
bindP (bLt v35 (.int .i64 1)) fun v36 =>
Sx.stepG (gd false v36) (pFieldAddr 1 v2) fun v37 =>
Sx.stepG (gd false v36) (pFieldAddr 3 v37) fun v38 =>
Sx.stepG (gd false v36) (ld1 v38 w22) fun v39 =>
Sx.stepG (gd false v36) (bLt v39 (.int .i64 1)) fun v40 =>
bindP (pPick v36 (.bool true) v40) fun v41 =>
Sx.stepG (gd false v41) (pFieldAddr 6 v2) fun v42 =>
Sx.stepG (gd false v41) (ld1 v42 w22) fun v43 =>
Sx.stepG (gd false v41) (bLt v43 (.int .i64 1)) fun v44 =>
bindP (pPick v41 (.bool true) v44) fun v45 =>
Sx.stepG (gd false v45) (pFieldAddr 6 v2) fun v46 =>
Sx.stepG (gd false v45) (ld1 v46 w22) fun v47 =>
Sx.stepG (gd false v45) (bGt v47 (.int .i64 1099511627776)) fun v48 =>
bindP (pPick v45 (.bool true) v48) fun v49 =>
stepM (gd false v49) v17 fun v50 =>
Sx.stepG (gd false v49) (uNot v50) fun v51 =>
bindP (pPick v49 (.bool true) v51) fun v52 =>
stepM (gd false v52) v33 fun v53 =>
Sx.stepG (gd false v52) (uNot v53) fun v54 =>
bindP (pPick v52 (.bool true) v54) fun v55 =>
Sx.stepG (gd false v55) (pFieldAddr 1 v2) fun v56 =>
Sx.stepG (gd false v55) (ldN 5 v56 w22) fun v57 =>
stepE (gd false v55) (fun k => callP G61 [v57] w22 k) w22 fun v59 w58 =>
Sx.stepG (gd false v55) (bNe Try.prog 24 (.tmp 67) (.const (.int .i64 0)) v59 (.int .i64 0)) fun v60 =>
bindP (pPick v55 (.bool true) v60) fun v61 =>
ifB v61 (
K (.int .i64 4) w58) (
K (.int .i64 0) w58)

def G18 : FnT := fun args w K => on1 (fun x0 => F18 x0 w K) args
theorem c18 {x0 : Value} {w : World} {K : Value → World → Prop} (h : F18 x0 w K) : callP G18 [x0] w K := callP_intro (on1_mk (p := fun x0 => F18 x0 w K) h)
theorem ok18 : OkF Try.prog 18 G18 := by
  refine okF_of (tab_ok (l := T18) ⟨ok61, ok62, ok67, trivial⟩) mixed (n := fuel) Try.func18 Try.call18 fun args w K h => ?_
  obtain ⟨x0, rfl, hh⟩ := of_on1 h
  exact fnD_list (c := bodyOf Try.f18) (by kernel_rfl) (by kernel_rfl) (Eq.mp (by kernel_rfl) hh)

-- 70 gong/gongref20.IsWho
def T70 : List (Nat × FnT) := [(68, G68)]
def F70 (x0 : Value) (w : World) (K : Value → World → Prop) : Prop :=
bindP (fBuild Try.prog 31 [(0, x0), (1, (.string ⟨#[120]⟩))]) fun v1 =>
callP G68 [v1] w fun v3 w2 =>
bindP (bEq Try.prog 24 (.tmp 5) (.const (.int .i64 0)) v3 (.int .i64 0)) fun v4 =>
K v4 w2

def G70 : FnT := fun args w K => on1 (fun x0 => F70 x0 w K) args
theorem c70 {x0 : Value} {w : World} {K : Value → World → Prop} (h : F70 x0 w K) : callP G70 [x0] w K := callP_intro (on1_mk (p := fun x0 => F70 x0 w K) h)
theorem ok70 : OkF Try.prog 70 G70 := by
  refine okF_of (tab_ok (l := T70) ⟨ok68, trivial⟩) mixed (n := fuel) Try.func70 Try.call70 fun args w K h => ?_
  obtain ⟨x0, rfl, hh⟩ := of_on1 h
  exact fnD_list (c := bodyOf Try.f70) (by kernel_rfl) (by kernel_rfl) (Eq.mp (by kernel_rfl) hh)

-- 19 gong/gongref20.Check
def T19 : List (Nat × FnT) := [(68, G68), (69, G69), (70, G70)]
def F19 (x0 : Value) (w : World) (K : Value → World → Prop) : Prop :=
eBox 33 x0 w fun v2 w1 =>
bindP (pFieldAddr 0 v2) fun v3 =>
bindP (ld1 v3 w1) fun v4 =>
bindP (bLt v4 (.int .i64 1)) fun v5 =>
Sx.stepG (gd false v5) (pFieldAddr 1 v2) fun v6 =>
Sx.stepG (gd false v5) (ldN 5 v6 w1) fun v7 =>
stepE (gd false v5) (fun k => callP G68 [v7] w1 k) w1 fun v9 w8 =>
Sx.stepG (gd false v5) (bNe Try.prog 24 (.tmp 9) (.const (.int .i64 0)) v9 (.int .i64 0)) fun v10 =>
bindP (pPick v5 (.bool true) v10) fun v11 =>
Sx.stepG (gd false v11) (pFieldAddr 1 v2) fun v12 =>
Sx.stepG (gd false v11) (pFieldAddr 3 v12) fun v13 =>
Sx.stepG (gd false v11) (ld1 v13 w8) fun v14 =>
Sx.stepG (gd false v11) (bLt v14 (.int .i64 1)) fun v15 =>
bindP (pPick v11 (.bool true) v15) fun v16 =>
Sx.stepG (gd false v16) (pFieldAddr 6 v2) fun v17 =>
Sx.stepG (gd false v16) (ld1 v17 w8) fun v18 =>
Sx.stepG (gd false v16) (bLt v18 (.int .i64 1)) fun v19 =>
bindP (pPick v16 (.bool true) v19) fun v20 =>
Sx.stepG (gd false v20) (pFieldAddr 6 v2) fun v21 =>
Sx.stepG (gd false v20) (ld1 v21 w8) fun v22 =>
Sx.stepG (gd false v20) (bGt v22 (.int .i64 1099511627776)) fun v23 =>
bindP (pPick v20 (.bool true) v23) fun v24 =>
Sx.stepG (gd false v24) (pFieldAddr 7 v2) fun v25 =>
Sx.stepG (gd false v24) (ld1 v25 w8) fun v26 =>
stepE (gd false v24) (fun k => callP G69 [v26] w8 k) w8 fun v28 w27 =>
Sx.stepG (gd false v24) (uNot v28) fun v29 =>
bindP (pPick v24 (.bool true) v29) fun v30 =>
Sx.stepG (gd false v30) (pFieldAddr 8 v2) fun v31 =>
Sx.stepG (gd false v30) (ld1 v31 w27) fun v32 =>
stepE (gd false v30) (fun k => callP G69 [v32] w27 k) w27 fun v34 w33 =>
Sx.stepG (gd false v30) (uNot v34) fun v35 =>
bindP (pPick v30 (.bool true) v35) fun v36 =>
Sx.stepG (gd false v36) (pFieldAddr 7 v2) fun v37 =>
Sx.stepG (gd false v36) (ld1 v37 w33) fun v38 =>
Sx.stepG (gd false v36) (pFieldAddr 8 v2) fun v39 =>
Sx.stepG (gd false v36) (ld1 v39 w33) fun v40 =>
Sx.stepG (gd false v36) (bGt v38 v40) fun v41 =>
bindP (pPick v36 (.bool true) v41) fun v42 =>
ifB v42 (
K (.int .i64 4) w33) (
bindP (pFieldAddr 9 v2) fun v43 =>
bindP (ld1 v43 w33) fun v44 =>
Sx.stepG (gd true v44) (pFieldAddr 10 v2) fun v45 =>
Sx.stepG (gd true v44) (ld1 v45 w33) fun v46 =>
stepE (gd true v44) (fun k => callP G70 [v46] w33 k) w33 fun v48 w47 =>
Sx.stepG (gd true v44) (uNot v48) fun v49 =>
bindP (pPick v44 v49 (.bool false)) fun v50 =>
Sx.stepG (gd false v50) (pFieldAddr 9 v2) fun v51 =>
Sx.stepG (gd false v50) (ld1 v51 w47) fun v52 =>
Sx.stepG (gd false v50) (uNot v52) fun v53 =>
stepM (gd false v50) v53 fun v54 =>
Sx.stepG (gd true v54) (pFieldAddr 10 v2) fun v55 =>
Sx.stepG (gd true v54) (ld1 v55 w47) fun v56 =>
Sx.stepG (gd true v54) (bNe Try.prog 9 (.tmp 61) (.const (.string ⟨#[]⟩)) v56 (.string ⟨#[]⟩)) fun v57 =>
Sx.stepG (gd false v50) (pPick v54 v57 (.bool false)) fun v58 =>
bindP (pPick v50 (.bool true) v58) fun v59 =>
ifB v59 (
K (.int .i64 4) w47) (
K (.int .i64 0) w47))

def G19 : FnT := fun args w K => on1 (fun x0 => F19 x0 w K) args
theorem c19 {x0 : Value} {w : World} {K : Value → World → Prop} (h : F19 x0 w K) : callP G19 [x0] w K := callP_intro (on1_mk (p := fun x0 => F19 x0 w K) h)
theorem ok19 : OkF Try.prog 19 G19 := by
  refine okF_of (tab_ok (l := T19) ⟨ok68, ok69, ok70, trivial⟩) mixed (n := fuel) Try.func19 Try.call19 fun args w K h => ?_
  obtain ⟨x0, rfl, hh⟩ := of_on1 h
  exact fnD_list (c := bodyOf Try.f19) (by kernel_rfl) (by kernel_rfl) (Eq.mp (by kernel_rfl) hh)

-- 4 gong/gonglaw20.BoardChecks
def T4 : List (Nat × FnT) := [(14, G14), (18, G18), (19, G19)]
def F4 (x0 : Value) (w : World) (K : Value → World → Prop) : Prop :=
eBox 33 x0 w fun v2 w1 =>
bindP (pFieldAddr 1 v2) fun v3 =>
bindP (pFieldAddr 0 v3) fun v4 =>
bindP (ld1 v4 w1) fun v5 =>
bindP (lenS v5) fun v6 =>
bindP (pFieldAddr 1 v2) fun v7 =>
bindP (pFieldAddr 1 v7) fun v8 =>
bindP (ld1 v8 w1) fun v9 =>
bindP (lenS v9) fun v10 =>
bindP (bAdd v6 v10) fun v11 =>
bindP (pFieldAddr 1 v2) fun v12 =>
bindP (pFieldAddr 2 v12) fun v13 =>
bindP (ld1 v13 w1) fun v14 =>
bindP (lenS v14) fun v15 =>
bindP (bAdd v11 v15) fun v16 =>
bindP (pFieldAddr 1 v2) fun v17 =>
bindP (pFieldAddr 4 v17) fun v18 =>
bindP (ld1 v18 w1) fun v19 =>
bindP (lenS v19) fun v20 =>
bindP (bAdd v16 v20) fun v21 =>
bindP (pFieldAddr 10 v2) fun v22 =>
bindP (ld1 v22 w1) fun v23 =>
bindP (lenS v23) fun v24 =>
bindP (bAdd v21 v24) fun v25 =>
bindP (bGt v25 (.int .i64 3000)) fun v26 =>
ifB v26 (
callP G14 [] w1 fun v28 w27 =>
K v28 w27) (
bindP (ldN 11 v2 w1.drew) fun v29 =>
bindP (ldN 11 v2 w1.drew) fun v30 =>
callP G18 [v29] w1.drew fun v32 w31 =>
fok true (ldN 11 v2 w31) v30 ∧ (callP G19 [v30] w31 fun v34 w33 =>
bindP (bEq Try.prog 24 (.tmp 29) (.tmp 31) v32 v34) fun v35 =>
stepE (gd true v35) (fun k => callP G14 [] w33 k) w33 fun v37 w36 =>
bindP (pPick v35 v37 (.bool false)) fun v38 =>
K v38 w36))

def G4 : FnT := fun args w K => on1 (fun x0 => F4 x0 w K) args
theorem c4 {x0 : Value} {w : World} {K : Value → World → Prop} (h : F4 x0 w K) : callP G4 [x0] w K := callP_intro (on1_mk (p := fun x0 => F4 x0 w K) h)
theorem ok4 : OkF Try.prog 4 G4 := by
  refine okF_of (tab_ok (l := T4) ⟨ok14, ok18, ok19, trivial⟩) mixed (n := fuel) Try.func4 Try.call4 fun args w K h => ?_
  obtain ⟨x0, rfl, hh⟩ := of_on1 h
  exact fnD_list (c := bodyOf Try.f4) (by kernel_rfl) (by kernel_rfl) (Eq.mp (by kernel_rfl) hh)

-- 3 gong/gonglaw20.BoardTally
def T3 : List (Nat × FnT) := [(13, G13), (14, G14), (15, G15), (16, G16), (17, G17)]
def F3_3b (w : World) (K : Value → World → Prop) : Prop :=
K (.bool true) w

def F3_3 (w : World) (K : Value → World → Prop) : Prop := F3_3b w K

theorem ok3_3 {K : Value → World → Prop} {kn kr : Env → World → Prop} {ke : Nat → Env → World → Prop}
    (hn : ∀ e w, (fun e w => K (e 2) w) e w → kn e w) (hr : ∀ e w, endD Try.prog [.tmp 2] K e w → kr e w) (he : ∀ i e w, noE i e w → ke i e w) :
    ∀ e w, F3_3 w K → denL Try.prog (tabOf T3) 107 fuel ((flat (bodyOf Try.f3)).drop 7) e w kn kr ke := by
  intro e w h
  unfold F3_3 at h
  have e1 : ∀ (_ : Unit), F3_3b w K = denL Try.prog (tabOf T3) 107 fuel ((flat (bodyOf Try.f3)).drop 7) e w (fun e w => K (e 2) w) (endD Try.prog [.tmp 2] K) noE := by intro _; kernel_rfl
  exact seg_end (Eq.mp (e1 ()) h) hn hr he

def F3_6b (s0 : Value) (s3 : Value) (s5 : Value) (s6 : Value) (w : World) (_K : Value → World → Prop) (R3 : Value → Value → Value → Value → World → Prop) : Prop :=
bindP (bAdd s6 (.int .i64 1)) fun v1 =>
R3 s0 s3 s5 v1 w

def F3_6 (s0 : Value) (s3 : Value) (s5 : Value) (s6 : Value) (w : World) (K : Value → World → Prop) (R3 : Value → Value → Value → Value → World → Prop) : Prop := F3_6b s0 s3 s5 s6 w K R3

theorem ok3_6 (R3 : Value → Value → Value → Value → World → Prop) {K : Value → World → Prop} {kn kr : Env → World → Prop} {ke : Nat → Env → World → Prop}
    (hn : ∀ e w, (fun e w => R3 (e 0) (e 3) (e 5) (e 6) w) e w → kn e w) (hr : ∀ e w, endD Try.prog [.tmp 2] K e w → kr e w) (he : ∀ i e w, (blkK 0 (fun e w => F3_3 w K) noE) i e w → ke i e w) :
    ∀ e w, F3_6 (e 0) (e 3) (e 5) (e 6) w K R3 → denL Try.prog (tabOf T3) 107 fuel ((flat (loopB (blkB (nthC (flat (bodyOf Try.f3)) 6)))).drop 3) e w kn kr ke := by
  intro e w h
  unfold F3_6 at h
  have e1 : ∀ (_ : Unit), F3_6b (e 0) (e 3) (e 5) (e 6) w K R3 = denL Try.prog (tabOf T3) 107 fuel ((flat (loopB (blkB (nthC (flat (bodyOf Try.f3)) 6)))).drop 3) e w (fun e w => R3 (e 0) (e 3) (e 5) (e 6) w) (endD Try.prog [.tmp 2] K) (blkK 0 (fun e w => F3_3 w K) noE) := by intro _; kernel_rfl
  exact seg_end (Eq.mp (e1 ()) h) hn hr he

def F3_8b (s0 : Value) (s3 : Value) (s6 : Value) (s7 : Value) (s8 : Value) (s9 : Value) (s10 : Value) (s11 : Value) (w : World) (K : Value → World → Prop) (R3 : Value → Value → Value → Value → World → Prop) (Y0 : Value → Value → Value → Value → World → Prop) : Prop :=
bindP (bNe Try.prog 24 (.tmp 67) (.const (.int .i64 0)) s10 (.int .i64 0)) fun v2 =>
stepM (gd false v2) s9 fun v3 =>
stepM (gd false v2) s11 fun v4 =>
Sx.stepG (gd false v2) (bNe Try.prog 3 (.tmp 70) (.tmp 71) v3 v4) fun v5 =>
bindP (pPick v2 (.bool true) v5) fun v6 =>
Sx.stepG (gd false v6) (ldN 11 s8 w) fun v7 =>
Sx.stepG (gd false v6) (ldN 5 s7 w) fun v8 =>
stepM (gd false v6) s6 fun v9 =>
Sx.stepG (gd false v6) (bAdd v9 (.int .i64 1)) fun v10 =>
stepM (gd false v6) s6 fun v11 =>
Sx.stepG (gd false v6) (bMul (.int .i64 5) v11) fun v12 =>
Sx.stepG (gd false v6) (fBuild Try.prog 33 [(0, (.int .i64 1)), (1, v8), (2, v10), (3, (.int .i64 0)), (4, v12)]) fun v13 =>
Sx.stepG (gd false v6) (bNe Try.prog 33 (.tmp 75) (.tmp 81) v7 v13) fun v14 =>
bindP (pPick v6 (.bool true) v14) fun v15 =>
ifB v15 (
K (.bool false) w) (
bindP (pFieldAddr 3 s7) fun v16 =>
bindP (ld1 v16 w) fun v17 =>
bindP (fBuild Try.prog 31 [(0, (.string ⟨#[111]⟩)), (1, (.string ⟨#[99]⟩)), (3, (.int .i64 1))]) fun v18 =>
bindP (bMul (.int .i64 5) s6) fun v19 =>
callP G16 [s3, v18, v19] w fun v21 w20 =>
bindP (pTuple v21 0) fun v22 =>
bindP (pTuple v21 1) fun _ =>
bindP (pTuple v21 2) fun v24 =>
eAlloc Try.prog 33 w20 fun v26 w25 =>
bindW (st 11 v26 v22 w25) fun w27 =>
bindP (bNe Try.prog 24 (.tmp 95) (.const (.int .i64 200)) v24 (.int .i64 200)) fun v29 =>
Sx.stepG (gd false v29) (ldN 11 v26 w27) fun v30 =>
Sx.stepG (gd false v29) (fBuild Try.prog 33 []) fun v31 =>
Sx.stepG (gd false v29) (bNe Try.prog 33 (.tmp 98) (.tmp 99) v30 v31) fun v32 =>
bindP (pPick v29 (.bool true) v32) fun v33 =>
stepM (gd false v33) s3 fun v34 =>
stepE (gd false v33) (fun k => callP G17 [v34] w27 k) w27 fun v36 w35 =>
Sx.stepG (gd false v33) (bNe Try.prog 3 (.tmp 104) (.const (.int .i64 1)) v36 (.int .i64 1)) fun v37 =>
bindP (pPick v33 (.bool true) v37) fun v38 =>
ifB v38 (
K (.bool false) w35) (
Y0 s0 s3 v17 s6 w35))

def F3_8 (s0 : Value) (s3 : Value) (s6 : Value) (s7 : Value) (s8 : Value) (s9 : Value) (s10 : Value) (s11 : Value) (w : World) (K : Value → World → Prop) (R3 : Value → Value → Value → Value → World → Prop) : Prop := F3_8b s0 s3 s6 s7 s8 s9 s10 s11 w K R3 (fun a0 a3 a5 a6 w => F3_6 a0 a3 a5 a6 w K R3)

theorem ok3_8 (R3 : Value → Value → Value → Value → World → Prop) {K : Value → World → Prop} {kn kr : Env → World → Prop} {ke : Nat → Env → World → Prop}
    (hn : ∀ e w, (fun e w => F3_6 (e 0) (e 3) (e 5) (e 6) w K R3) e w → kn e w) (hr : ∀ e w, endD Try.prog [.tmp 2] K e w → kr e w) (he : ∀ i e w, (blkK 1 (fun e w => F3_6 (e 0) (e 3) (e 5) (e 6) w K R3) (blkK 0 (fun e w => F3_3 w K) noE)) i e w → ke i e w) :
    ∀ e w, F3_8 (e 0) (e 3) (e 6) (e 7) (e 8) (e 9) (e 10) (e 11) w K R3 → denL Try.prog (tabOf T3) 107 fuel ((flat (blkB (nthC (flat (loopB (blkB (nthC (flat (bodyOf Try.f3)) 6)))) 2))).drop 5) e w kn kr ke := by
  intro e w h
  unfold F3_8 at h
  have e1 : ∀ (Y0 : Value → Value → Value → Value → World → Prop), F3_8b (e 0) (e 3) (e 6) (e 7) (e 8) (e 9) (e 10) (e 11) w K R3 Y0 = denL Try.prog (tabOf T3) 107 fuel ((flat (blkB (nthC (flat (loopB (blkB (nthC (flat (bodyOf Try.f3)) 6)))) 2))).drop 5) e w (fun e w => Y0 (e 0) (e 3) (e 5) (e 6) w) (endD Try.prog [.tmp 2] K) (blkK 1 (fun e w => Y0 (e 0) (e 3) (e 5) (e 6) w) (blkK 0 (fun e w => F3_3 w K) noE)) := by intro Y0; kernel_rfl
  exact seg_end (Eq.mp (e1 (fun a0 a3 a5 a6 w => F3_6 a0 a3 a5 a6 w K R3)) h) hn hr he

def F3_7b (s0 : Value) (s3 : Value) (s5 : Value) (s6 : Value) (w : World) (_K : Value → World → Prop) (R3 : Value → Value → Value → Value → World → Prop) (Y0 : Value → Value → Value → Value → Value → Value → Value → Value → World → Prop) : Prop :=
bindP (pIndexL 1 s0 s6) fun v39 =>
bindP (ld1 v39 w.drew) fun v40 =>
bindP (bRem s6 (.int .i64 20)) fun v41 =>
bindP (bAdd (.int .i64 97) v41) fun v42 =>
bindP (cInt .u8 v42) fun v43 =>
(callP G15 [v40, (.int .i64 5)] w.drew fun v45 w44 =>
fok true (cInt .u8 v42) v43 ∧ (bindP (bAdd (.int .i64 1) v45) fun v46 =>
(eBuildSl Try.prog 29 1 [(0, v43)] w44 fun v48 w47 =>
fok true (ld1 v39 w47) v40 ∧ (bindP (cBytes v48 w47) fun v49 =>
bindP (fBuild Try.prog 31 [(0, (.string ⟨#[110]⟩)), (1, (.string ⟨#[99]⟩)), (2, (.string ⟨#[107]⟩)), (3, v46), (4, v49)]) fun v50 =>
eAlloc Try.prog 31 w47 fun v52 w51 =>
(fok true (ld1 v39 w51) v40 ∧ fok true (cInt .u8 v42) v43 ∧ fok true (cBytes v48 w51) v49) ∧ (bindW (st 5 v52 v50 w51) fun w53 =>
bindP (ldN 5 v52 w53) fun v55 =>
bindP (bMul (.int .i64 5) s6) fun v56 =>
callP G16 [s3, v55, v56] w53 fun v58 w57 =>
bindP (pTuple v58 0) fun v59 =>
bindP (pTuple v58 1) fun v60 =>
bindP (pTuple v58 2) fun v61 =>
eAlloc Try.prog 33 w57 fun v63 w62 =>
bindW (st 11 v63 v59 w62) fun w64 =>
bindP (bEq Try.prog 3 (.tmp 61) (.const (.int .i64 0)) s6 (.int .i64 0)) fun v66 =>
ifB v66 (
Y0 s0 s3 s6 v52 v63 v60 v61 (.int .i64 1) w64) (
bindP (pFieldAddr 3 v52) fun v67 =>
bindP (ld1 v67 w64) fun v68 =>
bindP (bNe Try.prog 3 (.tmp 64) (.tmp 65) v68 s5) fun v69 =>
ifB v69 (
Y0 s0 s3 s6 v52 v63 v60 v61 (.int .i64 2) w64) (
Y0 s0 s3 s6 v52 v63 v60 v61 (.int .i64 0) w64))))) ∧ (eAlloc Try.prog 31 w44 fun v71 w70 =>
(fok true (ld1 v39 w70) v40 ∧ fok true (cInt .u8 v42) v43) ∧ (eBuildSl Try.prog 29 1 [(0, v43)] w70 fun v73 w72 =>
fok true (ld1 v39 w72) v40 ∧ (bindP (cBytes v73 w72) fun v74 =>
bindP (fBuild Try.prog 31 [(0, (.string ⟨#[110]⟩)), (1, (.string ⟨#[99]⟩)), (2, (.string ⟨#[107]⟩)), (3, v46), (4, v74)]) fun v75 =>
bindW (st 5 v71 v75 w72) fun w76 =>
bindP (ldN 5 v71 w76) fun v78 =>
bindP (bMul (.int .i64 5) s6) fun v79 =>
callP G16 [s3, v78, v79] w76 fun v81 w80 =>
bindP (pTuple v81 0) fun v82 =>
bindP (pTuple v81 1) fun v83 =>
bindP (pTuple v81 2) fun v84 =>
eAlloc Try.prog 33 w80 fun v86 w85 =>
bindW (st 11 v86 v82 w85) fun w87 =>
bindP (bEq Try.prog 3 (.tmp 61) (.const (.int .i64 0)) s6 (.int .i64 0)) fun v89 =>
ifB v89 (
Y0 s0 s3 s6 v71 v86 v83 v84 (.int .i64 1) w87) (
bindP (pFieldAddr 3 v71) fun v90 =>
bindP (ld1 v90 w87) fun v91 =>
bindP (bNe Try.prog 3 (.tmp 64) (.tmp 65) v91 s5) fun v92 =>
ifB v92 (
Y0 s0 s3 s6 v71 v86 v83 v84 (.int .i64 2) w87) (
Y0 s0 s3 s6 v71 v86 v83 v84 (.int .i64 0) w87))))))) ∧ (eBuildSl Try.prog 29 1 [(0, v43)] w.drew fun v94 w93 =>
fok true (ld1 v39 w93) v40 ∧ (bindP (cBytes v94 w93) fun v95 =>
(callP G15 [v40, (.int .i64 5)] w93 fun v97 w96 =>
(fok true (cInt .u8 v42) v43 ∧ fok true (cBytes v94 w96) v95) ∧ (bindP (bAdd (.int .i64 1) v97) fun v98 =>
bindP (fBuild Try.prog 31 [(0, (.string ⟨#[110]⟩)), (1, (.string ⟨#[99]⟩)), (2, (.string ⟨#[107]⟩)), (3, v98), (4, v95)]) fun v99 =>
eAlloc Try.prog 31 w96 fun v101 w100 =>
(fok true (ld1 v39 w100) v40 ∧ fok true (cInt .u8 v42) v43 ∧ fok true (cBytes v94 w100) v95) ∧ (bindW (st 5 v101 v99 w100) fun w102 =>
bindP (ldN 5 v101 w102) fun v104 =>
bindP (bMul (.int .i64 5) s6) fun v105 =>
callP G16 [s3, v104, v105] w102 fun v107 w106 =>
bindP (pTuple v107 0) fun v108 =>
bindP (pTuple v107 1) fun v109 =>
bindP (pTuple v107 2) fun v110 =>
eAlloc Try.prog 33 w106 fun v112 w111 =>
bindW (st 11 v112 v108 w111) fun w113 =>
bindP (bEq Try.prog 3 (.tmp 61) (.const (.int .i64 0)) s6 (.int .i64 0)) fun v115 =>
ifB v115 (
Y0 s0 s3 s6 v101 v112 v109 v110 (.int .i64 1) w113) (
bindP (pFieldAddr 3 v101) fun v116 =>
bindP (ld1 v116 w113) fun v117 =>
bindP (bNe Try.prog 3 (.tmp 64) (.tmp 65) v117 s5) fun v118 =>
ifB v118 (
Y0 s0 s3 s6 v101 v112 v109 v110 (.int .i64 2) w113) (
Y0 s0 s3 s6 v101 v112 v109 v110 (.int .i64 0) w113))))) ∧ (eAlloc Try.prog 31 w93 fun v120 w119 =>
(fok true (ld1 v39 w119) v40 ∧ fok true (cInt .u8 v42) v43 ∧ fok true (cBytes v94 w119) v95) ∧ (callP G15 [v40, (.int .i64 5)] w119 fun v122 w121 =>
(fok true (cInt .u8 v42) v43 ∧ fok true (cBytes v94 w121) v95) ∧ (bindP (bAdd (.int .i64 1) v122) fun v123 =>
bindP (fBuild Try.prog 31 [(0, (.string ⟨#[110]⟩)), (1, (.string ⟨#[99]⟩)), (2, (.string ⟨#[107]⟩)), (3, v123), (4, v95)]) fun v124 =>
bindW (st 5 v120 v124 w121) fun w125 =>
bindP (ldN 5 v120 w125) fun v127 =>
bindP (bMul (.int .i64 5) s6) fun v128 =>
callP G16 [s3, v127, v128] w125 fun v130 w129 =>
bindP (pTuple v130 0) fun v131 =>
bindP (pTuple v130 1) fun v132 =>
bindP (pTuple v130 2) fun v133 =>
eAlloc Try.prog 33 w129 fun v135 w134 =>
bindW (st 11 v135 v131 w134) fun w136 =>
bindP (bEq Try.prog 3 (.tmp 61) (.const (.int .i64 0)) s6 (.int .i64 0)) fun v138 =>
ifB v138 (
Y0 s0 s3 s6 v120 v135 v132 v133 (.int .i64 1) w136) (
bindP (pFieldAddr 3 v120) fun v139 =>
bindP (ld1 v139 w136) fun v140 =>
bindP (bNe Try.prog 3 (.tmp 64) (.tmp 65) v140 s5) fun v141 =>
ifB v141 (
Y0 s0 s3 s6 v120 v135 v132 v133 (.int .i64 2) w136) (
Y0 s0 s3 s6 v120 v135 v132 v133 (.int .i64 0) w136))))))) ∧ (eAlloc Try.prog 31 w.drew fun v143 w142 =>
(fok true (ld1 v39 w142) v40 ∧ fok true (cInt .u8 v42) v43) ∧ ((callP G15 [v40, (.int .i64 5)] w142 fun v145 w144 =>
fok true (cInt .u8 v42) v43 ∧ (bindP (bAdd (.int .i64 1) v145) fun v146 =>
eBuildSl Try.prog 29 1 [(0, v43)] w144 fun v148 w147 =>
fok true (ld1 v39 w147) v40 ∧ (bindP (cBytes v148 w147) fun v149 =>
bindP (fBuild Try.prog 31 [(0, (.string ⟨#[110]⟩)), (1, (.string ⟨#[99]⟩)), (2, (.string ⟨#[107]⟩)), (3, v146), (4, v149)]) fun v150 =>
bindW (st 5 v143 v150 w147) fun w151 =>
bindP (ldN 5 v143 w151) fun v153 =>
bindP (bMul (.int .i64 5) s6) fun v154 =>
callP G16 [s3, v153, v154] w151 fun v156 w155 =>
bindP (pTuple v156 0) fun v157 =>
bindP (pTuple v156 1) fun v158 =>
bindP (pTuple v156 2) fun v159 =>
eAlloc Try.prog 33 w155 fun v161 w160 =>
bindW (st 11 v161 v157 w160) fun w162 =>
bindP (bEq Try.prog 3 (.tmp 61) (.const (.int .i64 0)) s6 (.int .i64 0)) fun v164 =>
ifB v164 (
Y0 s0 s3 s6 v143 v161 v158 v159 (.int .i64 1) w162) (
bindP (pFieldAddr 3 v143) fun v165 =>
bindP (ld1 v165 w162) fun v166 =>
bindP (bNe Try.prog 3 (.tmp 64) (.tmp 65) v166 s5) fun v167 =>
ifB v167 (
Y0 s0 s3 s6 v143 v161 v158 v159 (.int .i64 2) w162) (
Y0 s0 s3 s6 v143 v161 v158 v159 (.int .i64 0) w162))))) ∧ (eBuildSl Try.prog 29 1 [(0, v43)] w142 fun v169 w168 =>
fok true (ld1 v39 w168) v40 ∧ (bindP (cBytes v169 w168) fun v170 =>
callP G15 [v40, (.int .i64 5)] w168 fun v172 w171 =>
(fok true (cInt .u8 v42) v43 ∧ fok true (cBytes v169 w171) v170) ∧ (bindP (bAdd (.int .i64 1) v172) fun v173 =>
bindP (fBuild Try.prog 31 [(0, (.string ⟨#[110]⟩)), (1, (.string ⟨#[99]⟩)), (2, (.string ⟨#[107]⟩)), (3, v173), (4, v170)]) fun v174 =>
bindW (st 5 v143 v174 w171) fun w175 =>
bindP (ldN 5 v143 w175) fun v177 =>
bindP (bMul (.int .i64 5) s6) fun v178 =>
callP G16 [s3, v177, v178] w175 fun v180 w179 =>
bindP (pTuple v180 0) fun v181 =>
bindP (pTuple v180 1) fun v182 =>
bindP (pTuple v180 2) fun v183 =>
eAlloc Try.prog 33 w179 fun v185 w184 =>
bindW (st 11 v185 v181 w184) fun w186 =>
bindP (bEq Try.prog 3 (.tmp 61) (.const (.int .i64 0)) s6 (.int .i64 0)) fun v188 =>
ifB v188 (
Y0 s0 s3 s6 v143 v185 v182 v183 (.int .i64 1) w186) (
bindP (pFieldAddr 3 v143) fun v189 =>
bindP (ld1 v189 w186) fun v190 =>
bindP (bNe Try.prog 3 (.tmp 64) (.tmp 65) v190 s5) fun v191 =>
ifB v191 (
Y0 s0 s3 s6 v143 v185 v182 v183 (.int .i64 2) w186) (
Y0 s0 s3 s6 v143 v185 v182 v183 (.int .i64 0) w186)))))))

def F3_7 (s0 : Value) (s3 : Value) (s5 : Value) (s6 : Value) (w : World) (K : Value → World → Prop) (R3 : Value → Value → Value → Value → World → Prop) : Prop := F3_7b s0 s3 s5 s6 w K R3 (fun a0 a3 a6 a7 a8 a9 a10 a11 w => F3_8 a0 a3 a6 a7 a8 a9 a10 a11 w K R3)

theorem ok3_7 (R3 : Value → Value → Value → Value → World → Prop) {K : Value → World → Prop} {kn kr : Env → World → Prop} {ke : Nat → Env → World → Prop}
    (hn : ∀ e w, (fun e w => F3_6 (e 0) (e 3) (e 5) (e 6) w K R3) e w → kn e w) (hr : ∀ e w, endD Try.prog [.tmp 2] K e w → kr e w) (he : ∀ i e w, (blkK 1 (fun e w => F3_6 (e 0) (e 3) (e 5) (e 6) w K R3) (blkK 0 (fun e w => F3_3 w K) noE)) i e w → ke i e w) :
    ∀ e w, F3_7 (e 0) (e 3) (e 5) (e 6) w K R3 → denL Try.prog (tabOf T3) 107 fuel ((flat (blkB (nthC (flat (loopB (blkB (nthC (flat (bodyOf Try.f3)) 6)))) 2))).drop 0) e w kn kr ke := by
  intro e w h
  unfold F3_7 at h
  have e1 : ∀ (Y0 : Value → Value → Value → Value → Value → Value → Value → Value → World → Prop), F3_7b (e 0) (e 3) (e 5) (e 6) w K R3 Y0 = denL Try.prog (tabOf T3) 107 fuel (((flat (blkB (nthC (flat (loopB (blkB (nthC (flat (bodyOf Try.f3)) 6)))) 2))).drop 0).take 5) e w (fun e w => Y0 (e 0) (e 3) (e 6) (e 7) (e 8) (e 9) (e 10) (e 11) w) (endD Try.prog [.tmp 2] K) (blkK 1 (fun e w => F3_6 (e 0) (e 3) (e 5) (e 6) w K R3) (blkK 0 (fun e w => F3_3 w K) noE)) := by intro Y0; kernel_rfl
  exact seg 5 (Eq.mp (e1 (fun a0 a3 a6 a7 a8 a9 a10 a11 w => F3_8 a0 a3 a6 a7 a8 a9 a10 a11 w K R3)) h) (fun e w h => ok3_8 R3 hn hr he e w h) hr he

def F3_5 (s0 : Value) (s3 : Value) (s5 : Value) (s6 : Value) (w : World) (K : Value → World → Prop) (R3 : Value → Value → Value → Value → World → Prop) : Prop := F3_7 s0 s3 s5 s6 w K R3

theorem ok3_5 (R3 : Value → Value → Value → Value → World → Prop) {K : Value → World → Prop} {kn kr : Env → World → Prop} {ke : Nat → Env → World → Prop}
    (hn : ∀ e w, (fun e w => R3 (e 0) (e 3) (e 5) (e 6) w) e w → kn e w) (hr : ∀ e w, endD Try.prog [.tmp 2] K e w → kr e w) (he : ∀ i e w, (blkK 0 (fun e w => F3_3 w K) noE) i e w → ke i e w) :
    ∀ e w, F3_5 (e 0) (e 3) (e 5) (e 6) w K R3 → denL Try.prog (tabOf T3) 107 fuel ((flat (loopB (blkB (nthC (flat (bodyOf Try.f3)) 6)))).drop 2) e w kn kr ke := by
  intro e w h
  unfold F3_5 at h
  refine seg_block (id := 1) (body := (blkB (nthC (flat (loopB (blkB (nthC (flat (bodyOf Try.f3)) 6)))) 2))) (l2 := (flat (loopB (blkB (nthC (flat (bodyOf Try.f3)) 6)))).drop 3) (by kernel_rfl) ?_
  exact ok3_7 R3 (fun e w h => ok3_6 R3 hn hr he e w h) hr (blkK_mono (fun e w h => ok3_6 R3 hn hr he e w h) he) e w h

def F3_4b (s0 : Value) (s3 : Value) (s5 : Value) (s6 : Value) (w : World) (_K : Value → World → Prop) (R3 : Value → Value → Value → Value → World → Prop) (Y0 : Value → Value → Value → Value → World → Prop) (Y1 : World → Prop) : Prop :=
bindP (lenL s0) fun v192 =>
bindP (bLt s6 v192) fun v193 =>
stepM (gd true v193) s6 fun v194 =>
Sx.stepG (gd true v193) (bLt v194 (.int .i64 100)) fun v195 =>
bindP (pPick v193 v195 (.bool false)) fun v196 =>
ifB v196 (
Y0 s0 s3 s5 s6 w) (
Y1 w)

def F3_4 (s0 : Value) (s3 : Value) (s5 : Value) (s6 : Value) (w : World) (K : Value → World → Prop) (R3 : Value → Value → Value → Value → World → Prop) : Prop := F3_4b s0 s3 s5 s6 w K R3 (fun a0 a3 a5 a6 w => F3_5 a0 a3 a5 a6 w K R3) (fun w => F3_3 w K)

theorem ok3_4 (R3 : Value → Value → Value → Value → World → Prop) {K : Value → World → Prop} {kn kr : Env → World → Prop} {ke : Nat → Env → World → Prop}
    (hn : ∀ e w, (fun e w => R3 (e 0) (e 3) (e 5) (e 6) w) e w → kn e w) (hr : ∀ e w, endD Try.prog [.tmp 2] K e w → kr e w) (he : ∀ i e w, (blkK 0 (fun e w => F3_3 w K) noE) i e w → ke i e w) :
    ∀ e w, F3_4 (e 0) (e 3) (e 5) (e 6) w K R3 → denL Try.prog (tabOf T3) 107 fuel ((flat (loopB (blkB (nthC (flat (bodyOf Try.f3)) 6)))).drop 0) e w kn kr ke := by
  intro e w h
  unfold F3_4 at h
  have e1 : ∀ (Y0 : Value → Value → Value → Value → World → Prop) (Y1 : World → Prop), F3_4b (e 0) (e 3) (e 5) (e 6) w K R3 Y0 Y1 = denL Try.prog (tabOf T3) 107 fuel (((flat (loopB (blkB (nthC (flat (bodyOf Try.f3)) 6)))).drop 0).take 2) e w (fun e w => Y0 (e 0) (e 3) (e 5) (e 6) w) (endD Try.prog [.tmp 2] K) (blkK 0 (fun e w => Y1 w) noE) := by intro Y0 Y1; kernel_rfl
  exact seg 2 (Eq.mp (e1 (fun a0 a3 a5 a6 w => F3_5 a0 a3 a5 a6 w K R3) (fun w => F3_3 w K)) h) (fun e w h => ok3_5 R3 hn hr he e w h) hr he

def F3_2L : Nat → Value → Value → Value → Value → World → (Value → World → Prop) → Prop
  | 0, _, _, _, _, _, _ => False
  | n + 1, s0, s3, s5, s6, w, K => F3_4 s0 s3 s5 s6 w K (fun a0 a3 a5 a6 w => F3_2L n a0 a3 a5 a6 w K)

def F3_2 (s0 : Value) (s3 : Value) (s5 : Value) (s6 : Value) (w : World) (K : Value → World → Prop) : Prop := F3_2L fuel s0 s3 s5 s6 w K

theorem ok3_2 {K : Value → World → Prop} {kn kr : Env → World → Prop} {ke : Nat → Env → World → Prop}
    (hn : ∀ e w, (fun e w => K (e 2) w) e w → kn e w) (hr : ∀ e w, endD Try.prog [.tmp 2] K e w → kr e w) (he : ∀ i e w, noE i e w → ke i e w) :
    ∀ e w, F3_2 (e 0) (e 3) (e 5) (e 6) w K → denL Try.prog (tabOf T3) 107 fuel ((flat (bodyOf Try.f3)).drop 6) e w kn kr ke := by
  intro e w h
  unfold F3_2 at h
  refine seg_loop (id := 0) (body := (loopB (blkB (nthC (flat (bodyOf Try.f3)) 6)))) (l2 := (flat (bodyOf Try.f3)).drop 7) (by kernel_rfl) ?_
  refine loop_ok (FL := fun m e w => F3_2L m (e 0) (e 3) (e 5) (e 6) w K) (fr := endD Try.prog [.tmp 2] K) (fe := (blkK 0 (fun e w => F3_3 w K) noE)) (fun _ _ h => h) ?_ hr (blkK_mono (fun e w h => ok3_3 hn hr he e w h) he) fuel e w h
  intro m e w h
  have h : F3_2L (m + 1) (e 0) (e 3) (e 5) (e 6) w K := h
  rw [F3_2L] at h
  exact ok3_4 (fun a0 a3 a5 a6 w => F3_2L m a0 a3 a5 a6 w K) (fun _ _ h => h) (fun _ _ h => h) (fun _ _ _ h => h) e w h

def F3_1b (s0 : Value) (w : World) (K : Value → World → Prop) (Y0 : Value → Value → Value → Value → World → Prop) : Prop :=
callP G13 [(.int .i64 1)] w fun v198 w197 =>
bindP (pTuple v198 0) fun v199 =>
bindP (pTuple v198 1) fun v200 =>
bindP (bEq Try.prog 23 (.tmp 19) (.const (.pointer none)) v199 (.pointer none)) fun v201 =>
stepM (gd false v201) v200 fun v202 =>
Sx.stepG (gd false v201) (bNe Try.prog 24 (.tmp 22) (.const (.int .i64 0)) v202 (.int .i64 0)) fun v203 =>
bindP (pPick v201 (.bool true) v203) fun v204 =>
stepE (gd false v204) (fun k => callP G14 [] w197 k) w197 fun v206 w205 =>
Sx.stepG (gd false v204) (uNot v206) fun v207 =>
bindP (pPick v204 (.bool true) v207) fun v208 =>
ifB v208 (
K (.bool false) w205) (
Y0 s0 v199 (.int .i64 0) (.int .i64 0) w205)

def F3_1 (s0 : Value) (w : World) (K : Value → World → Prop) : Prop := F3_1b s0 w K (fun a0 a3 a5 a6 w => F3_2 a0 a3 a5 a6 w K)

theorem ok3_1 {K : Value → World → Prop} {kn kr : Env → World → Prop} {ke : Nat → Env → World → Prop}
    (hn : ∀ e w, (fun e w => K (e 2) w) e w → kn e w) (hr : ∀ e w, endD Try.prog [.tmp 2] K e w → kr e w) (he : ∀ i e w, noE i e w → ke i e w) :
    ∀ e w, F3_1 (e 0) w K → denL Try.prog (tabOf T3) 107 fuel ((flat (bodyOf Try.f3)).drop 0) e w kn kr ke := by
  intro e w h
  unfold F3_1 at h
  have e1 : ∀ (Y0 : Value → Value → Value → Value → World → Prop), F3_1b (e 0) w K Y0 = denL Try.prog (tabOf T3) 107 fuel (((flat (bodyOf Try.f3)).drop 0).take 6) e w (fun e w => Y0 (e 0) (e 3) (e 5) (e 6) w) (endD Try.prog [.tmp 2] K) noE := by intro Y0; kernel_rfl
  exact seg 6 (Eq.mp (e1 (fun a0 a3 a5 a6 w => F3_2 a0 a3 a5 a6 w K)) h) (fun e w h => ok3_2 hn hr he e w h) hr he

def F3 (x0 : Value) (w : World) (K : Value → World → Prop) : Prop := F3_1 x0 w K

def G3 : FnT := fun args w K => on1 (fun x0 => F3 x0 w K) args
theorem c3 {x0 : Value} {w : World} {K : Value → World → Prop} (h : F3 x0 w K) : callP G3 [x0] w K := callP_intro (on1_mk (p := fun x0 => F3 x0 w K) h)
theorem ok3 : OkF Try.prog 3 G3 := by
  refine okF_of (tab_ok (l := T3) ⟨ok13, ok14, ok15, ok16, ok17, trivial⟩) mixed (n := fuel) Try.func3 Try.call3 fun args w K h => ?_
  obtain ⟨x0, rfl, hh⟩ := of_on1 h
  unfold F3 at hh
  exact fnD_list (c := bodyOf Try.f3) (by kernel_rfl) (by kernel_rfl) (ok3_1 (fun _ _ h => h) (fun _ _ h => h) (fun _ _ _ h => h) (initE [x0]) w hh)

end Go.Proofs.Gong

/- Bd0 -/
namespace Go.Proofs.Gong
open Go Go.Sx Go.Proofs
set_option maxRecDepth 100000
def timeP (t : Int) : Bool := decide (0 ≤ t) && decide (t ≤ 2305843009213693952)
def whoP (s : List UInt8) : Bool := !decide (s = []) && plainP s 64
theorem chk_who (s c : List UInt8) (hc : c ≠ []) (hp : plainP c 64 = true) : chkE ⟨s, c, [], 0, []⟩ = if whoP s = true then 0 else 180 := by
  have h1 : plainP [] 128 = true := by decide
  have h2 : plainP [] 1024 = true := by decide
  unfold chkE okE whoP
  simp [hc, hp, h1, h2]
section
variable {w0 w : World} {L : List HP} {K : Value → World → Prop}
theorem bistime_spec {t : Int} (hK : K (.bool (timeP t)) w) : callP G62 [.int .i64 t] w K := by
  refine c62 ?_
  unfold F62
  unfold timeP at hK
  by_cases g1 : 0 ≤ t <;> simp [g1] at hK ⊢ <;> exact hK
theorem fbistime_spec {t : Int} (hK : K (.bool (timeP t)) w) : callP G69 [.int .i64 t] w K := by
  refine c69 ?_
  unfold F69
  unfold timeP at hK
  by_cases g1 : 0 ≤ t <;> simp [g1] at hK ⊢ <;> exact hK
theorem iswho_spec {s : List UInt8} (hs : s.length < 1000000) (h : Sat w0 L w) (hK : ∀ w', Sat w0 L w' → K (.bool (whoP s)) w') : callP G67 [.string (bs s)] w K := by
  refine c67 ?_
  unfold F67
  have eb : fBuild Try.prog 31 [(0, .string (bs s)), (1, .string ⟨#[99]⟩)] = some (evV ⟨s, [99], [], 0, []⟩) := by kernel_rfl
  rw [eb]
  simp only [bindP_some]
  refine ncheck_spec ⟨hs, by simp, by simp, by simp⟩ h fun w1 h1 => ?_
  rw [chk_who s [99] (by simp) (by decide)]
  have hk := hK _ h1
  by_cases hw : whoP s = true
  · rw [hw] at hk; rw [if_pos hw]; simpa using hk
  · rw [if_neg hw]
    have : whoP s = false := by simpa using hw
    rw [this] at hk; simpa using hk
theorem fiswho_spec {s : List UInt8} (hs : s.length < 1000000) (h : Sat w0 L w) (hK : ∀ w', Sat w0 L w' → K (.bool (whoP s)) w') : callP G70 [.string (bs s)] w K := by
  refine c70 ?_
  unfold F70
  have eb : fBuild Try.prog 31 [(0, .string (bs s)), (1, .string ⟨#[120]⟩)] = some (evV ⟨s, [120], [], 0, []⟩) := by kernel_rfl
  rw [eb]
  simp only [bindP_some]
  refine nfcheck_spec ⟨hs, by simp, by simp, by simp⟩ h fun w1 h1 => ?_
  rw [chk_who s [120] (by simp) (by decide)]
  have hk := hK _ h1
  by_cases hw : whoP s = true
  · rw [hw] at hk; rw [if_pos hw]; simpa using hk
  · rw [if_neg hw]
    have : whoP s = false := by simpa using hw
    rw [this] at hk; simpa using hk
end
structure Row where
  id : Int
  e : Evt
  tally : Int
  first : Int
  last : Int
  acked : Bool
  who : List UInt8
  deriving DecidableEq
@[reducible] def cRow (r : Row) : List Value := [.int .i64 r.id, .string (bs r.e.node), .string (bs r.e.cls), .string (bs r.e.key), .int .i64 r.e.level, .string (bs r.e.text), .int .i64 r.tally, .int .i64 r.first, .int .i64 r.last, .bool r.acked, .string (bs r.who)]
abbrev rowV (r : Row) : Value := .agg (cRow r).toArray
def timesR (r : Row) : Bool := timeP r.first && timeP r.last && decide (r.first ≤ r.last)
def whoR (r : Row) : Bool := if r.acked = true then whoP r.who else decide (r.who = [])
def okR (r : Row) : Bool := decide (1 ≤ r.id) && decide (1 ≤ r.e.level) && decide (1 ≤ r.tally) && decide (r.tally ≤ 1099511627776) && timesR r && whoR r && okE r.e
def chkR (r : Row) : Int := if okR r = true then 0 else 4
end Go.Proofs.Gong
