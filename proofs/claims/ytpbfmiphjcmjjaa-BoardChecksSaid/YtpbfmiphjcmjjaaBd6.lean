/- A part of the proofs: what stands below it, told in lemmas. No condition. -/
import Derived.Test.YtpbfmiphjcmjjaaBd5
import Derived.Test.YtpbfmiphjcmjjaaFb
set_option linter.all false
namespace Go.Proofs.Gong
open Go Go.Sx Go.Proofs
set_option maxRecDepth 100000
attribute [local irreducible] fBuild fLook fZero eqv bEqv Cl MapH LsH SlH ld1 ldN st callP eBox eAlloc lenM lenL eMapSet eDelete eAppend eBuildSl eRange eNext
/-- what raising an event does: the row, what befell it, the code; the next Id, the rows, the Ids by signs -/
def raiseP (n next : Int) (R : List (Int × Row)) (I : List (Sg × Int)) (e : Evt) (now : Int) : (Row × Int × Int) × Int × List (Int × Row) × List (Sg × Int) :=
  if okE e = false then ((zeroR, 0, 180), next, R, I) else
  if timeP now = false then ((zeroR, 0, 1), next, R, I) else
  match aGet (sgOf e) I with
  | none => if e.level = 0 then ((zeroR, 0, 5), next, R, I) else if n ≤ (R.length : Int) then ((zeroR, 0, 200), next, R, I) else
    ((⟨next, e, 1, now, now, false, []⟩, 1, 0), next + 1, aSet next ⟨next, e, 1, now, now, false, []⟩ R, aSet (sgOf e) next I)
  | some id => if e.level = 0 then (((aGet id R).getD zeroR, 3, 0), next, aDel ((aGet id R).getD zeroR).id R, aDel (sgOf ((aGet id R).getD zeroR).e) I) else
    (((againP ((aGet id R).getD zeroR) e now).1, (againP ((aGet id R).getD zeroR) e now).2, 0), next,
      aSet (againP ((aGet id R).getD zeroR) e now).1.id (againP ((aGet id R).getD zeroR) e now).1 R, aSet (sgOf (againP ((aGet id R).getD zeroR) e now).1.e) (againP ((aGet id R).getD zeroR) e now).1.id I)
theorem elimR (o : Option Row) : o.elim (rowV zeroR) rowV = rowV (o.getD zeroR) := by cases o <;> rfl
section
variable {w0 w : World} {L : List HP} {K : Value → World → Prop} {v : Value} {n next : Int} {R : List (Int × Row)} {I : List (Sg × Int)}
theorem raise2_spec {p : Nat} {r : Row} {what : Int} (h : Sat w0 (Cl p (cRow r).toArray 33 :: BoardI v n next R I :: L) w)
    (hK : ∀ w', Sat w0 (BoardI v n next (aSet r.id r R) (aSet (sgOf r.e) r.id I) :: L) w' → K (.tuple #[rowV r, .int .i64 what, .int .i64 0]) w') :
    F16_2 v (.pointer (some ⟨p, 0, none⟩)) (.int .i64 what) w K := by
  unfold F16_2 F16_2b
  (repeat (first
 | (simp (disch := omega) only [evA, evB, bAdd_i64, bSub_i64, ptr, Nat.zero_add, Bool.not_true, Bool.not_false, Option.isNone_some, Option.isNone_none, Option.isSome_some, Option.isSome_none, decide_true, decide_false, eq_self])
 | ((with_reducible apply go_ld1 h))
 | ((with_reducible apply go_ldA h); (rfl))
 | ((with_reducible apply go_ldN h))
 | ((with_reducible apply go_st h); intro _ h)
 | ((with_reducible apply go_stA h); (rfl); (rfl); (first | rfl | simp); intro _ h)
 | ((with_reducible apply go_stN h); (rfl); (first | rfl | simp); intro _ h)
 | ((with_reducible apply go_box h); rfl; intro _ _ h)
 | ((with_reducible apply go_rd h); (rfl))
 | ((with_reducible apply go_rdN h); (rfl))
))
  refine put_bspec (r := r) (h.front (by repeat (first | exact .here | apply Fnt.there))) fun w h => ?_
  (repeat (first
 | (simp (disch := omega) only [evA, evB, bAdd_i64, bSub_i64, ptr, Nat.zero_add, Bool.not_true, Bool.not_false, Option.isNone_some, Option.isNone_none, Option.isSome_some, Option.isSome_none, decide_true, decide_false, eq_self])
 | ((with_reducible apply go_ld1 h))
 | ((with_reducible apply go_ldA h); (rfl))
 | ((with_reducible apply go_ldN h))
 | ((with_reducible apply go_st h); intro _ h)
 | ((with_reducible apply go_stA h); (rfl); (rfl); (first | rfl | simp); intro _ h)
 | ((with_reducible apply go_stN h); (rfl); (first | rfl | simp); intro _ h)
 | ((with_reducible apply go_box h); rfl; intro _ _ h)
 | ((with_reducible apply go_rd h); (rfl))
 | ((with_reducible apply go_rdN h); (rfl))
))
  exact hK _ (h.get (by (repeat (first | exact .done | (refine .pick (by repeat (first | exact .here | apply Fnt.there)) ?_) | refine .skip ?_))))
theorem raise_spec {e : Evt} {now : Int} (he : e.fits) (hn : 0 ≤ next ∧ next ≤ 4611686018427387904) (hR : ∀ id r, aGet id R = some r → 0 ≤ r.tally ∧ r.tally ≤ 4611686018427387904) (h : Sat w0 (BoardI v n next R I :: L) w)
    (hK : ∀ w', Sat w0 (BoardI v n (raiseP n next R I e now).2.1 (raiseP n next R I e now).2.2.1 (raiseP n next R I e now).2.2.2 :: L) w' →
      K (.tuple #[rowV (raiseP n next R I e now).1.1, .int .i64 (raiseP n next R I e now).1.2.1, .int .i64 (raiseP n next R I e now).1.2.2]) w') :
    callP G16 [v, evV e, .int .i64 now] w K := by
  refine c16 ?_
  unfold F16 F16_1 F16_1b
  replace h := board_iff.1 h
  obtain ⟨p, mr, mi, rfl, h⟩ := h
  (repeat (first
 | (simp (disch := omega) only [evA, evB, bAdd_i64, bSub_i64, ptr, Nat.zero_add, Bool.not_true, Bool.not_false, Option.isNone_some, Option.isNone_none, Option.isSome_some, Option.isSome_none, decide_true, decide_false, eq_self])
 | ((with_reducible apply go_ld1 h))
 | ((with_reducible apply go_ldA h); (rfl))
 | ((with_reducible apply go_ldN h))
 | ((with_reducible apply go_st h); intro _ h)
 | ((with_reducible apply go_stA h); (rfl); (rfl); (first | rfl | simp); intro _ h)
 | ((with_reducible apply go_stN h); (rfl); (first | rfl | simp); intro _ h)
 | ((with_reducible apply go_box h); rfl; intro _ _ h)
 | ((with_reducible apply go_alloc h); (first | exact z33); rfl; intro _ _ h)
 | ((with_reducible apply go_rd h); (rfl))
 | ((with_reducible apply go_rdN h); (rfl))
))
  refine ncheck_spec (e := e) he h fun w h => ?_
  unfold raiseP at hK
  unfold chkE
  have close : ∀ {next : Int} {w : World} {L' : List HP}, Sat w0 L' w → Get L' (Cl p #[.int .i64 n, .int .i64 next, mr, mi] 110 :: MapH kI rowV mr R :: MapH ekS kI mi I :: L) → Sat w0 (BoardI (ptr p) n next R I :: L) w := fun h g => board_iff.2 ⟨p, mr, mi, rfl, h.get g⟩
  by_cases g1 : okE e = true
  · simp only [g1, if_true, Bool.true_eq_false, if_false] at hK ⊢
    (repeat (first
 | (simp (disch := omega) only [evA, evB, bAdd_i64, bSub_i64, ptr, Nat.zero_add, Bool.not_true, Bool.not_false, Option.isNone_some, Option.isNone_none, Option.isSome_some, Option.isSome_none, decide_true, decide_false, eq_self])
 | (refine go_some (fb33 ..) ?_)
 | ((with_reducible apply go_ld1 h))
 | ((with_reducible apply go_ldA h); (rfl))
 | ((with_reducible apply go_ldN h))
 | ((with_reducible apply go_st h); intro _ h)
 | ((with_reducible apply go_stA h); (rfl); (rfl); (first | rfl | simp); intro _ h)
 | ((with_reducible apply go_stN h); (rfl); (first | rfl | simp); intro _ h)
 | ((with_reducible apply go_box h); rfl; intro _ _ h)
 | ((with_reducible apply go_rd h); (rfl))
 | ((with_reducible apply go_rdN h); (rfl))
))
    refine bistime_spec ?_
    cases g2 : timeP now
    · simp only [g2, if_true] at hK
      (repeat (first
 | (simp (disch := omega) only [evA, evB, bAdd_i64, bSub_i64, ptr, Nat.zero_add, Bool.not_true, Bool.not_false, Option.isNone_some, Option.isNone_none, Option.isSome_some, Option.isSome_none, decide_true, decide_false, eq_self])
 | (refine go_some (fb33 ..) ?_)
 | ((with_reducible apply go_ld1 h))
 | ((with_reducible apply go_ldA h); (rfl))
 | ((with_reducible apply go_ldN h))
 | ((with_reducible apply go_st h); intro _ h)
 | ((with_reducible apply go_stA h); (rfl); (rfl); (first | rfl | simp); intro _ h)
 | ((with_reducible apply go_stN h); (rfl); (first | rfl | simp); intro _ h)
 | ((with_reducible apply go_box h); rfl; intro _ _ h)
 | ((with_reducible apply go_rd h); (rfl))
 | ((with_reducible apply go_rdN h); (rfl))
))
      exact hK _ (close h (by (repeat (first | exact .done | (refine .pick (by repeat (first | exact .here | apply Fnt.there)) ?_) | refine .skip ?_))))
    · simp only [g2, Bool.true_eq_false, if_false] at hK
      (repeat (first
 | (simp (disch := omega) only [evA, evB, bAdd_i64, bSub_i64, ptr, Nat.zero_add, Bool.not_true, Bool.not_false, Option.isNone_some, Option.isNone_none, Option.isSome_some, Option.isSome_none, decide_true, decide_false, eq_self])
 | ((with_reducible apply go_ld1 h))
 | ((with_reducible apply go_ldA h); (rfl))
 | ((with_reducible apply go_ldN h))
 | ((with_reducible apply go_st h); intro _ h)
 | ((with_reducible apply go_stA h); (rfl); (rfl); (first | rfl | simp); intro _ h)
 | ((with_reducible apply go_stN h); (rfl); (first | rfl | simp); intro _ h)
 | ((with_reducible apply go_box h); rfl; intro _ _ h)
 | ((with_reducible apply go_rd h); (rfl))
 | ((with_reducible apply go_rdN h); (rfl))
))
      refine of_spec (e := e) h.drew fun w h => ?_
      (repeat (first
 | (simp (disch := omega) only [evA, evB, bAdd_i64, bSub_i64, ptr, Nat.zero_add, Bool.not_true, Bool.not_false, Option.isNone_some, Option.isNone_none, Option.isSome_some, Option.isSome_none, decide_true, decide_false, eq_self])
 | ((with_reducible apply go_ld1 h))
 | ((with_reducible apply go_ldA h); (rfl))
 | ((with_reducible apply go_ldN h))
 | ((with_reducible apply go_st h); intro _ h)
 | ((with_reducible apply go_stA h); (rfl); (rfl); (first | rfl | simp); intro _ h)
 | ((with_reducible apply go_stN h); (rfl); (first | rfl | simp); intro _ h)
 | ((with_reducible apply go_box h); rfl; intro _ _ h)
 | ((with_reducible apply go_rd h); (rfl))
 | ((with_reducible apply go_rdN h); (rfl))
))
      refine go_look2 h (by repeat (first | exact .here | apply Fnt.there)) KS um108 z3 (sgOf e) ?_
      (repeat (first
 | (simp (disch := omega) only [evA, evB, bAdd_i64, bSub_i64, ptr, Nat.zero_add, Bool.not_true, Bool.not_false, Option.isNone_some, Option.isNone_none, Option.isSome_some, Option.isSome_none, decide_true, decide_false, eq_self])
 | ((with_reducible apply go_ld1 h))
 | ((with_reducible apply go_ldA h); (rfl))
 | ((with_reducible apply go_ldN h))
 | ((with_reducible apply go_st h); intro _ h)
 | ((with_reducible apply go_stA h); (rfl); (rfl); (first | rfl | simp); intro _ h)
 | ((with_reducible apply go_stN h); (rfl); (first | rfl | simp); intro _ h)
 | ((with_reducible apply go_box h); rfl; intro _ _ h)
 | ((with_reducible apply go_rd h); (rfl))
 | ((with_reducible apply go_rdN h); (rfl))
))
      cases g3 : aGet (sgOf e) I
      · simp only [g3] at hK
        simp only [Option.isSome_none, Option.elim]
        by_cases g4 : e.level = 0
        · simp only [g4, if_true] at hK
          (repeat (first
 | (simp (disch := omega) only [evA, evB, bAdd_i64, bSub_i64, ptr, Nat.zero_add, Bool.not_true, Bool.not_false, Option.isNone_some, Option.isNone_none, Option.isSome_some, Option.isSome_none, decide_true, decide_false, eq_self, g4])
 | (refine go_some (fb33 ..) ?_)
 | ((with_reducible apply go_ld1 h))
 | ((with_reducible apply go_ldA h); (rfl))
 | ((with_reducible apply go_ldN h))
 | ((with_reducible apply go_st h); intro _ h)
 | ((with_reducible apply go_stA h); (rfl); (rfl); (first | rfl | simp); intro _ h)
 | ((with_reducible apply go_stN h); (rfl); (first | rfl | simp); intro _ h)
 | ((with_reducible apply go_box h); rfl; intro _ _ h)
 | ((with_reducible apply go_rd h); (rfl))
 | ((with_reducible apply go_rdN h); (rfl))
))
          exact hK _ (close h (by (repeat (first | exact .done | (refine .pick (by repeat (first | exact .here | apply Fnt.there)) ?_) | refine .skip ?_))))
        · simp only [g4, if_false] at hK
          (repeat (first
 | (simp (disch := omega) only [evA, evB, bAdd_i64, bSub_i64, ptr, Nat.zero_add, Bool.not_true, Bool.not_false, Option.isNone_some, Option.isNone_none, Option.isSome_some, Option.isSome_none, decide_true, decide_false, eq_self, g4])
 | ((with_reducible apply go_ld1 h))
 | ((with_reducible apply go_ldA h); (rfl))
 | ((with_reducible apply go_ldN h))
 | ((with_reducible apply go_st h); intro _ h)
 | ((with_reducible apply go_stA h); (rfl); (rfl); (first | rfl | simp); intro _ h)
 | ((with_reducible apply go_stN h); (rfl); (first | rfl | simp); intro _ h)
 | ((with_reducible apply go_box h); rfl; intro _ _ h)
 | ((with_reducible apply go_rd h); (rfl))
 | ((with_reducible apply go_rdN h); (rfl))
))
          refine go_lenM h (by repeat (first | exact .here | apply Fnt.there)) ?_
          (repeat (first
 | (simp (disch := omega) only [evA, evB, bAdd_i64, bSub_i64, ptr, Nat.zero_add, Bool.not_true, Bool.not_false, Option.isNone_some, Option.isNone_none, Option.isSome_some, Option.isSome_none, decide_true, decide_false, eq_self])
 | ((with_reducible apply go_ld1 h))
 | ((with_reducible apply go_ldA h); (rfl))
 | ((with_reducible apply go_ldN h))
 | ((with_reducible apply go_st h); intro _ h)
 | ((with_reducible apply go_stA h); (rfl); (rfl); (first | rfl | simp); intro _ h)
 | ((with_reducible apply go_stN h); (rfl); (first | rfl | simp); intro _ h)
 | ((with_reducible apply go_box h); rfl; intro _ _ h)
 | ((with_reducible apply go_rd h); (rfl))
 | ((with_reducible apply go_rdN h); (rfl))
))
          by_cases g5 : n ≤ (R.length : Int)
          · simp only [g5, if_true] at hK
            have d5 : decide ((R.length : Int) ≥ n) = true := by simp [g5]
            simp only [d5]
            (repeat (first
 | (simp (disch := omega) only [evA, evB, bAdd_i64, bSub_i64, ptr, Nat.zero_add, Bool.not_true, Bool.not_false, Option.isNone_some, Option.isNone_none, Option.isSome_some, Option.isSome_none, decide_true, decide_false, eq_self])
 | (refine go_some (fb33 ..) ?_)
 | ((with_reducible apply go_ld1 h))
 | ((with_reducible apply go_ldA h); (rfl))
 | ((with_reducible apply go_ldN h))
 | ((with_reducible apply go_st h); intro _ h)
 | ((with_reducible apply go_stA h); (rfl); (rfl); (first | rfl | simp); intro _ h)
 | ((with_reducible apply go_stN h); (rfl); (first | rfl | simp); intro _ h)
 | ((with_reducible apply go_box h); rfl; intro _ _ h)
 | ((with_reducible apply go_rd h); (rfl))
 | ((with_reducible apply go_rdN h); (rfl))
))
            exact hK _ (close h (by (repeat (first | exact .done | (refine .pick (by repeat (first | exact .here | apply Fnt.there)) ?_) | refine .skip ?_))))
          · simp only [g5, if_false] at hK
            have d5 : decide ((R.length : Int) ≥ n) = false := by simp; omega
            simp only [d5]
            (repeat (first
 | (simp (disch := omega) only [evA, evB, bAdd_i64, bSub_i64, ptr, Nat.zero_add, Bool.not_true, Bool.not_false, Option.isNone_some, Option.isNone_none, Option.isSome_some, Option.isSome_none, decide_true, decide_false, eq_self])
 | (refine go_some (fb33_0_1_2_3_4 ..) ?_)
 | ((with_reducible apply go_ld1 h))
 | ((with_reducible apply go_ldA h); (rfl))
 | ((with_reducible apply go_ldN h))
 | ((with_reducible apply go_st h); intro _ h)
 | ((with_reducible apply go_stA h); (rfl); (rfl); (first | rfl | simp); intro _ h)
 | ((with_reducible apply go_stN h); (rfl); (first | rfl | simp); intro _ h)
 | ((with_reducible apply go_box h); rfl; intro _ _ h)
 | ((with_reducible apply go_rd h); (rfl))
 | ((with_reducible apply go_rdN h); (rfl))
))
            refine raise2_spec (r := ⟨next, e, 1, now, now, false, []⟩) (n := n) (next := next + 1) (R := R) (I := I) ?_ fun w h => hK w h
            refine Sat.f1 (board_iff.2 ⟨p, mr, mi, rfl, ?_⟩)
            exact h.get (by (repeat (first | exact .done | (refine .pick (by repeat (first | exact .here | apply Fnt.there)) ?_) | refine .skip ?_)))
      · rename_i id
        simp only [g3] at hK
        simp only [Option.isSome_some, Option.elim]
        by_cases g4 : e.level = 0
        · simp only [g4, if_true] at hK
          (repeat (first
 | (simp (disch := omega) only [evA, evB, bAdd_i64, bSub_i64, ptr, Nat.zero_add, Bool.not_true, Bool.not_false, Option.isNone_some, Option.isNone_none, Option.isSome_some, Option.isSome_none, decide_true, decide_false, eq_self, g4])
 | ((with_reducible apply go_ld1 h))
 | ((with_reducible apply go_ldA h); (rfl))
 | ((with_reducible apply go_ldN h))
 | ((with_reducible apply go_st h); intro _ h)
 | ((with_reducible apply go_stA h); (rfl); (rfl); (first | rfl | simp); intro _ h)
 | ((with_reducible apply go_stN h); (rfl); (first | rfl | simp); intro _ h)
 | ((with_reducible apply go_box h); rfl; intro _ _ h)
 | ((with_reducible apply go_rd h); (rfl))
 | ((with_reducible apply go_rdN h); (rfl))
))
          refine go_look1 h (by repeat (first | exact .here | apply Fnt.there)) KIr um107 zR id ?_
          simp only [elimR]
          (repeat (first
 | (simp (disch := omega) only [evA, evB, bAdd_i64, bSub_i64, ptr, Nat.zero_add, Bool.not_true, Bool.not_false, Option.isNone_some, Option.isNone_none, Option.isSome_some, Option.isSome_none, decide_true, decide_false, eq_self])
 | ((with_reducible apply go_ld1 h))
 | ((with_reducible apply go_ldA h); (rfl))
 | ((with_reducible apply go_ldN h))
 | ((with_reducible apply go_st h); intro _ h)
 | ((with_reducible apply go_stA h); (rfl); (rfl); (first | rfl | simp); intro _ h)
 | ((with_reducible apply go_stN h); (rfl); (first | rfl | simp); intro _ h)
 | ((with_reducible apply go_box h); rfl; intro _ _ h)
 | ((with_reducible apply go_rd h); (rfl))
 | ((with_reducible apply go_rdN h); (rfl))
))
          refine take_bspec (L := Cl _ (cRow ((aGet id R).getD zeroR)).toArray 33 :: L) (n := n) (next := next) (R := R) (I := I) (r := (aGet id R).getD zeroR) (board_iff.2 ⟨p, mr, mi, rfl, h.get (by (repeat (first | exact .done | (refine .pick (by repeat (first | exact .here | apply Fnt.there)) ?_) | refine .skip ?_)))⟩) fun w h => ?_
          (repeat (first
 | (simp (disch := omega) only [evA, evB, bAdd_i64, bSub_i64, ptr, Nat.zero_add, Bool.not_true, Bool.not_false, Option.isNone_some, Option.isNone_none, Option.isSome_some, Option.isSome_none, decide_true, decide_false, eq_self])
 | ((with_reducible apply go_ld1 h))
 | ((with_reducible apply go_ldA h); (rfl))
 | ((with_reducible apply go_ldN h))
 | ((with_reducible apply go_st h); intro _ h)
 | ((with_reducible apply go_stA h); (rfl); (rfl); (first | rfl | simp); intro _ h)
 | ((with_reducible apply go_stN h); (rfl); (first | rfl | simp); intro _ h)
 | ((with_reducible apply go_box h); rfl; intro _ _ h)
 | ((with_reducible apply go_rd h); (rfl))
 | ((with_reducible apply go_rdN h); (rfl))
))
          exact hK _ (h.get (by (repeat (first | exact .done | (refine .pick (by repeat (first | exact .here | apply Fnt.there)) ?_) | refine .skip ?_))))
        · simp only [g4, if_false] at hK
          (repeat (first
 | (simp (disch := omega) only [evA, evB, bAdd_i64, bSub_i64, ptr, Nat.zero_add, Bool.not_true, Bool.not_false, Option.isNone_some, Option.isNone_none, Option.isSome_some, Option.isSome_none, decide_true, decide_false, eq_self, g4])
 | ((with_reducible apply go_ld1 h))
 | ((with_reducible apply go_ldA h); (rfl))
 | ((with_reducible apply go_ldN h))
 | ((with_reducible apply go_st h); intro _ h)
 | ((with_reducible apply go_stA h); (rfl); (rfl); (first | rfl | simp); intro _ h)
 | ((with_reducible apply go_stN h); (rfl); (first | rfl | simp); intro _ h)
 | ((with_reducible apply go_box h); rfl; intro _ _ h)
 | ((with_reducible apply go_rd h); (rfl))
 | ((with_reducible apply go_rdN h); (rfl))
))
          refine go_look1 h (by repeat (first | exact .here | apply Fnt.there)) KIr um107 zR id ?_
          simp only [elimR]
          (repeat (first
 | (simp (disch := omega) only [evA, evB, bAdd_i64, bSub_i64, ptr, Nat.zero_add, Bool.not_true, Bool.not_false, Option.isNone_some, Option.isNone_none, Option.isSome_some, Option.isSome_none, decide_true, decide_false, eq_self])
 | ((with_reducible apply go_ld1 h))
 | ((with_reducible apply go_ldA h); (rfl))
 | ((with_reducible apply go_ldN h))
 | ((with_reducible apply go_st h); intro _ h)
 | ((with_reducible apply go_stA h); (rfl); (rfl); (first | rfl | simp); intro _ h)
 | ((with_reducible apply go_stN h); (rfl); (first | rfl | simp); intro _ h)
 | ((with_reducible apply go_box h); rfl; intro _ _ h)
 | ((with_reducible apply go_rd h); (rfl))
 | ((with_reducible apply go_rdN h); (rfl))
))
          have hb : 0 ≤ ((aGet id R).getD zeroR).tally ∧ ((aGet id R).getD zeroR).tally ≤ 4611686018427387904 := by
            cases g6 : aGet id R
            · simp [zeroR]
            · simpa using hR _ _ g6
          refine again_spec (r := (aGet id R).getD zeroR) (e := e) hb h.drew fun w h => ?_
          (repeat (first
 | (simp (disch := omega) only [evA, evB, bAdd_i64, bSub_i64, ptr, Nat.zero_add, Bool.not_true, Bool.not_false, Option.isNone_some, Option.isNone_none, Option.isSome_some, Option.isSome_none, decide_true, decide_false, eq_self])
 | ((with_reducible apply go_ld1 h))
 | ((with_reducible apply go_ldA h); (rfl))
 | ((with_reducible apply go_ldN h))
 | ((with_reducible apply go_st h); intro _ h)
 | ((with_reducible apply go_stA h); (rfl); (rfl); (first | rfl | simp); intro _ h)
 | ((with_reducible apply go_stN h); (rfl); (first | rfl | simp); intro _ h)
 | ((with_reducible apply go_box h); rfl; intro _ _ h)
 | ((with_reducible apply go_rd h); (rfl))
 | ((with_reducible apply go_rdN h); (rfl))
))
          refine raise2_spec (r := (againP ((aGet id R).getD zeroR) e now).1) (n := n) (next := next) (R := R) (I := I) ?_ fun w h => hK w h
          refine Sat.f1 (board_iff.2 ⟨p, mr, mi, rfl, ?_⟩)
          exact h.get (by (repeat (first | exact .done | (refine .pick (by repeat (first | exact .here | apply Fnt.there)) ?_) | refine .skip ?_)))
  · simp only [g1] at hK ⊢
    simp only [if_false, Bool.false_eq_true, if_true] at hK ⊢
    (repeat (first
 | (simp (disch := omega) only [evA, evB, bAdd_i64, bSub_i64, ptr, Nat.zero_add, Bool.not_true, Bool.not_false, Option.isNone_some, Option.isNone_none, Option.isSome_some, Option.isSome_none, decide_true, decide_false, eq_self])
 | (refine go_some (fb33 ..) ?_)
 | ((with_reducible apply go_ld1 h))
 | ((with_reducible apply go_ldA h); (rfl))
 | ((with_reducible apply go_ldN h))
 | ((with_reducible apply go_st h); intro _ h)
 | ((with_reducible apply go_stA h); (rfl); (rfl); (first | rfl | simp); intro _ h)
 | ((with_reducible apply go_stN h); (rfl); (first | rfl | simp); intro _ h)
 | ((with_reducible apply go_box h); rfl; intro _ _ h)
 | ((with_reducible apply go_rd h); (rfl))
 | ((with_reducible apply go_rdN h); (rfl))
))
    exact hK _ (close h (by (repeat (first | exact .done | (refine .pick (by repeat (first | exact .here | apply Fnt.there)) ?_) | refine .skip ?_))))
end
end Go.Proofs.Gong
