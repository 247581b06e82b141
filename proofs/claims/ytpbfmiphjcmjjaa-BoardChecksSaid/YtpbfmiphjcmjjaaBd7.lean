/- A part of the proofs: what stands below it, told in lemmas. No condition. -/
import Derived.Test.YtpbfmiphjcmjjaaBd6
import Derived.Test.YtpbfmiphjcmjjaaSz12
set_option linter.all false
namespace Go.Proofs.Gong
open Go Go.Sx Go.Proofs
set_option maxRecDepth 100000
attribute [local irreducible] fBuild fLook fZero eqv bEqv Cl MapH LsH SlH ld1 ldN st callP eBox eAlloc lenM lenL eMapSet eDelete eAppend eBuildSl eRange eNext
section
variable {w0 w : World} {L : List HP} {K : Value → World → Prop}
def evD : Evt := ⟨[110], [108, 105, 110, 107], [], 4, []⟩
def evU : Evt := ⟨[110], [108, 105, 110, 107], [], 0, []⟩
def rowD (n : Int) : Row := ⟨1, evD, n, 1, n, false, []⟩
theorem fitsD : evD.fits := by unfold Evt.fits evD; simp
theorem fitsU : evU.fits := by unfold Evt.fits evU; simp
theorem raise_D1 : raiseP 5 1 [] [] evD 1 = ((rowD 1, 1, 0), 2, [(1, rowD 1)], [(sgOf evD, 1)]) := by kernel_rfl
theorem raise_D2 : raiseP 5 2 [(1, rowD 1)] [(sgOf evD, 1)] evD 2 = ((rowD 2, 0, 0), 2, [(1, rowD 2)], [(sgOf evD, 1)]) := by kernel_rfl
theorem raise_U3 : raiseP 5 2 [(1, rowD 2)] [(sgOf evD, 1)] evU 3 = ((rowD 2, 3, 0), 2, [], []) := by kernel_rfl
theorem tal1 (x : Row) (hx : 0 ≤ x.tally ∧ x.tally ≤ 4611686018427387904) (i : Int) : ∀ id r, aGet id [(i, x)] = some r → 0 ≤ r.tally ∧ r.tally ≤ 4611686018427387904 := by
  intro id r h
  simp only [aGet] at h
  split at h
  · cases h; exact hx
  · cases h
theorem works20_spec (h : Sat w0 L w) (hK : ∀ w', Sat w0 L w' → K (.bool true) w') : callP G14 [] w K := by
  refine c14 ?_
  unfold F14
  refine bnew_spec (n := 5) h (by omega) (by omega) fun p w h => ?_
  (repeat (first
 | (simp (disch := omega) only [evA, evB, bAdd_i64, bSub_i64, ptr, Nat.zero_add, Bool.not_true, Bool.not_false, Option.isNone_some, Option.isNone_none, Option.isSome_some, Option.isSome_none, decide_true, decide_false, eq_self])
 | (refine go_some (bEq_nilp up23 ..) ?_)
 | (refine go_some (fb31_0_1_3 ..) ?_)
 | (refine go_some (fb31_0_1 ..) ?_)
 | ((with_reducible apply go_ld1 h))
 | ((with_reducible apply go_ldA h); (rfl))
 | ((with_reducible apply go_ldN h))
 | ((with_reducible apply go_st h); intro _ h)
 | ((with_reducible apply go_stA h); (rfl); (rfl); (first | rfl | simp); intro _ h)
 | ((with_reducible apply go_stN h); (rfl); (first | rfl | simp); intro _ h)
 | ((with_reducible apply go_box h); rfl; intro _ _ h)
 | ((with_reducible apply go_alloc h); (first | exact z31 | exact z33); rfl; intro _ _ h)
 | ((with_reducible apply go_rd h); (rfl))
 | ((with_reducible apply go_rdN h); (rfl))
))
  refine raise_spec (e := evD) (n := 5) (next := 1) (R := []) (I := []) fitsD (by omega) (by simp [aGet]) (h.front (by repeat (first | exact .here | apply Fnt.there))) fun w h => ?_
  rw [raise_D1] at h ⊢
  (repeat (first
 | (simp (disch := omega) only [evA, evB, bAdd_i64, bSub_i64, ptr, Nat.zero_add, Bool.not_true, Bool.not_false, Option.isNone_some, Option.isNone_none, Option.isSome_some, Option.isSome_none, decide_true, decide_false, eq_self])
 | ((with_reducible apply go_ld1 h))
 | ((with_reducible apply go_ldA h); (rfl))
 | ((with_reducible apply go_ldN h))
 | ((with_reducible apply go_st h); intro _ h)
 | ((with_reducible apply go_stA h); (rfl); (rfl); (first | rfl | simp); intro _ h)
 | ((with_reducible apply go_stN h); (rfl); (first | rfl | simp); intro _ h)
 | ((with_reducible apply go_box h); rfl; intro _ _ h)
 | ((with_reducible apply go_alloc h); (first | exact z31 | exact z33); rfl; intro _ _ h)
 | ((with_reducible apply go_rd h); (rfl))
 | ((with_reducible apply go_rdN h); (rfl))
))
  refine raise_spec (e := evD) (n := 5) (next := 2) (R := [(1, rowD 1)]) (I := [(sgOf evD, 1)]) fitsD (by omega) (tal1 _ (by decide) _) (h.front (by repeat (first | exact .here | apply Fnt.there))) fun w h => ?_
  rw [raise_D2] at h ⊢
  (repeat (first
 | (simp (disch := omega) only [evA, evB, bAdd_i64, bSub_i64, ptr, Nat.zero_add, Bool.not_true, Bool.not_false, Option.isNone_some, Option.isNone_none, Option.isSome_some, Option.isSome_none, decide_true, decide_false, eq_self])
 | ((with_reducible apply go_ld1 h))
 | ((with_reducible apply go_ldA h); (rfl))
 | ((with_reducible apply go_ldN h))
 | ((with_reducible apply go_st h); intro _ h)
 | ((with_reducible apply go_stA h); (rfl); (rfl); (first | rfl | simp); intro _ h)
 | ((with_reducible apply go_stN h); (rfl); (first | rfl | simp); intro _ h)
 | ((with_reducible apply go_box h); rfl; intro _ _ h)
 | ((with_reducible apply go_alloc h); (first | exact z31 | exact z33); rfl; intro _ _ h)
 | ((with_reducible apply go_rd h); (rfl))
 | ((with_reducible apply go_rdN h); (rfl))
))
  refine raise_spec (e := evU) (n := 5) (next := 2) (R := [(1, rowD 2)]) (I := [(sgOf evD, 1)]) fitsU (by omega) (tal1 _ (by decide) _) (h.front (by repeat (first | exact .here | apply Fnt.there))) fun w h => ?_
  rw [raise_U3] at h ⊢
  (repeat (first
 | (simp (disch := omega) only [evA, evB, bAdd_i64, bSub_i64, ptr, Nat.zero_add, Bool.not_true, Bool.not_false, Option.isNone_some, Option.isNone_none, Option.isSome_some, Option.isSome_none, decide_true, decide_false, eq_self])
 | ((with_reducible apply go_ld1 h))
 | ((with_reducible apply go_ldA h); (rfl))
 | ((with_reducible apply go_ldN h))
 | ((with_reducible apply go_st h); intro _ h)
 | ((with_reducible apply go_stA h); (rfl); (rfl); (first | rfl | simp); intro _ h)
 | ((with_reducible apply go_stN h); (rfl); (first | rfl | simp); intro _ h)
 | ((with_reducible apply go_box h); rfl; intro _ _ h)
 | ((with_reducible apply go_alloc h); (first | exact z31 | exact z33); rfl; intro _ _ h)
 | ((with_reducible apply go_rd h); (rfl))
 | ((with_reducible apply go_rdN h); (rfl))
))
  refine blen_spec (n := 5) (next := 2) (R := []) (I := []) (h.front (by repeat (first | exact .here | apply Fnt.there))) ?_
  (repeat (first
 | (simp (disch := omega) only [evA, evB, bAdd_i64, bSub_i64, ptr, Nat.zero_add, Bool.not_true, Bool.not_false, Option.isNone_some, Option.isNone_none, Option.isSome_some, Option.isSome_none, decide_true, decide_false, eq_self])
 | ((with_reducible apply go_ld1 h))
 | ((with_reducible apply go_ldA h); (rfl))
 | ((with_reducible apply go_ldN h))
 | ((with_reducible apply go_st h); intro _ h)
 | ((with_reducible apply go_stA h); (rfl); (rfl); (first | rfl | simp); intro _ h)
 | ((with_reducible apply go_stN h); (rfl); (first | rfl | simp); intro _ h)
 | ((with_reducible apply go_box h); rfl; intro _ _ h)
 | ((with_reducible apply go_rd h); (rfl))
 | ((with_reducible apply go_rdN h); (rfl))
))
  exact hK _ (h.get (by (repeat (first | exact .done | (refine .pick (by repeat (first | exact .here | apply Fnt.there)) ?_) | refine .skip ?_))))
theorem boardChecks_spec {r : Row} (hl : r.e.node.length ≤ 140737488351232 ∧ r.e.cls.length ≤ 140737488351232 ∧ r.e.key.length ≤ 140737488351232 ∧ r.e.text.length ≤ 140737488351232 ∧ r.who.length ≤ 140737488351232) (h : Sat w0 L w)
    (hK : ∀ w', Sat w0 L w' → K (.bool true) w') : callP G4 [rowV r] w K := by
  refine c4 ?_
  unfold F4
  (repeat (first
 | (simp (disch := omega) only [evA, evB, bAdd_i64, bSub_i64, ptr, Nat.zero_add, Bool.not_true, Bool.not_false, Option.isNone_some, Option.isNone_none, Option.isSome_some, Option.isSome_none, decide_true, decide_false, eq_self])
 | ((with_reducible apply go_ld1 h))
 | ((with_reducible apply go_ldA h); (rfl))
 | ((with_reducible apply go_ldN h))
 | ((with_reducible apply go_st h); intro _ h)
 | ((with_reducible apply go_stA h); (rfl); (rfl); (first | rfl | simp); intro _ h)
 | ((with_reducible apply go_stN h); (rfl); (first | rfl | simp); intro _ h)
 | ((with_reducible apply go_box h); rfl; intro _ _ h)
 | ((with_reducible apply go_rd h); (rfl))
 | ((with_reducible apply go_rdN h); (rfl))
))
  by_cases g : 3000 < (r.e.node.length : Int) + r.e.cls.length + r.e.key.length + r.e.text.length + r.who.length
  · (repeat (first
 | (simp (disch := omega) only [evA, evB, bAdd_i64, bSub_i64, ptr, Nat.zero_add, Bool.not_true, Bool.not_false, Option.isNone_some, Option.isNone_none, Option.isSome_some, Option.isSome_none, decide_true, decide_false, eq_self, gt_iff_lt, g])
 | ((with_reducible apply go_ld1 h))
 | ((with_reducible apply go_ldA h); (rfl))
 | ((with_reducible apply go_ldN h))
 | ((with_reducible apply go_st h); intro _ h)
 | ((with_reducible apply go_stA h); (rfl); (rfl); (first | rfl | simp); intro _ h)
 | ((with_reducible apply go_stN h); (rfl); (first | rfl | simp); intro _ h)
 | ((with_reducible apply go_box h); rfl; intro _ _ h)
 | ((with_reducible apply go_rd h); (rfl))
 | ((with_reducible apply go_rdN h); (rfl))
))
    refine works20_spec h fun w h => ?_
    exact hK _ (h.get (by (repeat (first | exact .done | (refine .pick (by repeat (first | exact .here | apply Fnt.there)) ?_) | refine .skip ?_))))
  · (repeat (first
 | (simp (disch := omega) only [evA, evB, bAdd_i64, bSub_i64, ptr, Nat.zero_add, Bool.not_true, Bool.not_false, Option.isNone_some, Option.isNone_none, Option.isSome_some, Option.isSome_none, decide_true, decide_false, eq_self, gt_iff_lt, g])
 | ((with_reducible apply go_ld1 h))
 | ((with_reducible apply go_ldA h); (rfl))
 | ((with_reducible apply go_ldN h))
 | ((with_reducible apply go_st h); intro _ h)
 | ((with_reducible apply go_stA h); (rfl); (rfl); (first | rfl | simp); intro _ h)
 | ((with_reducible apply go_stN h); (rfl); (first | rfl | simp); intro _ h)
 | ((with_reducible apply go_box h); rfl; intro _ _ h)
 | ((with_reducible apply go_rd h); (rfl))
 | ((with_reducible apply go_rdN h); (rfl))
))
    have hf : r.e.fits := by unfold Evt.fits; omega
    have hw : r.who.length < 1000000 := by omega
    refine bcheck_spec (r := r) hf hw h.drew fun w h => ?_
    (repeat (first
 | (simp (disch := omega) only [evA, evB, bAdd_i64, bSub_i64, ptr, Nat.zero_add, Bool.not_true, Bool.not_false, Option.isNone_some, Option.isNone_none, Option.isSome_some, Option.isSome_none, decide_true, decide_false, eq_self])
 | ((with_reducible apply go_ld1 h))
 | ((with_reducible apply go_ldA h); (rfl))
 | ((with_reducible apply go_ldN h))
 | ((with_reducible apply go_st h); intro _ h)
 | ((with_reducible apply go_stA h); (rfl); (rfl); (first | rfl | simp); intro _ h)
 | ((with_reducible apply go_stN h); (rfl); (first | rfl | simp); intro _ h)
 | ((with_reducible apply go_box h); rfl; intro _ _ h)
 | ((with_reducible apply go_rd h); (rfl))
 | ((with_reducible apply go_rdN h); (rfl))
))
    refine fbcheck_spec (r := r) hf hw h fun w h => ?_
    (repeat (first
 | (simp (disch := omega) only [evA, evB, bAdd_i64, bSub_i64, ptr, Nat.zero_add, Bool.not_true, Bool.not_false, Option.isNone_some, Option.isNone_none, Option.isSome_some, Option.isSome_none, decide_true, decide_false, eq_self])
 | ((with_reducible apply go_ld1 h))
 | ((with_reducible apply go_ldA h); (rfl))
 | ((with_reducible apply go_ldN h))
 | ((with_reducible apply go_st h); intro _ h)
 | ((with_reducible apply go_stA h); (rfl); (rfl); (first | rfl | simp); intro _ h)
 | ((with_reducible apply go_stN h); (rfl); (first | rfl | simp); intro _ h)
 | ((with_reducible apply go_box h); rfl; intro _ _ h)
 | ((with_reducible apply go_rd h); (rfl))
 | ((with_reducible apply go_rdN h); (rfl))
))
    refine works20_spec h fun w h => ?_
    exact hK _ (h.get (by (repeat (first | exact .done | (refine .pick (by repeat (first | exact .here | apply Fnt.there)) ?_) | refine .skip ?_))))
end
def ckRow : List CK2 := [.int .i64, .str, .str, .str, .int .i64, .str, .int .i64, .int .i64, .int .i64, .bool, .str]
theorem fit_row {W : World} {B : Nat} {cs : List Value} (h : FitL2 W B ckRow cs) : ∃ r : Row, cs = cRow r ∧ r.e.node.length ≤ B ∧ r.e.cls.length ≤ B ∧ r.e.key.length ≤ B ∧ r.e.text.length ≤ B ∧ r.who.length ≤ B := by
  unfold ckRow at h
  obtain ⟨id, _, rfl, _, g0⟩ := fitL2_int h
  obtain ⟨node, _, rfl, h1, g1⟩ := fitL2_str g0
  obtain ⟨cls, _, rfl, h2, g2⟩ := fitL2_str g1
  obtain ⟨key, _, rfl, h3, g3⟩ := fitL2_str g2
  obtain ⟨lv, _, rfl, _, g4⟩ := fitL2_int g3
  obtain ⟨text, _, rfl, h4, g5⟩ := fitL2_str g4
  obtain ⟨ta, _, rfl, _, g6⟩ := fitL2_int g5
  obtain ⟨fi, _, rfl, _, g7⟩ := fitL2_int g6
  obtain ⟨la, _, rfl, _, g8⟩ := fitL2_int g7
  obtain ⟨ac, _, rfl, g9⟩ := fitL2_bool g8
  obtain ⟨who, _, rfl, h5, g10⟩ := fitL2_str g9
  obtain rfl := fitL2_nil g10
  exact ⟨⟨id, ⟨node, cls, key, lv, text⟩, ta, fi, la, ac, who⟩, rfl, h1, h2, h3, h4, h5⟩
theorem lawBoardChecks {W : World} {cs : List Value} (hf : FitL2 W 140737488351232 ckRow cs) : callP G4 [.agg cs.toArray] W fun v w' => v = .bool true ∧ Sat W [] w' := by
  obtain ⟨r, rfl, h1, h2, h3, h4, h5⟩ := fit_row hf
  exact boardChecks_spec ⟨h1, h2, h3, h4, h5⟩ (Sat.start W) fun w' h => ⟨rfl, h⟩
end Go.Proofs.Gong
