/- A part of the proofs: what stands below it, told in lemmas. No condition. -/
import Derived.Test.YtpbfmiphjcmjjaaBd7
import Derived.Test.YtpbfmiphjcmjjaaBk0
set_option linter.all false
namespace Go.Proofs.Gong
open Go Go.Sx Go.Proofs
set_option maxRecDepth 100000
theorem neR (x y : Operand) (a b : Row) : bNe Try.prog 33 x y (rowV a) (rowV b) = some (.bool (!decide (a = b))) := by
  obtain ⟨i, ⟨n1, c1, k1, l1, t1⟩, ta, f, la, ac, wh⟩ := a
  obtain ⟨i', ⟨n1', c1', k1', l1', t1'⟩, ta', f', la', ac', wh'⟩ := b
  rw [ne33]
  simp only [bs_sEq, Option.some.injEq, Value.bool.injEq]
  rw [Bool.eq_iff_iff]
  simp
theorem eqR (x y : Operand) (a b : Row) : bEq Try.prog 33 x y (rowV a) (rowV b) = some (.bool (decide (a = b))) := by
  obtain ⟨i, ⟨n1, c1, k1, l1, t1⟩, ta, f, la, ac, wh⟩ := a
  obtain ⟨i', ⟨n1', c1', k1', l1', t1'⟩, ta', f', la', ac', wh'⟩ := b
  rw [eq33]
  simp only [bs_sEq, Option.some.injEq, Value.bool.injEq]
  rw [Bool.eq_iff_iff]
  simp
def evT (lv : Int) (i : Nat) : Evt := ⟨[110], [99], [107], lv, [UInt8.ofNat (97 + i % 20)]⟩
def evO : Evt := ⟨[111], [99], [], 1, []⟩
def sgT : Sg := ([110], [99], [107])
def rowT (lv : Int) (i : Nat) : Row := ⟨1, evT lv i, i + 1, 0, 5 * i, false, []⟩
theorem plainT : ∀ k : Fin 20, plainP [UInt8.ofNat (97 + k.val)] 1024 = true := by decide +kernel
theorem okT (lv : Int) (i : Nat) (h1 : 1 ≤ lv) (h2 : lv ≤ 5) : okE (evT lv i) = true := by
  have h := plainT ⟨i % 20, Nat.mod_lt _ (by omega)⟩
  have a1 : plainP [110] 64 = true := by decide +kernel
  have a2 : plainP [99] 64 = true := by decide +kernel
  have a3 : plainP [107] 128 = true := by decide +kernel
  unfold okE evT
  simp only [h, a1, a2, a3]
  simp; omega
theorem okO : okE evO = true := by decide +kernel
theorem timeT (i : Nat) (h : i < 100) : timeP (5 * (i : Int)) = true := by unfold timeP; simp; omega
theorem raise_T1 (lv : Int) (h1 : 1 ≤ lv) (h2 : lv ≤ 5) : raiseP 1 1 [] [] (evT lv 0) (5 * ((0 : Nat) : Int)) = ((rowT lv 0, 1, 0), 2, [(1, rowT lv 0)], [(sgT, 1)]) := by
  have e1 := okT lv 0 h1 h2
  have e2 := timeT 0 (by omega)
  have e3 : (evT lv 0).level ≠ 0 := by show lv ≠ 0; omega
  unfold raiseP
  rw [e1, e2]
  simp [aGet, e3, aSet, aFind, rowT, sgT, sgOf]
  simp [evT]
theorem raise_T2 (old lv : Int) (j : Nat) (hj : j + 1 < 100) (h1 : 1 ≤ lv) (h2 : lv ≤ 5) : raiseP 1 2 [(1, rowT old j)] [(sgT, 1)] (evT lv (j + 1)) (5 * ((j + 1 : Nat) : Int)) = ((rowT lv (j + 1), if lv = old then 0 else 2, 0), 2, [(1, rowT lv (j + 1))], [(sgT, 1)]) := by
  have e1 := okT lv (j + 1) h1 h2
  have e2 := timeT (j + 1) hj
  have e3 : (evT lv (j + 1)).level ≠ 0 := by show lv ≠ 0; omega
  have e4 : sgOf (evT lv (j + 1)) = sgT := rfl
  have e5 : againP (rowT old j) (evT lv (j + 1)) (5 * ((j + 1 : Nat) : Int)) = (rowT lv (j + 1), if lv = old then 0 else 2) := by
    unfold againP
    have l1 : (rowT old j).e.level = old := rfl
    have l2 : (evT lv (j + 1)).level = lv := rfl
    have m1 : min ((rowT old j).tally + 1) 1099511627776 = ((j + 1 : Nat) : Int) + 1 := by show min ((j : Int) + 1 + 1) _ = _; omega
    have m2 : max (rowT old j).last (5 * ((j + 1 : Nat) : Int)) = 5 * ((j + 1 : Nat) : Int) := by show max (5 * (j : Int)) _ = _; omega
    rw [l1, l2, m1, m2]
    by_cases g : old = lv
    · subst g; simp [rowT, evT]
    · have g' : ¬ lv = old := fun e => g e.symm
      simp only [g, g', if_false]
      split <;> simp [rowT, evT]
  unfold raiseP
  rw [e1, e2, e4]
  simp only [Bool.true_eq_false, if_false, aGet, if_true, e3, Option.getD_some, e5]
  simp [aSet, aFind, rowT, sgT, sgOf, evT]
theorem raise_T3 (lv : Int) (i : Nat) (hi : i < 100) : raiseP 1 2 [(1, rowT lv i)] [(sgT, 1)] evO (5 * (i : Int)) = ((zeroR, 0, 200), 2, [(1, rowT lv i)], [(sgT, 1)]) := by
  have e2 := timeT i hi
  have e4 : aGet (sgOf evO) [(sgT, (1 : Int))] = none := by decide
  unfold raiseP
  rw [okO, e2, e4]
  simp [evO]
attribute [local irreducible] fBuild fLook fZero eqv bEqv Cl MapH LsH SlH ld1 ldN st callP eBox eAlloc lenM lenL eMapSet eDelete eAppend eBuildSl eRange eNext
section
variable {w0 w : World} {L : List HP} {K : Value → World → Prop}
theorem tal2 (lv : Int) (i : Nat) (h : i < 100) : ∀ id r, aGet id [((1 : Int), rowT lv i)] = some r → 0 ≤ r.tally ∧ r.tally ≤ 4611686018427387904 := tal1 _ (by show 0 ≤ (i : Int) + 1 ∧ (i : Int) + 1 ≤ _; omega) 1
theorem fitsT (lv : Int) (i : Nat) : (evT lv i).fits := by unfold Evt.fits evT; simp
theorem fitsO : evO.fits := by unfold Evt.fits evO; simp
theorem tallyTail {s0 : Value} {p q o i : Nat} {lv want : Int} {R3 : Value → Value → Value → Value → World → Prop} (hi : i < 100)
    (h : Sat w0 (Cl q (cEv (evT lv i)).toArray 31 :: Cl o (cRow (rowT lv i)).toArray 33 :: BoardI (ptr p) 1 2 [(1, rowT lv i)] [(sgT, 1)] :: L) w)
    (hR : ∀ w', Sat w0 (BoardI (ptr p) 1 2 [(1, rowT lv i)] [(sgT, 1)] :: L) w' → R3 s0 (ptr p) (.int .i64 lv) (.int .i64 ((i + 1 : Nat) : Int)) w') :
    F3_8 s0 (ptr p) (.int .i64 i) (.pointer (some ⟨q, 0, none⟩)) (.pointer (some ⟨o, 0, none⟩)) (.int .i64 want) (.int .i64 0) (.int .i64 want) w K R3 := by
  unfold F3_8 F3_8b F3_6 F3_6b
  have hm : bMul (.int .i64 5) (.int .i64 i) = some (.int .i64 (5 * (i : Int))) := by rw [bMul_int, wrap_id (by omega)]
  (repeat (first
 | (simp (disch := omega) only [evA, evB, bAdd_i64, bSub_i64, ptr, Nat.zero_add, Bool.not_true, Bool.not_false, Option.isNone_some, Option.isNone_none, Option.isSome_some, Option.isSome_none, decide_true, decide_false, eq_self, hm])
 | (refine go_some (fb33_0_1_2_3_4 ..) ?_)
 | ((with_reducible apply go_ld1 h))
 | ((with_reducible apply go_ldA h); (rfl))
 | ((with_reducible apply go_ldN h))
 | ((with_reducible apply go_st h); intro _ h)
 | ((with_reducible apply go_stA h); (rfl); (rfl); (first | rfl | simp); intro _ h)
 | ((with_reducible apply go_stN h); (rfl); (first | rfl | simp); intro _ h)
 | ((with_reducible apply go_box h); rfl; intro _ _ h)
 | ((with_reducible apply go_rd h); (rfl))
 | ((with_reducible apply go_rdN h); (rfl))
))
  refine go_some (neR _ _ (rowT lv i) (rowT lv i)) ?_
  (repeat (first
 | (simp (disch := omega) only [evA, evB, bAdd_i64, bSub_i64, ptr, Nat.zero_add, Bool.not_true, Bool.not_false, Option.isNone_some, Option.isNone_none, Option.isSome_some, Option.isSome_none, decide_true, decide_false, eq_self, hm])
 | (refine go_some (fb31_0_1_3 ..) ?_)
 | ((with_reducible apply go_ld1 h))
 | ((with_reducible apply go_ldA h); (rfl))
 | ((with_reducible apply go_ldN h))
 | ((with_reducible apply go_st h); intro _ h)
 | ((with_reducible apply go_stA h); (rfl); (rfl); (first | rfl | simp); intro _ h)
 | ((with_reducible apply go_stN h); (rfl); (first | rfl | simp); intro _ h)
 | ((with_reducible apply go_box h); rfl; intro _ _ h)
 | ((with_reducible apply go_rd h); (rfl))
 | ((with_reducible apply go_rdN h); (rfl))
))
  refine raise_spec (e := evO) (n := 1) (next := 2) (R := [(1, rowT lv i)]) (I := [(sgT, 1)]) fitsO (by omega) (tal2 lv i hi) (h.front (by repeat (first | exact .here | apply Fnt.there))) fun w h => ?_
  rw [raise_T3 lv i hi] at h ⊢
  (repeat (first
 | (simp (disch := omega) only [evA, evB, bAdd_i64, bSub_i64, ptr, Nat.zero_add, Bool.not_true, Bool.not_false, Option.isNone_some, Option.isNone_none, Option.isSome_some, Option.isSome_none, decide_true, decide_false, eq_self])
 | (refine go_some (fb33 ..) ?_)
 | ((with_reducible apply go_ld1 h))
 | ((with_reducible apply go_ldA h); (rfl))
 | ((with_reducible apply go_ldN h))
 | ((with_reducible apply go_st h); intro _ h)
 | ((with_reducible apply go_stA h); (rfl); (rfl); (first | rfl | simp); intro _ h)
 | ((with_reducible apply go_stN h); (rfl); (first | rfl | simp); intro _ h)
 | ((with_reducible apply go_box h); rfl; intro _ _ h)
 | ((with_reducible apply go_alloc h); (first | exact z33); rfl; intro _ _ h)
 | ((with_reducible apply go_rd h); (rfl))
 | ((with_reducible apply go_rdN h); (rfl))
))
  refine go_some (neR _ _ zeroR zeroR) ?_
  (repeat (first
 | (simp (disch := omega) only [evA, evB, bAdd_i64, bSub_i64, ptr, Nat.zero_add, Bool.not_true, Bool.not_false, Option.isNone_some, Option.isNone_none, Option.isSome_some, Option.isSome_none, decide_true, decide_false, eq_self])
 | ((with_reducible apply go_ld1 h))
 | ((with_reducible apply go_ldA h); (rfl))
 | ((with_reducible apply go_ldN h))
 | ((with_reducible apply go_st h); intro _ h)
 | ((with_reducible apply go_stA h); (rfl); (rfl); (first | rfl | simp); intro _ h)
 | ((with_reducible apply go_stN h); (rfl); (first | rfl | simp); intro _ h)
 | ((with_reducible apply go_box h); rfl; intro _ _ h)
 | ((with_reducible apply go_rd h); (rfl))
 | ((with_reducible apply go_rdN h); (rfl))
))
  refine blen_spec (n := 1) (next := 2) (R := [(1, rowT lv i)]) (I := [(sgT, 1)]) (h.front (by repeat (first | exact .here | apply Fnt.there))) ?_
  (repeat (first
 | (simp (disch := omega) only [evA, evB, bAdd_i64, bSub_i64, ptr, Nat.zero_add, Bool.not_true, Bool.not_false, Option.isNone_some, Option.isNone_none, Option.isSome_some, Option.isSome_none, decide_true, decide_false, eq_self])
 | ((with_reducible apply go_ld1 h))
 | ((with_reducible apply go_ldA h); (rfl))
 | ((with_reducible apply go_ldN h))
 | ((with_reducible apply go_st h); intro _ h)
 | ((with_reducible apply go_stA h); (rfl); (rfl); (first | rfl | simp); intro _ h)
 | ((with_reducible apply go_stN h); (rfl); (first | rfl | simp); intro _ h)
 | ((with_reducible apply go_box h); rfl; intro _ _ h)
 | ((with_reducible apply go_rd h); (rfl))
 | ((with_reducible apply go_rdN h); (rfl))
))
  exact hR _ (h.get (by (repeat (first | exact .done | (refine .pick (by repeat (first | exact .here | apply Fnt.there)) ?_) | refine .skip ?_))))
theorem fb8 (x : Int) : fBuildSl Try.prog 5 1 [(0, .int .u8 x)] = some #[.int .u8 x] := by kernel_rfl
theorem tallyMid {s0 : Value} {l : List Int} {p i : Nat} {old : Int} {next : Int} {R : List (Int × Row)} {I : List (Sg × Int)} {want : Int → Int} {R3 : Value → Value → Value → Value → World → Prop} (hi : i < 100) (hl : i < l.length)
    (hrd : Rd w0 1 s0 l.length (l.flatMap cI)) (hn : 0 ≤ next ∧ next ≤ 4611686018427387904) (ht : ∀ id r, aGet id R = some r → 0 ≤ r.tally ∧ r.tally ≤ 4611686018427387904)
    (hr : ∀ lv, 1 ≤ lv → lv ≤ 5 → raiseP 1 next R I (evT lv i) (5 * (i : Int)) = ((rowT lv i, want lv, 0), 2, [(1, rowT lv i)], [(sgT, 1)]))
    (hw1 : i = 0 → ∀ lv, want lv = 1) (hw2 : i ≠ 0 → ∀ lv, want lv = if lv = old then 0 else 2)
    (h : Sat w0 (BoardI (ptr p) 1 next R I :: L) w)
    (hR : ∀ lv w', Sat w0 (BoardI (ptr p) 1 2 [(1, rowT lv i)] [(sgT, 1)] :: L) w' → R3 s0 (ptr p) (.int .i64 lv) (.int .i64 ((i + 1 : Nat) : Int)) w') :
    F3_7 s0 (ptr p) (.int .i64 old) (.int .i64 i) w K R3 := by
  unfold F3_7 F3_7b
  have hm : bMul (.int .i64 5) (.int .i64 i) = some (.int .i64 (5 * (i : Int))) := by rw [bMul_int, wrap_id (by omega)]
  have hb : bRem (.int .i64 i) (.int .i64 20) = some (.int .i64 ((i % 20 : Nat) : Int)) := by
    rw [bRem_int _ _ _ (by omega)]; congr 2
  have hc : cInt .u8 (.int .i64 (97 + ((i % 20 : Nat) : Int))) = some (.int .u8 (UInt8.ofNat (97 + i % 20)).toNat) := by
    show some (Value.int .u8 (IntKind.u8.wrap _)) = _
    rw [show (97 : Int) + ((i % 20 : Nat) : Int) = ((97 + i % 20 : Nat) : Int) by omega, wrap_u8]
    congr 3
  have hx := ix_el hrd hl
  have hl1 : ∀ {w : World} {L' : List HP}, Sat w0 L' w → ld1 (elP 1 s0 i) w = some (.int .i64 l[i]) := fun h => rd_ld1 (g := Value.int .i64) (hrd.sat h) hl
  have hci := hc
  (repeat (first
 | (simp (disch := omega) only [evA, evB, bAdd_i64, bSub_i64, ptr, Nat.zero_add, Bool.not_true, Bool.not_false, Option.isNone_some, Option.isNone_none, Option.isSome_some, Option.isSome_none, decide_true, decide_false, eq_self])
 | (refine go_some (hx ..) ?_)
 | (refine go_some (hb ..) ?_)
 | ((with_reducible apply go_ld1 h))
 | ((with_reducible apply go_ldA h); (rfl))
 | ((with_reducible apply go_ldN h))
 | ((with_reducible apply go_st h); intro _ h)
 | ((with_reducible apply go_stA h); (rfl); (rfl); (first | rfl | simp); intro _ h)
 | ((with_reducible apply go_stN h); (rfl); (first | rfl | simp); intro _ h)
 | ((with_reducible apply go_box h); rfl; intro _ _ h)
 | ((with_reducible apply go_rd h); (rfl))
 | ((with_reducible apply go_rdN h); (rfl))
))
  refine go_some (hl1 h.drew) ?_
  (repeat (first
 | (simp (disch := omega) only [evA, evB, bAdd_i64, bSub_i64, ptr, Nat.zero_add, Bool.not_true, Bool.not_false, Option.isNone_some, Option.isNone_none, Option.isSome_some, Option.isSome_none, decide_true, decide_false, eq_self, hc])
 | (refine go_some (hb ..) ?_)
 | ((with_reducible apply go_ld1 h))
 | ((with_reducible apply go_ldA h); (rfl))
 | ((with_reducible apply go_ldN h))
 | ((with_reducible apply go_st h); intro _ h)
 | ((with_reducible apply go_stA h); (rfl); (rfl); (first | rfl | simp); intro _ h)
 | ((with_reducible apply go_stN h); (rfl); (first | rfl | simp); intro _ h)
 | ((with_reducible apply go_box h); rfl; intro _ _ h)
 | ((with_reducible apply go_rd h); (rfl))
 | ((with_reducible apply go_rdN h); (rfl))
))
  repeat' (first
    | (first
 | (simp (disch := omega) only [evA, evB, bAdd_i64, bSub_i64, ptr, Nat.zero_add, Bool.not_true, Bool.not_false, Option.isNone_some, Option.isNone_none, Option.isSome_some, Option.isSome_none, decide_true, decide_false, eq_self, hc, hm])
 | (refine go_some (hb ..) ?_)
 | (refine go_some (fb31_0_1_2_3_4 ..) ?_)
 | ((with_reducible apply go_ld1 h))
 | ((with_reducible apply go_ldA h); (rfl))
 | ((with_reducible apply go_ldN h))
 | ((with_reducible apply go_st h); intro _ h)
 | ((with_reducible apply go_stA h); (rfl); (rfl); (first | rfl | simp); intro _ h)
 | ((with_reducible apply go_stN h); (rfl); (first | rfl | simp); intro _ h)
 | ((with_reducible apply go_box h); rfl; intro _ _ h)
 | ((with_reducible apply go_alloc h); (first | exact z31); rfl; intro _ _ h)
 | ((with_reducible apply go_rd h); (rfl))
 | ((with_reducible apply go_rdN h); (rfl))
)
    | (refine Below_spec (n := 5) (by omega) (by omega) fun r r0 r1 _ => ?_)
    | (refine eBuildSl_sat (es := 1) (h.to SameC.same) u29 (fb8 _) rfl fun sv w h => ?_)
    | (refine go_some (cBytes_rd (l := [UInt8.ofNat (97 + i % 20)]) (Sat.rd ((h.to SameC.same).front (by repeat (first | exact .here | apply Fnt.there)))) (by decide)) ?_)
    | (refine ⟨?_, ?_⟩)
    | (rw [fok_true]; done)
    | (rw [fok_true]; first | exact hl1 (h.to SameC.same) | exact hci | exact cBytes_rd (l := [UInt8.ofNat (97 + i % 20)]) (Sat.rd ((h.to SameC.same).front (by repeat (first | exact .here | apply Fnt.there)))) (by decide)))
  all_goals
    refine raise_spec (e := evT (1 + r) i) (n := 1) (next := next) (R := R) (I := I) (now := 5 * (i : Int)) (fitsT _ _) hn ht ((h.to SameC.same).front (by repeat (first | exact .here | apply Fnt.there))) fun w h => ?_
    rw [hr _ (by omega) (by omega)] at h ⊢
    (repeat (first
 | (simp (disch := omega) only [evA, evB, bAdd_i64, bSub_i64, ptr, Nat.zero_add, Bool.not_true, Bool.not_false, Option.isNone_some, Option.isNone_none, Option.isSome_some, Option.isSome_none, decide_true, decide_false, eq_self, hc])
 | (refine go_some (hb ..) ?_)
 | ((with_reducible apply go_ld1 h))
 | ((with_reducible apply go_ldA h); (rfl))
 | ((with_reducible apply go_ldN h))
 | ((with_reducible apply go_st h); intro _ h)
 | ((with_reducible apply go_stA h); (rfl); (rfl); (first | rfl | simp); intro _ h)
 | ((with_reducible apply go_stN h); (rfl); (first | rfl | simp); intro _ h)
 | ((with_reducible apply go_box h); rfl; intro _ _ h)
 | ((with_reducible apply go_alloc h); (first | exact z33); rfl; intro _ _ h)
 | ((with_reducible apply go_rd h); (rfl))
 | ((with_reducible apply go_rdN h); (rfl))
))
    by_cases g0 : i = 0
    · have g0' : decide ((i : Int) = 0) = true := by simp [g0]
      rw [hw1 g0]
      (repeat (first
 | (simp (disch := omega) only [evA, evB, bAdd_i64, bSub_i64, ptr, Nat.zero_add, Bool.not_true, Bool.not_false, Option.isNone_some, Option.isNone_none, Option.isSome_some, Option.isSome_none, decide_true, decide_false, eq_self, g0'])
 | ((with_reducible apply go_ld1 h))
 | ((with_reducible apply go_ldA h); (rfl))
 | ((with_reducible apply go_ldN h))
 | ((with_reducible apply go_st h); intro _ h)
 | ((with_reducible apply go_stA h); (rfl); (rfl); (first | rfl | simp); intro _ h)
 | ((with_reducible apply go_stN h); (rfl); (first | rfl | simp); intro _ h)
 | ((with_reducible apply go_box h); rfl; intro _ _ h)
 | ((with_reducible apply go_rd h); (rfl))
 | ((with_reducible apply go_rdN h); (rfl))
))
      exact tallyTail (want := 1) hi (h.get (by (repeat (first | exact .done | (refine .pick (by repeat (first | exact .here | apply Fnt.there)) ?_) | refine .skip ?_)))) (fun w h => hR _ _ h)
    · have g0' : decide ((i : Int) = 0) = false := by simp [g0]
      rw [hw2 g0]
      (repeat (first
 | (simp (disch := omega) only [evA, evB, bAdd_i64, bSub_i64, ptr, Nat.zero_add, Bool.not_true, Bool.not_false, Option.isNone_some, Option.isNone_none, Option.isSome_some, Option.isSome_none, decide_true, decide_false, eq_self, g0'])
 | ((with_reducible apply go_ld1 h))
 | ((with_reducible apply go_ldA h); (rfl))
 | ((with_reducible apply go_ldN h))
 | ((with_reducible apply go_st h); intro _ h)
 | ((with_reducible apply go_stA h); (rfl); (rfl); (first | rfl | simp); intro _ h)
 | ((with_reducible apply go_stN h); (rfl); (first | rfl | simp); intro _ h)
 | ((with_reducible apply go_box h); rfl; intro _ _ h)
 | ((with_reducible apply go_rd h); (rfl))
 | ((with_reducible apply go_rdN h); (rfl))
))
      by_cases g1 : 1 + r = old
      · have g1' : decide (1 + r = old) = true := by simp [g1]
        rw [if_pos g1]
        (repeat (first
 | (simp (disch := omega) only [evA, evB, bAdd_i64, bSub_i64, ptr, Nat.zero_add, Bool.not_true, Bool.not_false, Option.isNone_some, Option.isNone_none, Option.isSome_some, Option.isSome_none, decide_true, decide_false, eq_self, g1'])
 | ((with_reducible apply go_ld1 h))
 | ((with_reducible apply go_ldA h); (rfl))
 | ((with_reducible apply go_ldN h))
 | ((with_reducible apply go_st h); intro _ h)
 | ((with_reducible apply go_stA h); (rfl); (rfl); (first | rfl | simp); intro _ h)
 | ((with_reducible apply go_stN h); (rfl); (first | rfl | simp); intro _ h)
 | ((with_reducible apply go_box h); rfl; intro _ _ h)
 | ((with_reducible apply go_rd h); (rfl))
 | ((with_reducible apply go_rdN h); (rfl))
))
        exact tallyTail (want := 0) hi (h.get (by (repeat (first | exact .done | (refine .pick (by repeat (first | exact .here | apply Fnt.there)) ?_) | refine .skip ?_)))) (fun w h => hR _ _ h)
      · have g1' : decide (1 + r = old) = false := by simp [g1]
        rw [if_neg g1]
        (repeat (first
 | (simp (disch := omega) only [evA, evB, bAdd_i64, bSub_i64, ptr, Nat.zero_add, Bool.not_true, Bool.not_false, Option.isNone_some, Option.isNone_none, Option.isSome_some, Option.isSome_none, decide_true, decide_false, eq_self, g1'])
 | ((with_reducible apply go_ld1 h))
 | ((with_reducible apply go_ldA h); (rfl))
 | ((with_reducible apply go_ldN h))
 | ((with_reducible apply go_st h); intro _ h)
 | ((with_reducible apply go_stA h); (rfl); (rfl); (first | rfl | simp); intro _ h)
 | ((with_reducible apply go_stN h); (rfl); (first | rfl | simp); intro _ h)
 | ((with_reducible apply go_box h); rfl; intro _ _ h)
 | ((with_reducible apply go_rd h); (rfl))
 | ((with_reducible apply go_rdN h); (rfl))
))
        exact tallyTail (want := 2) hi (h.get (by (repeat (first | exact .done | (refine .pick (by repeat (first | exact .here | apply Fnt.there)) ?_) | refine .skip ?_)))) (fun w h => hR _ _ h)
def TallyQ (w0 : World) (L : List HP) (p i : Nat) (old : Int) (w : World) : Prop :=
  (i = 0 ∧ Sat w0 (BoardI (ptr p) 1 1 [] [] :: L) w) ∨ ∃ j, i = j + 1 ∧ Sat w0 (BoardI (ptr p) 1 2 [(1, rowT old j)] [(sgT, 1)] :: L) w
theorem tallyQ_sat {p i : Nat} {old : Int} (h : TallyQ w0 L p i old w) : Sat w0 L w := by
  rcases h with ⟨_, h⟩ | ⟨_, _, h⟩ <;> exact h.drop
theorem tallyLoop {s0 : Value} {l : List Int} {p : Nat} (hrd : Rd w0 1 s0 l.length (l.flatMap cI)) (hK : ∀ w', Sat w0 L w' → K (.bool true) w') :
    ∀ (d m i : Nat) (old : Int) (w : World), 100 - i ≤ d → d ≤ m → i ≤ 100 → TallyQ w0 L p i old w → F3_2L (m + 1) s0 (ptr p) (.int .i64 old) (.int .i64 i) w K := by
  intro d
  induction d with
  | zero =>
    intro m i old w hd hm hi hq
    obtain rfl : i = 100 := by omega
    rw [F3_2L]
    unfold F3_4 F3_4b F3_3 F3_3b
    refine go_some hrd.len ?_
    have hs := tallyQ_sat hq
    by_cases g : ((100 : Nat) : Int) < (l.length : Int)
    · have g' : decide (((100 : Nat) : Int) < (l.length : Int)) = true := by simpa using g
      have g2 : decide (((100 : Nat) : Int) < 100) = false := by simp
      (simp (disch := omega) only [evA, evB, bAdd_i64, bSub_i64, ptr, Nat.zero_add, Bool.not_true, Bool.not_false, Option.isNone_some, Option.isNone_none, Option.isSome_some, Option.isSome_none, decide_true, decide_false, eq_self, g', g2])
      exact hK _ hs
    · have g' : decide (((100 : Nat) : Int) < (l.length : Int)) = false := by simpa using g
      (simp (disch := omega) only [evA, evB, bAdd_i64, bSub_i64, ptr, Nat.zero_add, Bool.not_true, Bool.not_false, Option.isNone_some, Option.isNone_none, Option.isSome_some, Option.isSome_none, decide_true, decide_false, eq_self, g'])
      exact hK _ hs
  | succ d ih =>
    intro m i old w hd hm hi hq
    by_cases hi2 : i = 100
    · obtain ⟨m, rfl⟩ : ∃ m', m = m' + 1 := ⟨m - 1, by omega⟩
      exact ih (m + 1) i old w (by omega) (by omega) hi hq
    obtain ⟨m, rfl⟩ : ∃ m', m = m' + 1 := ⟨m - 1, by omega⟩
    have hs := tallyQ_sat hq
    rw [F3_2L]
    unfold F3_4 F3_4b F3_3 F3_3b F3_5
    refine go_some hrd.len ?_
    by_cases g : (i : Int) < (l.length : Int)
    · have g' : decide ((i : Int) < (l.length : Int)) = true := by simpa using g
      have g2 : decide ((i : Int) < 100) = true := by simp; omega
      (simp (disch := omega) only [evA, evB, bAdd_i64, bSub_i64, ptr, Nat.zero_add, Bool.not_true, Bool.not_false, Option.isNone_some, Option.isNone_none, Option.isSome_some, Option.isSome_none, decide_true, decide_false, eq_self, g', g2])
      rcases hq with ⟨rfl, h⟩ | ⟨j, rfl, h⟩
      · refine tallyMid (l := l) (next := 1) (R := []) (I := []) (want := fun _ => 1) (by omega) (by omega) hrd (by omega) (by simp [aGet]) (fun lv => raise_T1 lv) (fun _ _ => rfl) (fun h => absurd rfl h) h fun lv w h => ?_
        exact ih m 1 lv w (by omega) (by omega) (by omega) (.inr ⟨0, rfl, h⟩)
      · refine tallyMid (l := l) (next := 2) (R := [(1, rowT old j)]) (I := [(sgT, 1)]) (want := fun lv => if lv = old then 0 else 2) (by omega) (by omega) hrd (by omega) (tal2 old j (by omega)) (fun lv => raise_T2 old lv j (by omega)) (fun h => absurd h (by omega)) (fun _ _ => rfl) h fun lv w h => ?_
        exact ih m (j + 1 + 1) lv w (by omega) (by omega) (by omega) (.inr ⟨j + 1, rfl, h⟩)
    · have g' : decide ((i : Int) < (l.length : Int)) = false := by simpa using g
      (simp (disch := omega) only [evA, evB, bAdd_i64, bSub_i64, ptr, Nat.zero_add, Bool.not_true, Bool.not_false, Option.isNone_some, Option.isNone_none, Option.isSome_some, Option.isSome_none, decide_true, decide_false, eq_self, g'])
      exact hK _ hs
theorem boardTally_spec {s0 : Value} {l : List Int} (hrd : Rd w0 1 s0 l.length (l.flatMap cI)) (h : Sat w0 L w) (hK : ∀ w', Sat w0 L w' → K (.bool true) w') : callP G3 [s0] w K := by
  refine c3 ?_
  unfold F3 F3_1 F3_1b F3_2
  refine bnew_spec (n := 1) h (by omega) (by omega) fun p w h => ?_
  (repeat (first
 | (simp (disch := omega) only [evA, evB, bAdd_i64, bSub_i64, ptr, Nat.zero_add, Bool.not_true, Bool.not_false, Option.isNone_some, Option.isNone_none, Option.isSome_some, Option.isSome_none, decide_true, decide_false, eq_self])
 | (refine go_some (bEq_nilp up23 ..) ?_)
 | ((with_reducible apply go_ld1 h))
 | ((with_reducible apply go_ldA h); (rfl))
 | ((with_reducible apply go_ldN h))
 | ((with_reducible apply go_st h); intro _ h)
 | ((with_reducible apply go_stA h); (rfl); (rfl); (first | rfl | simp); intro _ h)
 | ((with_reducible apply go_stN h); (rfl); (first | rfl | simp); intro _ h)
 | ((with_reducible apply go_box h); rfl; intro _ _ h)
 | ((with_reducible apply go_rd h); (rfl))
 | ((with_reducible apply go_rdN h); (rfl))
))
  refine works20_spec h fun w h => ?_
  (repeat (first
 | (simp (disch := omega) only [evA, evB, bAdd_i64, bSub_i64, ptr, Nat.zero_add, Bool.not_true, Bool.not_false, Option.isNone_some, Option.isNone_none, Option.isSome_some, Option.isSome_none, decide_true, decide_false, eq_self])
 | ((with_reducible apply go_ld1 h))
 | ((with_reducible apply go_ldA h); (rfl))
 | ((with_reducible apply go_ldN h))
 | ((with_reducible apply go_st h); intro _ h)
 | ((with_reducible apply go_stA h); (rfl); (rfl); (first | rfl | simp); intro _ h)
 | ((with_reducible apply go_stN h); (rfl); (first | rfl | simp); intro _ h)
 | ((with_reducible apply go_box h); rfl; intro _ _ h)
 | ((with_reducible apply go_rd h); (rfl))
 | ((with_reducible apply go_rdN h); (rfl))
))
  exact tallyLoop hrd hK 100 (fuel - 1) 0 0 w (by omega) (by decide) (by omega) (.inl ⟨rfl, h⟩)
end
theorem fit_int {W : World} {B : Nat} {c : List Value} (h : FitL2 W B [.int .i64] c) : ∃ n : Int, c = cI n ∧ True := by
  obtain ⟨n, vs, rfl, _, h2⟩ := fitL2_int h
  rw [fitL2_nil h2]; exact ⟨n, rfl, trivial⟩
theorem lawBoardTally {W : World} {v : Value} {n : Nat} {cs : List Value} (rd : Rd W 1 v n cs) (_ : n ≤ 140737488351232) (ft : ∀ i, i < n → FitL2 W 140737488351232 [.int .i64] ((cs.drop (i * 1)).take 1)) :
    callP G3 [v] W fun v w' => v = .bool true ∧ Sat W [] w' := by
  obtain ⟨l, rfl, rfl, _⟩ := fit_list2 (fun c h => fit_int h) n cs rd.length ft
  exact boardTally_spec rd (Sat.start W) fun w' h => ⟨rfl, h⟩
end Go.Proofs.Gong
