/- A part of the proofs: what stands below it, told in lemmas. No condition. -/
import Derived.Test.YtghckdlkdgaokaaGreatP2
import Derived.Test.YtghckdlkdgaokaaGreatP1
set_option linter.all false

/- Ho2 -/
namespace Go.Proofs.Gong
open Go Go.Sx Go.Proofs
set_option maxRecDepth 100000
attribute [local irreducible] fBuild fLook fZero eqv bEqv Cl MapH LsH SlH ld1 ldN st callP eBox eAlloc lenM lenL eMapSet eDelete eAppend eBuildSl eRange eNext
structure Sgn where
  watch : Int
  node : List UInt8
  key : List UInt8
  deriving DecidableEq
@[reducible] def cSgn (s : Sgn) : List Value := [.int .i64 s.watch, .string (bs s.node), .string (bs s.key)]
abbrev sgnV (s : Sgn) : Value := .agg (cSgn s).toArray
def sgnOf (c : Ctx) : Sgn := ⟨c.watch, c.node, c.key⟩
section
variable {w0 w : World} {L : List HP} {K : Value → World → Prop} {a b : Ctx} {tv tv' : Value}
theorem hof_spec (h : Sat w0 L w) (hK : ∀ w', Sat w0 L w' → K (sgnV (sgnOf a)) w') : callP G33 [ctxV a tv] w K := by
  refine c33 ?_
  unfold F33
  (repeat (first
 | (simp (disch := omega) only [evA, evB, evC, bAdd_i64, bSub_i64])
 | (refine go_some (fb74_0_1_2 ..) ?_)
 | (with_reducible apply go_ld1 h)
 | ((with_reducible first | apply go_ldA h | apply go_rd h | apply go_rdN h | apply go_rlen h); rfl)
 | (with_reducible first | apply go_ldN h | apply go_lenL h)
 | ((with_reducible apply go_st h); intro _ h)
 | ((with_reducible apply go_stA h); rfl; rfl; (first | rfl | simp [OneV.o]); intro _ h)
 | ((with_reducible apply go_stN h); rfl; (first | rfl | simp [OneV.o]); intro _ h)
 | ((with_reducible apply go_box h); rfl; intro _ _ h)
 | ((with_reducible apply go_alloc h); (first | exact z74); rfl; intro _ _ h)
 | ((with_reducible apply go_ix h); omega)
 | ((with_reducible first | apply go_elN h | apply go_f1 h | apply go_rf1 h | apply go_rel h); (case hi => omega); (try case hx => exact inferInstance); (try case hv => rfl))
 | ((with_reducible apply go_fa h); omega; omega)
))
  exact hK _ (h.got)
theorem fsame_loop {p q : Nat} (hl : a.times.length ≤ 1073741824) (hlm : a.times.length = b.times.length) (hr : RdL w0 L cI 1 tv a.times) (hr' : RdL w0 L cI 1 tv' b.times) (hK : ∀ w', Sat w0 L w' → K (.bool (decide (a.times = b.times))) w') :
    ∀ (d i : Nat) (w : World), a.times.length - i < d → i ≤ a.times.length → a.times.take i = b.times.take i → Sat w0 (Cl q (cCtx b tv').toArray 36 :: Cl p (cCtx a tv).toArray 36 :: L) w →
      F21_2L d (.pointer (some ⟨p, 0, none⟩)) (.pointer (some ⟨q, 0, none⟩)) (.int .i64 i) w K := by
  intro d
  induction d with
  | zero => intro i w hd; omega
  | succ d ih =>
    intro i w hd hi ht h
    rw [F21_2L]
    unfold F21_2b F21_3 F21_3b
    have h1 := hr w (h.got)
    have h2 := hr' w (h.got)
    by_cases g : i < a.times.length
    · have g' : decide ((i : Int) < (a.times.length : Int)) = true := by rw [decide_eq_true_eq]; omega
      have g2 : i < b.times.length := by omega
      by_cases e1 : a.times[i] = b.times[i]
      · have e1' : decide (a.times[i] = b.times[i]) = true := by simpa using e1
        (repeat (first
 | (simp (disch := omega) only [evA, evB, evC, bAdd_i64, bSub_i64, h1.len, g', (i_at h1 g), (i_at h2 g2), e1'])
 | (with_reducible apply go_ld1 h)
 | ((with_reducible first | apply go_ldA h | apply go_rd h | apply go_rdN h | apply go_rlen h); rfl)
 | (with_reducible first | apply go_ldN h | apply go_lenL h)
 | ((with_reducible apply go_st h); intro _ h)
 | ((with_reducible apply go_stA h); rfl; rfl; (first | rfl | simp [OneV.o]); intro _ h)
 | ((with_reducible apply go_stN h); rfl; (first | rfl | simp [OneV.o]); intro _ h)
 | ((with_reducible apply go_box h); rfl; intro _ _ h)
 | ((with_reducible apply go_ix h); omega)
 | ((with_reducible first | apply go_elN h | apply go_f1 h | apply go_rf1 h | apply go_rel h); (case hi => omega); (try case hx => exact inferInstance); (try case hv => rfl))
 | ((with_reducible apply go_fa h); omega; omega)
))
        refine ih (i + 1) _ (by omega) (by omega) ?_ h.drew
        rw [List.take_succ_eq_append_getElem g, List.take_succ_eq_append_getElem g2, ht, e1]
      · have e1' : decide (a.times[i] = b.times[i]) = false := by simpa using e1
        (repeat (first
 | (simp (disch := omega) only [evA, evB, evC, bAdd_i64, bSub_i64, h1.len, g', (i_at h1 g), (i_at h2 g2), e1'])
 | (with_reducible apply go_ld1 h)
 | ((with_reducible first | apply go_ldA h | apply go_rd h | apply go_rdN h | apply go_rlen h); rfl)
 | (with_reducible first | apply go_ldN h | apply go_lenL h)
 | ((with_reducible apply go_st h); intro _ h)
 | ((with_reducible apply go_stA h); rfl; rfl; (first | rfl | simp [OneV.o]); intro _ h)
 | ((with_reducible apply go_stN h); rfl; (first | rfl | simp [OneV.o]); intro _ h)
 | ((with_reducible apply go_box h); rfl; intro _ _ h)
 | ((with_reducible apply go_ix h); omega)
 | ((with_reducible first | apply go_elN h | apply go_f1 h | apply go_rf1 h | apply go_rel h); (case hi => omega); (try case hx => exact inferInstance); (try case hv => rfl))
 | ((with_reducible apply go_fa h); omega; omega)
))
        have := hK _ (h.drew.got)
        rw [decide_eq_false (fun e => e1 (by simp only [e]))] at this
        exact this
    · have g' : decide ((i : Int) < (a.times.length : Int)) = false := by rw [decide_eq_false_iff_not]; omega
      (repeat (first
 | (simp (disch := omega) only [evA, evB, evC, bAdd_i64, bSub_i64, h1.len, g'])
 | (with_reducible apply go_ld1 h)
 | ((with_reducible first | apply go_ldA h | apply go_rd h | apply go_rdN h | apply go_rlen h); rfl)
 | (with_reducible first | apply go_ldN h | apply go_lenL h)
 | ((with_reducible apply go_st h); intro _ h)
 | ((with_reducible apply go_stA h); rfl; rfl; (first | rfl | simp [OneV.o]); intro _ h)
 | ((with_reducible apply go_stN h); rfl; (first | rfl | simp [OneV.o]); intro _ h)
 | ((with_reducible apply go_box h); rfl; intro _ _ h)
 | ((with_reducible apply go_ix h); omega)
 | ((with_reducible first | apply go_elN h | apply go_f1 h | apply go_rf1 h | apply go_rel h); (case hi => omega); (try case hx => exact inferInstance); (try case hv => rfl))
 | ((with_reducible apply go_fa h); omega; omega)
))
      have := hK _ (h.got)
      rw [List.take_of_length_le (by omega), List.take_of_length_le (by omega)] at ht
      rw [decide_eq_true ht] at this
      exact this
theorem ctx_eq2 (a b : Ctx) : decide (a = b) = (decide (a.id = b.id) && (decide (a.watch = b.watch) && (decide (a.node = b.node) && (decide (a.key = b.key) && (decide (a.at' = b.at') && (decide (a.e = b.e) && decide (a.times = b.times))))))) := by
  obtain ⟨i, wa, n, k, t, e, ts⟩ := a
  obtain ⟨i', wa', n', k', t', e', ts'⟩ := b
  rw [Bool.eq_iff_iff]
  simp only [Ctx.mk.injEq, decide_eq_true_eq, Bool.and_eq_true]
theorem fsame_spec (hl : a.times.length ≤ 1073741824) (hr : RdL w0 L cI 1 tv a.times) (hr' : RdL w0 L cI 1 tv' b.times) (h : Sat w0 L w) (hK : ∀ w', Sat w0 L w' → K (.bool (decide (a = b))) w') : callP G21 [ctxV a tv, ctxV b tv'] w K := by
  refine c21 ?_
  unfold F21 F21_1 F21_1b F21_2
  rw [ctx_eq2] at hK
  (repeat (first
 | (simp (disch := omega) only [evA, evB, evC, bAdd_i64, bSub_i64])
 | (with_reducible apply go_ld1 h)
 | ((with_reducible first | apply go_ldA h | apply go_rd h | apply go_rdN h | apply go_rlen h); rfl)
 | (with_reducible first | apply go_ldN h | apply go_lenL h)
 | ((with_reducible apply go_st h); intro _ h)
 | ((with_reducible apply go_stA h); rfl; rfl; (first | rfl | simp [OneV.o]); intro _ h)
 | ((with_reducible apply go_stN h); rfl; (first | rfl | simp [OneV.o]); intro _ h)
 | ((with_reducible apply go_box h); rfl; intro _ _ h)
 | ((with_reducible apply go_ix h); omega)
 | ((with_reducible first | apply go_elN h | apply go_f1 h | apply go_rf1 h | apply go_rel h); (case hi => omega); (try case hx => exact inferInstance); (try case hv => rfl))
 | ((with_reducible apply go_fa h); omega; omega)
))
  have no : ∀ {w : World} {p q : Nat}, Sat w0 (Cl q (cCtx b tv').toArray 36 :: Cl p (cCtx a tv).toArray 36 :: L) w → (decide (a.id = b.id) && (decide (a.watch = b.watch) && (decide (a.node = b.node) && (decide (a.key = b.key) && (decide (a.at' = b.at') && (decide (a.e = b.e) && decide (a.times = b.times))))))) = false → K (.bool false) w := by
    intro w p q h e
    have := hK _ h.drop.drop
    rw [e] at this; exact this
  cases e1 : decide (a.id = b.id)
  · (repeat (first
 | (simp (disch := omega) only [evA, evB, evC, bAdd_i64, bSub_i64])
 | (with_reducible apply go_ld1 h)
 | ((with_reducible first | apply go_ldA h | apply go_rd h | apply go_rdN h | apply go_rlen h); rfl)
 | (with_reducible first | apply go_ldN h | apply go_lenL h)
 | ((with_reducible apply go_st h); intro _ h)
 | ((with_reducible apply go_stA h); rfl; rfl; (first | rfl | simp [OneV.o]); intro _ h)
 | ((with_reducible apply go_stN h); rfl; (first | rfl | simp [OneV.o]); intro _ h)
 | ((with_reducible apply go_box h); rfl; intro _ _ h)
 | ((with_reducible apply go_ix h); omega)
 | ((with_reducible first | apply go_elN h | apply go_f1 h | apply go_rf1 h | apply go_rel h); (case hi => omega); (try case hx => exact inferInstance); (try case hv => rfl))
 | ((with_reducible apply go_fa h); omega; omega)
))
    exact no h (by rw [e1]; rfl)
  cases e2 : decide (a.watch = b.watch)
  · (repeat (first
 | (simp (disch := omega) only [evA, evB, evC, bAdd_i64, bSub_i64, e2])
 | (with_reducible apply go_ld1 h)
 | ((with_reducible first | apply go_ldA h | apply go_rd h | apply go_rdN h | apply go_rlen h); rfl)
 | (with_reducible first | apply go_ldN h | apply go_lenL h)
 | ((with_reducible apply go_st h); intro _ h)
 | ((with_reducible apply go_stA h); rfl; rfl; (first | rfl | simp [OneV.o]); intro _ h)
 | ((with_reducible apply go_stN h); rfl; (first | rfl | simp [OneV.o]); intro _ h)
 | ((with_reducible apply go_box h); rfl; intro _ _ h)
 | ((with_reducible apply go_ix h); omega)
 | ((with_reducible first | apply go_elN h | apply go_f1 h | apply go_rf1 h | apply go_rel h); (case hi => omega); (try case hx => exact inferInstance); (try case hv => rfl))
 | ((with_reducible apply go_fa h); omega; omega)
))
    exact no h (by rw [e1, e2]; rfl)
  cases e3 : decide (a.node = b.node)
  · (repeat (first
 | (simp (disch := omega) only [evA, evB, evC, bAdd_i64, bSub_i64, e2, e3])
 | (with_reducible apply go_ld1 h)
 | ((with_reducible first | apply go_ldA h | apply go_rd h | apply go_rdN h | apply go_rlen h); rfl)
 | (with_reducible first | apply go_ldN h | apply go_lenL h)
 | ((with_reducible apply go_st h); intro _ h)
 | ((with_reducible apply go_stA h); rfl; rfl; (first | rfl | simp [OneV.o]); intro _ h)
 | ((with_reducible apply go_stN h); rfl; (first | rfl | simp [OneV.o]); intro _ h)
 | ((with_reducible apply go_box h); rfl; intro _ _ h)
 | ((with_reducible apply go_ix h); omega)
 | ((with_reducible first | apply go_elN h | apply go_f1 h | apply go_rf1 h | apply go_rel h); (case hi => omega); (try case hx => exact inferInstance); (try case hv => rfl))
 | ((with_reducible apply go_fa h); omega; omega)
))
    exact no h (by rw [e1, e2, e3]; rfl)
  cases e4 : decide (a.key = b.key)
  · (repeat (first
 | (simp (disch := omega) only [evA, evB, evC, bAdd_i64, bSub_i64, e2, e3, e4])
 | (with_reducible apply go_ld1 h)
 | ((with_reducible first | apply go_ldA h | apply go_rd h | apply go_rdN h | apply go_rlen h); rfl)
 | (with_reducible first | apply go_ldN h | apply go_lenL h)
 | ((with_reducible apply go_st h); intro _ h)
 | ((with_reducible apply go_stA h); rfl; rfl; (first | rfl | simp [OneV.o]); intro _ h)
 | ((with_reducible apply go_stN h); rfl; (first | rfl | simp [OneV.o]); intro _ h)
 | ((with_reducible apply go_box h); rfl; intro _ _ h)
 | ((with_reducible apply go_ix h); omega)
 | ((with_reducible first | apply go_elN h | apply go_f1 h | apply go_rf1 h | apply go_rel h); (case hi => omega); (try case hx => exact inferInstance); (try case hv => rfl))
 | ((with_reducible apply go_fa h); omega; omega)
))
    exact no h (by rw [e1, e2, e3, e4]; rfl)
  cases e5 : decide (a.at' = b.at')
  · (repeat (first
 | (simp (disch := omega) only [evA, evB, evC, bAdd_i64, bSub_i64, e2, e3, e4, e5])
 | (with_reducible apply go_ld1 h)
 | ((with_reducible first | apply go_ldA h | apply go_rd h | apply go_rdN h | apply go_rlen h); rfl)
 | (with_reducible first | apply go_ldN h | apply go_lenL h)
 | ((with_reducible apply go_st h); intro _ h)
 | ((with_reducible apply go_stA h); rfl; rfl; (first | rfl | simp [OneV.o]); intro _ h)
 | ((with_reducible apply go_stN h); rfl; (first | rfl | simp [OneV.o]); intro _ h)
 | ((with_reducible apply go_box h); rfl; intro _ _ h)
 | ((with_reducible apply go_ix h); omega)
 | ((with_reducible first | apply go_elN h | apply go_f1 h | apply go_rf1 h | apply go_rel h); (case hi => omega); (try case hx => exact inferInstance); (try case hv => rfl))
 | ((with_reducible apply go_fa h); omega; omega)
))
    exact no h (by rw [e1, e2, e3, e4, e5]; rfl)
  (repeat (first
 | (simp (disch := omega) only [evA, evB, evC, bAdd_i64, bSub_i64, e2, e3, e4, e5])
 | (with_reducible apply go_ld1 h)
 | ((with_reducible first | apply go_ldA h | apply go_rd h | apply go_rdN h | apply go_rlen h); rfl)
 | (with_reducible first | apply go_ldN h | apply go_lenL h)
 | ((with_reducible apply go_st h); intro _ h)
 | ((with_reducible apply go_stA h); rfl; rfl; (first | rfl | simp [OneV.o]); intro _ h)
 | ((with_reducible apply go_stN h); rfl; (first | rfl | simp [OneV.o]); intro _ h)
 | ((with_reducible apply go_box h); rfl; intro _ _ h)
 | ((with_reducible apply go_ix h); omega)
 | ((with_reducible first | apply go_elN h | apply go_f1 h | apply go_rf1 h | apply go_rel h); (case hi => omega); (try case hx => exact inferInstance); (try case hv => rfl))
 | ((with_reducible apply go_fa h); omega; omega)
))
  refine go_some (neE _ _ a.e b.e) ?_
  cases e6 : decide (a.e = b.e)
  · (repeat (first
 | (simp (disch := omega) only [evA, evB, evC, bAdd_i64, bSub_i64])
 | (with_reducible apply go_ld1 h)
 | ((with_reducible first | apply go_ldA h | apply go_rd h | apply go_rdN h | apply go_rlen h); rfl)
 | (with_reducible first | apply go_ldN h | apply go_lenL h)
 | ((with_reducible apply go_st h); intro _ h)
 | ((with_reducible apply go_stA h); rfl; rfl; (first | rfl | simp [OneV.o]); intro _ h)
 | ((with_reducible apply go_stN h); rfl; (first | rfl | simp [OneV.o]); intro _ h)
 | ((with_reducible apply go_box h); rfl; intro _ _ h)
 | ((with_reducible apply go_ix h); omega)
 | ((with_reducible first | apply go_elN h | apply go_f1 h | apply go_rf1 h | apply go_rel h); (case hi => omega); (try case hx => exact inferInstance); (try case hv => rfl))
 | ((with_reducible apply go_fa h); omega; omega)
))
    exact no h (by rw [e1, e2, e3, e4, e5, e6]; rfl)
  rw [e1, e2, e3, e4, e5, e6] at hK
  simp only [Bool.true_and] at hK
  have l1 := (hr _ h.drop.drop).len
  have l2 := (hr' _ h.drop.drop).len
  by_cases g : a.times.length = b.times.length
  · have g' : decide ((a.times.length : Int) = (b.times.length : Int)) = true := by simp; omega
    (repeat (first
 | (simp (disch := omega) only [evA, evB, evC, bAdd_i64, bSub_i64, l1, l2, g'])
 | (with_reducible apply go_ld1 h)
 | ((with_reducible first | apply go_ldA h | apply go_rd h | apply go_rdN h | apply go_rlen h); rfl)
 | (with_reducible first | apply go_ldN h | apply go_lenL h)
 | ((with_reducible apply go_st h); intro _ h)
 | ((with_reducible apply go_stA h); rfl; rfl; (first | rfl | simp [OneV.o]); intro _ h)
 | ((with_reducible apply go_stN h); rfl; (first | rfl | simp [OneV.o]); intro _ h)
 | ((with_reducible apply go_box h); rfl; intro _ _ h)
 | ((with_reducible apply go_ix h); omega)
 | ((with_reducible first | apply go_elN h | apply go_f1 h | apply go_rf1 h | apply go_rel h); (case hi => omega); (try case hx => exact inferInstance); (try case hv => rfl))
 | ((with_reducible apply go_fa h); omega; omega)
))
    exact fsame_loop hl g hr hr' hK fuel 0 _ (by have : fuel = 4611686018427387904 := rfl; omega) (by omega) rfl h
  · have g' : decide ((a.times.length : Int) = (b.times.length : Int)) = false := by simp; omega
    (repeat (first
 | (simp (disch := omega) only [evA, evB, evC, bAdd_i64, bSub_i64, l1, l2, g'])
 | (with_reducible apply go_ld1 h)
 | ((with_reducible first | apply go_ldA h | apply go_rd h | apply go_rdN h | apply go_rlen h); rfl)
 | (with_reducible first | apply go_ldN h | apply go_lenL h)
 | ((with_reducible apply go_st h); intro _ h)
 | ((with_reducible apply go_stA h); rfl; rfl; (first | rfl | simp [OneV.o]); intro _ h)
 | ((with_reducible apply go_stN h); rfl; (first | rfl | simp [OneV.o]); intro _ h)
 | ((with_reducible apply go_box h); rfl; intro _ _ h)
 | ((with_reducible apply go_ix h); omega)
 | ((with_reducible first | apply go_elN h | apply go_f1 h | apply go_rf1 h | apply go_rel h); (case hi => omega); (try case hx => exact inferInstance); (try case hv => rfl))
 | ((with_reducible apply go_fa h); omega; omega)
))
    exact no h (by rw [e1, e2, e3, e4, e5, e6, decide_eq_false (fun e => g (by rw [e]))]; rfl)
end
end Go.Proofs.Gong

/- Ho3 -/
namespace Go.Proofs.Gong
open Go Go.Sx Go.Proofs
set_option maxRecDepth 100000
abbrev kH (n : Int) : Value := .int .i64 n
theorem eqvSgn (a d : Int) (b c e f : ByteArray) : eqv Tryz.prog Op.maxDepth 74 (.agg #[.int .i64 a, .string b, .string c]) (.agg #[.int .i64 d, .string e, .string f]) = andO (some (a == d)) (andO (some (sEq b e)) (andO (some (sEq c f)) (some true))) := by kernel_rfl
theorem KSgn : KeyT Tryz.prog 74 sgnV where
  u := by kernel_rfl
  ck := fun k => by kernel_rfl
  eq := fun a b => by
    unfold sgnV cSgn
    rw [eqvSgn]
    simp only [andO_some, Option.some.injEq]
    rw [Bool.eq_iff_iff]
    obtain ⟨a1, a2, a3⟩ := a
    obtain ⟨b1, b2, b3⟩ := b
    simp [sEq_eq]
  sb := fun a => by
    unfold sgnV cSgn
    simp [Instr.sameBits]
theorem KIh : KeyT Tryz.prog 3 kH := KeyT.int (by kernel_rfl)
attribute [local irreducible] fBuild fLook fZero eqv bEqv Cl MapH LsH SlH ld1 ldN st callP eBox eAlloc lenM lenL eMapSet eDelete eAppend eBuildSl eRange eNext
abbrev Held := List (Int × (Ctx × Value))
abbrev ctxE (x : Ctx × Value) : Value := ctxV x.1 x.2
def heldP (x : Int × (Ctx × Value)) : HP := LsH cI 1 3 x.2.2 x.2.1.times
def bag (m : Held) : HP := HS (m.map heldP)
def HoldI (v : Value) (n next hn : Int) (m : Held) (I : List (Sgn × Int)) (M : List It) : HP := HEx fun p => HEx fun dp => HEx fun ml => HEx fun mi =>
  HPr (v = ptr p) (HS [Cl p #[dp, .int .i64 n, .int .i64 next, ml, mi] 71, HeapH dp hn M, MapH kH ctxE ml m, MapH sgnV kH mi I, bag m])
theorem _root_.Go.Sx.Sat.subp {w0 w : World} {L L' D : List HP} (h : Sat w0 L w) (p : (D ++ L').Perm L) : Sat w0 L' w := Sat.drops (h.perm p.symm)
section
variable {w0 w : World} {L : List HP} {K : Value → World → Prop} {v : Value} {n next hn : Int} {m : Held} {I : List (Sgn × Int)} {M : List It} {c : Ctx} {tv : Value}
theorem hold_iff : Sat w0 (HoldI v n next hn m I M :: L) w ↔ ∃ p dp ml mi, v = ptr p ∧ Sat w0 (Cl p #[dp, .int .i64 n, .int .i64 next, ml, mi] 71 :: HeapH dp hn M :: MapH kH ctxE ml m :: MapH sgnV kH mi I :: bag m :: L) w := by
  simp only [HoldI, Sat.ex_iff, Sat.pr_iff, Sat.hs_iff, List.cons_append, List.nil_append]
theorem bag_iff : Sat w0 (bag m :: L) w ↔ Sat w0 (m.map heldP ++ L) w := Sat.hs_iff
theorem bag_set {k : Int} {s : Value} (h : Sat w0 (LsH cI 1 3 s c.times :: bag m :: L) w) : Sat w0 (bag (aSet k (c, s) m) :: L) w := by
  have h1 := bag_iff.1 h.f1
  have key : ∀ m : Held, ∃ D, (D ++ (aSet k (c, s) m).map heldP).Perm (heldP (k, (c, s)) :: m.map heldP) := by
    intro m
    induction m with
    | nil => exact ⟨[], by simp [aSet]⟩
    | cons y r ih =>
      by_cases e : k = y.1
      · refine ⟨[heldP y], ?_⟩
        simp only [aSet, if_pos e, List.map_cons, List.cons_append, List.nil_append]
        exact .swap _ _ _
      · obtain ⟨D, hD⟩ := ih
        refine ⟨D, ?_⟩
        simp only [aSet, if_neg e, List.map_cons]
        exact List.perm_middle.trans ((hD.cons _).trans (.swap _ _ _))
  obtain ⟨D, hD⟩ := key m
  have h2 : Sat w0 (heldP (k, (c, s)) :: (m.map heldP ++ L)) w := h1.perm List.perm_middle
  refine bag_iff.2 (h2.subp (D := D) ?_)
  rw [← List.append_assoc, ← List.cons_append]
  exact hD.append_right L
theorem own_spec (hl : c.times.length ≤ 1073741824) (hr : RdL w0 L cI 1 tv c.times) (h : Sat w0 L w) (hK : ∀ s w', Sat w0 (LsH cI 1 3 s c.times :: L) w' → K (ctxV c s) w') : callP G43 [ctxV c tv] w K := by
  refine c43 ?_
  unfold F43
  have zc : fZero Tryz.prog 36 = some (ctxV ⟨0, 0, [], [], 0, ⟨[], [], [], 0, []⟩, []⟩ (.slice none 0 0)) := z36
  (repeat (first
 | (simp (disch := omega) only [evA, evB, evC, bAdd_i64, bSub_i64])
 | (with_reducible apply go_ld1 h)
 | ((with_reducible first | apply go_ldA h | apply go_rd h | apply go_rdN h | apply go_rlen h); rfl)
 | (with_reducible first | apply go_ldN h | apply go_lenL h)
 | ((with_reducible apply go_st h); intro _ h)
 | ((with_reducible apply go_stA h); rfl; rfl; (first | rfl | simp [OneV.o]); intro _ h)
 | ((with_reducible apply go_stN h); rfl; (first | rfl | simp [OneV.o]); intro _ h)
 | ((with_reducible apply go_box h); rfl; intro _ _ h)
 | ((with_reducible apply go_ix h); omega)
 | ((with_reducible first | apply go_elN h | apply go_f1 h | apply go_rf1 h | apply go_rel h); (case hi => omega); (try case hx => exact inferInstance); (try case hv => rfl))
 | ((with_reducible apply go_fa h); omega; omega)
))
  refine go_alloc h zc rfl fun _ _ h => ?_
  (repeat (first
 | (simp (disch := omega) only [evA, evB, evC, bAdd_i64, bSub_i64])
 | (with_reducible apply go_ld1 h)
 | ((with_reducible first | apply go_ldA h | apply go_rd h | apply go_rdN h | apply go_rlen h); rfl)
 | (with_reducible first | apply go_ldN h | apply go_lenL h)
 | ((with_reducible apply go_st h); intro _ h)
 | ((with_reducible apply go_stA h); rfl; rfl; (first | rfl | simp [OneV.o]); intro _ h)
 | ((with_reducible apply go_stN h); rfl; (first | rfl | simp [OneV.o]); intro _ h)
 | ((with_reducible apply go_box h); rfl; intro _ _ h)
 | ((with_reducible apply go_ix h); omega)
 | ((with_reducible first | apply go_elN h | apply go_f1 h | apply go_rf1 h | apply go_rel h); (case hi => omega); (try case hx => exact inferInstance); (try case hv => rfl))
 | ((with_reducible apply go_fa h); omega; omega)
))
  refine clI_spec (l := c.times) hl hr.cons.cons h fun s w h => ?_
  have := ls_one h
  (repeat (first
 | (simp (disch := omega) only [evA, evB, evC, bAdd_i64, bSub_i64])
 | (with_reducible apply go_ld1 h)
 | ((with_reducible first | apply go_ldA h | apply go_rd h | apply go_rdN h | apply go_rlen h); rfl)
 | (with_reducible first | apply go_ldN h | apply go_lenL h)
 | ((with_reducible apply go_st h); intro _ h)
 | ((with_reducible apply go_stA h); rfl; rfl; (first | rfl | simp [OneV.o]); intro _ h)
 | ((with_reducible apply go_stN h); rfl; (first | rfl | simp [OneV.o]); intro _ h)
 | ((with_reducible apply go_box h); rfl; intro _ _ h)
 | ((with_reducible apply go_ix h); omega)
 | ((with_reducible first | apply go_elN h | apply go_f1 h | apply go_rf1 h | apply go_rel h); (case hi => omega); (try case hx => exact inferInstance); (try case hv => rfl))
 | ((with_reducible apply go_fa h); omega; omega)
))
  exact hK s _ (h.got)
theorem until_spec {dp : Value} (h : Sat w0 (HeapH dp hn M :: L) w) (hK : ∀ w', Sat w0 (HeapH dp hn (setR hn c.id c.at' M).2 :: L) w' → K (.tuple #[]) w') : callP G50 [.agg #[dp], ctxV c tv] w K := by
  refine c50 ?_
  unfold F50
  obtain ⟨d, rfl⟩ := heap_ptr h
  (repeat (first
 | (simp (disch := omega) only [evA, evB, evC, bAdd_i64, bSub_i64])
 | (with_reducible apply go_ld1 h)
 | ((with_reducible first | apply go_ldA h | apply go_rd h | apply go_rdN h | apply go_rlen h); rfl)
 | (with_reducible first | apply go_ldN h | apply go_lenL h)
 | ((with_reducible apply go_st h); intro _ h)
 | ((with_reducible apply go_stA h); rfl; rfl; (first | rfl | simp [OneV.o]); intro _ h)
 | ((with_reducible apply go_stN h); rfl; (first | rfl | simp [OneV.o]); intro _ h)
 | ((with_reducible apply go_box h); rfl; intro _ _ h)
 | ((with_reducible apply go_ix h); omega)
 | ((with_reducible first | apply go_elN h | apply go_f1 h | apply go_rf1 h | apply go_rel h); (case hi => omega); (try case hx => exact inferInstance); (try case hv => rfl))
 | ((with_reducible apply go_fa h); omega; omega)
))
  refine set_spec (M := M) (n := hn) (h.frt) fun w h => ?_
  exact hK _ (h.got)
theorem hput_spec (hl : c.times.length ≤ 1073741824) (hr : RdL w0 L cI 1 tv c.times) (h : Sat w0 (HoldI v n next hn m I M :: L) w)
    (hK : ∀ s w', Sat w0 (HoldI v n next hn (aSet c.id (c, s) m) (aSet (sgnOf c) c.id I) (setR hn c.id c.at' M).2 :: L) w' → K (.tuple #[]) w') : callP G35 [v, ctxV c tv] w K := by
  refine c35 ?_
  unfold F35
  replace h := hold_iff.1 h
  obtain ⟨p, dp, ml, mi, rfl, h⟩ := h
  have := map_one (h.frt (A := MapH kH ctxE ml m))
  have := map_one (h.frt (A := MapH sgnV kH mi I))
  (repeat (first
 | (simp (disch := omega) only [evA, evB, evC, bAdd_i64, bSub_i64])
 | (with_reducible apply go_ld1 h)
 | ((with_reducible first | apply go_ldA h | apply go_rd h | apply go_rdN h | apply go_rlen h); rfl)
 | (with_reducible first | apply go_ldN h | apply go_lenL h)
 | ((with_reducible apply go_st h); intro _ h)
 | ((with_reducible apply go_stA h); rfl; rfl; (first | rfl | simp [OneV.o]); intro _ h)
 | ((with_reducible apply go_stN h); rfl; (first | rfl | simp [OneV.o]); intro _ h)
 | ((with_reducible apply go_box h); rfl; intro _ _ h)
 | ((with_reducible apply go_ix h); omega)
 | ((with_reducible first | apply go_elN h | apply go_f1 h | apply go_rf1 h | apply go_rel h); (case hi => omega); (try case hx => exact inferInstance); (try case hv => rfl))
 | ((with_reducible apply go_fa h); omega; omega)
))
  refine own_spec (c := c) hl (hr.got) h.drew fun s w h => ?_
  (repeat (first
 | (simp (disch := omega) only [evA, evB, evC, bAdd_i64, bSub_i64])
 | (with_reducible apply go_ld1 h)
 | ((with_reducible first | apply go_ldA h | apply go_rd h | apply go_rdN h | apply go_rlen h); rfl)
 | (with_reducible first | apply go_ldN h | apply go_lenL h)
 | ((with_reducible apply go_st h); intro _ h)
 | ((with_reducible apply go_stA h); rfl; rfl; (first | rfl | simp [OneV.o]); intro _ h)
 | ((with_reducible apply go_stN h); rfl; (first | rfl | simp [OneV.o]); intro _ h)
 | ((with_reducible apply go_box h); rfl; intro _ _ h)
 | ((with_reducible apply go_ix h); omega)
 | ((with_reducible first | apply go_elN h | apply go_f1 h | apply go_rf1 h | apply go_rel h); (case hi => omega); (try case hx => exact inferInstance); (try case hv => rfl))
 | ((with_reducible apply go_fa h); omega; omega)
))
  refine eMapSet_sat (h.frt) KIh um68 c.id (c, s) fun w h => ?_
  (repeat (first
 | (simp (disch := omega) only [evA, evB, evC, bAdd_i64, bSub_i64])
 | (with_reducible apply go_ld1 h)
 | ((with_reducible first | apply go_ldA h | apply go_rd h | apply go_rdN h | apply go_rlen h); rfl)
 | (with_reducible first | apply go_ldN h | apply go_lenL h)
 | ((with_reducible apply go_st h); intro _ h)
 | ((with_reducible apply go_stA h); rfl; rfl; (first | rfl | simp [OneV.o]); intro _ h)
 | ((with_reducible apply go_stN h); rfl; (first | rfl | simp [OneV.o]); intro _ h)
 | ((with_reducible apply go_box h); rfl; intro _ _ h)
 | ((with_reducible apply go_ix h); omega)
 | ((with_reducible first | apply go_elN h | apply go_f1 h | apply go_rf1 h | apply go_rel h); (case hi => omega); (try case hx => exact inferInstance); (try case hv => rfl))
 | ((with_reducible apply go_fa h); omega; omega)
))
  refine hof_spec (a := c) h.drew fun w h => ?_
  (repeat (first
 | (simp (disch := omega) only [evA, evB, evC, bAdd_i64, bSub_i64])
 | (with_reducible apply go_ld1 h)
 | ((with_reducible first | apply go_ldA h | apply go_rd h | apply go_rdN h | apply go_rlen h); rfl)
 | (with_reducible first | apply go_ldN h | apply go_lenL h)
 | ((with_reducible apply go_st h); intro _ h)
 | ((with_reducible apply go_stA h); rfl; rfl; (first | rfl | simp [OneV.o]); intro _ h)
 | ((with_reducible apply go_stN h); rfl; (first | rfl | simp [OneV.o]); intro _ h)
 | ((with_reducible apply go_box h); rfl; intro _ _ h)
 | ((with_reducible apply go_ix h); omega)
 | ((with_reducible first | apply go_elN h | apply go_f1 h | apply go_rf1 h | apply go_rel h); (case hi => omega); (try case hx => exact inferInstance); (try case hv => rfl))
 | ((with_reducible apply go_fa h); omega; omega)
))
  refine eMapSet_sat (h.frt) KSgn um69 (sgnOf c) c.id fun w h => ?_
  (repeat (first
 | (simp (disch := omega) only [evA, evB, evC, bAdd_i64, bSub_i64])
 | (with_reducible apply go_ld1 h)
 | ((with_reducible first | apply go_ldA h | apply go_rd h | apply go_rdN h | apply go_rlen h); rfl)
 | (with_reducible first | apply go_ldN h | apply go_lenL h)
 | ((with_reducible apply go_st h); intro _ h)
 | ((with_reducible apply go_stA h); rfl; rfl; (first | rfl | simp [OneV.o]); intro _ h)
 | ((with_reducible apply go_stN h); rfl; (first | rfl | simp [OneV.o]); intro _ h)
 | ((with_reducible apply go_box h); rfl; intro _ _ h)
 | ((with_reducible apply go_ix h); omega)
 | ((with_reducible first | apply go_elN h | apply go_f1 h | apply go_rf1 h | apply go_rel h); (case hi => omega); (try case hx => exact inferInstance); (try case hv => rfl))
 | ((with_reducible apply go_fa h); omega; omega)
))
  refine until_spec (c := c) (M := M) (hn := hn) (h.drew.frt) fun w h => ?_
  (repeat (first
 | (simp (disch := omega) only [evA, evB, evC, bAdd_i64, bSub_i64])
 | (with_reducible apply go_ld1 h)
 | ((with_reducible first | apply go_ldA h | apply go_rd h | apply go_rdN h | apply go_rlen h); rfl)
 | (with_reducible first | apply go_ldN h | apply go_lenL h)
 | ((with_reducible apply go_st h); intro _ h)
 | ((with_reducible apply go_stA h); rfl; rfl; (first | rfl | simp [OneV.o]); intro _ h)
 | ((with_reducible apply go_stN h); rfl; (first | rfl | simp [OneV.o]); intro _ h)
 | ((with_reducible apply go_box h); rfl; intro _ _ h)
 | ((with_reducible apply go_ix h); omega)
 | ((with_reducible first | apply go_elN h | apply go_f1 h | apply go_rf1 h | apply go_rel h); (case hi => omega); (try case hx => exact inferInstance); (try case hv => rfl))
 | ((with_reducible apply go_fa h); omega; omega)
))
  refine hK s _ (hold_iff.2 ⟨p, dp, ml, mi, rfl, ?_⟩)
  have h2 : Sat w0 (LsH cI 1 3 s c.times :: bag m :: Cl p #[dp, .int .i64 n, .int .i64 next, ml, mi] 71 :: HeapH dp hn (setR hn c.id c.at' M).2 :: MapH kH ctxE ml (aSet c.id (c, s) m) :: MapH sgnV kH mi (aSet (sgnOf c) c.id I) :: L) w := h.got
  exact (bag_set h2).got
def addC (n : Int) (m : Held) (I : List (Sgn × Int)) (c : Ctx) : Int := if okC c = false then 4 else if (aGet (sgnOf c) I).isSome = true then 6 else if n ≤ (m.length : Int) then 200 else 0
theorem okC_id (c : Ctx) (i : Int) : okC { c with id := i } = okC c := rfl
theorem hadd_spec (hf : c.fits) (hn0 : 0 ≤ next ∧ next ≤ 4611686018427387904) (hr : RdL w0 L cI 1 tv c.times) (h : Sat w0 (HoldI v n next hn m I M :: L) w)
    (hK0 : addC n m I c ≠ 0 → ∀ w', Sat w0 (HoldI v n next hn m I M :: L) w' → K (.tuple #[.int .i64 0, .int .i64 (addC n m I c)]) w')
    (hK1 : addC n m I c = 0 → ∀ s w', Sat w0 (HoldI v n (next + 1) hn (aSet next ({ c with id := next }, s) m) (aSet (sgnOf c) next I) (setR hn next c.at' M).2 :: L) w' → K (.tuple #[.int .i64 next, .int .i64 0]) w') : callP G11 [v, ctxV c tv] w K := by
  refine c11 ?_
  unfold F11
  replace h := hold_iff.1 h
  obtain ⟨p, dp, ml, mi, rfl, h⟩ := h
  have close : ∀ {w : World} {L' : List HP}, Sat w0 L' w → Get L' (Cl p #[dp, .int .i64 n, .int .i64 next, ml, mi] 71 :: HeapH dp hn M :: MapH kH ctxE ml m :: MapH sgnV kH mi I :: bag m :: L) → Sat w0 (HoldI (ptr p) n next hn m I M :: L) w := fun h g => hold_iff.2 ⟨p, dp, ml, mi, rfl, h.get g⟩
  have := map_one (h.frt (A := MapH kH ctxE ml m))
  have := map_one (h.frt (A := MapH sgnV kH mi I))
  (repeat (first
 | (simp (disch := omega) only [evA, evB, evC, bAdd_i64, bSub_i64])
 | (with_reducible apply go_ld1 h)
 | ((with_reducible first | apply go_ldA h | apply go_rd h | apply go_rdN h | apply go_rlen h); rfl)
 | (with_reducible first | apply go_ldN h | apply go_lenL h)
 | ((with_reducible apply go_st h); intro _ h)
 | ((with_reducible apply go_stA h); rfl; rfl; (first | rfl | simp [OneV.o]); intro _ h)
 | ((with_reducible apply go_stN h); rfl; (first | rfl | simp [OneV.o]); intro _ h)
 | ((with_reducible apply go_box h); rfl; intro _ _ h)
 | ((with_reducible apply go_ix h); omega)
 | ((with_reducible first | apply go_elN h | apply go_f1 h | apply go_rf1 h | apply go_rel h); (case hi => omega); (try case hx => exact inferInstance); (try case hv => rfl))
 | ((with_reducible apply go_fa h); omega; omega)
))
  refine hof_spec (a := c) h.drew fun w h => ?_
  (repeat (first
 | (simp (disch := omega) only [evA, evB, evC, bAdd_i64, bSub_i64])
 | (with_reducible apply go_ld1 h)
 | ((with_reducible first | apply go_ldA h | apply go_rd h | apply go_rdN h | apply go_rlen h); rfl)
 | (with_reducible first | apply go_ldN h | apply go_lenL h)
 | ((with_reducible apply go_st h); intro _ h)
 | ((with_reducible apply go_stA h); rfl; rfl; (first | rfl | simp [OneV.o]); intro _ h)
 | ((with_reducible apply go_stN h); rfl; (first | rfl | simp [OneV.o]); intro _ h)
 | ((with_reducible apply go_box h); rfl; intro _ _ h)
 | ((with_reducible apply go_ix h); omega)
 | ((with_reducible first | apply go_elN h | apply go_f1 h | apply go_rf1 h | apply go_rel h); (case hi => omega); (try case hx => exact inferInstance); (try case hv => rfl))
 | ((with_reducible apply go_fa h); omega; omega)
))
  refine go_look2 h (by repeat (first | exact .here | apply Fnt.there)) KSgn um69 z3 (sgnOf c) ?_
  (repeat (first
 | (simp (disch := omega) only [evA, evB, evC, bAdd_i64, bSub_i64])
 | (with_reducible apply go_ld1 h)
 | ((with_reducible first | apply go_ldA h | apply go_rd h | apply go_rdN h | apply go_rlen h); rfl)
 | (with_reducible first | apply go_ldN h | apply go_lenL h)
 | ((with_reducible apply go_st h); intro _ h)
 | ((with_reducible apply go_stA h); rfl; rfl; (first | rfl | simp [OneV.o]); intro _ h)
 | ((with_reducible apply go_stN h); rfl; (first | rfl | simp [OneV.o]); intro _ h)
 | ((with_reducible apply go_box h); rfl; intro _ _ h)
 | ((with_reducible apply go_ix h); omega)
 | ((with_reducible first | apply go_elN h | apply go_f1 h | apply go_rf1 h | apply go_rel h); (case hi => omega); (try case hx => exact inferInstance); (try case hv => rfl))
 | ((with_reducible apply go_fa h); omega; omega)
))
  refine hcheck_spec (c := c) hf (hr.got) h fun w h => ?_
  unfold chkC
  unfold addC at hK0 hK1
  cases g1 : okC c
  · rw [g1] at hK0
    have d4 : decide ((4 : Int) = 0) = false := by decide
    (repeat (first
 | (simp (disch := omega) only [evA, evB, evC, bAdd_i64, bSub_i64, Bool.false_eq_true, if_false, d4])
 | (with_reducible apply go_ld1 h)
 | ((with_reducible first | apply go_ldA h | apply go_rd h | apply go_rdN h | apply go_rlen h); rfl)
 | (with_reducible first | apply go_ldN h | apply go_lenL h)
 | ((with_reducible apply go_st h); intro _ h)
 | ((with_reducible apply go_stA h); rfl; rfl; (first | rfl | simp [OneV.o]); intro _ h)
 | ((with_reducible apply go_stN h); rfl; (first | rfl | simp [OneV.o]); intro _ h)
 | ((with_reducible apply go_box h); rfl; intro _ _ h)
 | ((with_reducible apply go_ix h); omega)
 | ((with_reducible first | apply go_elN h | apply go_f1 h | apply go_rf1 h | apply go_rel h); (case hi => omega); (try case hx => exact inferInstance); (try case hv => rfl))
 | ((with_reducible apply go_fa h); omega; omega)
))
    exact hK0 (by simp) _ (close h (by (repeat (first | exact .done | (refine .pick (by repeat (first | exact .here | apply Fnt.there)) ?_) | refine .skip ?_))))
  rw [g1] at hK0 hK1
  (repeat (first
 | (simp (disch := omega) only [evA, evB, evC, bAdd_i64, bSub_i64, if_true])
 | (with_reducible apply go_ld1 h)
 | ((with_reducible first | apply go_ldA h | apply go_rd h | apply go_rdN h | apply go_rlen h); rfl)
 | (with_reducible first | apply go_ldN h | apply go_lenL h)
 | ((with_reducible apply go_st h); intro _ h)
 | ((with_reducible apply go_stA h); rfl; rfl; (first | rfl | simp [OneV.o]); intro _ h)
 | ((with_reducible apply go_stN h); rfl; (first | rfl | simp [OneV.o]); intro _ h)
 | ((with_reducible apply go_box h); rfl; intro _ _ h)
 | ((with_reducible apply go_ix h); omega)
 | ((with_reducible first | apply go_elN h | apply go_f1 h | apply go_rf1 h | apply go_rel h); (case hi => omega); (try case hx => exact inferInstance); (try case hv => rfl))
 | ((with_reducible apply go_fa h); omega; omega)
))
  cases g2 : (aGet (sgnOf c) I).isSome
  · rw [g2] at hK0 hK1
    simp only [Bool.true_eq_false, Bool.false_eq_true, if_false] at hK0 hK1
    (repeat (first
 | (simp (disch := omega) only [evA, evB, evC, bAdd_i64, bSub_i64])
 | (with_reducible apply go_ld1 h)
 | ((with_reducible first | apply go_ldA h | apply go_rd h | apply go_rdN h | apply go_rlen h); rfl)
 | (with_reducible first | apply go_ldN h | apply go_lenL h)
 | ((with_reducible apply go_st h); intro _ h)
 | ((with_reducible apply go_stA h); rfl; rfl; (first | rfl | simp [OneV.o]); intro _ h)
 | ((with_reducible apply go_stN h); rfl; (first | rfl | simp [OneV.o]); intro _ h)
 | ((with_reducible apply go_box h); rfl; intro _ _ h)
 | ((with_reducible apply go_ix h); omega)
 | ((with_reducible first | apply go_elN h | apply go_f1 h | apply go_rf1 h | apply go_rel h); (case hi => omega); (try case hx => exact inferInstance); (try case hv => rfl))
 | ((with_reducible apply go_fa h); omega; omega)
))
    refine go_lenM h (by repeat (first | exact .here | apply Fnt.there)) ?_
    by_cases g3 : n ≤ (m.length : Int)
    · have g3' : decide ((m.length : Int) ≥ n) = true := by simpa using g3
      rw [if_pos g3] at hK0
      (repeat (first
 | (simp (disch := omega) only [evA, evB, evC, bAdd_i64, bSub_i64, g3'])
 | (with_reducible apply go_ld1 h)
 | ((with_reducible first | apply go_ldA h | apply go_rd h | apply go_rdN h | apply go_rlen h); rfl)
 | (with_reducible first | apply go_ldN h | apply go_lenL h)
 | ((with_reducible apply go_st h); intro _ h)
 | ((with_reducible apply go_stA h); rfl; rfl; (first | rfl | simp [OneV.o]); intro _ h)
 | ((with_reducible apply go_stN h); rfl; (first | rfl | simp [OneV.o]); intro _ h)
 | ((with_reducible apply go_box h); rfl; intro _ _ h)
 | ((with_reducible apply go_ix h); omega)
 | ((with_reducible first | apply go_elN h | apply go_f1 h | apply go_rf1 h | apply go_rel h); (case hi => omega); (try case hx => exact inferInstance); (try case hv => rfl))
 | ((with_reducible apply go_fa h); omega; omega)
))
      exact hK0 (by simp) _ (close h.drew (by (repeat (first | exact .done | (refine .pick (by repeat (first | exact .here | apply Fnt.there)) ?_) | refine .skip ?_))))
    · have g3' : decide ((m.length : Int) ≥ n) = false := by simpa using g3
      rw [if_neg g3] at hK1
      (repeat (first
 | (simp (disch := omega) only [evA, evB, evC, bAdd_i64, bSub_i64, g3'])
 | (with_reducible apply go_ld1 h)
 | ((with_reducible first | apply go_ldA h | apply go_rd h | apply go_rdN h | apply go_rlen h); rfl)
 | (with_reducible first | apply go_ldN h | apply go_lenL h)
 | ((with_reducible apply go_st h); intro _ h)
 | ((with_reducible apply go_stA h); rfl; rfl; (first | rfl | simp [OneV.o]); intro _ h)
 | ((with_reducible apply go_stN h); rfl; (first | rfl | simp [OneV.o]); intro _ h)
 | ((with_reducible apply go_box h); rfl; intro _ _ h)
 | ((with_reducible apply go_ix h); omega)
 | ((with_reducible first | apply go_elN h | apply go_f1 h | apply go_rf1 h | apply go_rel h); (case hi => omega); (try case hx => exact inferInstance); (try case hv => rfl))
 | ((with_reducible apply go_fa h); omega; omega)
))
      refine hput_spec (v := ptr p) (n := n) (next := next + 1) (hn := hn) (m := m) (I := I) (M := M) (c := { c with id := next }) (L := _ :: L) ?_ ?_ (hold_iff.2 ⟨p, dp, ml, mi, rfl, h.got⟩) fun s w h => ?_
      · have := hf.2.2.2; show c.times.length ≤ _; omega
      · exact hr.cons
      (repeat (first
 | (simp (disch := omega) only [evA, evB, evC, bAdd_i64, bSub_i64])
 | (with_reducible apply go_ld1 h)
 | ((with_reducible first | apply go_ldA h | apply go_rd h | apply go_rdN h | apply go_rlen h); rfl)
 | (with_reducible first | apply go_ldN h | apply go_lenL h)
 | ((with_reducible apply go_st h); intro _ h)
 | ((with_reducible apply go_stA h); rfl; rfl; (first | rfl | simp [OneV.o]); intro _ h)
 | ((with_reducible apply go_stN h); rfl; (first | rfl | simp [OneV.o]); intro _ h)
 | ((with_reducible apply go_box h); rfl; intro _ _ h)
 | ((with_reducible apply go_ix h); omega)
 | ((with_reducible first | apply go_elN h | apply go_f1 h | apply go_rf1 h | apply go_rel h); (case hi => omega); (try case hx => exact inferInstance); (try case hv => rfl))
 | ((with_reducible apply go_fa h); omega; omega)
))
      exact hK1 rfl s _ (h.got)
  · rw [g2] at hK0
    simp only [Bool.true_eq_false, if_true, if_false] at hK0
    (repeat (first
 | (simp (disch := omega) only [evA, evB, evC, bAdd_i64, bSub_i64])
 | (with_reducible apply go_ld1 h)
 | ((with_reducible first | apply go_ldA h | apply go_rd h | apply go_rdN h | apply go_rlen h); rfl)
 | (with_reducible first | apply go_ldN h | apply go_lenL h)
 | ((with_reducible apply go_st h); intro _ h)
 | ((with_reducible apply go_stA h); rfl; rfl; (first | rfl | simp [OneV.o]); intro _ h)
 | ((with_reducible apply go_stN h); rfl; (first | rfl | simp [OneV.o]); intro _ h)
 | ((with_reducible apply go_box h); rfl; intro _ _ h)
 | ((with_reducible apply go_ix h); omega)
 | ((with_reducible first | apply go_elN h | apply go_f1 h | apply go_rf1 h | apply go_rel h); (case hi => omega); (try case hx => exact inferInstance); (try case hv => rfl))
 | ((with_reducible apply go_fa h); omega; omega)
))
    exact hK0 (by simp) _ (close h (by (repeat (first | exact .done | (refine .pick (by repeat (first | exact .here | apply Fnt.there)) ?_) | refine .skip ?_))))
theorem hlen_spec (h : Sat w0 (HoldI v n next hn m I M :: L) w) (hK : K (.int .i64 m.length) w) : callP G12 [v] w K := by
  refine c12 ?_
  unfold F12
  replace h := hold_iff.1 h
  obtain ⟨p, dp, ml, mi, rfl, h⟩ := h
  (repeat (first
 | (simp (disch := omega) only [evA, evB, evC, bAdd_i64, bSub_i64])
 | (with_reducible apply go_ld1 h)
 | ((with_reducible first | apply go_ldA h | apply go_rd h | apply go_rdN h | apply go_rlen h); rfl)
 | (with_reducible first | apply go_ldN h | apply go_lenL h)
 | ((with_reducible apply go_st h); intro _ h)
 | ((with_reducible apply go_stA h); rfl; rfl; (first | rfl | simp [OneV.o]); intro _ h)
 | ((with_reducible apply go_stN h); rfl; (first | rfl | simp [OneV.o]); intro _ h)
 | ((with_reducible apply go_box h); rfl; intro _ _ h)
 | ((with_reducible apply go_ix h); omega)
 | ((with_reducible first | apply go_elN h | apply go_f1 h | apply go_rf1 h | apply go_rel h); (case hi => omega); (try case hx => exact inferInstance); (try case hv => rfl))
 | ((with_reducible apply go_fa h); omega; omega)
))
  refine go_lenM h (by repeat (first | exact .here | apply Fnt.there)) ?_
  exact hK
theorem hempty_spec (h1 : 1 ≤ n) (h2 : n ≤ 65536) (h : Sat w0 L w) (hK : ∀ p w', Sat w0 (HoldI (ptr p) n next n [] [] [] :: L) w' → K (ptr p) w') : callP G10 [.int .i64 n, .int .i64 next] w K := by
  refine c10 ?_
  unfold F10
  refine new_spec h (fun h => by omega) fun d w _ _ h => ?_
  (repeat (first
 | (simp (disch := omega) only [evA, evB, evC, bAdd_i64, bSub_i64])
 | (refine go_some (fb67_0 ..) ?_)
 | (with_reducible apply go_ld1 h)
 | ((with_reducible first | apply go_ldA h | apply go_rd h | apply go_rdN h | apply go_rlen h); rfl)
 | (with_reducible first | apply go_ldN h | apply go_lenL h)
 | ((with_reducible apply go_st h); intro _ h)
 | ((with_reducible apply go_stA h); rfl; rfl; (first | rfl | simp [OneV.o]); intro _ h)
 | ((with_reducible apply go_stN h); rfl; (first | rfl | simp [OneV.o]); intro _ h)
 | ((with_reducible apply go_box h); rfl; intro _ _ h)
 | ((with_reducible apply go_ix h); omega)
 | ((with_reducible first | apply go_elN h | apply go_f1 h | apply go_rf1 h | apply go_rel h); (case hi => omega); (try case hx => exact inferInstance); (try case hv => rfl))
 | ((with_reducible apply go_fa h); omega; omega)
))
  refine eMakeMap_sat kH ctxE h fun ml w h => ?_
  obtain ⟨r1, _, _, ⟨e1, _⟩, _⟩ := map_iff.1 h
  refine eMakeMap_sat sgnV kH h fun mi w h => ?_
  obtain ⟨r2, _, _, ⟨e2, _⟩, _⟩ := map_iff.1 h
  subst e1 e2
  have close : ∀ q w', Sat w0 (Cl q #[ptr d, .int .i64 n, .int .i64 next, .map (some r1), .map (some r2)] 71 :: MapH sgnV kH (.map (some r2)) [] :: MapH kH ctxE (.map (some r1)) [] :: HeapH (ptr d) n [] :: L) w' → Sat w0 (HoldI (ptr q) n next n [] [] [] :: L) w' := by
    intro q w' h
    have h3 : Sat w0 (bag [] :: _) w' := bag_iff.2 h
    exact hold_iff.2 ⟨q, ptr d, .map (some r1), .map (some r2), rfl, h3.got⟩
  (repeat (first
 | (simp (disch := omega) only [evA, evB, evC, bAdd_i64, bSub_i64])
 | (refine go_some (fb71_0_1_2_3_4 ..) ?_)
 | (with_reducible apply go_ld1 h)
 | ((with_reducible first | apply go_ldA h | apply go_rd h | apply go_rdN h | apply go_rlen h); rfl)
 | (with_reducible first | apply go_ldN h | apply go_lenL h)
 | ((with_reducible apply go_st h); intro _ h)
 | ((with_reducible apply go_stA h); rfl; rfl; (first | rfl | simp [OneV.o]); intro _ h)
 | ((with_reducible apply go_stN h); rfl; (first | rfl | simp [OneV.o]); intro _ h)
 | ((with_reducible apply go_box h); rfl; intro _ _ h)
 | ((with_reducible apply go_ix h); omega)
 | ((with_reducible first | apply go_elN h | apply go_f1 h | apply go_rf1 h | apply go_rel h); (case hi => omega); (try case hx => exact inferInstance); (try case hv => rfl))
 | ((with_reducible apply go_fa h); omega; omega)
))
  exact hK _ _ (close _ _ h)
theorem hnew_spec (h1 : 1 ≤ n) (h2 : n ≤ 65536) (h : Sat w0 L w) (hK : ∀ p w', Sat w0 (HoldI (ptr p) n 1 n [] [] [] :: L) w' → K (.tuple #[ptr p, .int .i64 0]) w') : callP G4 [.int .i64 n] w K := by
  refine c4 ?_
  unfold F4
  have e1 : decide (n < 1) = false := by simp; omega
  have e2 : decide (n > 65536) = false := by simp; omega
  (repeat (first
 | (simp (disch := omega) only [evA, evB, evC, bAdd_i64, bSub_i64, e1, e2])
 | (with_reducible apply go_ld1 h)
 | ((with_reducible first | apply go_ldA h | apply go_rd h | apply go_rdN h | apply go_rlen h); rfl)
 | (with_reducible first | apply go_ldN h | apply go_lenL h)
 | ((with_reducible apply go_st h); intro _ h)
 | ((with_reducible apply go_stA h); rfl; rfl; (first | rfl | simp [OneV.o]); intro _ h)
 | ((with_reducible apply go_stN h); rfl; (first | rfl | simp [OneV.o]); intro _ h)
 | ((with_reducible apply go_box h); rfl; intro _ _ h)
 | ((with_reducible apply go_ix h); omega)
 | ((with_reducible first | apply go_elN h | apply go_f1 h | apply go_rf1 h | apply go_rel h); (case hi => omega); (try case hx => exact inferInstance); (try case hv => rfl))
 | ((with_reducible apply go_fa h); omega; omega)
))
  exact hempty_spec h1 h2 h fun p w h => hK p w h
end
end Go.Proofs.Gong

/- Ho4 -/
namespace Go.Proofs.Gong
open Go Go.Sx Go.Proofs
set_option maxRecDepth 100000
attribute [local irreducible] fBuild fLook fZero eqv bEqv Cl MapH LsH SlH ld1 ldN st callP eBox eAlloc lenM lenL eMapSet eDelete eAppend eBuildSl eRange eNext
def ctxN (ch : UInt8) : Ctx := ⟨0, 0, [ch], [], 0, ⟨[], [], [], 0, []⟩, []⟩
theorem okN_a : okC (ctxN 97) = true := by decide +kernel
theorem okN_b : okC (ctxN 98) = true := by decide +kernel
theorem fitsN (ch : UInt8) : (ctxN ch).fits := by unfold Ctx.fits Evt.fits ctxN; simp
section
variable {w0 w : World} {L : List HP} {K : Value → World → Prop}
theorem rdNil {α : Type} {f : α → List Value} {es : Nat} : RdL w0 L f es (.slice none 0 0) ([] : List α) := fun _ _ => .emp _ _
theorem works21_spec (h : Sat w0 L w) (hK : ∀ w', Sat w0 L w' → K (.bool true) w') : callP G6 [] w K := by
  refine c6 ?_
  unfold F6
  refine hnew_spec (n := 9) (by omega) (by omega) h fun p w h => ?_
  (repeat (first
 | (simp (disch := omega) only [evA, evB, evC, bAdd_i64, bSub_i64])
 | (refine go_some (bEq_nilp up23 ..) ?_)
 | (refine go_some (fb36_2 ..) ?_)
 | (with_reducible apply go_ld1 h)
 | ((with_reducible first | apply go_ldA h | apply go_rd h | apply go_rdN h | apply go_rlen h); rfl)
 | (with_reducible first | apply go_ldN h | apply go_lenL h)
 | ((with_reducible apply go_st h); intro _ h)
 | ((with_reducible apply go_stA h); rfl; rfl; (first | rfl | simp [OneV.o]); intro _ h)
 | ((with_reducible apply go_stN h); rfl; (first | rfl | simp [OneV.o]); intro _ h)
 | ((with_reducible apply go_box h); rfl; intro _ _ h)
 | ((with_reducible apply go_ix h); omega)
 | ((with_reducible first | apply go_elN h | apply go_f1 h | apply go_rf1 h | apply go_rel h); (case hi => omega); (try case hx => exact inferInstance); (try case hv => rfl))
 | ((with_reducible apply go_fa h); omega; omega)
))
  have a1 : addC 9 [] [] (ctxN 97) = 0 := by unfold addC; rw [okN_a]; simp [aGet]
  refine hadd_spec (c := ctxN 97) (tv := .slice none 0 0) (n := 9) (next := 1) (hn := 9) (m := []) (I := []) (M := []) (fitsN 97) (by omega) rdNil h (fun hne => absurd a1 hne) fun _ s w h => ?_
  (repeat (first
 | (simp (disch := omega) only [evA, evB, evC, bAdd_i64, bSub_i64])
 | (refine go_some (fb36_2 ..) ?_)
 | (with_reducible apply go_ld1 h)
 | ((with_reducible first | apply go_ldA h | apply go_rd h | apply go_rdN h | apply go_rlen h); rfl)
 | (with_reducible first | apply go_ldN h | apply go_lenL h)
 | ((with_reducible apply go_st h); intro _ h)
 | ((with_reducible apply go_stA h); rfl; rfl; (first | rfl | simp [OneV.o]); intro _ h)
 | ((with_reducible apply go_stN h); rfl; (first | rfl | simp [OneV.o]); intro _ h)
 | ((with_reducible apply go_box h); rfl; intro _ _ h)
 | ((with_reducible apply go_ix h); omega)
 | ((with_reducible first | apply go_elN h | apply go_f1 h | apply go_rf1 h | apply go_rel h); (case hi => omega); (try case hx => exact inferInstance); (try case hv => rfl))
 | ((with_reducible apply go_fa h); omega; omega)
))
  have a2 : ∀ x, addC 9 (aSet 1 x []) (aSet (sgnOf (ctxN 97)) 1 []) (ctxN 98) = 0 := by
    intro x; unfold addC; rw [okN_b]; simp [aGet, aSet, sgnOf, ctxN]
  refine hadd_spec (c := ctxN 98) (tv := .slice none 0 0) (n := 9) (next := 2) (hn := 9) (fitsN 98) (by omega) rdNil h (fun hne => absurd (a2 _) hne) fun _ s2 w h => ?_
  (repeat (first
 | (simp (disch := omega) only [evA, evB, evC, bAdd_i64, bSub_i64])
 | (refine go_some (fb36_2 ..) ?_)
 | (with_reducible apply go_ld1 h)
 | ((with_reducible first | apply go_ldA h | apply go_rd h | apply go_rdN h | apply go_rlen h); rfl)
 | (with_reducible first | apply go_ldN h | apply go_lenL h)
 | ((with_reducible apply go_st h); intro _ h)
 | ((with_reducible apply go_stA h); rfl; rfl; (first | rfl | simp [OneV.o]); intro _ h)
 | ((with_reducible apply go_stN h); rfl; (first | rfl | simp [OneV.o]); intro _ h)
 | ((with_reducible apply go_box h); rfl; intro _ _ h)
 | ((with_reducible apply go_ix h); omega)
 | ((with_reducible first | apply go_elN h | apply go_f1 h | apply go_rf1 h | apply go_rel h); (case hi => omega); (try case hx => exact inferInstance); (try case hv => rfl))
 | ((with_reducible apply go_fa h); omega; omega)
))
  have a3 : ∀ x y, addC 9 (aSet 2 y (aSet 1 x [])) (aSet (sgnOf (ctxN 98)) 2 (aSet (sgnOf (ctxN 97)) 1 [])) (ctxN 97) = 6 := by
    intro x y; unfold addC; rw [okN_a]; simp [aGet, aSet, sgnOf, ctxN]
  refine hadd_spec (c := ctxN 97) (tv := .slice none 0 0) (n := 9) (next := 3) (hn := 9) (fitsN 97) (by omega) rdNil h (fun _ w h => ?_) (fun he => absurd (a3 _ _) (by rw [he]; decide))
  rw [a3]
  (repeat (first
 | (simp (disch := omega) only [evA, evB, evC, bAdd_i64, bSub_i64])
 | (with_reducible apply go_ld1 h)
 | ((with_reducible first | apply go_ldA h | apply go_rd h | apply go_rdN h | apply go_rlen h); rfl)
 | (with_reducible first | apply go_ldN h | apply go_lenL h)
 | ((with_reducible apply go_st h); intro _ h)
 | ((with_reducible apply go_stA h); rfl; rfl; (first | rfl | simp [OneV.o]); intro _ h)
 | ((with_reducible apply go_stN h); rfl; (first | rfl | simp [OneV.o]); intro _ h)
 | ((with_reducible apply go_box h); rfl; intro _ _ h)
 | ((with_reducible apply go_ix h); omega)
 | ((with_reducible first | apply go_elN h | apply go_f1 h | apply go_rf1 h | apply go_rel h); (case hi => omega); (try case hx => exact inferInstance); (try case hv => rfl))
 | ((with_reducible apply go_fa h); omega; omega)
))
  refine hlen_spec (n := 9) (next := 3) (hn := 9) h ?_
  have hlen : ∀ x y : Ctx × Value, ((aSet 2 y (aSet 1 x []) : Held).length : Int) = 2 := by intro x y; simp [aSet]
  (repeat (first
 | (simp (disch := omega) only [evA, evB, evC, bAdd_i64, bSub_i64, hlen])
 | (with_reducible apply go_ld1 h)
 | ((with_reducible first | apply go_ldA h | apply go_rd h | apply go_rdN h | apply go_rlen h); rfl)
 | (with_reducible first | apply go_ldN h | apply go_lenL h)
 | ((with_reducible apply go_st h); intro _ h)
 | ((with_reducible apply go_stA h); rfl; rfl; (first | rfl | simp [OneV.o]); intro _ h)
 | ((with_reducible apply go_stN h); rfl; (first | rfl | simp [OneV.o]); intro _ h)
 | ((with_reducible apply go_box h); rfl; intro _ _ h)
 | ((with_reducible apply go_ix h); omega)
 | ((with_reducible first | apply go_elN h | apply go_f1 h | apply go_rf1 h | apply go_rel h); (case hi => omega); (try case hx => exact inferInstance); (try case hv => rfl))
 | ((with_reducible apply go_fa h); omega; omega)
))
  exact hK _ h.drop
def smallC (c : Ctx) : Bool := decide ((c.node.length : Int) + c.key.length + c.e.node.length + c.e.cls.length + c.e.key.length + c.e.text.length < 3000) && decide ((c.times.length : Int) < 1100)
theorem small_spec {c : Ctx} {tv : Value} (hl : c.node.length ≤ 140737488351232 ∧ c.key.length ≤ 140737488351232 ∧ c.e.node.length ≤ 140737488351232 ∧ c.e.cls.length ≤ 140737488351232 ∧ c.e.key.length ≤ 140737488351232 ∧ c.e.text.length ≤ 140737488351232)
    (hr : RdL w0 L cI 1 tv c.times) (h : Sat w0 L w) (hK : ∀ w', Sat w0 L w' → K (.bool (smallC c)) w') : callP G7 [ctxV c tv] w K := by
  refine c7 ?_
  unfold F7
  have hlen := (hr _ h).len
  unfold smallC at hK
  (repeat (first
 | (simp (disch := omega) only [evA, evB, evC, bAdd_i64, bSub_i64])
 | (with_reducible apply go_ld1 h)
 | ((with_reducible first | apply go_ldA h | apply go_rd h | apply go_rdN h | apply go_rlen h); rfl)
 | (with_reducible first | apply go_ldN h | apply go_lenL h)
 | ((with_reducible apply go_st h); intro _ h)
 | ((with_reducible apply go_stA h); rfl; rfl; (first | rfl | simp [OneV.o]); intro _ h)
 | ((with_reducible apply go_stN h); rfl; (first | rfl | simp [OneV.o]); intro _ h)
 | ((with_reducible apply go_box h); rfl; intro _ _ h)
 | ((with_reducible apply go_ix h); omega)
 | ((with_reducible first | apply go_elN h | apply go_f1 h | apply go_rf1 h | apply go_rel h); (case hi => omega); (try case hx => exact inferInstance); (try case hv => rfl))
 | ((with_reducible apply go_fa h); omega; omega)
))
  have := hK _ (h.got)
  cases g : decide ((c.node.length : Int) + c.key.length + c.e.node.length + c.e.cls.length + c.e.key.length + c.e.text.length < 3000)
  · rw [g] at this
    (repeat (first
 | (simp (disch := omega) only [evA, evB, evC, bAdd_i64, bSub_i64])
 | (with_reducible apply go_ld1 h)
 | ((with_reducible first | apply go_ldA h | apply go_rd h | apply go_rdN h | apply go_rlen h); rfl)
 | (with_reducible first | apply go_ldN h | apply go_lenL h)
 | ((with_reducible apply go_st h); intro _ h)
 | ((with_reducible apply go_stA h); rfl; rfl; (first | rfl | simp [OneV.o]); intro _ h)
 | ((with_reducible apply go_stN h); rfl; (first | rfl | simp [OneV.o]); intro _ h)
 | ((with_reducible apply go_box h); rfl; intro _ _ h)
 | ((with_reducible apply go_ix h); omega)
 | ((with_reducible first | apply go_elN h | apply go_f1 h | apply go_rf1 h | apply go_rel h); (case hi => omega); (try case hx => exact inferInstance); (try case hv => rfl))
 | ((with_reducible apply go_fa h); omega; omega)
))
    exact this
  · rw [g] at this
    (repeat (first
 | (simp (disch := omega) only [evA, evB, evC, bAdd_i64, bSub_i64, hlen])
 | (with_reducible apply go_ld1 h)
 | ((with_reducible first | apply go_ldA h | apply go_rd h | apply go_rdN h | apply go_rlen h); rfl)
 | (with_reducible first | apply go_ldN h | apply go_lenL h)
 | ((with_reducible apply go_st h); intro _ h)
 | ((with_reducible apply go_stA h); rfl; rfl; (first | rfl | simp [OneV.o]); intro _ h)
 | ((with_reducible apply go_stN h); rfl; (first | rfl | simp [OneV.o]); intro _ h)
 | ((with_reducible apply go_box h); rfl; intro _ _ h)
 | ((with_reducible apply go_ix h); omega)
 | ((with_reducible first | apply go_elN h | apply go_f1 h | apply go_rf1 h | apply go_rel h); (case hi => omega); (try case hx => exact inferInstance); (try case hv => rfl))
 | ((with_reducible apply go_fa h); omega; omega)
))
    exact this
theorem small_fits {c : Ctx} (h : smallC c = true) : c.fits ∧ c.times.length ≤ 1073741824 := by
  unfold smallC at h
  simp only [Bool.and_eq_true, decide_eq_true_eq] at h
  unfold Ctx.fits Evt.fits
  omega
end
def ckCtx : List CK2 := [.int .i64, .int .i64, .str, .str, .int .i64, .str, .str, .str, .int .i64, .str, .sl 1 [.int .i64]]
theorem fit_int1 {W : World} {B : Nat} {c : List Value} (h : FitL2 W B [.int .i64] c) : ∃ n : Int, c = cI n ∧ True := by
  obtain ⟨n, vs, rfl, _, h2⟩ := fitL2_int h
  rw [fitL2_nil h2]; exact ⟨n, rfl, trivial⟩
theorem fit_ctx {W : World} {B : Nat} {cs : List Value} (h : FitL2 W B ckCtx cs) : ∃ (c : Ctx) (tv : Value), cs = cCtx c tv ∧ (c.node.length ≤ B ∧ c.key.length ≤ B ∧ c.e.node.length ≤ B ∧ c.e.cls.length ≤ B ∧ c.e.key.length ≤ B ∧ c.e.text.length ≤ B) ∧ Rd W 1 tv c.times.length (c.times.flatMap cI) := by
  unfold ckCtx at h
  obtain ⟨id, _, rfl, _, g0⟩ := fitL2_int h
  obtain ⟨wa, _, rfl, _, g1⟩ := fitL2_int g0
  obtain ⟨node, _, rfl, h1, g2⟩ := fitL2_str g1
  obtain ⟨key, _, rfl, h2, g3⟩ := fitL2_str g2
  obtain ⟨t, _, rfl, _, g4⟩ := fitL2_int g3
  obtain ⟨en, _, rfl, h3, g5⟩ := fitL2_str g4
  obtain ⟨ec, _, rfl, h4, g6⟩ := fitL2_str g5
  obtain ⟨ek, _, rfl, h5, g7⟩ := fitL2_str g6
  obtain ⟨el, _, rfl, _, g8⟩ := fitL2_int g7
  obtain ⟨et, _, rfl, h6, g9⟩ := fitL2_str g8
  obtain ⟨tv, _, rfl, ⟨n, ds, rd, hn, hd⟩, g10⟩ := fitL2_sl g9
  obtain rfl := fitL2_nil g10
  obtain ⟨l, rfl, rfl, _⟩ := fit_list2 (fun c h => fit_int1 h) n ds rd.length hd
  exact ⟨⟨id, wa, node, key, t, ⟨en, ec, ek, el, et⟩, l⟩, tv, rfl, ⟨h1, h2, h3, h4, h5, h6⟩, rd⟩
end Go.Proofs.Gong

/- Ho5 -/
namespace Go.Proofs.Gong
open Go Go.Sx Go.Proofs
set_option maxRecDepth 100000
structure HInv (n next hn : Int) (m : Held) (I : List (Sgn × Int)) (M : List It) (cs : List Ctx) : Prop where
  pm : (m.map fun x => x.2.1).Perm cs
  key : ∀ x ∈ m, x.1 = x.2.1.id
  asc : cs.Pairwise fun a b => a.id < b.id
  pI : I.Perm (cs.map fun c => (sgnOf c, c.id))
  sg : cs.Pairwise fun a b => sgnOf a ≠ sgnOf b
  pM : M.Perm (cs.map fun c => (c.id, c.at'))
  aM : Asc M
  bd : (cs.length : Int) ≤ n ∧ 1 ≤ n ∧ n ≤ hn ∧ hn ≤ 65536
  ok : ∀ c ∈ cs, okC c = true ∧ c.fits ∧ 1 ≤ c.id ∧ c.id < next
def turnL (c : Ctx) (cs : List Ctx) : List Ctx := cs.map fun d => if d.id = c.id then c else d
def dropL (id : Int) (cs : List Ctx) : List Ctx := cs.filter fun d => decide (d.id ≠ id)
def FirstC (c : Ctx) (cs : List Ctx) : Prop := c ∈ cs ∧ ∀ d ∈ cs, itLt (d.id, d.at') (c.id, c.at') = false
section
variable {n next hn : Int} {m : Held} {I : List (Sgn × Int)} {M : List It} {cs : List Ctx} {c d : Ctx} {s : Value}
theorem asc_split (h : cs.Pairwise fun a b => a.id < b.id) (hc : c ∈ cs) : ∃ l r, cs = l ++ c :: r ∧ (∀ d ∈ l, d.id ≠ c.id) ∧ (∀ d ∈ r, d.id ≠ c.id) := by
  obtain ⟨l, r, rfl⟩ := List.append_of_mem hc
  rw [List.pairwise_append] at h
  obtain ⟨_, h2, h3⟩ := h
  refine ⟨l, r, rfl, fun d hd e => ?_, fun d hd e => ?_⟩
  · have := h3 d hd c (by simp); omega
  · have := (List.pairwise_cons.1 h2).1 d hd; omega
theorem dropL_split {l r : List Ctx} (h1 : ∀ d ∈ l, d.id ≠ c.id) (h2 : ∀ d ∈ r, d.id ≠ c.id) : dropL c.id (l ++ c :: r) = l ++ r := by
  unfold dropL
  rw [List.filter_append, List.filter_cons, List.filter_eq_self.2 (fun d hd => by simpa using h1 d hd), List.filter_eq_self.2 (fun d hd => by simpa using h2 d hd)]
  simp
theorem turnL_split {l r : List Ctx} {b : Ctx} (e : b.id = c.id) (h1 : ∀ d ∈ l, d.id ≠ c.id) (h2 : ∀ d ∈ r, d.id ≠ c.id) : turnL b (l ++ c :: r) = l ++ b :: r := by
  unfold turnL
  rw [List.map_append, List.map_cons]
  congr 1
  · conv => rhs; rw [← List.map_id l]
    exact List.map_congr_left fun d hd => by rw [if_neg (by rw [e]; exact h1 d hd)]; rfl
  · rw [if_pos e.symm]
    congr 1
    conv => rhs; rw [← List.map_id r]
    exact List.map_congr_left fun d hd => by rw [if_neg (by rw [e]; exact h2 d hd)]; rfl
theorem asc_eq (h : cs.Pairwise fun a b => a.id < b.id) (hc : c ∈ cs) (hd : d ∈ cs) (e : c.id = d.id) : c = d := by
  obtain ⟨l, r, rfl, h1, h2⟩ := asc_split h hc
  rcases List.mem_append.1 hd with g | g
  · exact absurd e.symm (h1 d g)
  · rcases List.mem_cons.1 g with rfl | g
    · rfl
    · exact absurd e.symm (h2 d g)
theorem sg_eq (h : cs.Pairwise fun a b => sgnOf a ≠ sgnOf b) (hc : c ∈ cs) (hd : d ∈ cs) (e : sgnOf c = sgnOf d) : c = d := by
  obtain ⟨l, r, rfl⟩ := List.append_of_mem hc
  rw [List.pairwise_append] at h
  obtain ⟨_, h2, h3⟩ := h
  rcases List.mem_append.1 hd with g | g
  · exact absurd e.symm (h3 d g c (by simp))
  · rcases List.mem_cons.1 g with rfl | g
    · rfl
    · exact absurd e ((List.pairwise_cons.1 h2).1 d g)
variable (H : HInv n next hn m I M cs)
include H
theorem HInv.len : m.length = cs.length := by
  have := H.pm.length_eq; simpa using this
theorem HInv.mem {k : Int} (hg : aGet k m = some (c, s)) : c ∈ cs ∧ c.id = k := by
  have hm := aGet_mem hg
  refine ⟨H.pm.mem_iff.1 (List.mem_map.2 ⟨_, hm, rfl⟩), ?_⟩
  exact (H.key _ hm).symm
theorem HInv.keys : (m.map Prod.fst).Nodup := by
  have e : m.map Prod.fst = (m.map fun x => x.2.1).map (·.id) := by
    rw [List.map_map]
    exact List.map_congr_left fun x hx => H.key x hx
  rw [e]
  refine ((H.pm.map (·.id)).nodup_iff).2 ?_
  exact List.pairwise_map.2 (H.asc.imp fun h e => by omega)
theorem HInv.get (hc : c ∈ cs) : ∃ s, aGet c.id m = some (c, s) := by
  obtain ⟨x, hx, rfl⟩ := List.mem_map.1 (H.pm.mem_iff.2 hc)
  refine ⟨x.2.2, mem_aGet H.keys ?_⟩
  have := H.key x hx
  rw [← this]; exact hx
theorem HInv.get_none {k : Int} (h : ∀ c ∈ cs, c.id ≠ k) : aGet k m = none := aGet_none_of fun y hy => by
  have h1 := H.key _ hy
  exact h y.1 (H.pm.mem_iff.1 (List.mem_map.2 ⟨_, hy, rfl⟩)) h1.symm
theorem HInv.sgs : (I.map Prod.fst).Nodup := by
  refine ((H.pI.map Prod.fst).nodup_iff).2 ?_
  rw [List.map_map]
  exact List.pairwise_map.2 (H.sg.imp fun h => h)
theorem HInv.sget (hc : c ∈ cs) : aGet (sgnOf c) I = some c.id := mem_aGet H.sgs (H.pI.mem_iff.2 (List.mem_map.2 ⟨c, hc, rfl⟩))
theorem HInv.snone {g : Sgn} (h : ∀ c ∈ cs, sgnOf c ≠ g) : aGet g I = none := aGet_none_of fun y hy => by
  obtain ⟨c, hc, e⟩ := List.mem_map.1 (H.pI.mem_iff.1 hy)
  simp only [Prod.mk.injEq] at e
  exact h c hc e.1
theorem HInv.mids : (M.map (·.1)).Nodup := by
  refine ((H.pM.map (·.1)).nodup_iff).2 ?_
  rw [List.map_map]
  exact List.pairwise_map.2 (H.asc.imp fun h e => by simp at e; omega)
theorem HInv.mlen : M.length = cs.length := by
  have := H.pM.length_eq; simpa using this
omit H in
theorem okC_time (h : okC c = true) : 0 ≤ c.at' ∧ c.at' ≤ 2305843009213693952 := by
  unfold okC timeP at h
  simp only [Bool.and_eq_true, decide_eq_true_eq] at h
  exact h.2
omit H in
theorem HInv.add (H : HInv n next hn m I M cs) (ho : okC c = true) (hf : c.fits) (hs : ∀ d ∈ cs, sgnOf d ≠ sgnOf c) (hl : (cs.length : Int) < n) (hid : 1 ≤ next) :
    HInv n (next + 1) hn (aSet next ({ c with id := next }, s) m) (aSet (sgnOf c) next I) (setR hn next c.at' M).2 (cs ++ [{ c with id := next }]) := by
  have hnew : ∀ d ∈ cs, d.id ≠ next := fun d hd e => by have := (H.ok d hd).2.2.2; omega
  have g1 := H.get_none hnew
  have g2 := H.snone hs
  have g3 : ∀ t, (next, t) ∉ M := fun t ht => by
    obtain ⟨d, hd, e⟩ := List.mem_map.1 (H.pM.mem_iff.1 ht)
    simp only [Prod.mk.injEq] at e
    exact hnew d hd e.1
  have hb := H.bd
  have ht := okC_time ho
  have hM : (setR hn next c.at' M).2 = setM next c.at' M := by
    unfold setR
    rw [if_neg (by omega), if_neg (by rw [H.mlen]; omega)]
  rw [aSet_new g1, aSet_new g2, hM]
  refine ⟨?_, ?_, ?_, ?_, ?_, ?_, ?_, ?_, ?_⟩
  · rw [List.map_append]
    exact H.pm.append_right _
  · intro x hx
    rcases List.mem_append.1 hx with hx | hx
    · exact H.key x hx
    · simp at hx; subst hx; rfl
  · rw [List.pairwise_append]
    refine ⟨H.asc, by simp, fun a ha b hb => ?_⟩
    simp at hb; subst hb
    exact (H.ok a ha).2.2.2
  · rw [List.map_append]
    exact H.pI.append_right _
  · rw [List.pairwise_append]
    refine ⟨H.sg, by simp, fun a ha b hb => ?_⟩
    simp at hb; subst hb
    exact hs a ha
  · unfold setM
    rw [List.map_append]
    refine (insM_perm _ _).trans ?_
    rw [drop_absent g3]
    exact (H.pM.cons _).trans (List.perm_append_comm (l₁ := [(next, c.at')]))
  · exact (H.aM.drop _).ins _
  · simp; omega
  · intro d hd
    rcases List.mem_append.1 hd with hd | hd
    · have := H.ok d hd
      exact ⟨this.1, this.2.1, this.2.2.1, by omega⟩
    · simp at hd; subst hd
      exact ⟨(okC_id c next).trans ho, hf, hid, by show next < next + 1; omega⟩
omit H in
theorem HInv.turn (H : HInv n next hn m I M cs) (ho : okC c = true) (hf : c.fits) {b : Ctx} (hb : b ∈ cs) (e : b.id = c.id) (hs : sgnOf b = sgnOf c) :
    HInv n next hn (aSet c.id (c, s) m) (aSet (sgnOf c) c.id I) (setR hn c.id c.at' M).2 (turnL c cs) := by
  obtain ⟨s0, g1⟩ := H.get hb
  rw [e] at g1
  have g2 := H.sget hb
  rw [hs, e] at g2
  rw [aSet_id g2]
  have ht := okC_time ho
  have hbm : (c.id, b.at') ∈ M := H.pM.mem_iff.2 (List.mem_map.2 ⟨b, hb, by rw [e]⟩)
  have hM : (setR hn c.id c.at' M).2 = setM c.id c.at' M := by
    unfold setR
    rw [if_neg (by omega), if_neg (by rw [find_of H.mids hbm]; simp)]
  rw [hM]
  obtain ⟨l, r, rfl, h1, h2⟩ := asc_split H.asc hb
  rw [turnL_split e.symm h1 h2]
  have hp := aDel_perm g1
  have hpm : ((aDel c.id m).map fun x => x.2.1).Perm (l ++ r) := by
    have := ((hp.map fun x => x.2.1).trans H.pm).trans List.perm_middle
    exact List.Perm.cons_inv this
  refine ⟨?_, ?_, ?_, ?_, ?_, ?_, ?_, ?_, ?_⟩
  · refine ((aSet_perm g1).map _).trans ?_
    rw [List.map_cons]
    exact (hpm.cons c).trans List.perm_middle.symm
  · intro x hx
    rcases List.mem_cons.1 ((aSet_perm g1).mem_iff.1 hx) with rfl | hx
    · rfl
    · exact H.key x (hp.mem_iff.1 (List.mem_cons_of_mem _ hx))
  · have := H.asc
    rw [List.pairwise_append, List.pairwise_cons] at this ⊢
    refine ⟨this.1, ⟨fun x hx => by rw [← e]; exact this.2.1.1 x hx, this.2.1.2⟩, fun x hx y hy => ?_⟩
    rcases List.mem_cons.1 hy with rfl | hy
    · rw [← e]; exact this.2.2 x hx b (by simp)
    · exact this.2.2 x hx y (by simp [hy])
  · have := H.pI
    rw [List.map_append, List.map_cons] at this ⊢
    rw [hs, e] at this
    exact this
  · have := H.sg
    rw [List.pairwise_append, List.pairwise_cons] at this ⊢
    refine ⟨this.1, ⟨fun x hx => by rw [← hs]; exact this.2.1.1 x hx, this.2.1.2⟩, fun x hx y hy => ?_⟩
    rcases List.mem_cons.1 hy with rfl | hy
    · rw [← hs]; exact this.2.2 x hx b (by simp)
    · exact this.2.2 x hx y (by simp [hy])
  · unfold setM
    refine (insM_perm _ _).trans ?_
    have hq := (drop_perm H.mids hbm).trans H.pM
    rw [List.map_append, List.map_cons] at hq ⊢
    rw [e] at hq
    have hq2 := List.Perm.cons_inv (hq.trans List.perm_middle)
    exact (hq2.cons _).trans List.perm_middle.symm
  · exact (H.aM.drop _).ins _
  · have := H.bd; simpa using this
  · intro d hd
    rcases List.mem_append.1 hd with hd | hd
    · exact H.ok d (by simp [hd])
    · rcases List.mem_cons.1 hd with rfl | hd
      · have := H.ok b (by simp)
        rw [e] at this
        exact ⟨ho, hf, this.2.2⟩
      · exact H.ok d (by simp [hd])
omit H in
theorem HInv.drop (H : HInv n next hn m I M cs) (hc : c ∈ cs) : HInv n next hn (aDel c.id m) (aDel (sgnOf c) I) (dropM c.id M) (dropL c.id cs) := by
  obtain ⟨s0, g1⟩ := H.get hc
  have g2 := H.sget hc
  have hbm : (c.id, c.at') ∈ M := H.pM.mem_iff.2 (List.mem_map.2 ⟨c, hc, rfl⟩)
  obtain ⟨l, r, rfl, h1, h2⟩ := asc_split H.asc hc
  rw [dropL_split h1 h2]
  have hp := aDel_perm g1
  have sub : List.Sublist (l ++ r) (l ++ c :: r) := List.Sublist.append_left (List.sublist_cons_self _ _) _
  refine ⟨?_, ?_, H.asc.sublist sub, ?_, H.sg.sublist sub, ?_, H.aM.drop _, ?_, ?_⟩
  · have := ((hp.map fun x => x.2.1).trans H.pm).trans List.perm_middle
    exact List.Perm.cons_inv this
  · intro x hx
    exact H.key x (hp.mem_iff.1 (List.mem_cons_of_mem _ hx))
  · have hq := (aDel_perm g2).trans H.pI
    rw [List.map_append, List.map_cons] at hq
    rw [List.map_append]
    exact List.Perm.cons_inv (hq.trans List.perm_middle)
  · have hq := (drop_perm H.mids hbm).trans H.pM
    rw [List.map_append, List.map_cons] at hq
    rw [List.map_append]
    exact List.Perm.cons_inv (hq.trans List.perm_middle)
  · have := H.bd; simp at this ⊢; omega
  · exact fun d hd => H.ok d (sub.subset hd)
theorem HInv.first {x : It} (h : M.head? = some x) : ∃ c, FirstC c cs ∧ c.id = x.1 ∧ c.at' = x.2 := by
  obtain ⟨y, R, rfl⟩ : ∃ y R, M = y :: R := by
    cases M with
    | nil => simp at h
    | cons y R => exact ⟨y, R, rfl⟩
  obtain rfl : y = x := by simpa using h
  obtain ⟨c, hc, e⟩ := List.mem_map.1 (H.pM.mem_iff.1 (List.mem_cons_self ..))
  refine ⟨c, ⟨hc, fun d hd => ?_⟩, by rw [← e], by rw [← e]⟩
  rw [e]
  have hm := H.pM.mem_iff.2 (List.mem_map.2 ⟨d, hd, rfl⟩)
  rcases List.mem_cons.1 hm with h1 | h1
  · rw [h1]; exact itSWO.irr _
  · exact (List.pairwise_cons.1 H.aM).1 _ h1
theorem HInv.empty_iff : M.head? = none ↔ cs = [] := by
  rw [List.head?_eq_none_iff]
  have := H.mlen
  constructor
  · intro e; rw [e] at this; exact List.eq_nil_of_length_eq_zero this.symm
  · intro e; rw [e] at this; exact List.eq_nil_of_length_eq_zero this
end
theorem FirstC.eq {c d : Ctx} {cs : List Ctx} (h : cs.Pairwise fun a b => a.id < b.id) (hc : FirstC c cs) (hd : FirstC d cs) : c = d := by
  have := itTot (c.id, c.at') (d.id, d.at') (hd.2 c hc.1) (hc.2 d hd.1)
  exact asc_eq h hc.1 hd.1 (Prod.mk.inj this).1
theorem HInv.start {n : Int} (h1 : 1 ≤ n) (h2 : n ≤ 65536) (next : Int) : HInv n next n [] [] [] [] :=
  ⟨.nil, by simp, .nil, .nil, .nil, .nil, .nil, ⟨by simp; omega, h1, by omega, h2⟩, by simp⟩
end Go.Proofs.Gong

/- Hold2 -/
namespace Go.Proofs.Gong
open Go Go.Sx Go.Proofs
set_option linter.all false
set_option maxRecDepth 100000
variable {kn kr : ET} {ke : JT}
def T26 : List (Nat × FnT) := [(43, G43)]
def F26 (x0 x1 x2 x3 : Value) (w : World) (K : V1) : Prop :=
eAlloc Tryz.prog 36 w fun v2 w1 =>
bindP (pNil x0) fun v3 =>
bindP (pFieldAddr 4 v3) fun v4 =>
bindP (ld1 v4 w1) fun v5 =>
bindP (fBuild Tryz.prog 74 [(0, x1), (1, x2), (2, x3)]) fun v6 =>
bindP (fLook Tryz.prog 69 v5 v6 true w1) fun v7 =>
bindP (pTuple v7 0) fun v8 =>
bindP (pTuple v7 1) fun v9 =>
bindP (uNot v9) fun v10 =>
ifB v10 (
bindP (fBuild Tryz.prog 36 []) fun v11 =>
bindW (st 11 v2 v11 w1) fun w12 =>
bindP (ldN 11 v2 w12) fun v14 =>
K (.tuple #[v14, (.bool false)]) w12) (
bindP (pNil x0) fun v15 =>
bindP (pFieldAddr 3 v15) fun v16 =>
bindP (ld1 v16 w1) fun v17 =>
bindP (fLook Tryz.prog 68 v17 v8 false w1) fun v18 =>
callP G43 [v18] w1 fun v20 w19 =>
bindW (st 11 v2 v20 w19) fun w21 =>
bindP (ldN 11 v2 w21) fun v23 =>
K (.tuple #[v23, (.bool true)]) w21)
def G26 : FnT := fun args w K => on4 (fun x0 x1 x2 x3 => F26 x0 x1 x2 x3 w K) args
theorem c26 {x0 x1 x2 x3 : Value} {w : World} {K : V1} (h : F26 x0 x1 x2 x3 w K) : callP G26 [x0, x1, x2, x3] w K := callP_intro (on4_mk (p := fun x0 x1 x2 x3 => F26 x0 x1 x2 x3 w K) h)
theorem ok26 : OkF Tryz.prog 26 G26 := by
  refine okF_of (tab_ok (l := T26) ⟨ok43, trivial⟩) mixed (n := fuel) Tryz.func26 Tryz.call26 fun args w K h => ?_
  obtain ⟨x0, x1, x2, x3, rfl, hh⟩ := of_on4 h
  exact fnD_list (c := bodyOf Tryz.f26) (by kernel_rfl) (by kernel_rfl) (Eq.mp (by kernel_rfl) hh)
def T44 : List (Nat × FnT) := [(58, G58)]
def F44 (x0 : Value) (w : World) (K : V1) : Prop :=
eBox 67 x0 w fun v2 w1 =>
bindP (pFieldAddr 0 v2) fun v3 =>
bindP (ld1 v3 w1) fun v4 =>
callP G58 [v4] w1 fun v6 w5 =>
bindP (pTuple v6 0) fun v7 =>
bindP (pTuple v6 1) fun v8 =>
eAlloc Tryz.prog 97 w5 fun v10 w9 =>
bindW (st 2 v10 v7 w9) fun w11 =>
bindP (pFieldAddr 0 v10) fun v13 =>
bindP (ld1 v13 w11) fun v14 =>
K (.tuple #[v14, v8]) w11
def G44 : FnT := fun args w K => on1 (fun x0 => F44 x0 w K) args
theorem c44 {x0 : Value} {w : World} {K : V1} (h : F44 x0 w K) : callP G44 [x0] w K := callP_intro (on1_mk (p := fun x0 => F44 x0 w K) h)
theorem ok44 : OkF Tryz.prog 44 G44 := by
  refine okF_of (tab_ok (l := T44) ⟨ok58, trivial⟩) mixed (n := fuel) Tryz.func44 Tryz.call44 fun args w K h => ?_
  obtain ⟨x0, rfl, hh⟩ := of_on1 h
  exact fnD_list (c := bodyOf Tryz.f44) (by kernel_rfl) (by kernel_rfl) (Eq.mp (by kernel_rfl) hh)
def T28 : List (Nat × FnT) := [(43, G43), (44, G44)]
def F28 (x0 : Value) (w : World) (K : V1) : Prop :=
eAlloc Tryz.prog 36 w fun v2 w1 =>
bindP (pNil x0) fun v3 =>
bindP (pFieldAddr 0 v3) fun v4 =>
bindP (ldN 1 v4 w1) fun v5 =>
callP G44 [v5] w1 fun v7 w6 =>
bindP (pTuple v7 0) fun v8 =>
bindP (pTuple v7 1) fun v9 =>
bindP (uNot v9) fun v10 =>
ifB v10 (
bindP (fBuild Tryz.prog 36 []) fun v11 =>
bindW (st 11 v2 v11 w6) fun w12 =>
bindP (ldN 11 v2 w12) fun v14 =>
K (.tuple #[v14, (.bool false)]) w12) (
bindP (pNil x0) fun v15 =>
bindP (pFieldAddr 3 v15) fun v16 =>
bindP (ld1 v16 w6) fun v17 =>
bindP (fLook Tryz.prog 68 v17 v8 false w6) fun v18 =>
callP G43 [v18] w6 fun v20 w19 =>
bindW (st 11 v2 v20 w19) fun w21 =>
bindP (ldN 11 v2 w21) fun v23 =>
K (.tuple #[v23, (.bool true)]) w21)
def G28 : FnT := fun args w K => on1 (fun x0 => F28 x0 w K) args
theorem c28 {x0 : Value} {w : World} {K : V1} (h : F28 x0 w K) : callP G28 [x0] w K := callP_intro (on1_mk (p := fun x0 => F28 x0 w K) h)
theorem ok28 : OkF Tryz.prog 28 G28 := by
  refine okF_of (tab_ok (l := T28) ⟨ok43, ok44, trivial⟩) mixed (n := fuel) Tryz.func28 Tryz.call28 fun args w K h => ?_
  obtain ⟨x0, rfl, hh⟩ := of_on1 h
  exact fnD_list (c := bodyOf Tryz.f28) (by kernel_rfl) (by kernel_rfl) (Eq.mp (by kernel_rfl) hh)
def LayK46_ren : Go.Shelf.Ren := ⟨fun | 7 => 46 | 10 => 61 | n => n, fun | 23 => 68 | 26 => 3 | 3 => 36 | 28 => 86 | 0 => 0 | 27 => 85 | 33 => 94 | 4 => 4 | n => n, fun | n => n⟩
theorem LayK46 : Go.Proofs.SlLaysZI.n7 Tryz.prog LayK46_ren := {
  mixed := by kernel_rfl
  f7 := ⟨Tryz.f46.name, by decide, Tryz.func46.trans (congrArg some (by kernel_rfl))⟩
  f10 := ⟨Tryz.f61.name, by decide, Tryz.func61.trans (congrArg some (by kernel_rfl))⟩
  t0 := Tryz.underlying0
  a0 := Tryz.isAgg0
  z0 := Tryz.sizeOf0
  v0 := Tryz.zeroValue0
  t4 := Tryz.underlying4
  a4 := Tryz.isAgg4
  z4 := Tryz.sizeOf4
  v4 := Tryz.zeroValue4
  t23 := Tryz.underlying68
  a23 := Tryz.isAgg68
  z23 := Tryz.sizeOf68
  v23 := Tryz.zeroValue68
  t26 := Tryz.underlying3
  a26 := Tryz.isAgg3
  z26 := Tryz.sizeOf3
  v26 := Tryz.zeroValue3
  t27 := Tryz.underlying85
  a27 := Tryz.isAgg85
  z27 := Tryz.sizeOf85
  v27 := Tryz.zeroValue85
  t28 := Tryz.underlying86
  a28 := Tryz.isAgg86
  z28 := Tryz.sizeOf86
  v28 := Tryz.zeroValue86
  t33 := Tryz.underlying94
  a33 := Tryz.isAgg94
  z33 := Tryz.sizeOf94
  v33 := Tryz.zeroValue94 }
def LayS45_ren : Go.Shelf.Ren := ⟨fun | 6 => 45 | 8 => 59 | 9 => 60 | 11 => 69 | 13 => 71 | 12 => 70 | 23 => 86 | 24 => 87 | 14 => 78 | 15 => 79 | 16 => 80 | 17 => 81 | 18 => 82 | 19 => 83 | 20 => 63 | 21 => 84 | 22 => 85 | 25 => 93 | 26 => 94 | 27 => 95 | 28 => 96 | 29 => 97 | 30 => 75 | 31 => 104 | n => n, fun | 26 => 3 | 28 => 86 | 24 => 34 | 0 => 0 | 3 => 3 | 37 => 110 | 48 => 123 | 50 => 125 | 4 => 4 | 40 => 117 | 39 => 116 | 45 => 72 | 5 => 5 | 9 => 9 | 51 => 130 | 55 => 134 | 57 => 140 | 58 => 136 | 33 => 94 | n => n, fun | n => n⟩
theorem LayS45 : Go.Proofs.SlLaysZI.n6 Tryz.prog LayS45_ren := {
  mixed := by kernel_rfl
  f6 := ⟨Tryz.f45.name, by decide, Tryz.func45.trans (congrArg some (by kernel_rfl))⟩
  f8 := ⟨Tryz.f59.name, by decide, Tryz.func59.trans (congrArg some (by kernel_rfl))⟩
  f11 := ⟨Tryz.f69.name, by decide, Tryz.func69.trans (congrArg some (by kernel_rfl))⟩
  t0 := Tryz.underlying0
  a0 := Tryz.isAgg0
  z0 := Tryz.sizeOf0
  v0 := Tryz.zeroValue0
  t24 := Tryz.underlying34
  a24 := Tryz.isAgg34
  z24 := Tryz.sizeOf34
  v24 := Tryz.zeroValue34
  t26 := Tryz.underlying3
  a26 := Tryz.isAgg3
  z26 := Tryz.sizeOf3
  v26 := Tryz.zeroValue3
  t28 := Tryz.underlying86
  a28 := Tryz.isAgg86
  z28 := Tryz.sizeOf86
  v28 := Tryz.zeroValue86
  i26 := by kernel_rfl }
def LayM60_ren : Go.Shelf.Ren := ⟨fun | 5 => 60 | 8 => 71 | 7 => 70 | 19 => 86 | 20 => 87 | 10 => 78 | 11 => 79 | 12 => 80 | 13 => 81 | 14 => 82 | 15 => 83 | 16 => 63 | 17 => 84 | 18 => 85 | 30 => 93 | 31 => 94 | 32 => 95 | 33 => 96 | 34 => 97 | 35 => 75 | 40 => 104 | n => n, fun | 23 => 34 | 25 => 3 | 3 => 3 | 32 => 110 | 22 => 34 | 0 => 0 | 44 => 123 | 46 => 125 | 4 => 4 | 36 => 117 | 35 => 116 | 41 => 72 | 5 => 5 | 9 => 9 | 53 => 130 | 57 => 134 | 63 => 140 | 64 => 136 | n => n, fun | n => n⟩
theorem LayM60 : Go.Proofs.SlLaysM.n5 Tryz.prog LayM60_ren := {
  mixed := by kernel_rfl
  f5 := ⟨Tryz.f60.name, by decide, Tryz.func60.trans (congrArg some (by kernel_rfl))⟩
  f7 := ⟨Tryz.f70.name, by decide, Tryz.func70.trans (congrArg some (by kernel_rfl))⟩
  f8 := Tryz.func71.trans (congrArg some (by kernel_rfl))
  f10 := ⟨Tryz.f78.name, by decide, Tryz.func78.trans (congrArg some (by kernel_rfl))⟩
  f11 := ⟨Tryz.f79.name, by decide, Tryz.func79.trans (congrArg some (by kernel_rfl))⟩
  f12 := ⟨Tryz.f80.name, by decide, Tryz.func80.trans (congrArg some (by kernel_rfl))⟩
  f13 := ⟨Tryz.f81.name, by decide, Tryz.func81.trans (congrArg some (by kernel_rfl))⟩
  f14 := ⟨Tryz.f82.name, by decide, Tryz.func82.trans (congrArg some (by kernel_rfl))⟩
  f15 := ⟨Tryz.f83.name, by decide, Tryz.func83.trans (congrArg some (by kernel_rfl))⟩
  f16 := ⟨Tryz.f63.name, by decide, Tryz.func63.trans (congrArg some (by kernel_rfl))⟩
  f17 := ⟨Tryz.f84.name, by decide, Tryz.func84.trans (congrArg some (by kernel_rfl))⟩
  f18 := ⟨Tryz.f85.name, by decide, Tryz.func85.trans (congrArg some (by kernel_rfl))⟩
  f19 := Tryz.func86.trans (congrArg some (by kernel_rfl))
  f20 := Tryz.func87.trans (congrArg some (by kernel_rfl))
  f30 := ⟨Tryz.f93.name, by decide, Tryz.func93.trans (congrArg some (by kernel_rfl))⟩
  f31 := Tryz.func94.trans (congrArg some (by kernel_rfl))
  f32 := Tryz.func95.trans (congrArg some (by kernel_rfl))
  f33 := ⟨Tryz.f96.name, by decide, Tryz.func96.trans (congrArg some (by kernel_rfl))⟩
  f34 := ⟨Tryz.f97.name, by decide, Tryz.func97.trans (congrArg some (by kernel_rfl))⟩
  f35 := ⟨Tryz.f75.name, by decide, Tryz.func75.trans (congrArg some (by kernel_rfl))⟩
  f40 := ⟨Tryz.f104.name, by decide, Tryz.func104.trans (congrArg some (by kernel_rfl))⟩
  t0 := Tryz.underlying0
  a0 := Tryz.isAgg0
  z0 := Tryz.sizeOf0
  v0 := Tryz.zeroValue0
  t3 := Tryz.underlying3
  a3 := Tryz.isAgg3
  z3 := Tryz.sizeOf3
  v3 := Tryz.zeroValue3
  t4 := Tryz.underlying4
  a4 := Tryz.isAgg4
  z4 := Tryz.sizeOf4
  v4 := Tryz.zeroValue4
  t5 := Tryz.underlying5
  a5 := Tryz.isAgg5
  z5 := Tryz.sizeOf5
  v5 := Tryz.zeroValue5
  t9 := Tryz.underlying9
  a9 := Tryz.isAgg9
  z9 := Tryz.sizeOf9
  v9 := Tryz.zeroValue9
  t22 := Tryz.underlying34
  a22 := Tryz.isAgg34
  z22 := Tryz.sizeOf34
  v22 := Tryz.zeroValue34
  t23 := Tryz.underlying34
  a23 := Tryz.isAgg34
  z23 := Tryz.sizeOf34
  v23 := Tryz.zeroValue34
  t25 := Tryz.underlying3
  a25 := Tryz.isAgg3
  z25 := Tryz.sizeOf3
  v25 := Tryz.zeroValue3
  t32 := Tryz.underlying110
  a32 := Tryz.isAgg110
  z32 := Tryz.sizeOf110
  v32 := Tryz.zeroValue110
  t35 := Tryz.underlying116
  a35 := Tryz.isAgg116
  z35 := Tryz.sizeOf116
  v35 := Tryz.zeroValue116
  t36 := Tryz.underlying117
  a36 := Tryz.isAgg117
  z36 := Tryz.sizeOf117
  v36 := Tryz.zeroValue117
  t41 := Tryz.underlying72
  a41 := Tryz.isAgg72
  z41 := Tryz.sizeOf72
  v41 := Tryz.zeroValue72
  t44 := Tryz.underlying123
  a44 := Tryz.isAgg123
  z44 := Tryz.sizeOf123
  v44 := Tryz.zeroValue123
  t46 := Tryz.underlying125
  a46 := Tryz.isAgg125
  z46 := Tryz.sizeOf125
  v46 := Tryz.zeroValue125
  t53 := Tryz.underlying130
  a53 := Tryz.isAgg130
  z53 := Tryz.sizeOf130
  v53 := Tryz.zeroValue130
  t57 := Tryz.underlying134
  a57 := Tryz.isAgg134
  z57 := Tryz.sizeOf134
  v57 := Tryz.zeroValue134
  t63 := Tryz.underlying140
  a63 := Tryz.isAgg140
  z63 := Tryz.sizeOf140
  v63 := Tryz.zeroValue140
  t64 := Tryz.underlying136
  a64 := Tryz.isAgg136
  z64 := Tryz.sizeOf136
  v64 := Tryz.zeroValue136 }
def G45 : FnT := gSortedI 61 3
theorem ok45 : OkF Tryz.prog 45 G45 := okSortedI (f := 45) (g := 61) (ty := 3) LayK46 LayS45 LayM60 rfl rfl rfl rfl Tryz.call45 Tryz.call60 Tryz.call61
def T46 : List (Nat × FnT) := []
def F46 (x0 : Value) (w : World) (K : V1) : Prop :=
eBox 68 x0 w fun v2 w1 =>
bindP (some (.func (.func 61) #[] #[v2])) fun v3 =>
K v3 w1
def G46 : FnT := fun args w K => on1 (fun x0 => F46 x0 w K) args
theorem c46 {x0 : Value} {w : World} {K : V1} (h : F46 x0 w K) : callP G46 [x0] w K := callP_intro (on1_mk (p := fun x0 => F46 x0 w K) h)
theorem ok46 : OkF Tryz.prog 46 G46 := by
  refine okF_of (tab_ok (l := T46) trivial) mixed (n := fuel) Tryz.func46 Tryz.call46 fun args w K h => ?_
  obtain ⟨x0, rfl, hh⟩ := of_on1 h
  exact fnD_list (c := bodyOf Tryz.f46) (by kernel_rfl) (by kernel_rfl) (Eq.mp (by kernel_rfl) hh)
def T29 : List (Nat × FnT) := [(43, G43), (45, G45), (46, G46)]
def F29_3b (s3 : Value) (w : World) (K : V1) : Prop :=
K s3 w
def F29_3 (s3 : Value) (w : World) (K : V1) : Prop := F29_3b s3 w K
theorem ok29_3 {K : V1}
    (hn : HN (fun e w => K (e 2) w) kn) (hr : HR Tryz.prog [.tmp 2] K kr) (he : HE noE ke) :
    ∀ e w, F29_3 (e 3) w K → denL Tryz.prog (tabOf T29) 29 fuel ((flat (bodyOf Tryz.f29)).drop 4) e w kn kr ke := by
  intro e w h
  unfold F29_3 at h
  have e1 : ∀ (_ : Unit), F29_3b (e 3) w K = denL Tryz.prog (tabOf T29) 29 fuel ((flat (bodyOf Tryz.f29)).drop 4) e w (fun e w => K (e 2) w) (endD Tryz.prog [.tmp 2] K) noE := by intro _; kernel_rfl
  exact seg_end (Eq.mp (e1 ()) h) hn hr he
def F29_2b (s0 s3 s11 s12 s13 : Value) (w : World) (_K : V1) (Y0 : V5) (Y1 : V1) : Prop :=
bindP (bLt s13 s12) fun v1 =>
ifB v1 (
bindP (pIndexL 1 s11 s13) fun v2 =>
bindP (ld1 v2 w) fun v3 =>
bindP (pNil s0) fun v4 =>
bindP (pFieldAddr 3 v4) fun v5 =>
bindP (ld1 v5 w) fun v6 =>
bindP (fLook Tryz.prog 68 v6 v3 false w) fun v7 =>
callP G43 [v7] w fun v9 w8 =>
eBuildSl Tryz.prog 37 1 [(0, v9)] w8 fun v11 w10 =>
eAppend Tryz.prog 37 37 s3 v11 w10 fun v13 w12 =>
bindP (bAdd s13 (.int .i64 1)) fun v14 =>
Y0 s0 v13 s11 s12 v14 w12) (
Y1 s3 w)
def F29_2L : Nat → Value → Value → Value → Value → Value → World → (V1) → Prop
  | 0, _, _, _, _, _, _, _ => False
  | n + 1, s0, s3, s11, s12, s13, w, K => F29_2b s0 s3 s11 s12 s13 w K (fun a0 a3 a11 a12 a13 w => F29_2L n a0 a3 a11 a12 a13 w K) (fun a3 w => F29_3 a3 w K)
def F29_2 (s0 s3 s11 s12 s13 : Value) (w : World) (K : V1) : Prop := F29_2L fuel s0 s3 s11 s12 s13 w K
theorem ok29_2 {K : V1}
    (hn : HN (fun e w => K (e 2) w) kn) (hr : HR Tryz.prog [.tmp 2] K kr) (he : HE noE ke) :
    ∀ e w, F29_2 (e 0) (e 3) (e 11) (e 12) (e 13) w K → denL Tryz.prog (tabOf T29) 29 fuel ((flat (bodyOf Tryz.f29)).drop 3) e w kn kr ke := by
  intro e w h
  unfold F29_2 at h
  refine seg_loop (id := 0) (body := (loopB (blkB (nthC (flat (bodyOf Tryz.f29)) 3)))) (l2 := (flat (bodyOf Tryz.f29)).drop 4) (by kernel_rfl) ?_
  refine loop_ok (FL := fun m e w => F29_2L m (e 0) (e 3) (e 11) (e 12) (e 13) w K) (fr := endD Tryz.prog [.tmp 2] K) (fe := (blkK 0 (fun e w => F29_3 (e 3) w K) noE)) (fun _ _ h => h) ?_ hr (blkK_mono (fun e w h => ok29_3 hn hr he e w h) he) fuel e w h
  intro m e w h
  have h : F29_2L (m + 1) (e 0) (e 3) (e 11) (e 12) (e 13) w K := h
  rw [F29_2L] at h
  have e1 : ∀ (Y0 : V5) (Y1 : V1), F29_2b (e 0) (e 3) (e 11) (e 12) (e 13) w K Y0 Y1 = denL Tryz.prog (tabOf T29) 29 fuel (flat (loopB (blkB (nthC (flat (bodyOf Tryz.f29)) 3)))) e w (fun e w => Y0 (e 0) (e 3) (e 11) (e 12) (e 13) w) (endD Tryz.prog [.tmp 2] K) (blkK 0 (fun e w => Y1 (e 3) w) noE) := by intro Y0 Y1; kernel_rfl
  exact Eq.mp (e1 (fun a0 a3 a11 a12 a13 w => F29_2L m a0 a3 a11 a12 a13 w K) (fun a3 w => F29_3 a3 w K)) h
def F29_1b (s0 : Value) (w : World) (_K : V1) (Y0 : V5) : Prop :=
bindP (pNil s0) fun v15 =>
bindP (pFieldAddr 3 v15) fun v16 =>
bindP (ld1 v16 w) fun v17 =>
callP G46 [v17] w fun v19 w18 =>
callP G45 [v19] w18 fun v21 w20 =>
bindP (lenL v21) fun v22 =>
Y0 s0 (.slice none 0 0) v21 v22 (.int .i64 0) w20
def F29_1 (s0 : Value) (w : World) (K : V1) : Prop := F29_1b s0 w K (fun a0 a3 a11 a12 a13 w => F29_2 a0 a3 a11 a12 a13 w K)
theorem ok29_1 {K : V1}
    (hn : HN (fun e w => K (e 2) w) kn) (hr : HR Tryz.prog [.tmp 2] K kr) (he : HE noE ke) :
    ∀ e w, F29_1 (e 0) w K → denL Tryz.prog (tabOf T29) 29 fuel ((flat (bodyOf Tryz.f29)).drop 0) e w kn kr ke := by
  intro e w h
  unfold F29_1 at h
  have e1 : ∀ (Y0 : V5), F29_1b (e 0) w K Y0 = denL Tryz.prog (tabOf T29) 29 fuel (((flat (bodyOf Tryz.f29)).drop 0).take 3) e w (fun e w => Y0 (e 0) (e 3) (e 11) (e 12) (e 13) w) (endD Tryz.prog [.tmp 2] K) noE := by intro Y0; kernel_rfl
  exact seg 3 (Eq.mp (e1 (fun a0 a3 a11 a12 a13 w => F29_2 a0 a3 a11 a12 a13 w K)) h) (fun e w h => ok29_2 hn hr he e w h) hr he
def F29 (x0 : Value) (w : World) (K : V1) : Prop := F29_1 x0 w K
def G29 : FnT := fun args w K => on1 (fun x0 => F29 x0 w K) args
theorem c29 {x0 : Value} {w : World} {K : V1} (h : F29 x0 w K) : callP G29 [x0] w K := callP_intro (on1_mk (p := fun x0 => F29 x0 w K) h)
theorem ok29 : OkF Tryz.prog 29 G29 := by
  refine okF_of (tab_ok (l := T29) ⟨ok43, ok45, ok46, trivial⟩) mixed (n := fuel) Tryz.func29 Tryz.call29 fun args w K h => ?_
  obtain ⟨x0, rfl, hh⟩ := of_on1 h
  unfold F29 at hh
  exact fnD_list (c := bodyOf Tryz.f29) (by kernel_rfl) (by kernel_rfl) (ok29_1 (fun _ _ h => h) (fun _ _ h => h) (fun _ _ _ h => h) (initE [x0]) w hh)
def T17 : List (Nat × FnT) := [(33, G33), (34, G34), (35, G35)]
def F17 (x0 x1 : Value) (w : World) (K : V1) : Prop :=
eBox 36 x1 w fun v2 w1 =>
bindP (pNil x0) fun v3 =>
bindP (pFieldAddr 3 v3) fun v4 =>
bindP (ld1 v4 w1.drew) fun v5 =>
bindP (pFieldAddr 0 v2) fun v6 =>
bindP (ld1 v6 w1.drew) fun v7 =>
bindP (fLook Tryz.prog 68 v5 v7 true w1.drew) fun v8 =>
bindP (pTuple v8 0) fun v9 =>
bindP (pTuple v8 1) fun v10 =>
eAlloc Tryz.prog 36 w1.drew fun v12 w11 =>
(fok true (ld1 v4 w11) v5 ∧ fok true (ld1 v6 w11) v7 ∧ fok true (fLook Tryz.prog 68 v5 v7 true w11) v8) ∧ (bindW (st 11 v12 v9 w11) fun w13 =>
bindP (ldN 11 v2 w13) fun v15 =>
callP G34 [v15] w13 fun v17 w16 =>
bindP (bNe Tryz.prog 24 (.tmp 19) (.const (.int .i64 0)) v17 (.int .i64 0)) fun v18 =>
ifB v18 (
K (.int .i64 4) w16) (
bindP (uNot v10) fun v19 =>
ifB v19 (
K (.int .i64 5) w16) (
bindP (ldN 11 v12 w16.drew) fun v20 =>
bindP (ldN 11 v2 w16.drew) fun v21 =>
callP G33 [v20] w16.drew fun v23 w22 =>
fok true (ldN 11 v2 w22) v21 ∧ (callP G33 [v21] w22 fun v25 w24 =>
bindP (bNe Tryz.prog 74 (.tmp 26) (.tmp 28) v23 v25) fun v26 =>
ifB v26 (
K (.int .i64 4) w24) (
bindP (ldN 11 v2 w24) fun v27 =>
callP G35 [x0, v27] w24 fun _ w28 =>
K (.int .i64 0) w28)))))
def G17 : FnT := fun args w K => on2 (fun x0 x1 => F17 x0 x1 w K) args
theorem c17 {x0 x1 : Value} {w : World} {K : V1} (h : F17 x0 x1 w K) : callP G17 [x0, x1] w K := callP_intro (on2_mk (p := fun x0 x1 => F17 x0 x1 w K) h)
theorem ok17 : OkF Tryz.prog 17 G17 := by
  refine okF_of (tab_ok (l := T17) ⟨ok33, ok34, ok35, trivial⟩) mixed (n := fuel) Tryz.func17 Tryz.call17 fun args w K h => ?_
  obtain ⟨x0, x1, rfl, hh⟩ := of_on2 h
  exact fnD_list (c := bodyOf Tryz.f17) (by kernel_rfl) (by kernel_rfl) (Eq.mp (by kernel_rfl) hh)
def T39 : List (Nat × FnT) := [(53, G53)]
def F39 (x0 x1 : Value) (w : World) (K : V1) : Prop :=
eBox 67 x0 w fun v2 w1 =>
bindP (pFieldAddr 0 v2) fun v3 =>
bindP (ld1 v3 w1) fun v4 =>
callP G53 [v4, x1] w1 fun _ w5 =>
K (.tuple #[]) w5
def G39 : FnT := fun args w K => on2 (fun x0 x1 => F39 x0 x1 w K) args
theorem c39 {x0 x1 : Value} {w : World} {K : V1} (h : F39 x0 x1 w K) : callP G39 [x0, x1] w K := callP_intro (on2_mk (p := fun x0 x1 => F39 x0 x1 w K) h)
theorem ok39 : OkF Tryz.prog 39 G39 := by
  refine okF_of (tab_ok (l := T39) ⟨ok53, trivial⟩) mixed (n := fuel) Tryz.func39 Tryz.call39 fun args w K h => ?_
  obtain ⟨x0, x1, rfl, hh⟩ := of_on2 h
  exact fnD_list (c := bodyOf Tryz.f39) (by kernel_rfl) (by kernel_rfl) (Eq.mp (by kernel_rfl) hh)
def T19 : List (Nat × FnT) := [(33, G33), (39, G39)]
def F19 (x0 x1 : Value) (w : World) (K : V1) : Prop :=
eAlloc Tryz.prog 36 w fun v2 w1 =>
bindP (pNil x0) fun v3 =>
bindP (pFieldAddr 3 v3) fun v4 =>
bindP (ld1 v4 w1) fun v5 =>
bindP (fLook Tryz.prog 68 v5 x1 true w1) fun v6 =>
bindP (pTuple v6 0) fun v7 =>
bindP (pTuple v6 1) fun v8 =>
eAlloc Tryz.prog 36 w1 fun v10 w9 =>
bindW (st 11 v10 v7 w9) fun w11 =>
bindP (uNot v8) fun v13 =>
ifB v13 (
bindP (fBuild Tryz.prog 36 []) fun v14 =>
bindW (st 11 v2 v14 w11) fun w15 =>
bindP (ldN 11 v2 w15) fun v17 =>
K (.tuple #[v17, (.int .i64 5)]) w15) (
bindP (pNil x0) fun v18 =>
bindP (pFieldAddr 3 v18) fun v19 =>
bindP (ld1 v19 w11) fun v20 =>
eDelete Tryz.prog 68 v20 x1 w11 fun _ w21 =>
bindP (pNil x0) fun v23 =>
bindP (pFieldAddr 4 v23) fun v24 =>
bindP (ld1 v24 w21.drew) fun v25 =>
bindP (ldN 11 v10 w21.drew) fun v26 =>
callP G33 [v26] w21.drew fun v28 w27 =>
fok true (ld1 v24 w27) v25 ∧ (eDelete Tryz.prog 69 v25 v28 w27 fun _ w29 =>
bindP (pNil x0) fun v31 =>
bindP (pFieldAddr 0 v31) fun v32 =>
bindP (ldN 1 v32 w29) fun v33 =>
callP G39 [v33, x1] w29 fun _ w34 =>
bindP (ldN 11 v10 w34) fun v36 =>
bindW (st 11 v2 v36 w34) fun w37 =>
bindP (ldN 11 v2 w37) fun v39 =>
K (.tuple #[v39, (.int .i64 0)]) w37))
def G19 : FnT := fun args w K => on2 (fun x0 x1 => F19 x0 x1 w K) args
theorem c19 {x0 x1 : Value} {w : World} {K : V1} (h : F19 x0 x1 w K) : callP G19 [x0, x1] w K := callP_intro (on2_mk (p := fun x0 x1 => F19 x0 x1 w K) h)
theorem ok19 : OkF Tryz.prog 19 G19 := by
  refine okF_of (tab_ok (l := T19) ⟨ok33, ok39, trivial⟩) mixed (n := fuel) Tryz.func19 Tryz.call19 fun args w K h => ?_
  obtain ⟨x0, x1, rfl, hh⟩ := of_on2 h
  exact fnD_list (c := bodyOf Tryz.f19) (by kernel_rfl) (by kernel_rfl) (Eq.mp (by kernel_rfl) hh)
def T31 : List (Nat × FnT) := []
def F31 (x0 : Value) (w : World) (K : V1) : Prop :=
bindP (pNil x0) fun v1 =>
bindP (pFieldAddr 2 v1) fun v2 =>
bindP (ld1 v2 w) fun v3 =>
K v3 w
def G31 : FnT := fun args w K => on1 (fun x0 => F31 x0 w K) args
theorem c31 {x0 : Value} {w : World} {K : V1} (h : F31 x0 w K) : callP G31 [x0] w K := callP_intro (on1_mk (p := fun x0 => F31 x0 w K) h)
theorem ok31 : OkF Tryz.prog 31 G31 := by
  refine okF_of (tab_ok (l := T31) trivial) mixed (n := fuel) Tryz.func31 Tryz.call31 fun args w K h => ?_
  obtain ⟨x0, rfl, hh⟩ := of_on1 h
  exact fnD_list (c := bodyOf Tryz.f31) (by kernel_rfl) (by kernel_rfl) (Eq.mp (by kernel_rfl) hh)
def T24 : List (Nat × FnT) := [(10, G10), (33, G33), (34, G34), (35, G35)]
def F24_3b (s0 s1 s7 : Value) (w : World) (K : V1) : Prop :=
bindP (lenL s1) fun v1 =>
bindP (pNil s0) fun v2 =>
bindP (pFieldAddr 1 v2) fun v3 =>
bindP (ld1 v3 w) fun v4 =>
bindP (bGt v1 v4) fun v5 =>
ifB v5 (
K (.int .i64 200) w) (
bindP (pNil s0) fun v6 =>
bindP (pFieldAddr 1 v6) fun v7 =>
bindP (ld1 v7 w) fun v8 =>
bindP (pNil s7) fun v9 =>
bindP (pFieldAddr 1 v9) fun v10 =>
bindW (st 1 v10 v8 w) fun w11 =>
bindP (pNil s7) fun v13 =>
bindP (ldN 5 v13 w11) fun v14 =>
bindP (pNil s0) fun v15 =>
bindW (st 5 v15 v14 w11) fun w16 =>
K (.int .i64 0) w16)
def F24_3 (s0 s1 s7 : Value) (w : World) (K : V1) : Prop := F24_3b s0 s1 s7 w K
theorem ok24_3 {K : V1}
    (hn : HN (fun e w => K (e 6) w) kn) (hr : HR Tryz.prog [.tmp 6] K kr) (he : HE noE ke) :
    ∀ e w, F24_3 (e 0) (e 1) (e 7) w K → denL Tryz.prog (tabOf T24) 94 fuel ((flat (bodyOf Tryz.f24)).drop 6) e w kn kr ke := by
  intro e w h
  unfold F24_3 at h
  have e1 : ∀ (_ : Unit), F24_3b (e 0) (e 1) (e 7) w K = denL Tryz.prog (tabOf T24) 94 fuel ((flat (bodyOf Tryz.f24)).drop 6) e w (fun e w => K (e 6) w) (endD Tryz.prog [.tmp 6] K) noE := by intro _; kernel_rfl
  exact seg_end (Eq.mp (e1 ()) h) hn hr he
def F24_5b (s0 s1 s2 s7 s22 s23 s24 : Value) (w : World) (_K : V1) (R3 : V7) : Prop :=
bindP (bAdd s24 (.int .i64 1)) fun v18 =>
R3 s0 s1 s2 s7 s22 s23 v18 w
def F24_5 (s0 s1 s2 s7 s22 s23 s24 : Value) (w : World) (K : V1) (R3 : V7) : Prop := F24_5b s0 s1 s2 s7 s22 s23 s24 w K R3
theorem ok24_5 (R3 : V7) {K : V1}
    (hn : HN (fun e w => R3 (e 0) (e 1) (e 2) (e 7) (e 22) (e 23) (e 24) w) kn) (hr : HR Tryz.prog [.tmp 6] K kr) (he : HE (blkK 0 (fun e w => F24_3 (e 0) (e 1) (e 7) w K) noE) ke) :
    ∀ e w, F24_5 (e 0) (e 1) (e 2) (e 7) (e 22) (e 23) (e 24) w K R3 → denL Tryz.prog (tabOf T24) 94 fuel ((flat (loopB (blkB (nthC (flat (bodyOf Tryz.f24)) 5)))).drop 3) e w kn kr ke := by
  intro e w h
  unfold F24_5 at h
  have e1 : ∀ (_ : Unit), F24_5b (e 0) (e 1) (e 2) (e 7) (e 22) (e 23) (e 24) w K R3 = denL Tryz.prog (tabOf T24) 94 fuel ((flat (loopB (blkB (nthC (flat (bodyOf Tryz.f24)) 5)))).drop 3) e w (fun e w => R3 (e 0) (e 1) (e 2) (e 7) (e 22) (e 23) (e 24) w) (endD Tryz.prog [.tmp 6] K) (blkK 0 (fun e w => F24_3 (e 0) (e 1) (e 7) w K) noE) := by intro _; kernel_rfl
  exact seg_end (Eq.mp (e1 ()) h) hn hr he
def F24_4b (s0 s1 s2 s7 s22 s23 s24 : Value) (w : World) (K : V1) (R3 : V7) (Y0 : V7) (Y1 : V3) : Prop :=
bindP (bLt s24 s23) fun v19 =>
ifB v19 (
bindP (pIndexL 11 s22 s24) fun v20 =>
bindP (ldN 11 v20 w) fun v21 =>
eAlloc Tryz.prog 36 w fun v23 w22 =>
bindW (st 11 v23 v21 w22) fun w24 =>
bindP (pNil s7) fun v26 =>
bindP (pFieldAddr 3 v26) fun v27 =>
bindP (ld1 v27 w24.drew) fun v28 =>
bindP (pFieldAddr 0 v23) fun v29 =>
bindP (ld1 v29 w24.drew) fun v30 =>
bindP (fLook Tryz.prog 68 v28 v30 true w24.drew) fun v31 =>
bindP (pTuple v31 0) fun v32 =>
bindP (pTuple v31 1) fun v33 =>
eAlloc Tryz.prog 36 w24.drew fun v35 w34 =>
(fok true (ld1 v27 w34) v28 ∧ fok true (ld1 v29 w34) v30 ∧ fok true (fLook Tryz.prog 68 v28 v30 true w34) v31) ∧ (bindW (st 11 v35 v32 w34) fun w36 =>
bindP (pNil s7) fun v38 =>
bindP (pFieldAddr 4 v38) fun v39 =>
bindP (ld1 v39 w36.drew) fun v40 =>
bindP (ldN 11 v23 w36.drew) fun v41 =>
callP G33 [v41] w36.drew fun v43 w42 =>
fok true (ld1 v39 w42) v40 ∧ (bindP (fLook Tryz.prog 69 v40 v43 true w42) fun v44 =>
bindP (pTuple v44 0) fun _ =>
bindP (pTuple v44 1) fun v46 =>
bindP (ldN 11 v23 w42) fun v47 =>
callP G34 [v47] w42 fun v49 w48 =>
bindP (bNe Tryz.prog 24 (.tmp 50) (.const (.int .i64 0)) v49 (.int .i64 0)) fun v50 =>
Sx.stepG (gd false v50) (pFieldAddr 0 v23) fun v51 =>
Sx.stepG (gd false v50) (ld1 v51 w48) fun v52 =>
Sx.stepG (gd false v50) (bLt v52 (.int .i64 1)) fun v53 =>
bindP (pPick v50 (.bool true) v53) fun v54 =>
Sx.stepG (gd false v54) (pFieldAddr 0 v23) fun v55 =>
Sx.stepG (gd false v54) (ld1 v55 w48) fun v56 =>
stepM (gd false v54) s2 fun v57 =>
Sx.stepG (gd false v54) (bGe v56 v57) fun v58 =>
bindP (pPick v54 (.bool true) v58) fun v59 =>
stepM (gd false v59) v33 fun v60 =>
bindP (pPick v59 (.bool true) v60) fun v61 =>
stepM (gd false v61) v46 fun v62 =>
bindP (pPick v61 (.bool true) v62) fun v63 =>
ifB v63 (
K (.int .i64 4) w48) (
bindP (bLt s24 (.int .i64 65536)) fun v64 =>
ifB v64 (
bindP (ldN 11 v23 w48) fun v65 =>
callP G35 [s7, v65] w48 fun _ w66 =>
Y0 s0 s1 s2 s7 s22 s23 s24 w66) (
Y0 s0 s1 s2 s7 s22 s23 s24 w48))))) (
Y1 s0 s1 s7 w)
def F24_4 (s0 s1 s2 s7 s22 s23 s24 : Value) (w : World) (K : V1) (R3 : V7) : Prop := F24_4b s0 s1 s2 s7 s22 s23 s24 w K R3 (fun a0 a1 a2 a7 a22 a23 a24 w => F24_5 a0 a1 a2 a7 a22 a23 a24 w K R3) (fun a0 a1 a7 w => F24_3 a0 a1 a7 w K)
theorem ok24_4 (R3 : V7) {K : V1}
    (hn : HN (fun e w => R3 (e 0) (e 1) (e 2) (e 7) (e 22) (e 23) (e 24) w) kn) (hr : HR Tryz.prog [.tmp 6] K kr) (he : HE (blkK 0 (fun e w => F24_3 (e 0) (e 1) (e 7) w K) noE) ke) :
    ∀ e w, F24_4 (e 0) (e 1) (e 2) (e 7) (e 22) (e 23) (e 24) w K R3 → denL Tryz.prog (tabOf T24) 94 fuel ((flat (loopB (blkB (nthC (flat (bodyOf Tryz.f24)) 5)))).drop 0) e w kn kr ke := by
  intro e w h
  unfold F24_4 at h
  have e1 : ∀ (Y0 : V7) (Y1 : V3), F24_4b (e 0) (e 1) (e 2) (e 7) (e 22) (e 23) (e 24) w K R3 Y0 Y1 = denL Tryz.prog (tabOf T24) 94 fuel (((flat (loopB (blkB (nthC (flat (bodyOf Tryz.f24)) 5)))).drop 0).take 3) e w (fun e w => Y0 (e 0) (e 1) (e 2) (e 7) (e 22) (e 23) (e 24) w) (endD Tryz.prog [.tmp 6] K) (blkK 0 (fun e w => Y1 (e 0) (e 1) (e 7) w) noE) := by intro Y0 Y1; kernel_rfl
  exact seg 3 (Eq.mp (e1 (fun a0 a1 a2 a7 a22 a23 a24 w => F24_5 a0 a1 a2 a7 a22 a23 a24 w K R3) (fun a0 a1 a7 w => F24_3 a0 a1 a7 w K)) h) (fun e w h => ok24_5 R3 hn hr he e w h) hr he
def F24_2L : Nat → Value → Value → Value → Value → Value → Value → Value → World → (V1) → Prop
  | 0, _, _, _, _, _, _, _, _, _ => False
  | n + 1, s0, s1, s2, s7, s22, s23, s24, w, K => F24_4 s0 s1 s2 s7 s22 s23 s24 w K (fun a0 a1 a2 a7 a22 a23 a24 w => F24_2L n a0 a1 a2 a7 a22 a23 a24 w K)
def F24_2 (s0 s1 s2 s7 s22 s23 s24 : Value) (w : World) (K : V1) : Prop := F24_2L fuel s0 s1 s2 s7 s22 s23 s24 w K
theorem ok24_2 {K : V1}
    (hn : HN (fun e w => K (e 6) w) kn) (hr : HR Tryz.prog [.tmp 6] K kr) (he : HE noE ke) :
    ∀ e w, F24_2 (e 0) (e 1) (e 2) (e 7) (e 22) (e 23) (e 24) w K → denL Tryz.prog (tabOf T24) 94 fuel ((flat (bodyOf Tryz.f24)).drop 5) e w kn kr ke := by
  intro e w h
  unfold F24_2 at h
  refine seg_loop (id := 0) (body := (loopB (blkB (nthC (flat (bodyOf Tryz.f24)) 5)))) (l2 := (flat (bodyOf Tryz.f24)).drop 6) (by kernel_rfl) ?_
  refine loop_ok (FL := fun m e w => F24_2L m (e 0) (e 1) (e 2) (e 7) (e 22) (e 23) (e 24) w K) (fr := endD Tryz.prog [.tmp 6] K) (fe := (blkK 0 (fun e w => F24_3 (e 0) (e 1) (e 7) w K) noE)) (fun _ _ h => h) ?_ hr (blkK_mono (fun e w h => ok24_3 hn hr he e w h) he) fuel e w h
  intro m e w h
  have h : F24_2L (m + 1) (e 0) (e 1) (e 2) (e 7) (e 22) (e 23) (e 24) w K := h
  rw [F24_2L] at h
  exact ok24_4 (fun a0 a1 a2 a7 a22 a23 a24 w => F24_2L m a0 a1 a2 a7 a22 a23 a24 w K) (fun _ _ h => h) (fun _ _ h => h) (fun _ _ _ h => h) e w h
def F24_1b (s0 s1 s2 : Value) (w : World) (K : V1) (Y0 : V7) : Prop :=
bindP (bLt s2 (.int .i64 1)) fun v68 =>
stepM (gd false v68) s2 fun v69 =>
Sx.stepG (gd false v68) (bGt v69 (.int .i64 1152921504606846976)) fun v70 =>
bindP (pPick v68 (.bool true) v70) fun v71 =>
ifB v71 (
K (.int .i64 4) w) (
callP G10 [(.int .i64 65536), s2] w fun v73 w72 =>
bindP (lenL s1) fun v74 =>
Y0 s0 s1 s2 v73 s1 v74 (.int .i64 0) w72)
def F24_1 (s0 s1 s2 : Value) (w : World) (K : V1) : Prop := F24_1b s0 s1 s2 w K (fun a0 a1 a2 a7 a22 a23 a24 w => F24_2 a0 a1 a2 a7 a22 a23 a24 w K)
theorem ok24_1 {K : V1}
    (hn : HN (fun e w => K (e 6) w) kn) (hr : HR Tryz.prog [.tmp 6] K kr) (he : HE noE ke) :
    ∀ e w, F24_1 (e 0) (e 1) (e 2) w K → denL Tryz.prog (tabOf T24) 94 fuel ((flat (bodyOf Tryz.f24)).drop 0) e w kn kr ke := by
  intro e w h
  unfold F24_1 at h
  have e1 : ∀ (Y0 : V7), F24_1b (e 0) (e 1) (e 2) w K Y0 = denL Tryz.prog (tabOf T24) 94 fuel (((flat (bodyOf Tryz.f24)).drop 0).take 5) e w (fun e w => Y0 (e 0) (e 1) (e 2) (e 7) (e 22) (e 23) (e 24) w) (endD Tryz.prog [.tmp 6] K) noE := by intro Y0; kernel_rfl
  exact seg 5 (Eq.mp (e1 (fun a0 a1 a2 a7 a22 a23 a24 w => F24_2 a0 a1 a2 a7 a22 a23 a24 w K)) h) (fun e w h => ok24_2 hn hr he e w h) hr he
def F24 (x0 x1 x2 : Value) (w : World) (K : V1) : Prop := F24_1 x0 x1 x2 w K
def G24 : FnT := fun args w K => on3 (fun x0 x1 x2 => F24 x0 x1 x2 w K) args
theorem c24 {x0 x1 x2 : Value} {w : World} {K : V1} (h : F24 x0 x1 x2 w K) : callP G24 [x0, x1, x2] w K := callP_intro (on3_mk (p := fun x0 x1 x2 => F24 x0 x1 x2 w K) h)
theorem ok24 : OkF Tryz.prog 24 G24 := by
  refine okF_of (tab_ok (l := T24) ⟨ok10, ok33, ok34, ok35, trivial⟩) mixed (n := fuel) Tryz.func24 Tryz.call24 fun args w K h => ?_
  obtain ⟨x0, x1, x2, rfl, hh⟩ := of_on3 h
  unfold F24 at hh
  exact fnD_list (c := bodyOf Tryz.f24) (by kernel_rfl) (by kernel_rfl) (ok24_1 (fun _ _ h => h) (fun _ _ h => h) (fun _ _ _ h => h) (initE [x0, x1, x2]) w hh)
end Go.Proofs.Gong

/- Ho6 -/
namespace Go.Proofs.Gong
open Go Go.Sx Go.Proofs
set_option maxRecDepth 100000
attribute [local irreducible] fBuild fLook fZero eqv bEqv Cl MapH LsH SlH ld1 ldN st callP eBox eAlloc lenM lenL eMapSet eDelete eAppend eBuildSl eRange eNext
def zeroC : Ctx := ⟨0, 0, [], [], 0, ⟨[], [], [], 0, []⟩, []⟩
section
variable {w0 w : World} {L : List HP} {K : Value → World → Prop} {v : Value} {n next hn : Int} {m : Held} {I : List (Sgn × Int)} {M : List It} {cs : List Ctx} {c : Ctx} {tv s : Value}
def addA (n : Int) (cs : List Ctx) (c : Ctx) : Int := if okC c = false then 4 else if (cs.find? fun d => decide (sgnOf d = sgnOf c)).isSome = true then 6 else if n ≤ (cs.length : Int) then 200 else 0
theorem HInv.find (H : HInv n next hn m I M cs) (g : Sgn) : aGet g I = (cs.find? fun d => decide (sgnOf d = g)).map (·.id) := by
  cases hf : cs.find? fun d => decide (sgnOf d = g) with
  | none =>
    rw [List.find?_eq_none] at hf
    exact H.snone fun d hd e => by have := hf d hd; simp [e] at this
  | some d =>
    have h1 := List.mem_of_find?_eq_some hf
    have h2 := List.find?_some hf
    simp only [decide_eq_true_eq] at h2
    rw [← h2]; exact H.sget h1
theorem zc41 : fZero Tryz.prog 36 = some (ctxV zeroC (.slice none 0 0)) := z36
theorem soonest_spec {dp : Value} (h : Sat w0 (HeapH dp hn M :: L) w) (hK : ∀ w', Sat w0 (HeapH dp hn M :: L) w' → K (.tuple #[.int .i64 (M.head?.getD (0, 0)).1, .bool M.head?.isSome]) w') : callP G44 [.agg #[dp]] w K := by
  refine c44 ?_
  unfold F44
  obtain ⟨d, rfl⟩ := heap_ptr h
  (repeat (first
 | (simp (disch := omega) only [evA, evB, evC, bAdd_i64, bSub_i64])
 | (with_reducible apply go_ld1 h)
 | ((with_reducible first | apply go_ldA h | apply go_rd h | apply go_rdN h | apply go_rlen h); rfl)
 | (with_reducible first | apply go_ldN h | apply go_lenL h)
 | ((with_reducible apply go_st h); intro _ h)
 | ((with_reducible apply go_stA h); rfl; rfl; (first | rfl | simp [OneV.o]); intro _ h)
 | ((with_reducible apply go_stN h); rfl; (first | rfl | simp [OneV.o]); intro _ h)
 | ((with_reducible apply go_box h); rfl; intro _ _ h)
 | ((with_reducible apply go_ix h); omega)
 | ((with_reducible first | apply go_elN h | apply go_f1 h | apply go_rf1 h | apply go_rel h); (case hi => omega); (try case hx => exact inferInstance); (try case hv => rfl))
 | ((with_reducible apply go_fa h); omega; omega)
))
  refine first_spec (M := M) (n := hn) (h.frt) fun w h => ?_
  unfold firstR
  (repeat (first
 | (simp (disch := omega) only [evA, evB, evC, bAdd_i64, bSub_i64])
 | (with_reducible apply go_ld1 h)
 | ((with_reducible first | apply go_ldA h | apply go_rd h | apply go_rdN h | apply go_rlen h); rfl)
 | (with_reducible first | apply go_ldN h | apply go_lenL h)
 | ((with_reducible apply go_st h); intro _ h)
 | ((with_reducible apply go_stA h); rfl; rfl; (first | rfl | simp [OneV.o]); intro _ h)
 | ((with_reducible apply go_stN h); rfl; (first | rfl | simp [OneV.o]); intro _ h)
 | ((with_reducible apply go_box h); rfl; intro _ _ h)
 | ((with_reducible apply go_alloc h); (first | exact z97); rfl; intro _ _ h)
 | ((with_reducible apply go_ix h); omega)
 | ((with_reducible first | apply go_elN h | apply go_f1 h | apply go_rf1 h | apply go_rel h); (case hi => omega); (try case hx => exact inferInstance); (try case hv => rfl))
 | ((with_reducible apply go_fa h); omega; omega)
))
  exact hK _ (h.got)
theorem never_spec {dp : Value} {id : Int} (h : Sat w0 (HeapH dp hn M :: L) w) (hK : ∀ w', Sat w0 (HeapH dp hn (dropM id M) :: L) w' → K (.tuple #[]) w') : callP G39 [.agg #[dp], .int .i64 id] w K := by
  refine c39 ?_
  unfold F39
  obtain ⟨d, rfl⟩ := heap_ptr h
  (repeat (first
 | (simp (disch := omega) only [evA, evB, evC, bAdd_i64, bSub_i64])
 | (with_reducible apply go_ld1 h)
 | ((with_reducible first | apply go_ldA h | apply go_rd h | apply go_rdN h | apply go_rlen h); rfl)
 | (with_reducible first | apply go_ldN h | apply go_lenL h)
 | ((with_reducible apply go_st h); intro _ h)
 | ((with_reducible apply go_stA h); rfl; rfl; (first | rfl | simp [OneV.o]); intro _ h)
 | ((with_reducible apply go_stN h); rfl; (first | rfl | simp [OneV.o]); intro _ h)
 | ((with_reducible apply go_box h); rfl; intro _ _ h)
 | ((with_reducible apply go_ix h); omega)
 | ((with_reducible first | apply go_elN h | apply go_f1 h | apply go_rf1 h | apply go_rel h); (case hi => omega); (try case hx => exact inferInstance); (try case hv => rfl))
 | ((with_reducible apply go_fa h); omega; omega)
))
  refine drop_spec (M := M) (n := hn) (h.frt) fun w h => ?_
  exact hK _ (h.got)
end
end Go.Proofs.Gong

/- Ho7 -/
namespace Go.Proofs.Gong
open Go Go.Sx Go.Proofs
set_option maxRecDepth 100000
attribute [local irreducible] fBuild fLook fZero eqv bEqv Cl MapH LsH SlH ld1 ldN st callP eBox eAlloc lenM lenL eMapSet eDelete eAppend eBuildSl eRange eNext
theorem neSgn (x y : Operand) (a b : Sgn) : bNe Tryz.prog 74 x y (sgnV a) (sgnV b) = some (.bool (!decide (a = b))) := by
  obtain ⟨n1, c1, k1⟩ := a
  obtain ⟨n1', c1', k1'⟩ := b
  rw [ne74]
  simp only [bs_sEq', Option.some.injEq, Value.bool.injEq]
  rw [Bool.eq_iff_iff]
  simp
section
variable {w0 w : World} {L : List HP} {K : Value → World → Prop} {v : Value} {n next hn : Int} {m : Held} {I : List (Sgn × Int)} {M : List It} {cs : List Ctx} {c : Ctx} {tv s : Value}
def turnA (cs : List Ctx) (c : Ctx) : Int := if okC c = false then 4 else match cs.find? fun d => decide (d.id = c.id) with
  | none => 5
  | some b => if sgnOf b = sgnOf c then 0 else 4
abbrev SV := Option Addr × Nat × Nat
abbrev svV (x : SV) : Value := .slice x.1 x.2.1 x.2.2
@[reducible] def cX (x : Ctx × SV) : List Value := cCtx x.1 (svV x.2)
theorem CX : Cod cX 11 := ⟨fun _ => rfl, fun _ => rfl, by omega⟩
instance : CodC cX 11 := ⟨CX⟩
def hlX (xs : List (Ctx × SV)) : Held := xs.map fun x => (x.1.id, (x.1, svV x.2))
def CtxL (sv : Value) (cs : List Ctx) : HP := HEx fun xs : List (Ctx × SV) => HPr (xs.map Prod.fst = cs) (HSt (LsH cX 11 36 sv xs) (bag (hlX xs)))
theorem ctxL_iff {sv : Value} : Sat w0 (CtxL sv cs :: L) w ↔ ∃ xs : List (Ctx × SV), xs.map Prod.fst = cs ∧ Sat w0 (LsH cX 11 36 sv xs :: bag (hlX xs) :: L) w := by
  simp only [CtxL, Sat.ex_iff, Sat.pr_iff, Sat.star_iff]
theorem bag_add {x : Ctx × Value} {k : Int} (h : Sat w0 (LsH cI 1 3 x.2 x.1.times :: bag m :: L) w) : Sat w0 (bag (m ++ [(k, x)]) :: L) w := by
  have h1 := bag_iff.1 h.f1
  have h2 : Sat w0 (heldP (k, x) :: (m.map heldP ++ L)) w := h1.perm List.perm_middle
  refine bag_iff.2 ?_
  rw [List.map_append]
  refine h2.perm ?_
  rw [List.append_assoc]
  exact List.perm_middle.symm
theorem fbX (c : Ctx) (x : SV) : fBuildSl Tryz.prog 36 1 [(0, ctxV c (svV x))] = some (cX (c, x)).toArray := by kernel_rfl
end
end Go.Proofs.Gong

/- Ho8 -/
namespace Go.Proofs.Gong
open Go Go.Sx Go.Proofs
set_option maxRecDepth 100000
def insC (c : Ctx) (cs : List Ctx) : List Ctx := cs.takeWhile (fun d => decide (d.id < c.id)) ++ c :: cs.dropWhile (fun d => decide (d.id < c.id))
theorem insC_perm (c : Ctx) (cs : List Ctx) : (insC c cs).Perm (c :: cs) := by
  unfold insC
  exact List.perm_middle.trans (by rw [List.takeWhile_append_dropWhile])
theorem insC_asc {c : Ctx} : ∀ {cs : List Ctx}, (cs.Pairwise fun a b => a.id < b.id) → (∀ d ∈ cs, d.id ≠ c.id) → (insC c cs).Pairwise fun a b => a.id < b.id
  | [], _, _ => by simp [insC]
  | d :: r, h, hn => by
    obtain ⟨h1, h2⟩ := List.pairwise_cons.1 h
    have hd := hn d (by simp)
    by_cases g : d.id < c.id
    · have e : insC c (d :: r) = d :: insC c r := by simp [insC, g]
      rw [e]
      refine List.pairwise_cons.2 ⟨fun x hx => ?_, insC_asc h2 fun x hx => hn x (List.mem_cons_of_mem _ hx)⟩
      rcases List.mem_cons.1 ((insC_perm c r).mem_iff.1 hx) with rfl | hx
      · exact g
      · exact h1 x hx
    · have e : insC c (d :: r) = c :: d :: r := by simp [insC, g]
      rw [e]
      refine List.pairwise_cons.2 ⟨fun x hx => ?_, h⟩
      rcases List.mem_cons.1 hx with rfl | hx
      · omega
      · have := h1 x hx; omega
theorem HInv.ins {n next hn : Int} {m : Held} {I : List (Sgn × Int)} {M : List It} {cs : List Ctx} {c : Ctx} {s : Value} (H : HInv n next hn m I M cs) (ho : okC c = true) (hf : c.fits) (hs : ∀ d ∈ cs, sgnOf d ≠ sgnOf c) (hnew : ∀ d ∈ cs, d.id ≠ c.id) (hl : (cs.length : Int) < n)
    (h1 : 1 ≤ c.id) (h2 : c.id < next) : HInv n next hn (aSet c.id (c, s) m) (aSet (sgnOf c) c.id I) (setR hn c.id c.at' M).2 (insC c cs) := by
  have g1 := H.get_none hnew
  have g2 := H.snone hs
  have g3 : ∀ t, (c.id, t) ∉ M := fun t ht => by
    obtain ⟨d, hd, e⟩ := List.mem_map.1 (H.pM.mem_iff.1 ht)
    simp only [Prod.mk.injEq] at e
    exact hnew d hd e.1
  have hb := H.bd
  have ht := okC_time ho
  have hM : (setR hn c.id c.at' M).2 = setM c.id c.at' M := by
    unfold setR
    rw [if_neg (by omega), if_neg (by rw [H.mlen]; omega)]
  rw [aSet_new g1, aSet_new g2, hM]
  have hp := insC_perm c cs
  refine ⟨?_, ?_, insC_asc H.asc hnew, ?_, ?_, ?_, ?_, ?_, ?_⟩
  · rw [List.map_append]
    refine (List.perm_append_comm.trans ?_).trans hp.symm
    exact H.pm.cons _
  · intro x hx
    rcases List.mem_append.1 hx with hx | hx
    · exact H.key x hx
    · simp at hx; subst hx; rfl
  · refine (List.perm_append_comm.trans ?_).trans (hp.map _).symm
    exact H.pI.cons _
  · refine hp.symm.pairwise ?_ (fun h => h.symm)
    exact List.pairwise_cons.2 ⟨fun d hd e => hs d hd e.symm, H.sg⟩
  · unfold setM
    refine ((insM_perm _ _).trans ?_).trans (hp.map _).symm
    rw [drop_absent g3]
    exact H.pM.cons _
  · exact (H.aM.drop _).ins _
  · have := hp.length_eq; simp at this; omega
  · intro d hd
    rcases List.mem_cons.1 (hp.mem_iff.1 hd) with rfl | hd
    · exact ⟨ho, hf, h1, h2⟩
    · exact H.ok d hd
def loadStep (next : Int) (cs : List Ctx) (c : Ctx) : Option (List Ctx) :=
  if okC c = true ∧ 1 ≤ c.id ∧ c.id < next ∧ (∀ d ∈ cs, d.id ≠ c.id) ∧ (∀ d ∈ cs, sgnOf d ≠ sgnOf c) then some (insC c cs) else none
def loadL (next : Int) : List Ctx → List Ctx → Option (List Ctx)
  | [], cs => some cs
  | c :: l, cs => (loadStep next cs c).bind (loadL next l)
theorem loadL_len {next : Int} : ∀ {l cs ds : List Ctx}, loadL next l cs = some ds → ds.length = cs.length + l.length
  | [], cs, ds, h => by simp [loadL] at h; subst h; simp
  | c :: l, cs, ds, h => by
    unfold loadL loadStep at h
    split at h
    · have := loadL_len (l := l) h
      have h2 := (insC_perm c cs).length_eq
      simp at h2 ⊢; omega
    · cases h
attribute [local irreducible] fBuild fLook fZero eqv bEqv Cl MapH LsH SlH ld1 ldN st callP eBox eAlloc lenM lenL eMapSet eDelete eAppend eBuildSl eRange eNext
section
variable {w0 w : World} {L : List HP} {K : Value → World → Prop} {v : Value} {n next hn : Int} {m : Held} {I : List (Sgn × Int)} {M : List It} {cs : List Ctx} {c : Ctx} {tv s : Value}
end
end Go.Proofs.Gong

/- Hold3 -/
namespace Go.Proofs.Gong
open Go Go.Sx Go.Proofs
set_option linter.all false
set_option maxRecDepth 100000
variable {kn kr : ET} {ke : JT}
def T5 : List (Nat × FnT) := []
def F5 (x0 : Value) (w : World) (K : V1) : Prop :=
bindP (bLt x0 (.int .i64 1)) fun v1 =>
stepM (gd false v1) x0 fun v2 =>
Sx.stepG (gd false v1) (bGt v2 (.int .i64 65536)) fun v3 =>
bindP (pPick v1 (.bool true) v3) fun v4 =>
ifB v4 (
K (.tuple #[(.pointer none), (.int .i64 1)]) w) (
bindP (fBuild Tryz.prog 45 [(0, x0), (1, (.int .i64 1))]) fun v5 =>
eBox 45 v5 w fun v7 w6 =>
K (.tuple #[v7, (.int .i64 0)]) w6)
def G5 : FnT := fun args w K => on1 (fun x0 => F5 x0 w K) args
theorem c5 {x0 : Value} {w : World} {K : V1} (h : F5 x0 w K) : callP G5 [x0] w K := callP_intro (on1_mk (p := fun x0 => F5 x0 w K) h)
theorem ok5 : OkF Tryz.prog 5 G5 := by
  refine okF_of (tab_ok (l := T5) trivial) mixed (n := fuel) Tryz.func5 Tryz.call5 fun args w K h => ?_
  obtain ⟨x0, rfl, hh⟩ := of_on1 h
  exact fnD_list (c := bodyOf Tryz.f5) (by kernel_rfl) (by kernel_rfl) (Eq.mp (by kernel_rfl) hh)
def T16 : List (Nat × FnT) := []
def F16_2b (s0 s2 : Value) (w : World) (K : V1) (Y0 : V2) : Prop :=
bindP (lenL s0) fun v1 =>
bindP (bLt s2 v1) fun v2 =>
ifB v2 (
bindP (pIndexL 1 s0 s2) fun v3 =>
bindW (st 1 v3 (.int .i64 (-77)) w) fun w4 =>
bindP (bAdd s2 (.int .i64 1)) fun v6 =>
Y0 s0 v6 w4) (
K (.tuple #[]) w)
def F16_2L : Nat → Value → Value → World → (V1) → Prop
  | 0, _, _, _, _ => False
  | n + 1, s0, s2, w, K => F16_2b s0 s2 w K (fun a0 a2 w => F16_2L n a0 a2 w K)
def F16_2 (s0 s2 : Value) (w : World) (K : V1) : Prop := F16_2L fuel s0 s2 w K
theorem ok16_2 {K : V1}
    (hn : HN (fun e w => K (.tuple #[]) w) kn) (hr : HR Tryz.prog [] K kr) (he : HE noE ke) :
    ∀ e w, F16_2 (e 0) (e 2) w K → denL Tryz.prog (tabOf T16) 12 fuel ((flat (bodyOf Tryz.f16)).drop 1) e w kn kr ke := by
  intro e w h
  unfold F16_2 at h
  refine seg_loop (id := 0) (body := (loopB (blkB (nthC (flat (bodyOf Tryz.f16)) 1)))) (l2 := (flat (bodyOf Tryz.f16)).drop 2) (by kernel_rfl) ?_
  refine loop_ok (FL := fun m e w => F16_2L m (e 0) (e 2) w K) (fr := endD Tryz.prog [] K) (fe := (blkK 0 (fun e w => K (.tuple #[]) w) noE)) (fun _ _ h => h) ?_ hr (blkK_mono hn he) fuel e w h
  intro m e w h
  have h : F16_2L (m + 1) (e 0) (e 2) w K := h
  rw [F16_2L] at h
  have e1 : ∀ (Y0 : V2), F16_2b (e 0) (e 2) w K Y0 = denL Tryz.prog (tabOf T16) 12 fuel (flat (loopB (blkB (nthC (flat (bodyOf Tryz.f16)) 1)))) e w (fun e w => Y0 (e 0) (e 2) w) (endD Tryz.prog [] K) (blkK 0 (fun e w => K (.tuple #[]) w) noE) := by intro Y0; kernel_rfl
  exact Eq.mp (e1 (fun a0 a2 w => F16_2L m a0 a2 w K)) h
def F16_1b (s0 : Value) (w : World) (_K : V1) (Y0 : V2) : Prop :=
Y0 s0 (.int .i64 0) w
def F16_1 (s0 : Value) (w : World) (K : V1) : Prop := F16_1b s0 w K (fun a0 a2 w => F16_2 a0 a2 w K)
theorem ok16_1 {K : V1}
    (hn : HN (fun e w => K (.tuple #[]) w) kn) (hr : HR Tryz.prog [] K kr) (he : HE noE ke) :
    ∀ e w, F16_1 (e 0) w K → denL Tryz.prog (tabOf T16) 12 fuel ((flat (bodyOf Tryz.f16)).drop 0) e w kn kr ke := by
  intro e w h
  unfold F16_1 at h
  have e1 : ∀ (Y0 : V2), F16_1b (e 0) w K Y0 = denL Tryz.prog (tabOf T16) 12 fuel (((flat (bodyOf Tryz.f16)).drop 0).take 1) e w (fun e w => Y0 (e 0) (e 2) w) (endD Tryz.prog [] K) noE := by intro Y0; kernel_rfl
  exact seg 1 (Eq.mp (e1 (fun a0 a2 w => F16_2 a0 a2 w K)) h) (fun e w h => ok16_2 hn hr he e w h) hr he
def F16 (x0 : Value) (w : World) (K : V1) : Prop := F16_1 x0 w K
def G16 : FnT := fun args w K => on1 (fun x0 => F16 x0 w K) args
theorem c16 {x0 : Value} {w : World} {K : V1} (h : F16 x0 w K) : callP G16 [x0] w K := callP_intro (on1_mk (p := fun x0 => F16 x0 w K) h)
theorem ok16 : OkF Tryz.prog 16 G16 := by
  refine okF_of (tab_ok (l := T16) trivial) mixed (n := fuel) Tryz.func16 Tryz.call16 fun args w K h => ?_
  obtain ⟨x0, rfl, hh⟩ := of_on1 h
  unfold F16 at hh
  exact fnD_list (c := bodyOf Tryz.f16) (by kernel_rfl) (by kernel_rfl) (ok16_1 (fun _ _ h => h) (fun _ _ h => h) (fun _ _ _ h => h) (initE [x0]) w hh)
def T13 : List (Nat × FnT) := []
def F13 (x0 : Value) (w : World) (K : V1) : Prop :=
eBox 36 x0 w fun v2 w1 =>
eAlloc Tryz.prog 36 w1 fun v4 w3 =>
eBuildSl Tryz.prog 34 0 [] w3 fun v6 w5 =>
bindP (pFieldAddr 10 v2) fun v7 =>
bindP (ld1 v7 w5) fun v8 =>
eAppend Tryz.prog 34 34 v6 v8 w5 fun v10 w9 =>
bindP (pFieldAddr 10 v2) fun v11 =>
bindW (st 1 v11 v10 w9) fun w12 =>
bindP (ldN 11 v2 w12) fun v14 =>
bindW (st 11 v4 v14 w12) fun w15 =>
bindP (ldN 11 v4 w15) fun v17 =>
K v17 w15
def G13 : FnT := fun args w K => on1 (fun x0 => F13 x0 w K) args
theorem c13 {x0 : Value} {w : World} {K : V1} (h : F13 x0 w K) : callP G13 [x0] w K := callP_intro (on1_mk (p := fun x0 => F13 x0 w K) h)
theorem ok13 : OkF Tryz.prog 13 G13 := by
  refine okF_of (tab_ok (l := T13) trivial) mixed (n := fuel) Tryz.func13 Tryz.call13 fun args w K h => ?_
  obtain ⟨x0, rfl, hh⟩ := of_on1 h
  exact fnD_list (c := bodyOf Tryz.f13) (by kernel_rfl) (by kernel_rfl) (Eq.mp (by kernel_rfl) hh)
def T22 : List (Nat × FnT) := [(13, G13)]
def F22_3b (s0 s2 s4 : Value) (w : World) (K : V1) : Prop :=
bindP (bLt s4 (.int .i64 0)) fun v1 =>
ifB v1 (
bindP (fBuild Tryz.prog 36 []) fun v2 =>
bindW (st 11 s2 v2 w) fun w3 =>
bindP (ldN 11 s2 w3) fun v5 =>
K (.tuple #[v5, (.bool false)]) w3) (
bindP (pNil s0) fun v6 =>
bindP (pFieldAddr 2 v6) fun v7 =>
bindP (ld1 v7 w) fun v8 =>
bindP (pIndexL 11 v8 s4) fun v9 =>
bindP (ldN 11 v9 w) fun v10 =>
callP G13 [v10] w fun v12 w11 =>
bindW (st 11 s2 v12 w11) fun w13 =>
bindP (ldN 11 s2 w13) fun v15 =>
K (.tuple #[v15, (.bool true)]) w13)
def F22_3 (s0 s2 s4 : Value) (w : World) (K : V1) : Prop := F22_3b s0 s2 s4 w K
theorem ok22_3 {K : V1}
    (hn : ∀ e w, (fun e w => bindP (ldN 11 (e 2) w) fun v17 =>
K (.tuple #[v17, (e 3)]) w) e w → kn e w) (hr : ∀ e w, endD Tryz.prog [.cell 2 36, .tmp 3] K e w → kr e w) (he : ∀ i e w, noE i e w → ke i e w) :
    ∀ e w, F22_3 (e 0) (e 2) (e 4) w K → denL Tryz.prog (tabOf T22) 86 fuel ((flat (bodyOf Tryz.f22)).drop 4) e w kn kr ke := by
  intro e w h
  unfold F22_3 at h
  have e1 : ∀ (_ : Unit), F22_3b (e 0) (e 2) (e 4) w K = denL Tryz.prog (tabOf T22) 86 fuel ((flat (bodyOf Tryz.f22)).drop 4) e w (fun e w => bindP (ldN 11 (e 2) w) fun v16 =>
K (.tuple #[v16, (e 3)]) w) (endD Tryz.prog [.cell 2 36, .tmp 3] K) noE := by intro _; kernel_rfl
  exact seg_end (Eq.mp (e1 ()) h) hn hr he
def F22_5b (s0 s2 s4 s5 : Value) (w : World) (_K : V1) (R3 : V4) : Prop :=
bindP (bAdd s5 (.int .i64 1)) fun v18 =>
R3 s0 s2 s4 v18 w
def F22_5 (s0 s2 s4 s5 : Value) (w : World) (K : V1) (R3 : V4) : Prop := F22_5b s0 s2 s4 s5 w K R3
theorem ok22_5 (R3 : V4) {K : V1}
    (hn : HN (fun e w => R3 (e 0) (e 2) (e 4) (e 5) w) kn) (hr : HR Tryz.prog [.cell 2 36, .tmp 3] K kr) (he : HE (blkK 0 (fun e w => F22_3 (e 0) (e 2) (e 4) w K) noE) ke) :
    ∀ e w, F22_5 (e 0) (e 2) (e 4) (e 5) w K R3 → denL Tryz.prog (tabOf T22) 86 fuel ((flat (loopB (blkB (nthC (flat (bodyOf Tryz.f22)) 3)))).drop 3) e w kn kr ke := by
  intro e w h
  unfold F22_5 at h
  have e1 : ∀ (_ : Unit), F22_5b (e 0) (e 2) (e 4) (e 5) w K R3 = denL Tryz.prog (tabOf T22) 86 fuel ((flat (loopB (blkB (nthC (flat (bodyOf Tryz.f22)) 3)))).drop 3) e w (fun e w => R3 (e 0) (e 2) (e 4) (e 5) w) (endD Tryz.prog [.cell 2 36, .tmp 3] K) (blkK 0 (fun e w => F22_3 (e 0) (e 2) (e 4) w K) noE) := by intro _; kernel_rfl
  exact seg_end (Eq.mp (e1 ()) h) hn hr he
def F22_4b (s0 s2 s4 s5 : Value) (w : World) (_K : V1) (R3 : V4) (Y0 : V4) (Y1 : V3) : Prop :=
bindP (pNil s0) fun v19 =>
bindP (pFieldAddr 2 v19) fun v20 =>
bindP (ld1 v20 w) fun v21 =>
bindP (lenL v21) fun v22 =>
bindP (bLt s5 v22) fun v23 =>
ifB v23 (
bindP (bLt s4 (.int .i64 0)) fun v24 =>
stepM (gd false v24) s0 fun v25 =>
Sx.stepG (gd false v24) (pNil v25) fun v26 =>
Sx.stepG (gd false v24) (pFieldAddr 2 v26) fun v27 =>
Sx.stepG (gd false v24) (ld1 v27 w.drew) fun v28 =>
stepM (gd false v24) s5 fun v29 =>
Sx.stepG (gd false v24) (pIndexL 11 v28 v29) fun v30 =>
Sx.stepG (gd false v24) (pFieldAddr 4 v30) fun v31 =>
Sx.stepG (gd false v24) (ld1 v31 w.drew) fun v32 =>
stepM (gd false v24) s0 fun v33 =>
Sx.stepG (gd false v24) (pNil v33) fun v34 =>
Sx.stepG (gd false v24) (pFieldAddr 2 v34) fun v35 =>
Sx.stepG (gd false v24) (ld1 v35 w.drew) fun v36 =>
stepM (gd false v24) s4 fun v37 =>
Sx.stepG (gd false v24) (pIndexL 11 v36 v37) fun v38 =>
Sx.stepG (gd false v24) (pFieldAddr 4 v38) fun v39 =>
Sx.stepG (gd false v24) (ld1 v39 w.drew) fun v40 =>
Sx.stepG (gd false v24) (bLt v32 v40) fun v41 =>
bindP (pPick v24 (.bool true) v41) fun v42 =>
stepM (gd false v42) s0 fun v43 =>
Sx.stepG (gd false v42) (pNil v43) fun v44 =>
Sx.stepG (gd false v42) (pFieldAddr 2 v44) fun v45 =>
Sx.stepG (gd false v42) (ld1 v45 w.drew) fun v46 =>
stepM (gd false v42) s5 fun v47 =>
Sx.stepG (gd false v42) (pIndexL 11 v46 v47) fun v48 =>
Sx.stepG (gd false v42) (pFieldAddr 4 v48) fun v49 =>
Sx.stepG (gd false v42) (ld1 v49 w.drew) fun v50 =>
stepM (gd false v42) s0 fun v51 =>
Sx.stepG (gd false v42) (pNil v51) fun v52 =>
Sx.stepG (gd false v42) (pFieldAddr 2 v52) fun v53 =>
Sx.stepG (gd false v42) (ld1 v53 w.drew) fun v54 =>
stepM (gd false v42) s4 fun v55 =>
Sx.stepG (gd false v42) (pIndexL 11 v54 v55) fun v56 =>
Sx.stepG (gd false v42) (pFieldAddr 4 v56) fun v57 =>
Sx.stepG (gd false v42) (ld1 v57 w.drew) fun v58 =>
Sx.stepG (gd false v42) (bEq Tryz.prog 3 (.tmp 44) (.tmp 52) v50 v58) fun v59 =>
stepM (gd false v42) v59 fun v60 =>
stepM (gd true v60) s0 fun v61 =>
Sx.stepG (gd true v60) (pNil v61) fun v62 =>
Sx.stepG (gd true v60) (pFieldAddr 2 v62) fun v63 =>
Sx.stepG (gd true v60) (ld1 v63 w.drew) fun v64 =>
stepM (gd true v60) s5 fun v65 =>
Sx.stepG (gd true v60) (pIndexL 11 v64 v65) fun v66 =>
Sx.stepG (gd true v60) (pFieldAddr 0 v66) fun v67 =>
Sx.stepG (gd true v60) (ld1 v67 w.drew) fun v68 =>
stepM (gd true v60) s0 fun v69 =>
Sx.stepG (gd true v60) (pNil v69) fun v70 =>
Sx.stepG (gd true v60) (pFieldAddr 2 v70) fun v71 =>
Sx.stepG (gd true v60) (ld1 v71 w.drew) fun v72 =>
stepM (gd true v60) s4 fun v73 =>
Sx.stepG (gd true v60) (pIndexL 11 v72 v73) fun v74 =>
Sx.stepG (gd true v60) (pFieldAddr 0 v74) fun v75 =>
Sx.stepG (gd true v60) (ld1 v75 w.drew) fun v76 =>
Sx.stepG (gd true v60) (bLt v68 v76) fun v77 =>
Sx.stepG (gd false v42) (pPick v60 v77 (.bool false)) fun v78 =>
bindP (pPick v42 (.bool true) v78) fun v79 =>
ifB v79 (
Y0 s0 s2 s5 s5 w.drew) (
Y0 s0 s2 s4 s5 w.drew)) (
Y1 s0 s2 s4 w)
def F22_4 (s0 s2 s4 s5 : Value) (w : World) (K : V1) (R3 : V4) : Prop := F22_4b s0 s2 s4 s5 w K R3 (fun a0 a2 a4 a5 w => F22_5 a0 a2 a4 a5 w K R3) (fun a0 a2 a4 w => F22_3 a0 a2 a4 w K)
theorem ok22_4 (R3 : V4) {K : V1}
    (hn : HN (fun e w => R3 (e 0) (e 2) (e 4) (e 5) w) kn) (hr : HR Tryz.prog [.cell 2 36, .tmp 3] K kr) (he : HE (blkK 0 (fun e w => F22_3 (e 0) (e 2) (e 4) w K) noE) ke) :
    ∀ e w, F22_4 (e 0) (e 2) (e 4) (e 5) w K R3 → denL Tryz.prog (tabOf T22) 86 fuel ((flat (loopB (blkB (nthC (flat (bodyOf Tryz.f22)) 3)))).drop 0) e w kn kr ke := by
  intro e w h
  unfold F22_4 at h
  have e1 : ∀ (Y0 : V4) (Y1 : V3), F22_4b (e 0) (e 2) (e 4) (e 5) w K R3 Y0 Y1 = denL Tryz.prog (tabOf T22) 86 fuel (((flat (loopB (blkB (nthC (flat (bodyOf Tryz.f22)) 3)))).drop 0).take 3) e w (fun e w => Y0 (e 0) (e 2) (e 4) (e 5) w) (endD Tryz.prog [.cell 2 36, .tmp 3] K) (blkK 0 (fun e w => Y1 (e 0) (e 2) (e 4) w) noE) := by intro Y0 Y1; kernel_rfl
  exact seg 3 (Eq.mp (e1 (fun a0 a2 a4 a5 w => F22_5 a0 a2 a4 a5 w K R3) (fun a0 a2 a4 w => F22_3 a0 a2 a4 w K)) h) (fun e w h => ok22_5 R3 hn hr he e w h) hr he
def F22_2L : Nat → Value → Value → Value → Value → World → (V1) → Prop
  | 0, _, _, _, _, _, _ => False
  | n + 1, s0, s2, s4, s5, w, K => F22_4 s0 s2 s4 s5 w K (fun a0 a2 a4 a5 w => F22_2L n a0 a2 a4 a5 w K)
def F22_2 (s0 s2 s4 s5 : Value) (w : World) (K : V1) : Prop := F22_2L fuel s0 s2 s4 s5 w K
theorem ok22_2 {K : V1}
    (hn : ∀ e w, (fun e w => bindP (ldN 11 (e 2) w) fun v80 =>
K (.tuple #[v80, (e 3)]) w) e w → kn e w) (hr : ∀ e w, endD Tryz.prog [.cell 2 36, .tmp 3] K e w → kr e w) (he : ∀ i e w, noE i e w → ke i e w) :
    ∀ e w, F22_2 (e 0) (e 2) (e 4) (e 5) w K → denL Tryz.prog (tabOf T22) 86 fuel ((flat (bodyOf Tryz.f22)).drop 3) e w kn kr ke := by
  intro e w h
  unfold F22_2 at h
  refine seg_loop (id := 0) (body := (loopB (blkB (nthC (flat (bodyOf Tryz.f22)) 3)))) (l2 := (flat (bodyOf Tryz.f22)).drop 4) (by kernel_rfl) ?_
  refine loop_ok (FL := fun m e w => F22_2L m (e 0) (e 2) (e 4) (e 5) w K) (fr := endD Tryz.prog [.cell 2 36, .tmp 3] K) (fe := (blkK 0 (fun e w => F22_3 (e 0) (e 2) (e 4) w K) noE)) (fun _ _ h => h) ?_ hr (blkK_mono (fun e w h => ok22_3 hn hr he e w h) he) fuel e w h
  intro m e w h
  have h : F22_2L (m + 1) (e 0) (e 2) (e 4) (e 5) w K := h
  rw [F22_2L] at h
  exact ok22_4 (fun a0 a2 a4 a5 w => F22_2L m a0 a2 a4 a5 w K) (fun _ _ h => h) (fun _ _ h => h) (fun _ _ _ h => h) e w h
def F22_1b (s0 : Value) (w : World) (_K : V1) (Y0 : V4) : Prop :=
eAlloc Tryz.prog 36 w fun v82 w81 =>
Y0 s0 v82 (.int .i64 (-1)) (.int .i64 0) w81
def F22_1 (s0 : Value) (w : World) (K : V1) : Prop := F22_1b s0 w K (fun a0 a2 a4 a5 w => F22_2 a0 a2 a4 a5 w K)
theorem ok22_1 {K : V1}
    (hn : ∀ e w, (fun e w => bindP (ldN 11 (e 2) w) fun v83 =>
K (.tuple #[v83, (e 3)]) w) e w → kn e w) (hr : ∀ e w, endD Tryz.prog [.cell 2 36, .tmp 3] K e w → kr e w) (he : ∀ i e w, noE i e w → ke i e w) :
    ∀ e w, F22_1 (e 0) w K → denL Tryz.prog (tabOf T22) 86 fuel ((flat (bodyOf Tryz.f22)).drop 0) e w kn kr ke := by
  intro e w h
  unfold F22_1 at h
  have e1 : ∀ (Y0 : V4), F22_1b (e 0) w K Y0 = denL Tryz.prog (tabOf T22) 86 fuel (((flat (bodyOf Tryz.f22)).drop 0).take 3) e w (fun e w => Y0 (e 0) (e 2) (e 4) (e 5) w) (endD Tryz.prog [.cell 2 36, .tmp 3] K) noE := by intro Y0; kernel_rfl
  exact seg 3 (Eq.mp (e1 (fun a0 a2 a4 a5 w => F22_2 a0 a2 a4 a5 w K)) h) (fun e w h => ok22_2 hn hr he e w h) hr he
def F22 (x0 : Value) (w : World) (K : V1) : Prop := F22_1 x0 w K
def G22 : FnT := fun args w K => on1 (fun x0 => F22 x0 w K) args
theorem c22 {x0 : Value} {w : World} {K : V1} (h : F22 x0 w K) : callP G22 [x0] w K := callP_intro (on1_mk (p := fun x0 => F22 x0 w K) h)
theorem ok22 : OkF Tryz.prog 22 G22 := by
  refine okF_of (tab_ok (l := T22) ⟨ok13, trivial⟩) mixed (n := fuel) Tryz.func22 Tryz.call22 fun args w K h => ?_
  obtain ⟨x0, rfl, hh⟩ := of_on1 h
  unfold F22 at hh
  exact fnD_list (c := bodyOf Tryz.f22) (by kernel_rfl) (by kernel_rfl) (ok22_1 (fun _ _ h => h) (fun _ _ h => h) (fun _ _ _ h => h) (initE [x0]) w hh)
def T37 : List (Nat × FnT) := []
def F37_3b (w : World) (K : V1) : Prop :=
K (.int .i64 (-1)) w
def F37_3 (w : World) (K : V1) : Prop := F37_3b w K
theorem ok37_3 {K : V1}
    (hn : HN (fun e w => K (e 8) w) kn) (hr : HR Tryz.prog [.tmp 8] K kr) (he : HE noE ke) :
    ∀ e w, F37_3 w K → denL Tryz.prog (tabOf T37) 54 fuel ((flat (bodyOf Tryz.f37)).drop 3) e w kn kr ke := by
  intro e w h
  unfold F37_3 at h
  have e1 : ∀ (_ : Unit), F37_3b w K = denL Tryz.prog (tabOf T37) 54 fuel ((flat (bodyOf Tryz.f37)).drop 3) e w (fun e w => K (e 8) w) (endD Tryz.prog [.tmp 8] K) noE := by intro _; kernel_rfl
  exact seg_end (Eq.mp (e1 ()) h) hn hr he
def F37_2b (s0 s1 s2 s3 s9 : Value) (w : World) (K : V1) (Y0 : V5) (Y1 : V0) : Prop :=
bindP (pNil s0) fun v1 =>
bindP (pFieldAddr 2 v1) fun v2 =>
bindP (ld1 v2 w) fun v3 =>
bindP (lenL v3) fun v4 =>
bindP (bLt s9 v4) fun v5 =>
ifB v5 (
bindP (pNil s0) fun v6 =>
bindP (pFieldAddr 2 v6) fun v7 =>
bindP (ld1 v7 w) fun v8 =>
bindP (pIndexL 11 v8 s9) fun v9 =>
bindP (pFieldAddr 1 v9) fun v10 =>
bindP (ld1 v10 w) fun v11 =>
bindP (bEq Tryz.prog 3 (.tmp 26) (.tmp 27) v11 s1) fun v12 =>
stepM (gd true v12) s0 fun v13 =>
Sx.stepG (gd true v12) (pNil v13) fun v14 =>
Sx.stepG (gd true v12) (pFieldAddr 2 v14) fun v15 =>
Sx.stepG (gd true v12) (ld1 v15 w) fun v16 =>
stepM (gd true v12) s9 fun v17 =>
Sx.stepG (gd true v12) (pIndexL 11 v16 v17) fun v18 =>
Sx.stepG (gd true v12) (pFieldAddr 2 v18) fun v19 =>
Sx.stepG (gd true v12) (ld1 v19 w) fun v20 =>
stepM (gd true v12) s2 fun v21 =>
Sx.stepG (gd true v12) (bEq Tryz.prog 9 (.tmp 37) (.tmp 38) v20 v21) fun v22 =>
bindP (pPick v12 v22 (.bool false)) fun v23 =>
stepM (gd true v23) s0 fun v24 =>
Sx.stepG (gd true v23) (pNil v24) fun v25 =>
Sx.stepG (gd true v23) (pFieldAddr 2 v25) fun v26 =>
Sx.stepG (gd true v23) (ld1 v26 w) fun v27 =>
stepM (gd true v23) s9 fun v28 =>
Sx.stepG (gd true v23) (pIndexL 11 v27 v28) fun v29 =>
Sx.stepG (gd true v23) (pFieldAddr 3 v29) fun v30 =>
Sx.stepG (gd true v23) (ld1 v30 w) fun v31 =>
stepM (gd true v23) s3 fun v32 =>
Sx.stepG (gd true v23) (bEq Tryz.prog 9 (.tmp 49) (.tmp 50) v31 v32) fun v33 =>
bindP (pPick v23 v33 (.bool false)) fun v34 =>
ifB v34 (
K s9 w) (
bindP (bAdd s9 (.int .i64 1)) fun v35 =>
Y0 s0 s1 s2 s3 v35 w)) (
Y1 w)
def F37_2L : Nat → Value → Value → Value → Value → Value → World → (V1) → Prop
  | 0, _, _, _, _, _, _, _ => False
  | n + 1, s0, s1, s2, s3, s9, w, K => F37_2b s0 s1 s2 s3 s9 w K (fun a0 a1 a2 a3 a9 w => F37_2L n a0 a1 a2 a3 a9 w K) (fun w => F37_3 w K)
def F37_2 (s0 s1 s2 s3 s9 : Value) (w : World) (K : V1) : Prop := F37_2L fuel s0 s1 s2 s3 s9 w K
theorem ok37_2 {K : V1}
    (hn : HN (fun e w => K (e 8) w) kn) (hr : HR Tryz.prog [.tmp 8] K kr) (he : HE noE ke) :
    ∀ e w, F37_2 (e 0) (e 1) (e 2) (e 3) (e 9) w K → denL Tryz.prog (tabOf T37) 54 fuel ((flat (bodyOf Tryz.f37)).drop 2) e w kn kr ke := by
  intro e w h
  unfold F37_2 at h
  refine seg_loop (id := 0) (body := (loopB (blkB (nthC (flat (bodyOf Tryz.f37)) 2)))) (l2 := (flat (bodyOf Tryz.f37)).drop 3) (by kernel_rfl) ?_
  refine loop_ok (FL := fun m e w => F37_2L m (e 0) (e 1) (e 2) (e 3) (e 9) w K) (fr := endD Tryz.prog [.tmp 8] K) (fe := (blkK 0 (fun e w => F37_3 w K) noE)) (fun _ _ h => h) ?_ hr (blkK_mono (fun e w h => ok37_3 hn hr he e w h) he) fuel e w h
  intro m e w h
  have h : F37_2L (m + 1) (e 0) (e 1) (e 2) (e 3) (e 9) w K := h
  rw [F37_2L] at h
  have e1 : ∀ (Y0 : V5) (Y1 : V0), F37_2b (e 0) (e 1) (e 2) (e 3) (e 9) w K Y0 Y1 = denL Tryz.prog (tabOf T37) 54 fuel (flat (loopB (blkB (nthC (flat (bodyOf Tryz.f37)) 2)))) e w (fun e w => Y0 (e 0) (e 1) (e 2) (e 3) (e 9) w) (endD Tryz.prog [.tmp 8] K) (blkK 0 (fun e w => Y1 w) noE) := by intro Y0 Y1; kernel_rfl
  exact Eq.mp (e1 (fun a0 a1 a2 a3 a9 w => F37_2L m a0 a1 a2 a3 a9 w K) (fun w => F37_3 w K)) h
def F37_1b (s0 s1 s2 s3 : Value) (w : World) (_K : V1) (Y0 : V5) : Prop :=
Y0 s0 s1 s2 s3 (.int .i64 0) w
def F37_1 (s0 s1 s2 s3 : Value) (w : World) (K : V1) : Prop := F37_1b s0 s1 s2 s3 w K (fun a0 a1 a2 a3 a9 w => F37_2 a0 a1 a2 a3 a9 w K)
theorem ok37_1 {K : V1}
    (hn : HN (fun e w => K (e 8) w) kn) (hr : HR Tryz.prog [.tmp 8] K kr) (he : HE noE ke) :
    ∀ e w, F37_1 (e 0) (e 1) (e 2) (e 3) w K → denL Tryz.prog (tabOf T37) 54 fuel ((flat (bodyOf Tryz.f37)).drop 0) e w kn kr ke := by
  intro e w h
  unfold F37_1 at h
  have e1 : ∀ (Y0 : V5), F37_1b (e 0) (e 1) (e 2) (e 3) w K Y0 = denL Tryz.prog (tabOf T37) 54 fuel (((flat (bodyOf Tryz.f37)).drop 0).take 2) e w (fun e w => Y0 (e 0) (e 1) (e 2) (e 3) (e 9) w) (endD Tryz.prog [.tmp 8] K) noE := by intro Y0; kernel_rfl
  exact seg 2 (Eq.mp (e1 (fun a0 a1 a2 a3 a9 w => F37_2 a0 a1 a2 a3 a9 w K)) h) (fun e w h => ok37_2 hn hr he e w h) hr he
def F37 (x0 x1 x2 x3 : Value) (w : World) (K : V1) : Prop := F37_1 x0 x1 x2 x3 w K
def G37 : FnT := fun args w K => on4 (fun x0 x1 x2 x3 => F37 x0 x1 x2 x3 w K) args
theorem c37 {x0 x1 x2 x3 : Value} {w : World} {K : V1} (h : F37 x0 x1 x2 x3 w K) : callP G37 [x0, x1, x2, x3] w K := callP_intro (on4_mk (p := fun x0 x1 x2 x3 => F37 x0 x1 x2 x3 w K) h)
theorem ok37 : OkF Tryz.prog 37 G37 := by
  refine okF_of (tab_ok (l := T37) trivial) mixed (n := fuel) Tryz.func37 Tryz.call37 fun args w K h => ?_
  obtain ⟨x0, x1, x2, x3, rfl, hh⟩ := of_on4 h
  unfold F37 at hh
  exact fnD_list (c := bodyOf Tryz.f37) (by kernel_rfl) (by kernel_rfl) (ok37_1 (fun _ _ h => h) (fun _ _ h => h) (fun _ _ _ h => h) (initE [x0, x1, x2, x3]) w hh)
def T27 : List (Nat × FnT) := [(13, G13), (37, G37)]
def F27 (x0 x1 x2 x3 : Value) (w : World) (K : V1) : Prop :=
eAlloc Tryz.prog 36 w fun v2 w1 =>
callP G37 [x0, x1, x2, x3] w1 fun v4 w3 =>
bindP (bLt v4 (.int .i64 0)) fun v5 =>
ifB v5 (
bindP (fBuild Tryz.prog 36 []) fun v6 =>
bindW (st 11 v2 v6 w3) fun w7 =>
bindP (ldN 11 v2 w7) fun v9 =>
K (.tuple #[v9, (.bool false)]) w7) (
bindP (pNil x0) fun v10 =>
bindP (pFieldAddr 2 v10) fun v11 =>
bindP (ld1 v11 w3) fun v12 =>
bindP (pIndexL 11 v12 v4) fun v13 =>
bindP (ldN 11 v13 w3) fun v14 =>
callP G13 [v14] w3 fun v16 w15 =>
bindW (st 11 v2 v16 w15) fun w17 =>
bindP (ldN 11 v2 w17) fun v19 =>
K (.tuple #[v19, (.bool true)]) w17)
def G27 : FnT := fun args w K => on4 (fun x0 x1 x2 x3 => F27 x0 x1 x2 x3 w K) args
theorem c27 {x0 x1 x2 x3 : Value} {w : World} {K : V1} (h : F27 x0 x1 x2 x3 w K) : callP G27 [x0, x1, x2, x3] w K := callP_intro (on4_mk (p := fun x0 x1 x2 x3 => F27 x0 x1 x2 x3 w K) h)
theorem ok27 : OkF Tryz.prog 27 G27 := by
  refine okF_of (tab_ok (l := T27) ⟨ok13, ok37, trivial⟩) mixed (n := fuel) Tryz.func27 Tryz.call27 fun args w K h => ?_
  obtain ⟨x0, x1, x2, x3, rfl, hh⟩ := of_on4 h
  exact fnD_list (c := bodyOf Tryz.f27) (by kernel_rfl) (by kernel_rfl) (Eq.mp (by kernel_rfl) hh)
def T30 : List (Nat × FnT) := [(21, G21)]
def F30_3b (w : World) (K : V1) : Prop :=
K (.bool true) w
def F30_3 (w : World) (K : V1) : Prop := F30_3b w K
theorem ok30_3 {K : V1}
    (hn : HN (fun e w => K (e 4) w) kn) (hr : HR Tryz.prog [.tmp 4] K kr) (he : HE noE ke) :
    ∀ e w, F30_3 w K → denL Tryz.prog (tabOf T30) 27 fuel ((flat (bodyOf Tryz.f30)).drop 5) e w kn kr ke := by
  intro e w h
  unfold F30_3 at h
  have e1 : ∀ (_ : Unit), F30_3b w K = denL Tryz.prog (tabOf T30) 27 fuel ((flat (bodyOf Tryz.f30)).drop 5) e w (fun e w => K (e 4) w) (endD Tryz.prog [.tmp 4] K) noE := by intro _; kernel_rfl
  exact seg_end (Eq.mp (e1 ()) h) hn hr he
def F30_2b (s0 s1 s5 : Value) (w : World) (K : V1) (Y0 : V3) (Y1 : V0) : Prop :=
bindP (lenL s0) fun v1 =>
bindP (bLt s5 v1) fun v2 =>
ifB v2 (
bindP (pIndexL 11 s0 s5) fun v3 =>
bindP (ldN 11 v3 w.drew) fun v4 =>
bindP (pIndexL 11 s1 s5) fun v5 =>
bindP (ldN 11 v5 w.drew) fun v6 =>
callP G21 [v4, v6] w.drew fun v8 w7 =>
bindP (uNot v8) fun v9 =>
ifB v9 (
K (.bool false) w7) (
bindP (bAdd s5 (.int .i64 1)) fun v10 =>
Y0 s0 s1 v10 w7)) (
Y1 w)
def F30_2L : Nat → Value → Value → Value → World → (V1) → Prop
  | 0, _, _, _, _, _ => False
  | n + 1, s0, s1, s5, w, K => F30_2b s0 s1 s5 w K (fun a0 a1 a5 w => F30_2L n a0 a1 a5 w K) (fun w => F30_3 w K)
def F30_2 (s0 s1 s5 : Value) (w : World) (K : V1) : Prop := F30_2L fuel s0 s1 s5 w K
theorem ok30_2 {K : V1}
    (hn : HN (fun e w => K (e 4) w) kn) (hr : HR Tryz.prog [.tmp 4] K kr) (he : HE noE ke) :
    ∀ e w, F30_2 (e 0) (e 1) (e 5) w K → denL Tryz.prog (tabOf T30) 27 fuel ((flat (bodyOf Tryz.f30)).drop 4) e w kn kr ke := by
  intro e w h
  unfold F30_2 at h
  refine seg_loop (id := 0) (body := (loopB (blkB (nthC (flat (bodyOf Tryz.f30)) 4)))) (l2 := (flat (bodyOf Tryz.f30)).drop 5) (by kernel_rfl) ?_
  refine loop_ok (FL := fun m e w => F30_2L m (e 0) (e 1) (e 5) w K) (fr := endD Tryz.prog [.tmp 4] K) (fe := (blkK 0 (fun e w => F30_3 w K) noE)) (fun _ _ h => h) ?_ hr (blkK_mono (fun e w h => ok30_3 hn hr he e w h) he) fuel e w h
  intro m e w h
  have h : F30_2L (m + 1) (e 0) (e 1) (e 5) w K := h
  rw [F30_2L] at h
  have e1 : ∀ (Y0 : V3) (Y1 : V0), F30_2b (e 0) (e 1) (e 5) w K Y0 Y1 = denL Tryz.prog (tabOf T30) 27 fuel (flat (loopB (blkB (nthC (flat (bodyOf Tryz.f30)) 4)))) e w (fun e w => Y0 (e 0) (e 1) (e 5) w) (endD Tryz.prog [.tmp 4] K) (blkK 0 (fun e w => Y1 w) noE) := by intro Y0 Y1; kernel_rfl
  exact Eq.mp (e1 (fun a0 a1 a5 w => F30_2L m a0 a1 a5 w K) (fun w => F30_3 w K)) h
def F30_1b (s0 s1 : Value) (w : World) (K : V1) (Y0 : V3) : Prop :=
bindP (lenL s0) fun v11 =>
bindP (lenL s1) fun v12 =>
bindP (bNe Tryz.prog 3 (.tmp 7) (.tmp 9) v11 v12) fun v13 =>
ifB v13 (
K (.bool false) w) (
Y0 s0 s1 (.int .i64 0) w)
def F30_1 (s0 s1 : Value) (w : World) (K : V1) : Prop := F30_1b s0 s1 w K (fun a0 a1 a5 w => F30_2 a0 a1 a5 w K)
theorem ok30_1 {K : V1}
    (hn : HN (fun e w => K (e 4) w) kn) (hr : HR Tryz.prog [.tmp 4] K kr) (he : HE noE ke) :
    ∀ e w, F30_1 (e 0) (e 1) w K → denL Tryz.prog (tabOf T30) 27 fuel ((flat (bodyOf Tryz.f30)).drop 0) e w kn kr ke := by
  intro e w h
  unfold F30_1 at h
  have e1 : ∀ (Y0 : V3), F30_1b (e 0) (e 1) w K Y0 = denL Tryz.prog (tabOf T30) 27 fuel (((flat (bodyOf Tryz.f30)).drop 0).take 4) e w (fun e w => Y0 (e 0) (e 1) (e 5) w) (endD Tryz.prog [.tmp 4] K) noE := by intro Y0; kernel_rfl
  exact seg 4 (Eq.mp (e1 (fun a0 a1 a5 w => F30_2 a0 a1 a5 w K)) h) (fun e w h => ok30_2 hn hr he e w h) hr he
def F30 (x0 x1 : Value) (w : World) (K : V1) : Prop := F30_1 x0 x1 w K
def G30 : FnT := fun args w K => on2 (fun x0 x1 => F30 x0 x1 w K) args
theorem c30 {x0 x1 : Value} {w : World} {K : V1} (h : F30 x0 x1 w K) : callP G30 [x0, x1] w K := callP_intro (on2_mk (p := fun x0 x1 => F30 x0 x1 w K) h)
theorem ok30 : OkF Tryz.prog 30 G30 := by
  refine okF_of (tab_ok (l := T30) ⟨ok21, trivial⟩) mixed (n := fuel) Tryz.func30 Tryz.call30 fun args w K h => ?_
  obtain ⟨x0, x1, rfl, hh⟩ := of_on2 h
  unfold F30 at hh
  exact fnD_list (c := bodyOf Tryz.f30) (by kernel_rfl) (by kernel_rfl) (ok30_1 (fun _ _ h => h) (fun _ _ h => h) (fun _ _ _ h => h) (initE [x0, x1]) w hh)
def T9 : List (Nat × FnT) := [(12, G12), (16, G16), (21, G21), (22, G22), (26, G26), (27, G27), (28, G28), (29, G29), (30, G30), (31, G31)]
def F9_3b (s0 s1 s16 : Value) (w : World) (K : V1) : Prop :=
stepM (gd true s16) s0 fun v1 =>
stepM (gd true s16) s1 fun v2 =>
Sx.stepG (gd true s16) (pNil v2) fun v3 =>
Sx.stepG (gd true s16) (pFieldAddr 2 v3) fun v4 =>
Sx.stepG (gd true s16) (ld1 v4 w.drew) fun v5 =>
stepE (gd true s16) (fun k => callP G29 [v1] w.drew k) w.drew fun v7 w6 =>
fok (gd true s16) (ld1 v4 w6) v5 ∧ (stepE (gd true s16) (fun k => callP G30 [v7, v5] w6 k) w6 fun v9 w8 =>
bindP (pPick s16 v9 (.bool false)) fun v10 =>
stepM (gd true v10) s0 fun v11 =>
stepM (gd true v10) s1 fun v12 =>
Sx.stepG (gd true v10) (pNil v12) fun v13 =>
Sx.stepG (gd true v10) (pFieldAddr 2 v13) fun v14 =>
Sx.stepG (gd true v10) (ld1 v14 w8) fun v15 =>
Sx.stepG (gd true v10) (lenL v15) fun v16 =>
stepE (gd true v10) (fun k => callP G12 [v11] w8 k) w8 fun v18 w17 =>
(fok (gd true v10) (ld1 v14 w17) v15 ∧ fok (gd true v10) (lenL v15) v16) ∧ (Sx.stepG (gd true v10) (bEq Tryz.prog 3 (.tmp 108) (.tmp 113) v18 v16) fun v19 =>
bindP (pPick v10 v19 (.bool false)) fun v20 =>
stepM (gd true v20) s0 fun v21 =>
stepM (gd true v20) s1 fun v22 =>
Sx.stepG (gd true v20) (pNil v22) fun v23 =>
Sx.stepG (gd true v20) (pFieldAddr 1 v23) fun v24 =>
Sx.stepG (gd true v20) (ld1 v24 w17) fun v25 =>
stepE (gd true v20) (fun k => callP G31 [v21] w17 k) w17 fun v27 w26 =>
fok (gd true v20) (ld1 v24 w26) v25 ∧ (Sx.stepG (gd true v20) (bEq Tryz.prog 3 (.tmp 118) (.tmp 122) v27 v25) fun v28 =>
bindP (pPick v20 v28 (.bool false)) fun v29 =>
K v29 w26)))
def F9_3 (s0 s1 s16 : Value) (w : World) (K : V1) : Prop := F9_3b s0 s1 s16 w K
theorem ok9_3 {K : V1}
    (hn : HN (fun e w => K (e 6) w) kn) (hr : HR Tryz.prog [.tmp 6] K kr) (he : HE noE ke) :
    ∀ e w, F9_3 (e 0) (e 1) (e 16) w K → denL Tryz.prog (tabOf T9) 125 fuel ((flat (bodyOf Tryz.f9)).drop 11) e w kn kr ke := by
  intro e w h
  unfold F9_3 at h
  have e1 : ∀ (_ : Unit), F9_3b (e 0) (e 1) (e 16) w K = denL Tryz.prog (tabOf T9) 125 fuel ((flat (bodyOf Tryz.f9)).drop 11) e w (fun e w => K (e 6) w) (endD Tryz.prog [.tmp 6] K) noE := by intro _; kernel_rfl
  exact seg_end (Eq.mp (e1 ()) h) hn hr he
def F9_2b (s0 s1 s15 s16 s17 : Value) (w : World) (_K : V1) (Y0 : V5) (Y1 : V3) : Prop :=
bindP (lenL s15) fun v30 =>
bindP (bLt s17 v30) fun v31 =>
ifB v31 (
bindP (pIndexL 11 s15 s17) fun v32 =>
bindP (pFieldAddr 10 v32) fun v33 =>
bindP (ld1 v33 w) fun v34 =>
callP G16 [v34] w fun _ w35 =>
bindP (bAdd s17 (.int .i64 1)) fun v37 =>
Y0 s0 s1 s15 s16 v37 w35) (
Y1 s0 s1 s16 w)
def F9_2L : Nat → Value → Value → Value → Value → Value → World → (V1) → Prop
  | 0, _, _, _, _, _, _, _ => False
  | n + 1, s0, s1, s15, s16, s17, w, K => F9_2b s0 s1 s15 s16 s17 w K (fun a0 a1 a15 a16 a17 w => F9_2L n a0 a1 a15 a16 a17 w K) (fun a0 a1 a16 w => F9_3 a0 a1 a16 w K)
def F9_2 (s0 s1 s15 s16 s17 : Value) (w : World) (K : V1) : Prop := F9_2L fuel s0 s1 s15 s16 s17 w K
theorem ok9_2 {K : V1}
    (hn : HN (fun e w => K (e 6) w) kn) (hr : HR Tryz.prog [.tmp 6] K kr) (he : HE noE ke) :
    ∀ e w, F9_2 (e 0) (e 1) (e 15) (e 16) (e 17) w K → denL Tryz.prog (tabOf T9) 125 fuel ((flat (bodyOf Tryz.f9)).drop 10) e w kn kr ke := by
  intro e w h
  unfold F9_2 at h
  refine seg_loop (id := 0) (body := (loopB (blkB (nthC (flat (bodyOf Tryz.f9)) 10)))) (l2 := (flat (bodyOf Tryz.f9)).drop 11) (by kernel_rfl) ?_
  refine loop_ok (FL := fun m e w => F9_2L m (e 0) (e 1) (e 15) (e 16) (e 17) w K) (fr := endD Tryz.prog [.tmp 6] K) (fe := (blkK 0 (fun e w => F9_3 (e 0) (e 1) (e 16) w K) noE)) (fun _ _ h => h) ?_ hr (blkK_mono (fun e w h => ok9_3 hn hr he e w h) he) fuel e w h
  intro m e w h
  have h : F9_2L (m + 1) (e 0) (e 1) (e 15) (e 16) (e 17) w K := h
  rw [F9_2L] at h
  have e1 : ∀ (Y0 : V5) (Y1 : V3), F9_2b (e 0) (e 1) (e 15) (e 16) (e 17) w K Y0 Y1 = denL Tryz.prog (tabOf T9) 125 fuel (flat (loopB (blkB (nthC (flat (bodyOf Tryz.f9)) 10)))) e w (fun e w => Y0 (e 0) (e 1) (e 15) (e 16) (e 17) w) (endD Tryz.prog [.tmp 6] K) (blkK 0 (fun e w => Y1 (e 0) (e 1) (e 16) w) noE) := by intro Y0 Y1; kernel_rfl
  exact Eq.mp (e1 (fun a0 a1 a15 a16 a17 w => F9_2L m a0 a1 a15 a16 a17 w K) (fun a0 a1 a16 w => F9_3 a0 a1 a16 w K)) h
def F9_1b (s0 s1 s2 : Value) (w : World) (_K : V1) (Y0 : V5) : Prop :=
eBox 36 s2 w fun v39 w38 =>
bindP (pFieldAddr 1 v39) fun v40 =>
bindP (ld1 v40 w38) fun v41 =>
bindP (pFieldAddr 2 v39) fun v42 =>
bindP (ld1 v42 w38) fun v43 =>
bindP (pFieldAddr 3 v39) fun v44 =>
bindP (ld1 v44 w38) fun v45 =>
callP G26 [s0, v41, v43, v45] w38 fun v47 w46 =>
bindP (pTuple v47 0) fun v48 =>
bindP (pTuple v47 1) fun v49 =>
eAlloc Tryz.prog 36 w46 fun v51 w50 =>
bindW (st 11 v51 v48 w50) fun w52 =>
bindP (pFieldAddr 1 v39) fun v54 =>
bindP (ld1 v54 w52) fun v55 =>
bindP (pFieldAddr 2 v39) fun v56 =>
bindP (ld1 v56 w52) fun v57 =>
bindP (pFieldAddr 3 v39) fun v58 =>
bindP (ld1 v58 w52) fun v59 =>
callP G27 [s1, v55, v57, v59] w52 fun v61 w60 =>
bindP (pTuple v61 0) fun v62 =>
bindP (pTuple v61 1) fun v63 =>
eAlloc Tryz.prog 36 w60 fun v65 w64 =>
bindW (st 11 v65 v62 w64) fun w66 =>
callP G28 [s0] w66 fun v69 w68 =>
bindP (pTuple v69 0) fun v70 =>
bindP (pTuple v69 1) fun v71 =>
eAlloc Tryz.prog 36 w68 fun v73 w72 =>
bindW (st 11 v73 v70 w72) fun w74 =>
callP G22 [s1] w74 fun v77 w76 =>
bindP (pTuple v77 0) fun v78 =>
bindP (pTuple v77 1) fun v79 =>
eAlloc Tryz.prog 36 w76 fun v81 w80 =>
bindW (st 11 v81 v78 w80) fun w82 =>
callP G29 [s0] w82 fun v85 w84 =>
bindP (pNil s1) fun v86 =>
bindP (pFieldAddr 2 v86) fun v87 =>
bindP (ld1 v87 w84) fun v88 =>
callP G30 [v85, v88] w84 fun v90 w89 =>
Sx.stepG (gd true v90) (ldN 11 v51 w89) fun v91 =>
Sx.stepG (gd true v90) (ldN 11 v65 w89) fun v92 =>
stepE (gd true v90) (fun k => callP G21 [v91, v92] w89 k) w89 fun v94 w93 =>
bindP (pPick v90 v94 (.bool false)) fun v95 =>
stepM (gd true v95) v49 fun v96 =>
stepM (gd true v95) v63 fun v97 =>
Sx.stepG (gd true v95) (bEq Tryz.prog 4 (.tmp 64) (.tmp 65) v96 v97) fun v98 =>
bindP (pPick v95 v98 (.bool false)) fun v99 =>
Sx.stepG (gd true v99) (ldN 11 v73 w93) fun v100 =>
Sx.stepG (gd true v99) (ldN 11 v81 w93) fun v101 =>
stepE (gd true v99) (fun k => callP G21 [v100, v101] w93 k) w93 fun v103 w102 =>
bindP (pPick v99 v103 (.bool false)) fun v104 =>
stepM (gd true v104) v71 fun v105 =>
stepM (gd true v104) v79 fun v106 =>
Sx.stepG (gd true v104) (bEq Tryz.prog 4 (.tmp 74) (.tmp 75) v105 v106) fun v107 =>
bindP (pPick v104 v107 (.bool false)) fun v108 =>
bindP (pFieldAddr 10 v51) fun v109 =>
bindP (ld1 v109 w102) fun v110 =>
callP G16 [v110] w102 fun _ w111 =>
bindP (pFieldAddr 10 v73) fun v113 =>
bindP (ld1 v113 w111) fun v114 =>
callP G16 [v114] w111 fun _ w115 =>
Y0 s0 s1 v85 v108 (.int .i64 0) w115
def F9_1 (s0 s1 s2 : Value) (w : World) (K : V1) : Prop := F9_1b s0 s1 s2 w K (fun a0 a1 a15 a16 a17 w => F9_2 a0 a1 a15 a16 a17 w K)
theorem ok9_1 {K : V1}
    (hn : HN (fun e w => K (e 6) w) kn) (hr : HR Tryz.prog [.tmp 6] K kr) (he : HE noE ke) :
    ∀ e w, F9_1 (e 0) (e 1) (e 2) w K → denL Tryz.prog (tabOf T9) 125 fuel ((flat (bodyOf Tryz.f9)).drop 0) e w kn kr ke := by
  intro e w h
  unfold F9_1 at h
  have e1 : ∀ (Y0 : V5), F9_1b (e 0) (e 1) (e 2) w K Y0 = denL Tryz.prog (tabOf T9) 125 fuel (((flat (bodyOf Tryz.f9)).drop 0).take 10) e w (fun e w => Y0 (e 0) (e 1) (e 15) (e 16) (e 17) w) (endD Tryz.prog [.tmp 6] K) noE := by intro Y0; kernel_rfl
  exact seg 10 (Eq.mp (e1 (fun a0 a1 a15 a16 a17 w => F9_2 a0 a1 a15 a16 a17 w K)) h) (fun e w h => ok9_2 hn hr he e w h) hr he
def F9 (x0 x1 x2 : Value) (w : World) (K : V1) : Prop := F9_1 x0 x1 x2 w K
def G9 : FnT := fun args w K => on3 (fun x0 x1 x2 => F9 x0 x1 x2 w K) args
theorem c9 {x0 x1 x2 : Value} {w : World} {K : V1} (h : F9 x0 x1 x2 w K) : callP G9 [x0, x1, x2] w K := callP_intro (on3_mk (p := fun x0 x1 x2 => F9 x0 x1 x2 w K) h)
theorem ok9 : OkF Tryz.prog 9 G9 := by
  refine okF_of (tab_ok (l := T9) ⟨ok12, ok16, ok21, ok22, ok26, ok27, ok28, ok29, ok30, ok31, trivial⟩) mixed (n := fuel) Tryz.func9 Tryz.call9 fun args w K h => ?_
  obtain ⟨x0, x1, x2, rfl, hh⟩ := of_on3 h
  unfold F9 at hh
  exact fnD_list (c := bodyOf Tryz.f9) (by kernel_rfl) (by kernel_rfl) (ok9_1 (fun _ _ h => h) (fun _ _ h => h) (fun _ _ _ h => h) (initE [x0, x1, x2]) w hh)
def T15 : List (Nat × FnT) := [(13, G13), (36, G36), (37, G37)]
def F15 (x0 x1 : Value) (w : World) (K : V1) : Prop :=
eBox 36 x1 w fun v2 w1 =>
bindP (ldN 11 v2 w1) fun v3 =>
callP G36 [v3] w1 fun v5 w4 =>
bindP (bNe Tryz.prog 24 (.tmp 9) (.const (.int .i64 0)) v5 (.int .i64 0)) fun v6 =>
ifB v6 (
K (.tuple #[(.int .i64 0), v5]) w4) (
bindP (pFieldAddr 1 v2) fun v7 =>
bindP (ld1 v7 w4) fun v8 =>
bindP (pFieldAddr 2 v2) fun v9 =>
bindP (ld1 v9 w4) fun v10 =>
bindP (pFieldAddr 3 v2) fun v11 =>
bindP (ld1 v11 w4) fun v12 =>
callP G37 [x0, v8, v10, v12] w4 fun v14 w13 =>
bindP (bGe v14 (.int .i64 0)) fun v15 =>
ifB v15 (
K (.tuple #[(.int .i64 0), (.int .i64 6)]) w13) (
bindP (pNil x0) fun v16 =>
bindP (pFieldAddr 2 v16) fun v17 =>
bindP (ld1 v17 w13.drew) fun v18 =>
bindP (lenL v18) fun v19 =>
bindP (pNil x0) fun v20 =>
bindP (pFieldAddr 0 v20) fun v21 =>
bindP (ld1 v21 w13.drew) fun v22 =>
bindP (bGe v19 v22) fun v23 =>
ifB v23 (
K (.tuple #[(.int .i64 0), (.int .i64 200)]) w13.drew) (
bindP (ldN 11 v2 w13.drew) fun v24 =>
callP G13 [v24] w13.drew fun v26 w25 =>
bindW (st 11 v2 v26 w25) fun w27 =>
bindP (pNil x0) fun v29 =>
bindP (pFieldAddr 1 v29) fun v30 =>
bindP (ld1 v30 w27) fun v31 =>
bindP (pFieldAddr 0 v2) fun v32 =>
bindW (st 1 v32 v31 w27) fun w33 =>
bindP (pNil x0) fun v35 =>
bindP (pFieldAddr 1 v35) fun v36 =>
bindP (ld1 v36 w33) fun v37 =>
bindP (bAdd v37 (.int .i64 1)) fun v38 =>
bindP (pNil x0) fun v39 =>
bindP (pFieldAddr 1 v39) fun v40 =>
bindW (st 1 v40 v38 w33) fun w41 =>
bindP (pNil x0) fun v43 =>
bindP (pFieldAddr 2 v43) fun v44 =>
bindP (ld1 v44 w41.drew) fun v45 =>
bindP (ldN 11 v2 w41.drew) fun v46 =>
(eBuildSl Tryz.prog 37 0 [] w41.drew fun v48 w47 =>
(fok true (ld1 v44 w47) v45 ∧ fok true (ldN 11 v2 w47) v46) ∧ ((eAppend Tryz.prog 37 37 v48 v45 w47 fun v50 w49 =>
fok true (ldN 11 v2 w49) v46 ∧ (eBuildSl Tryz.prog 37 1 [(0, v46)] w49 fun v52 w51 =>
fok true (ld1 v44 w51) v45 ∧ (eAppend Tryz.prog 37 37 v50 v52 w51 fun v54 w53 =>
bindP (pNil x0) fun v55 =>
bindP (pFieldAddr 2 v55) fun v56 =>
bindW (st 1 v56 v54 w53) fun w57 =>
bindP (pFieldAddr 0 v2) fun v59 =>
bindP (ld1 v59 w57) fun v60 =>
K (.tuple #[v60, (.int .i64 0)]) w57))) ∧ (eBuildSl Tryz.prog 37 1 [(0, v46)] w47 fun v62 w61 =>
fok true (ld1 v44 w61) v45 ∧ (eAppend Tryz.prog 37 37 v48 v45 w61 fun v64 w63 =>
fok true (ldN 11 v2 w63) v46 ∧ (eAppend Tryz.prog 37 37 v64 v62 w63 fun v66 w65 =>
bindP (pNil x0) fun v67 =>
bindP (pFieldAddr 2 v67) fun v68 =>
bindW (st 1 v68 v66 w65) fun w69 =>
bindP (pFieldAddr 0 v2) fun v71 =>
bindP (ld1 v71 w69) fun v72 =>
K (.tuple #[v72, (.int .i64 0)]) w69))))) ∧ (eBuildSl Tryz.prog 37 1 [(0, v46)] w41.drew fun v74 w73 =>
fok true (ld1 v44 w73) v45 ∧ (eBuildSl Tryz.prog 37 0 [] w73 fun v76 w75 =>
(fok true (ld1 v44 w75) v45 ∧ fok true (ldN 11 v2 w75) v46) ∧ (eAppend Tryz.prog 37 37 v76 v45 w75 fun v78 w77 =>
fok true (ldN 11 v2 w77) v46 ∧ (eAppend Tryz.prog 37 37 v78 v74 w77 fun v80 w79 =>
bindP (pNil x0) fun v81 =>
bindP (pFieldAddr 2 v81) fun v82 =>
bindW (st 1 v82 v80 w79) fun w83 =>
bindP (pFieldAddr 0 v2) fun v85 =>
bindP (ld1 v85 w83) fun v86 =>
K (.tuple #[v86, (.int .i64 0)]) w83)))))))
def G15 : FnT := fun args w K => on2 (fun x0 x1 => F15 x0 x1 w K) args
theorem c15 {x0 x1 : Value} {w : World} {K : V1} (h : F15 x0 x1 w K) : callP G15 [x0, x1] w K := callP_intro (on2_mk (p := fun x0 x1 => F15 x0 x1 w K) h)
theorem ok15 : OkF Tryz.prog 15 G15 := by
  refine okF_of (tab_ok (l := T15) ⟨ok13, ok36, ok37, trivial⟩) mixed (n := fuel) Tryz.func15 Tryz.call15 fun args w K h => ?_
  obtain ⟨x0, x1, rfl, hh⟩ := of_on2 h
  exact fnD_list (c := bodyOf Tryz.f15) (by kernel_rfl) (by kernel_rfl) (Eq.mp (by kernel_rfl) hh)
def T38 : List (Nat × FnT) := []
def F38_3b (w : World) (K : V1) : Prop :=
K (.int .i64 (-1)) w
def F38_3 (w : World) (K : V1) : Prop := F38_3b w K
theorem ok38_3 {K : V1}
    (hn : HN (fun e w => K (e 4) w) kn) (hr : HR Tryz.prog [.tmp 4] K kr) (he : HE noE ke) :
    ∀ e w, F38_3 w K → denL Tryz.prog (tabOf T38) 26 fuel ((flat (bodyOf Tryz.f38)).drop 3) e w kn kr ke := by
  intro e w h
  unfold F38_3 at h
  have e1 : ∀ (_ : Unit), F38_3b w K = denL Tryz.prog (tabOf T38) 26 fuel ((flat (bodyOf Tryz.f38)).drop 3) e w (fun e w => K (e 4) w) (endD Tryz.prog [.tmp 4] K) noE := by intro _; kernel_rfl
  exact seg_end (Eq.mp (e1 ()) h) hn hr he
def F38_2b (s0 s1 s5 : Value) (w : World) (K : V1) (Y0 : V3) (Y1 : V0) : Prop :=
bindP (pNil s0) fun v1 =>
bindP (pFieldAddr 2 v1) fun v2 =>
bindP (ld1 v2 w) fun v3 =>
bindP (lenL v3) fun v4 =>
bindP (bLt s5 v4) fun v5 =>
ifB v5 (
bindP (pNil s0) fun v6 =>
bindP (pFieldAddr 2 v6) fun v7 =>
bindP (ld1 v7 w) fun v8 =>
bindP (pIndexL 11 v8 s5) fun v9 =>
bindP (pFieldAddr 0 v9) fun v10 =>
bindP (ld1 v10 w) fun v11 =>
bindP (bEq Tryz.prog 3 (.tmp 22) (.tmp 23) v11 s1) fun v12 =>
ifB v12 (
K s5 w) (
bindP (bAdd s5 (.int .i64 1)) fun v13 =>
Y0 s0 s1 v13 w)) (
Y1 w)
def F38_2L : Nat → Value → Value → Value → World → (V1) → Prop
  | 0, _, _, _, _, _ => False
  | n + 1, s0, s1, s5, w, K => F38_2b s0 s1 s5 w K (fun a0 a1 a5 w => F38_2L n a0 a1 a5 w K) (fun w => F38_3 w K)
def F38_2 (s0 s1 s5 : Value) (w : World) (K : V1) : Prop := F38_2L fuel s0 s1 s5 w K
theorem ok38_2 {K : V1}
    (hn : HN (fun e w => K (e 4) w) kn) (hr : HR Tryz.prog [.tmp 4] K kr) (he : HE noE ke) :
    ∀ e w, F38_2 (e 0) (e 1) (e 5) w K → denL Tryz.prog (tabOf T38) 26 fuel ((flat (bodyOf Tryz.f38)).drop 2) e w kn kr ke := by
  intro e w h
  unfold F38_2 at h
  refine seg_loop (id := 0) (body := (loopB (blkB (nthC (flat (bodyOf Tryz.f38)) 2)))) (l2 := (flat (bodyOf Tryz.f38)).drop 3) (by kernel_rfl) ?_
  refine loop_ok (FL := fun m e w => F38_2L m (e 0) (e 1) (e 5) w K) (fr := endD Tryz.prog [.tmp 4] K) (fe := (blkK 0 (fun e w => F38_3 w K) noE)) (fun _ _ h => h) ?_ hr (blkK_mono (fun e w h => ok38_3 hn hr he e w h) he) fuel e w h
  intro m e w h
  have h : F38_2L (m + 1) (e 0) (e 1) (e 5) w K := h
  rw [F38_2L] at h
  have e1 : ∀ (Y0 : V3) (Y1 : V0), F38_2b (e 0) (e 1) (e 5) w K Y0 Y1 = denL Tryz.prog (tabOf T38) 26 fuel (flat (loopB (blkB (nthC (flat (bodyOf Tryz.f38)) 2)))) e w (fun e w => Y0 (e 0) (e 1) (e 5) w) (endD Tryz.prog [.tmp 4] K) (blkK 0 (fun e w => Y1 w) noE) := by intro Y0 Y1; kernel_rfl
  exact Eq.mp (e1 (fun a0 a1 a5 w => F38_2L m a0 a1 a5 w K) (fun w => F38_3 w K)) h
def F38_1b (s0 s1 : Value) (w : World) (_K : V1) (Y0 : V3) : Prop :=
Y0 s0 s1 (.int .i64 0) w
def F38_1 (s0 s1 : Value) (w : World) (K : V1) : Prop := F38_1b s0 s1 w K (fun a0 a1 a5 w => F38_2 a0 a1 a5 w K)
theorem ok38_1 {K : V1}
    (hn : HN (fun e w => K (e 4) w) kn) (hr : HR Tryz.prog [.tmp 4] K kr) (he : HE noE ke) :
    ∀ e w, F38_1 (e 0) (e 1) w K → denL Tryz.prog (tabOf T38) 26 fuel ((flat (bodyOf Tryz.f38)).drop 0) e w kn kr ke := by
  intro e w h
  unfold F38_1 at h
  have e1 : ∀ (Y0 : V3), F38_1b (e 0) (e 1) w K Y0 = denL Tryz.prog (tabOf T38) 26 fuel (((flat (bodyOf Tryz.f38)).drop 0).take 2) e w (fun e w => Y0 (e 0) (e 1) (e 5) w) (endD Tryz.prog [.tmp 4] K) noE := by intro Y0; kernel_rfl
  exact seg 2 (Eq.mp (e1 (fun a0 a1 a5 w => F38_2 a0 a1 a5 w K)) h) (fun e w h => ok38_2 hn hr he e w h) hr he
def F38 (x0 x1 : Value) (w : World) (K : V1) : Prop := F38_1 x0 x1 w K
def G38 : FnT := fun args w K => on2 (fun x0 x1 => F38 x0 x1 w K) args
theorem c38 {x0 x1 : Value} {w : World} {K : V1} (h : F38 x0 x1 w K) : callP G38 [x0, x1] w K := callP_intro (on2_mk (p := fun x0 x1 => F38 x0 x1 w K) h)
theorem ok38 : OkF Tryz.prog 38 G38 := by
  refine okF_of (tab_ok (l := T38) trivial) mixed (n := fuel) Tryz.func38 Tryz.call38 fun args w K h => ?_
  obtain ⟨x0, x1, rfl, hh⟩ := of_on2 h
  unfold F38 at hh
  exact fnD_list (c := bodyOf Tryz.f38) (by kernel_rfl) (by kernel_rfl) (ok38_1 (fun _ _ h => h) (fun _ _ h => h) (fun _ _ _ h => h) (initE [x0, x1]) w hh)
def T18 : List (Nat × FnT) := [(13, G13), (36, G36), (37, G37), (38, G38)]
def F18 (x0 x1 : Value) (w : World) (K : V1) : Prop :=
eBox 36 x1 w fun v2 w1 =>
bindP (ldN 11 v2 w1) fun v3 =>
callP G36 [v3] w1 fun v5 w4 =>
bindP (bNe Tryz.prog 24 (.tmp 10) (.const (.int .i64 0)) v5 (.int .i64 0)) fun v6 =>
ifB v6 (
K v5 w4) (
bindP (pFieldAddr 0 v2) fun v7 =>
bindP (ld1 v7 w4) fun v8 =>
callP G38 [x0, v8] w4 fun v10 w9 =>
bindP (bLt v10 (.int .i64 0)) fun v11 =>
ifB v11 (
K (.int .i64 5) w9) (
bindP (pFieldAddr 1 v2) fun v12 =>
bindP (ld1 v12 w9) fun v13 =>
bindP (pFieldAddr 2 v2) fun v14 =>
bindP (ld1 v14 w9) fun v15 =>
bindP (pFieldAddr 3 v2) fun v16 =>
bindP (ld1 v16 w9) fun v17 =>
callP G37 [x0, v13, v15, v17] w9 fun v19 w18 =>
bindP (bNe Tryz.prog 3 (.tmp 26) (.tmp 27) v19 v10) fun v20 =>
ifB v20 (
K (.int .i64 4) w18) (
eBuildSl Tryz.prog 37 0 [] w18 fun v22 w21 =>
bindP (pNil x0) fun v23 =>
bindP (pFieldAddr 2 v23) fun v24 =>
bindP (ld1 v24 w21) fun v25 =>
eAppend Tryz.prog 37 37 v22 v25 w21 fun v27 w26 =>
bindP (ldN 11 v2 w26) fun v28 =>
callP G13 [v28] w26 fun v30 w29 =>
bindP (pIndexL 11 v27 v10) fun v31 =>
bindW (st 11 v31 v30 w29) fun w32 =>
bindP (pNil x0) fun v34 =>
bindP (pFieldAddr 2 v34) fun v35 =>
bindW (st 1 v35 v27 w32) fun w36 =>
K (.int .i64 0) w36)))
def G18 : FnT := fun args w K => on2 (fun x0 x1 => F18 x0 x1 w K) args
theorem c18 {x0 x1 : Value} {w : World} {K : V1} (h : F18 x0 x1 w K) : callP G18 [x0, x1] w K := callP_intro (on2_mk (p := fun x0 x1 => F18 x0 x1 w K) h)
theorem ok18 : OkF Tryz.prog 18 G18 := by
  refine okF_of (tab_ok (l := T18) ⟨ok13, ok36, ok37, ok38, trivial⟩) mixed (n := fuel) Tryz.func18 Tryz.call18 fun args w K h => ?_
  obtain ⟨x0, x1, rfl, hh⟩ := of_on2 h
  exact fnD_list (c := bodyOf Tryz.f18) (by kernel_rfl) (by kernel_rfl) (Eq.mp (by kernel_rfl) hh)
def T20 : List (Nat × FnT) := [(38, G38)]
def F20 (x0 x1 : Value) (w : World) (K : V1) : Prop :=
eAlloc Tryz.prog 36 w fun v2 w1 =>
callP G38 [x0, x1] w1 fun v4 w3 =>
bindP (bLt v4 (.int .i64 0)) fun v5 =>
ifB v5 (
bindP (fBuild Tryz.prog 36 []) fun v6 =>
bindW (st 11 v2 v6 w3) fun w7 =>
bindP (ldN 11 v2 w7) fun v9 =>
K (.tuple #[v9, (.int .i64 5)]) w7) (
bindP (pNil x0) fun v10 =>
bindP (pFieldAddr 2 v10) fun v11 =>
bindP (ld1 v11 w3) fun v12 =>
bindP (pIndexL 11 v12 v4) fun v13 =>
bindP (ldN 11 v13 w3) fun v14 =>
eAlloc Tryz.prog 36 w3 fun v16 w15 =>
bindW (st 11 v16 v14 w15) fun w17 =>
bindP (pNil x0) fun v19 =>
bindP (pFieldAddr 2 v19) fun v20 =>
bindP (ld1 v20 w17.drew) fun v21 =>
bindP (pSliceL 11 v21 none (some v4) none) fun v22 =>
bindP (pNil x0) fun v23 =>
bindP (pFieldAddr 2 v23) fun v24 =>
bindP (ld1 v24 w17.drew) fun v25 =>
bindP (bAdd v4 (.int .i64 1)) fun v26 =>
bindP (pSliceL 11 v25 (some v26) none none) fun v27 =>
eBuildSl Tryz.prog 37 0 [] w17.drew fun v29 w28 =>
(fok true (ld1 v20 w28) v21 ∧ fok true (ld1 v24 w28) v25) ∧ (eAppend Tryz.prog 37 37 v29 v22 w28 fun v31 w30 =>
fok true (ld1 v24 w30) v25 ∧ (eAppend Tryz.prog 37 37 v31 v27 w30 fun v33 w32 =>
bindP (pNil x0) fun v34 =>
bindP (pFieldAddr 2 v34) fun v35 =>
bindW (st 1 v35 v33 w32) fun w36 =>
bindP (ldN 11 v16 w36) fun v38 =>
bindW (st 11 v2 v38 w36) fun w39 =>
bindP (ldN 11 v2 w39) fun v41 =>
K (.tuple #[v41, (.int .i64 0)]) w39)))
def G20 : FnT := fun args w K => on2 (fun x0 x1 => F20 x0 x1 w K) args
theorem c20 {x0 x1 : Value} {w : World} {K : V1} (h : F20 x0 x1 w K) : callP G20 [x0, x1] w K := callP_intro (on2_mk (p := fun x0 x1 => F20 x0 x1 w K) h)
theorem ok20 : OkF Tryz.prog 20 G20 := by
  refine okF_of (tab_ok (l := T20) ⟨ok38, trivial⟩) mixed (n := fuel) Tryz.func20 Tryz.call20 fun args w K h => ?_
  obtain ⟨x0, x1, rfl, hh⟩ := of_on2 h
  exact fnD_list (c := bodyOf Tryz.f20) (by kernel_rfl) (by kernel_rfl) (Eq.mp (by kernel_rfl) hh)
def T41 : List (Nat × FnT) := [(56, G56)]
def F41 (x0 : Value) (w : World) (K : V1) : Prop :=
bindP (bEq Tryz.prog 68 (.tmp 3) (.const (.map none)) x0 (.map none)) fun v1 =>
ifB v1 (
K (.map none) w) (
bindP (fMkI Tryz.prog 68 x0) fun v2 =>
callP G56 [v2] w fun v4 w3 =>
bindP (fAssert Tryz.prog v4 68 false) fun v5 =>
K v5 w3)
def G41 : FnT := fun args w K => on1 (fun x0 => F41 x0 w K) args
theorem c41 {x0 : Value} {w : World} {K : V1} (h : F41 x0 w K) : callP G41 [x0] w K := callP_intro (on1_mk (p := fun x0 => F41 x0 w K) h)
theorem ok41 : OkF Tryz.prog 41 G41 := by
  refine okF_of (tab_ok (l := T41) ⟨ok56, trivial⟩) mixed (n := fuel) Tryz.func41 Tryz.call41 fun args w K h => ?_
  obtain ⟨x0, rfl, hh⟩ := of_on1 h
  exact fnD_list (c := bodyOf Tryz.f41) (by kernel_rfl) (by kernel_rfl) (Eq.mp (by kernel_rfl) hh)
def T42 : List (Nat × FnT) := [(56, G56)]
def F42 (x0 : Value) (w : World) (K : V1) : Prop :=
bindP (bEq Tryz.prog 69 (.tmp 3) (.const (.map none)) x0 (.map none)) fun v1 =>
ifB v1 (
K (.map none) w) (
bindP (fMkI Tryz.prog 69 x0) fun v2 =>
callP G56 [v2] w fun v4 w3 =>
bindP (fAssert Tryz.prog v4 69 false) fun v5 =>
K v5 w3)
def G42 : FnT := fun args w K => on1 (fun x0 => F42 x0 w K) args
theorem c42 {x0 : Value} {w : World} {K : V1} (h : F42 x0 w K) : callP G42 [x0] w K := callP_intro (on1_mk (p := fun x0 => F42 x0 w K) h)
theorem ok42 : OkF Tryz.prog 42 G42 := by
  refine okF_of (tab_ok (l := T42) ⟨ok56, trivial⟩) mixed (n := fuel) Tryz.func42 Tryz.call42 fun args w K h => ?_
  obtain ⟨x0, rfl, hh⟩ := of_on1 h
  exact fnD_list (c := bodyOf Tryz.f42) (by kernel_rfl) (by kernel_rfl) (Eq.mp (by kernel_rfl) hh)
def T23 : List (Nat × FnT) := [(40, G40), (41, G41), (42, G42)]
def F23 (x0 : Value) (w : World) (K : V1) : Prop :=
bindP (pNil x0) fun v1 =>
bindP (pFieldAddr 0 v1) fun v2 =>
bindP (pFieldAddr 0 v2) fun v3 =>
bindP (ld1 v3 w.drew) fun v4 =>
bindP (pNil x0) fun v5 =>
bindP (pFieldAddr 1 v5) fun v6 =>
bindP (ld1 v6 w.drew) fun v7 =>
bindP (pNil x0) fun v8 =>
bindP (pFieldAddr 2 v8) fun v9 =>
bindP (ld1 v9 w.drew) fun v10 =>
bindP (pNil x0) fun v11 =>
bindP (pFieldAddr 3 v11) fun v12 =>
bindP (ld1 v12 w.drew) fun v13 =>
bindP (pNil x0) fun v14 =>
bindP (pFieldAddr 4 v14) fun v15 =>
bindP (ld1 v15 w.drew) fun v16 =>
callP G40 [v4] w.drew fun v18 w17 =>
(fok true (ld1 v6 w17) v7 ∧ fok true (ld1 v9 w17) v10 ∧ fok true (ld1 v12 w17) v13 ∧ fok true (ld1 v15 w17) v16) ∧ (bindP (fBuild Tryz.prog 67 [(0, v18)]) fun v19 =>
callP G41 [v13] w17 fun v21 w20 =>
(fok true (ld1 v6 w20) v7 ∧ fok true (ld1 v9 w20) v10 ∧ fok true (ld1 v15 w20) v16) ∧ (callP G42 [v16] w20 fun v23 w22 =>
(fok true (ld1 v6 w22) v7 ∧ fok true (ld1 v9 w22) v10) ∧ (bindP (fBuild Tryz.prog 71 [(0, v19), (1, v7), (2, v10), (3, v21), (4, v23)]) fun v24 =>
eBox 71 v24 w22 fun v26 w25 =>
K v26 w25)))
def G23 : FnT := fun args w K => on1 (fun x0 => F23 x0 w K) args
theorem c23 {x0 : Value} {w : World} {K : V1} (h : F23 x0 w K) : callP G23 [x0] w K := callP_intro (on1_mk (p := fun x0 => F23 x0 w K) h)
theorem ok23 : OkF Tryz.prog 23 G23 := by
  refine okF_of (tab_ok (l := T23) ⟨ok40, ok41, ok42, trivial⟩) mixed (n := fuel) Tryz.func23 Tryz.call23 fun args w K h => ?_
  obtain ⟨x0, rfl, hh⟩ := of_on1 h
  exact fnD_list (c := bodyOf Tryz.f23) (by kernel_rfl) (by kernel_rfl) (Eq.mp (by kernel_rfl) hh)
def T25 : List (Nat × FnT) := [(13, G13), (36, G36), (37, G37), (38, G38)]
def F25_3b (s0 s1 s2 s7 : Value) (w : World) (K : V1) : Prop :=
bindP (lenL s1) fun v1 =>
bindP (pNil s0) fun v2 =>
bindP (pFieldAddr 0 v2) fun v3 =>
bindP (ld1 v3 w) fun v4 =>
bindP (bGt v1 v4) fun v5 =>
ifB v5 (
K (.int .i64 200) w) (
bindP (pNil s7) fun v6 =>
bindP (pFieldAddr 2 v6) fun v7 =>
bindP (ld1 v7 w) fun v8 =>
bindP (pNil s0) fun v9 =>
bindP (pFieldAddr 2 v9) fun v10 =>
bindW (st 1 v10 v8 w) fun w11 =>
bindP (pNil s0) fun v13 =>
bindP (pFieldAddr 1 v13) fun v14 =>
bindW (st 1 v14 s2 w11) fun w15 =>
K (.int .i64 0) w15)
def F25_3 (s0 s1 s2 s7 : Value) (w : World) (K : V1) : Prop := F25_3b s0 s1 s2 s7 w K
theorem ok25_3 {K : V1}
    (hn : HN (fun e w => K (e 6) w) kn) (hr : HR Tryz.prog [.tmp 6] K kr) (he : HE noE ke) :
    ∀ e w, F25_3 (e 0) (e 1) (e 2) (e 7) w K → denL Tryz.prog (tabOf T25) 131 fuel ((flat (bodyOf Tryz.f25)).drop 6) e w kn kr ke := by
  intro e w h
  unfold F25_3 at h
  have e1 : ∀ (_ : Unit), F25_3b (e 0) (e 1) (e 2) (e 7) w K = denL Tryz.prog (tabOf T25) 131 fuel ((flat (bodyOf Tryz.f25)).drop 6) e w (fun e w => K (e 6) w) (endD Tryz.prog [.tmp 6] K) noE := by intro _; kernel_rfl
  exact seg_end (Eq.mp (e1 ()) h) hn hr he
def F25_6b (s0 s1 s2 s7 s8 : Value) (w : World) (_K : V1) (R3 : V5) : Prop :=
bindP (bAdd s8 (.int .i64 1)) fun v17 =>
R3 s0 s1 s2 s7 v17 w
def F25_6 (s0 s1 s2 s7 s8 : Value) (w : World) (K : V1) (R3 : V5) : Prop := F25_6b s0 s1 s2 s7 s8 w K R3
theorem ok25_6 (R3 : V5) {K : V1}
    (hn : HN (fun e w => R3 (e 0) (e 1) (e 2) (e 7) (e 8) w) kn) (hr : HR Tryz.prog [.tmp 6] K kr) (he : HE (blkK 0 (fun e w => F25_3 (e 0) (e 1) (e 2) (e 7) w K) noE) ke) :
    ∀ e w, F25_6 (e 0) (e 1) (e 2) (e 7) (e 8) w K R3 → denL Tryz.prog (tabOf T25) 131 fuel ((flat (loopB (blkB (nthC (flat (bodyOf Tryz.f25)) 5)))).drop 3) e w kn kr ke := by
  intro e w h
  unfold F25_6 at h
  have e1 : ∀ (_ : Unit), F25_6b (e 0) (e 1) (e 2) (e 7) (e 8) w K R3 = denL Tryz.prog (tabOf T25) 131 fuel ((flat (loopB (blkB (nthC (flat (bodyOf Tryz.f25)) 5)))).drop 3) e w (fun e w => R3 (e 0) (e 1) (e 2) (e 7) (e 8) w) (endD Tryz.prog [.tmp 6] K) (blkK 0 (fun e w => F25_3 (e 0) (e 1) (e 2) (e 7) w K) noE) := by intro _; kernel_rfl
  exact seg_end (Eq.mp (e1 ()) h) hn hr he
def F25_9b (s0 s1 s2 s7 s8 s9 s10 : Value) (w : World) (_K : V1) (R3 : V5) (Y0 : V5) : Prop :=
bindP (pNil s7) fun v18 =>
bindP (pFieldAddr 2 v18) fun v19 =>
bindP (ld1 v19 w) fun v20 =>
bindP (pSliceL 11 v20 none (some s10) none) fun v21 =>
eAppend Tryz.prog 37 37 (.slice none 0 0) v21 w fun v23 w22 =>
bindP (ldN 11 s9 w22) fun v24 =>
callP G13 [v24] w22 fun v26 w25 =>
eBuildSl Tryz.prog 37 1 [(0, v26)] w25 fun v28 w27 =>
eAppend Tryz.prog 37 37 v23 v28 w27 fun v30 w29 =>
bindP (pNil s7) fun v31 =>
bindP (pFieldAddr 2 v31) fun v32 =>
bindP (ld1 v32 w29) fun v33 =>
bindP (pSliceL 11 v33 (some s10) none none) fun v34 =>
eAppend Tryz.prog 37 37 v30 v34 w29 fun v36 w35 =>
bindP (pNil s7) fun v37 =>
bindP (pFieldAddr 2 v37) fun v38 =>
bindW (st 1 v38 v36 w35) fun w39 =>
Y0 s0 s1 s2 s7 s8 w39
def F25_9 (s0 s1 s2 s7 s8 s9 s10 : Value) (w : World) (K : V1) (R3 : V5) : Prop := F25_9b s0 s1 s2 s7 s8 s9 s10 w K R3 (fun a0 a1 a2 a7 a8 w => F25_6 a0 a1 a2 a7 a8 w K R3)
theorem ok25_9 (R3 : V5) {K : V1}
    (hn : HN (fun e w => F25_6 (e 0) (e 1) (e 2) (e 7) (e 8) w K R3) kn) (hr : HR Tryz.prog [.tmp 6] K kr) (he : HE (blkK 1 (fun e w => F25_6 (e 0) (e 1) (e 2) (e 7) (e 8) w K R3) (blkK 0 (fun e w => F25_3 (e 0) (e 1) (e 2) (e 7) w K) noE)) ke) :
    ∀ e w, F25_9 (e 0) (e 1) (e 2) (e 7) (e 8) (e 9) (e 10) w K R3 → denL Tryz.prog (tabOf T25) 131 fuel ((flat (blkB (nthC (flat (loopB (blkB (nthC (flat (bodyOf Tryz.f25)) 5)))) 2))).drop 5) e w kn kr ke := by
  intro e w h
  unfold F25_9 at h
  have e1 : ∀ (Y0 : V5), F25_9b (e 0) (e 1) (e 2) (e 7) (e 8) (e 9) (e 10) w K R3 Y0 = denL Tryz.prog (tabOf T25) 131 fuel ((flat (blkB (nthC (flat (loopB (blkB (nthC (flat (bodyOf Tryz.f25)) 5)))) 2))).drop 5) e w (fun e w => Y0 (e 0) (e 1) (e 2) (e 7) (e 8) w) (endD Tryz.prog [.tmp 6] K) (blkK 1 (fun e w => Y0 (e 0) (e 1) (e 2) (e 7) (e 8) w) (blkK 0 (fun e w => F25_3 (e 0) (e 1) (e 2) (e 7) w K) noE)) := by intro Y0; kernel_rfl
  exact seg_end (Eq.mp (e1 (fun a0 a1 a2 a7 a8 w => F25_6 a0 a1 a2 a7 a8 w K R3)) h) hn hr he
def F25_8b (s0 s1 s2 s7 s8 s9 s10 : Value) (w : World) (_K : V1) (R3 : V5) (Y0 : V7) (Y1 : V7) : Prop :=
bindP (pNil s7) fun v41 =>
bindP (pFieldAddr 2 v41) fun v42 =>
bindP (ld1 v42 w.drew) fun v43 =>
bindP (lenL v43) fun v44 =>
bindP (bLt s10 v44) fun v45 =>
stepM (gd true v45) s7 fun v46 =>
Sx.stepG (gd true v45) (pNil v46) fun v47 =>
Sx.stepG (gd true v45) (pFieldAddr 2 v47) fun v48 =>
Sx.stepG (gd true v45) (ld1 v48 w.drew) fun v49 =>
stepM (gd true v45) s10 fun v50 =>
Sx.stepG (gd true v45) (pIndexL 11 v49 v50) fun v51 =>
Sx.stepG (gd true v45) (pFieldAddr 0 v51) fun v52 =>
Sx.stepG (gd true v45) (ld1 v52 w.drew) fun v53 =>
Sx.stepG (gd true v45) (pFieldAddr 0 s9) fun v54 =>
Sx.stepG (gd true v45) (ld1 v54 w.drew) fun v55 =>
Sx.stepG (gd true v45) (bLt v53 v55) fun v56 =>
bindP (pPick v45 v56 (.bool false)) fun v57 =>
ifB v57 (
bindP (bAdd s10 (.int .i64 1)) fun v58 =>
Y0 s0 s1 s2 s7 s8 s9 v58 w.drew) (
Y1 s0 s1 s2 s7 s8 s9 s10 w.drew)
def F25_8L : Nat → Value → Value → Value → Value → Value → Value → Value → World → (V1) → (V5) → Prop
  | 0, _, _, _, _, _, _, _, _, _, _ => False
  | n + 1, s0, s1, s2, s7, s8, s9, s10, w, K, R3 => F25_8b s0 s1 s2 s7 s8 s9 s10 w K R3 (fun a0 a1 a2 a7 a8 a9 a10 w => F25_8L n a0 a1 a2 a7 a8 a9 a10 w K R3) (fun a0 a1 a2 a7 a8 a9 a10 w => F25_9 a0 a1 a2 a7 a8 a9 a10 w K R3)
def F25_8 (s0 s1 s2 s7 s8 s9 s10 : Value) (w : World) (K : V1) (R3 : V5) : Prop := F25_8L fuel s0 s1 s2 s7 s8 s9 s10 w K R3
theorem ok25_8 (R3 : V5) {K : V1}
    (hn : HN (fun e w => F25_6 (e 0) (e 1) (e 2) (e 7) (e 8) w K R3) kn) (hr : HR Tryz.prog [.tmp 6] K kr) (he : HE (blkK 1 (fun e w => F25_6 (e 0) (e 1) (e 2) (e 7) (e 8) w K R3) (blkK 0 (fun e w => F25_3 (e 0) (e 1) (e 2) (e 7) w K) noE)) ke) :
    ∀ e w, F25_8 (e 0) (e 1) (e 2) (e 7) (e 8) (e 9) (e 10) w K R3 → denL Tryz.prog (tabOf T25) 131 fuel ((flat (blkB (nthC (flat (loopB (blkB (nthC (flat (bodyOf Tryz.f25)) 5)))) 2))).drop 4) e w kn kr ke := by
  intro e w h
  unfold F25_8 at h
  refine seg_loop (id := 2) (body := (loopB (blkB (nthC (flat (blkB (nthC (flat (loopB (blkB (nthC (flat (bodyOf Tryz.f25)) 5)))) 2))) 4)))) (l2 := (flat (blkB (nthC (flat (loopB (blkB (nthC (flat (bodyOf Tryz.f25)) 5)))) 2))).drop 5) (by kernel_rfl) ?_
  refine loop_ok (FL := fun m e w => F25_8L m (e 0) (e 1) (e 2) (e 7) (e 8) (e 9) (e 10) w K R3) (fr := endD Tryz.prog [.tmp 6] K) (fe := (blkK 2 (fun e w => F25_9 (e 0) (e 1) (e 2) (e 7) (e 8) (e 9) (e 10) w K R3) (blkK 1 (fun e w => F25_6 (e 0) (e 1) (e 2) (e 7) (e 8) w K R3) (blkK 0 (fun e w => F25_3 (e 0) (e 1) (e 2) (e 7) w K) noE)))) (fun _ _ h => h) ?_ hr (blkK_mono (fun e w h => ok25_9 R3 hn hr he e w h) he) fuel e w h
  intro m e w h
  have h : F25_8L (m + 1) (e 0) (e 1) (e 2) (e 7) (e 8) (e 9) (e 10) w K R3 := h
  rw [F25_8L] at h
  have e1 : ∀ (Y0 : V7) (Y1 : V7), F25_8b (e 0) (e 1) (e 2) (e 7) (e 8) (e 9) (e 10) w K R3 Y0 Y1 = denL Tryz.prog (tabOf T25) 131 fuel (flat (loopB (blkB (nthC (flat (blkB (nthC (flat (loopB (blkB (nthC (flat (bodyOf Tryz.f25)) 5)))) 2))) 4)))) e w (fun e w => Y0 (e 0) (e 1) (e 2) (e 7) (e 8) (e 9) (e 10) w) (endD Tryz.prog [.tmp 6] K) (blkK 2 (fun e w => Y1 (e 0) (e 1) (e 2) (e 7) (e 8) (e 9) (e 10) w) (blkK 1 (fun e w => F25_6 (e 0) (e 1) (e 2) (e 7) (e 8) w K R3) (blkK 0 (fun e w => F25_3 (e 0) (e 1) (e 2) (e 7) w K) noE))) := by intro Y0 Y1; kernel_rfl
  exact Eq.mp (e1 (fun a0 a1 a2 a7 a8 a9 a10 w => F25_8L m a0 a1 a2 a7 a8 a9 a10 w K R3) (fun a0 a1 a2 a7 a8 a9 a10 w => F25_9 a0 a1 a2 a7 a8 a9 a10 w K R3)) h
def F25_7b (s0 s1 s2 s7 s8 : Value) (w : World) (K : V1) (R3 : V5) (Y0 : V7) : Prop :=
bindP (pIndexL 11 s1 s8) fun v59 =>
bindP (ldN 11 v59 w) fun v60 =>
eAlloc Tryz.prog 36 w fun v62 w61 =>
bindW (st 11 v62 v60 w61) fun w63 =>
bindP (ldN 11 v62 w63) fun v65 =>
callP G36 [v65] w63 fun v67 w66 =>
bindP (bNe Tryz.prog 24 (.tmp 36) (.const (.int .i64 0)) v67 (.int .i64 0)) fun v68 =>
Sx.stepG (gd false v68) (pFieldAddr 0 v62) fun v69 =>
Sx.stepG (gd false v68) (ld1 v69 w66) fun v70 =>
Sx.stepG (gd false v68) (bLt v70 (.int .i64 1)) fun v71 =>
bindP (pPick v68 (.bool true) v71) fun v72 =>
Sx.stepG (gd false v72) (pFieldAddr 0 v62) fun v73 =>
Sx.stepG (gd false v72) (ld1 v73 w66) fun v74 =>
stepM (gd false v72) s2 fun v75 =>
Sx.stepG (gd false v72) (bGe v74 v75) fun v76 =>
bindP (pPick v72 (.bool true) v76) fun v77 =>
stepM (gd false v77) s7 fun v78 =>
Sx.stepG (gd false v77) (pFieldAddr 0 v62) fun v79 =>
Sx.stepG (gd false v77) (ld1 v79 w66) fun v80 =>
stepE (gd false v77) (fun k => callP G38 [v78, v80] w66 k) w66 fun v82 w81 =>
Sx.stepG (gd false v77) (bGe v82 (.int .i64 0)) fun v83 =>
bindP (pPick v77 (.bool true) v83) fun v84 =>
stepM (gd false v84) s7 fun v85 =>
Sx.stepG (gd false v84) (pFieldAddr 1 v62) fun v86 =>
Sx.stepG (gd false v84) (ld1 v86 w81) fun v87 =>
Sx.stepG (gd false v84) (pFieldAddr 2 v62) fun v88 =>
Sx.stepG (gd false v84) (ld1 v88 w81) fun v89 =>
Sx.stepG (gd false v84) (pFieldAddr 3 v62) fun v90 =>
Sx.stepG (gd false v84) (ld1 v90 w81) fun v91 =>
stepE (gd false v84) (fun k => callP G37 [v85, v87, v89, v91] w81 k) w81 fun v93 w92 =>
Sx.stepG (gd false v84) (bGe v93 (.int .i64 0)) fun v94 =>
bindP (pPick v84 (.bool true) v94) fun v95 =>
ifB v95 (
K (.int .i64 4) w92) (
Y0 s0 s1 s2 s7 s8 v62 (.int .i64 0) w92)
def F25_7 (s0 s1 s2 s7 s8 : Value) (w : World) (K : V1) (R3 : V5) : Prop := F25_7b s0 s1 s2 s7 s8 w K R3 (fun a0 a1 a2 a7 a8 a9 a10 w => F25_8 a0 a1 a2 a7 a8 a9 a10 w K R3)
theorem ok25_7 (R3 : V5) {K : V1}
    (hn : HN (fun e w => F25_6 (e 0) (e 1) (e 2) (e 7) (e 8) w K R3) kn) (hr : HR Tryz.prog [.tmp 6] K kr) (he : HE (blkK 1 (fun e w => F25_6 (e 0) (e 1) (e 2) (e 7) (e 8) w K R3) (blkK 0 (fun e w => F25_3 (e 0) (e 1) (e 2) (e 7) w K) noE)) ke) :
    ∀ e w, F25_7 (e 0) (e 1) (e 2) (e 7) (e 8) w K R3 → denL Tryz.prog (tabOf T25) 131 fuel ((flat (blkB (nthC (flat (loopB (blkB (nthC (flat (bodyOf Tryz.f25)) 5)))) 2))).drop 0) e w kn kr ke := by
  intro e w h
  unfold F25_7 at h
  have e1 : ∀ (Y0 : V7), F25_7b (e 0) (e 1) (e 2) (e 7) (e 8) w K R3 Y0 = denL Tryz.prog (tabOf T25) 131 fuel (((flat (blkB (nthC (flat (loopB (blkB (nthC (flat (bodyOf Tryz.f25)) 5)))) 2))).drop 0).take 4) e w (fun e w => Y0 (e 0) (e 1) (e 2) (e 7) (e 8) (e 9) (e 10) w) (endD Tryz.prog [.tmp 6] K) (blkK 1 (fun e w => F25_6 (e 0) (e 1) (e 2) (e 7) (e 8) w K R3) (blkK 0 (fun e w => F25_3 (e 0) (e 1) (e 2) (e 7) w K) noE)) := by intro Y0; kernel_rfl
  exact seg 4 (Eq.mp (e1 (fun a0 a1 a2 a7 a8 a9 a10 w => F25_8 a0 a1 a2 a7 a8 a9 a10 w K R3)) h) (fun e w h => ok25_8 R3 hn hr he e w h) hr he
def F25_5 (s0 s1 s2 s7 s8 : Value) (w : World) (K : V1) (R3 : V5) : Prop := F25_7 s0 s1 s2 s7 s8 w K R3
theorem ok25_5 (R3 : V5) {K : V1}
    (hn : HN (fun e w => R3 (e 0) (e 1) (e 2) (e 7) (e 8) w) kn) (hr : HR Tryz.prog [.tmp 6] K kr) (he : HE (blkK 0 (fun e w => F25_3 (e 0) (e 1) (e 2) (e 7) w K) noE) ke) :
    ∀ e w, F25_5 (e 0) (e 1) (e 2) (e 7) (e 8) w K R3 → denL Tryz.prog (tabOf T25) 131 fuel ((flat (loopB (blkB (nthC (flat (bodyOf Tryz.f25)) 5)))).drop 2) e w kn kr ke := by
  intro e w h
  unfold F25_5 at h
  refine seg_block (id := 1) (body := (blkB (nthC (flat (loopB (blkB (nthC (flat (bodyOf Tryz.f25)) 5)))) 2))) (l2 := (flat (loopB (blkB (nthC (flat (bodyOf Tryz.f25)) 5)))).drop 3) (by kernel_rfl) ?_
  exact ok25_7 R3 (fun e w h => ok25_6 R3 hn hr he e w h) hr (blkK_mono (fun e w h => ok25_6 R3 hn hr he e w h) he) e w h
def F25_4b (s0 s1 s2 s7 s8 : Value) (w : World) (_K : V1) (R3 : V5) (Y0 : V5) (Y1 : V4) : Prop :=
bindP (lenL s1) fun v96 =>
bindP (bLt s8 v96) fun v97 =>
ifB v97 (
Y0 s0 s1 s2 s7 s8 w) (
Y1 s0 s1 s2 s7 w)
def F25_4 (s0 s1 s2 s7 s8 : Value) (w : World) (K : V1) (R3 : V5) : Prop := F25_4b s0 s1 s2 s7 s8 w K R3 (fun a0 a1 a2 a7 a8 w => F25_5 a0 a1 a2 a7 a8 w K R3) (fun a0 a1 a2 a7 w => F25_3 a0 a1 a2 a7 w K)
theorem ok25_4 (R3 : V5) {K : V1}
    (hn : HN (fun e w => R3 (e 0) (e 1) (e 2) (e 7) (e 8) w) kn) (hr : HR Tryz.prog [.tmp 6] K kr) (he : HE (blkK 0 (fun e w => F25_3 (e 0) (e 1) (e 2) (e 7) w K) noE) ke) :
    ∀ e w, F25_4 (e 0) (e 1) (e 2) (e 7) (e 8) w K R3 → denL Tryz.prog (tabOf T25) 131 fuel ((flat (loopB (blkB (nthC (flat (bodyOf Tryz.f25)) 5)))).drop 0) e w kn kr ke := by
  intro e w h
  unfold F25_4 at h
  have e1 : ∀ (Y0 : V5) (Y1 : V4), F25_4b (e 0) (e 1) (e 2) (e 7) (e 8) w K R3 Y0 Y1 = denL Tryz.prog (tabOf T25) 131 fuel (((flat (loopB (blkB (nthC (flat (bodyOf Tryz.f25)) 5)))).drop 0).take 2) e w (fun e w => Y0 (e 0) (e 1) (e 2) (e 7) (e 8) w) (endD Tryz.prog [.tmp 6] K) (blkK 0 (fun e w => Y1 (e 0) (e 1) (e 2) (e 7) w) noE) := by intro Y0 Y1; kernel_rfl
  exact seg 2 (Eq.mp (e1 (fun a0 a1 a2 a7 a8 w => F25_5 a0 a1 a2 a7 a8 w K R3) (fun a0 a1 a2 a7 w => F25_3 a0 a1 a2 a7 w K)) h) (fun e w h => ok25_5 R3 hn hr he e w h) hr he
def F25_2L : Nat → Value → Value → Value → Value → Value → World → (V1) → Prop
  | 0, _, _, _, _, _, _, _ => False
  | n + 1, s0, s1, s2, s7, s8, w, K => F25_4 s0 s1 s2 s7 s8 w K (fun a0 a1 a2 a7 a8 w => F25_2L n a0 a1 a2 a7 a8 w K)
def F25_2 (s0 s1 s2 s7 s8 : Value) (w : World) (K : V1) : Prop := F25_2L fuel s0 s1 s2 s7 s8 w K
theorem ok25_2 {K : V1}
    (hn : HN (fun e w => K (e 6) w) kn) (hr : HR Tryz.prog [.tmp 6] K kr) (he : HE noE ke) :
    ∀ e w, F25_2 (e 0) (e 1) (e 2) (e 7) (e 8) w K → denL Tryz.prog (tabOf T25) 131 fuel ((flat (bodyOf Tryz.f25)).drop 5) e w kn kr ke := by
  intro e w h
  unfold F25_2 at h
  refine seg_loop (id := 0) (body := (loopB (blkB (nthC (flat (bodyOf Tryz.f25)) 5)))) (l2 := (flat (bodyOf Tryz.f25)).drop 6) (by kernel_rfl) ?_
  refine loop_ok (FL := fun m e w => F25_2L m (e 0) (e 1) (e 2) (e 7) (e 8) w K) (fr := endD Tryz.prog [.tmp 6] K) (fe := (blkK 0 (fun e w => F25_3 (e 0) (e 1) (e 2) (e 7) w K) noE)) (fun _ _ h => h) ?_ hr (blkK_mono (fun e w h => ok25_3 hn hr he e w h) he) fuel e w h
  intro m e w h
  have h : F25_2L (m + 1) (e 0) (e 1) (e 2) (e 7) (e 8) w K := h
  rw [F25_2L] at h
  exact ok25_4 (fun a0 a1 a2 a7 a8 w => F25_2L m a0 a1 a2 a7 a8 w K) (fun _ _ h => h) (fun _ _ h => h) (fun _ _ _ h => h) e w h
def F25_1b (s0 s1 s2 : Value) (w : World) (K : V1) (Y0 : V5) : Prop :=
bindP (bLt s2 (.int .i64 1)) fun v98 =>
stepM (gd false v98) s2 fun v99 =>
Sx.stepG (gd false v98) (bGt v99 (.int .i64 1152921504606846976)) fun v100 =>
bindP (pPick v98 (.bool true) v100) fun v101 =>
ifB v101 (
K (.int .i64 4) w) (
bindP (pNil s0) fun v102 =>
bindP (pFieldAddr 0 v102) fun v103 =>
bindP (ld1 v103 w) fun v104 =>
bindP (fBuild Tryz.prog 45 [(0, v104), (1, s2)]) fun v105 =>
eBox 45 v105 w fun v107 w106 =>
Y0 s0 s1 s2 v107 (.int .i64 0) w106)
def F25_1 (s0 s1 s2 : Value) (w : World) (K : V1) : Prop := F25_1b s0 s1 s2 w K (fun a0 a1 a2 a7 a8 w => F25_2 a0 a1 a2 a7 a8 w K)
theorem ok25_1 {K : V1}
    (hn : HN (fun e w => K (e 6) w) kn) (hr : HR Tryz.prog [.tmp 6] K kr) (he : HE noE ke) :
    ∀ e w, F25_1 (e 0) (e 1) (e 2) w K → denL Tryz.prog (tabOf T25) 131 fuel ((flat (bodyOf Tryz.f25)).drop 0) e w kn kr ke := by
  intro e w h
  unfold F25_1 at h
  have e1 : ∀ (Y0 : V5), F25_1b (e 0) (e 1) (e 2) w K Y0 = denL Tryz.prog (tabOf T25) 131 fuel (((flat (bodyOf Tryz.f25)).drop 0).take 5) e w (fun e w => Y0 (e 0) (e 1) (e 2) (e 7) (e 8) w) (endD Tryz.prog [.tmp 6] K) noE := by intro Y0; kernel_rfl
  exact seg 5 (Eq.mp (e1 (fun a0 a1 a2 a7 a8 w => F25_2 a0 a1 a2 a7 a8 w K)) h) (fun e w h => ok25_2 hn hr he e w h) hr he
def F25 (x0 x1 x2 : Value) (w : World) (K : V1) : Prop := F25_1 x0 x1 x2 w K
def G25 : FnT := fun args w K => on3 (fun x0 x1 x2 => F25 x0 x1 x2 w K) args
theorem c25 {x0 x1 x2 : Value} {w : World} {K : V1} (h : F25 x0 x1 x2 w K) : callP G25 [x0, x1, x2] w K := callP_intro (on3_mk (p := fun x0 x1 x2 => F25 x0 x1 x2 w K) h)
theorem ok25 : OkF Tryz.prog 25 G25 := by
  refine okF_of (tab_ok (l := T25) ⟨ok13, ok36, ok37, ok38, trivial⟩) mixed (n := fuel) Tryz.func25 Tryz.call25 fun args w K h => ?_
  obtain ⟨x0, x1, x2, rfl, hh⟩ := of_on3 h
  unfold F25 at hh
  exact fnD_list (c := bodyOf Tryz.f25) (by kernel_rfl) (by kernel_rfl) (ok25_1 (fun _ _ h => h) (fun _ _ h => h) (fun _ _ _ h => h) (initE [x0, x1, x2]) w hh)
def T8 : List (Nat × FnT) := [(9, G9), (11, G11), (13, G13), (14, G14), (15, G15), (16, G16), (17, G17), (18, G18), (19, G19), (20, G20), (21, G21), (22, G22), (23, G23), (24, G24), (25, G25)]
def F8_6b (s0 s1 s5 s7 : Value) (w : World) (K : V1) : Prop :=
bindP (ldN 11 s7 w) fun v1 =>
callP G11 [s0, v1] w fun v3 w2 =>
bindP (pTuple v3 0) fun v4 =>
bindP (pTuple v3 1) fun v5 =>
bindP (pFieldAddr 3 s5) fun v6 =>
bindP (ldN 11 v6 w2) fun v7 =>
callP G15 [s1, v7] w2 fun v9 w8 =>
bindP (pTuple v9 0) fun v10 =>
bindP (pTuple v9 1) fun v11 =>
bindP (pFieldAddr 10 s7) fun v12 =>
bindP (ld1 v12 w8) fun v13 =>
callP G16 [v13] w8 fun _ w14 =>
bindP (bEq Tryz.prog 3 (.tmp 99) (.tmp 100) v4 v10) fun v16 =>
stepM (gd true v16) v5 fun v17 =>
stepM (gd true v16) v11 fun v18 =>
Sx.stepG (gd true v16) (bEq Tryz.prog 24 (.tmp 103) (.tmp 104) v17 v18) fun v19 =>
bindP (pPick v16 v19 (.bool false)) fun v20 =>
K v20 w14
def F8_6 (s0 s1 s5 s7 : Value) (w : World) (K : V1) : Prop := F8_6b s0 s1 s5 s7 w K
theorem ok8_6 {K : V1}
    (hn : HN (fun e w => K (e 6) w) kn) (hr : HR Tryz.prog [.tmp 6] K kr) (he : HE (blkK 0 (fun e w => K (e 6) w) noE) ke) :
    ∀ e w, F8_6 (e 0) (e 1) (e 5) (e 7) w K → denL Tryz.prog (tabOf T8) 304 fuel ((flat (thenC (nthC (flat (blkB (nthC (flat (bodyOf Tryz.f8)) 6))) 1))).drop 0) e w kn kr ke := by
  intro e w h
  unfold F8_6 at h
  have e1 : ∀ (_ : Unit), F8_6b (e 0) (e 1) (e 5) (e 7) w K = denL Tryz.prog (tabOf T8) 304 fuel ((flat (thenC (nthC (flat (blkB (nthC (flat (bodyOf Tryz.f8)) 6))) 1))).drop 0) e w (fun e w => K (e 6) w) (endD Tryz.prog [.tmp 6] K) (blkK 0 (fun e w => K (e 6) w) noE) := by intro _; kernel_rfl
  exact seg_end (Eq.mp (e1 ()) h) hn hr he
def F8_10b (s0 s1 s7 : Value) (w : World) (K : V1) : Prop :=
bindP (ldN 11 s7 w) fun v21 =>
callP G13 [v21] w fun v23 w22 =>
eAlloc Tryz.prog 36 w22 fun v25 w24 =>
bindW (st 11 v25 v23 w24) fun w26 =>
bindP (ldN 11 s7 w26) fun v28 =>
callP G17 [s0, v28] w26 fun v30 w29 =>
bindP (pFieldAddr 10 s7) fun v31 =>
bindP (ld1 v31 w29) fun v32 =>
callP G16 [v32] w29 fun _ w33 =>
bindP (ldN 11 v25 w33) fun v35 =>
callP G18 [s1, v35] w33 fun v37 w36 =>
bindP (bEq Tryz.prog 24 (.tmp 175) (.tmp 178) v30 v37) fun v38 =>
K v38 w36
def F8_10 (s0 s1 s7 : Value) (w : World) (K : V1) : Prop := F8_10b s0 s1 s7 w K
theorem ok8_10 {K : V1}
    (hn : HN (fun e w => K (e 6) w) kn) (hr : HR Tryz.prog [.tmp 6] K kr) (he : HE (blkK 0 (fun e w => K (e 6) w) noE) ke) :
    ∀ e w, F8_10 (e 0) (e 1) (e 7) w K → denL Tryz.prog (tabOf T8) 304 fuel ((flat (thenC (nthC (flat (elseC (nthC (flat (blkB (nthC (flat (bodyOf Tryz.f8)) 6))) 1))) 1))).drop 4) e w kn kr ke := by
  intro e w h
  unfold F8_10 at h
  have e1 : ∀ (_ : Unit), F8_10b (e 0) (e 1) (e 7) w K = denL Tryz.prog (tabOf T8) 304 fuel ((flat (thenC (nthC (flat (elseC (nthC (flat (blkB (nthC (flat (bodyOf Tryz.f8)) 6))) 1))) 1))).drop 4) e w (fun e w => K (e 6) w) (endD Tryz.prog [.tmp 6] K) (blkK 0 (fun e w => K (e 6) w) noE) := by intro _; kernel_rfl
  exact seg_end (Eq.mp (e1 ()) h) hn hr he
def F8_9b (s0 s1 s5 s7 s8 : Value) (w : World) (_K : V1) (Y0 : V3) : Prop :=
bindP (pFieldAddr 0 s7) fun v39 =>
bindW (st 1 v39 s8 w) fun w40 =>
bindP (pFieldAddr 1 s5) fun v42 =>
bindP (ld1 v42 w40.drew) fun v43 =>
bindP (pNil s1) fun v44 =>
bindP (pFieldAddr 2 v44) fun v45 =>
bindP (ld1 v45 w40.drew) fun v46 =>
bindP (lenL v46) fun v47 =>
bindP (bAdd v47 (.int .i64 1)) fun v48 =>
callP G14 [v43, v48] w40.drew fun v50 w49 =>
bindP (pFieldAddr 2 s5) fun v51 =>
bindP (ld1 v51 w49) fun v52 =>
stepM (gd true v52) v50 fun v53 =>
stepM (gd true v52) s1 fun v54 =>
Sx.stepG (gd true v52) (pNil v54) fun v55 =>
Sx.stepG (gd true v52) (pFieldAddr 2 v55) fun v56 =>
Sx.stepG (gd true v52) (ld1 v56 w49) fun v57 =>
Sx.stepG (gd true v52) (lenL v57) fun v58 =>
Sx.stepG (gd true v52) (bLt v53 v58) fun v59 =>
bindP (pPick v52 v59 (.bool false)) fun v60 =>
ifB v60 (
bindP (pNil s1) fun v61 =>
bindP (pFieldAddr 2 v61) fun v62 =>
bindP (ld1 v62 w49.drew) fun v63 =>
bindP (pIndexL 11 v63 v50) fun v64 =>
bindP (pFieldAddr 0 v64) fun v65 =>
bindP (ld1 v65 w49.drew) fun v66 =>
bindP (pNil s1) fun v67 =>
bindP (pFieldAddr 2 v67) fun v68 =>
bindP (ld1 v68 w49.drew) fun v69 =>
bindP (pIndexL 11 v69 v50) fun v70 =>
bindP (pFieldAddr 1 v70) fun v71 =>
bindP (ld1 v71 w49.drew) fun v72 =>
bindP (pNil s1) fun v73 =>
bindP (pFieldAddr 2 v73) fun v74 =>
bindP (ld1 v74 w49.drew) fun v75 =>
bindP (pIndexL 11 v75 v50) fun v76 =>
bindP (pFieldAddr 2 v76) fun v77 =>
bindP (ld1 v77 w49.drew) fun v78 =>
bindP (pNil s1) fun v79 =>
bindP (pFieldAddr 2 v79) fun v80 =>
bindP (ld1 v80 w49.drew) fun v81 =>
bindP (pIndexL 11 v81 v50) fun v82 =>
bindP (pFieldAddr 3 v82) fun v83 =>
bindP (ld1 v83 w49.drew) fun v84 =>
bindP (pFieldAddr 0 s7) fun v85 =>
bindW (st 1 v85 v66 w49.drew) fun w86 =>
(fok true (ld1 v68 w86) v69 ∧ fok true (ld1 v71 w86) v72 ∧ fok true (ld1 v74 w86) v75 ∧ fok true (ld1 v77 w86) v78 ∧ fok true (ld1 v80 w86) v81 ∧ fok true (ld1 v83 w86) v84) ∧ (bindP (pFieldAddr 1 s7) fun v88 =>
bindW (st 1 v88 v72 w86) fun w89 =>
(fok true (ld1 v74 w89) v75 ∧ fok true (ld1 v77 w89) v78 ∧ fok true (ld1 v80 w89) v81 ∧ fok true (ld1 v83 w89) v84) ∧ (bindP (pFieldAddr 2 s7) fun v91 =>
bindW (st 1 v91 v78 w89) fun w92 =>
(fok true (ld1 v80 w92) v81 ∧ fok true (ld1 v83 w92) v84) ∧ (bindP (pFieldAddr 3 s7) fun v94 =>
bindW (st 1 v94 v84 w92) fun w95 =>
Y0 s0 s1 s7 w95)))) (
Y0 s0 s1 s7 w49)
def F8_9 (s0 s1 s5 s7 s8 : Value) (w : World) (K : V1) : Prop := F8_9b s0 s1 s5 s7 s8 w K (fun a0 a1 a7 w => F8_10 a0 a1 a7 w K)
theorem ok8_9 {K : V1}
    (hn : HN (fun e w => K (e 6) w) kn) (hr : HR Tryz.prog [.tmp 6] K kr) (he : HE (blkK 0 (fun e w => K (e 6) w) noE) ke) :
    ∀ e w, F8_9 (e 0) (e 1) (e 5) (e 7) (e 8) w K → denL Tryz.prog (tabOf T8) 304 fuel ((flat (thenC (nthC (flat (elseC (nthC (flat (blkB (nthC (flat (bodyOf Tryz.f8)) 6))) 1))) 1))).drop 0) e w kn kr ke := by
  intro e w h
  unfold F8_9 at h
  have e1 : ∀ (Y0 : V3), F8_9b (e 0) (e 1) (e 5) (e 7) (e 8) w K Y0 = denL Tryz.prog (tabOf T8) 304 fuel (((flat (thenC (nthC (flat (elseC (nthC (flat (blkB (nthC (flat (bodyOf Tryz.f8)) 6))) 1))) 1))).drop 0).take 4) e w (fun e w => Y0 (e 0) (e 1) (e 7) w) (endD Tryz.prog [.tmp 6] K) (blkK 0 (fun e w => K (e 6) w) noE) := by intro Y0; kernel_rfl
  exact seg 4 (Eq.mp (e1 (fun a0 a1 a7 w => F8_10 a0 a1 a7 w K)) h) (fun e w h => ok8_10 hn hr he e w h) hr he
def F8_13b (s0 s1 s8 : Value) (w : World) (K : V1) : Prop :=
callP G19 [s0, s8] w fun v98 w97 =>
bindP (pTuple v98 0) fun v99 =>
bindP (pTuple v98 1) fun v100 =>
eAlloc Tryz.prog 36 w97 fun v102 w101 =>
bindW (st 11 v102 v99 w101) fun w103 =>
callP G20 [s1, s8] w103 fun v106 w105 =>
bindP (pTuple v106 0) fun v107 =>
bindP (pTuple v106 1) fun v108 =>
eAlloc Tryz.prog 36 w105 fun v110 w109 =>
bindW (st 11 v110 v107 w109) fun w111 =>
bindP (ldN 11 v102 w111) fun v113 =>
bindP (ldN 11 v110 w111) fun v114 =>
callP G21 [v113, v114] w111 fun v116 w115 =>
stepM (gd true v116) v100 fun v117 =>
stepM (gd true v116) v108 fun v118 =>
Sx.stepG (gd true v116) (bEq Tryz.prog 24 (.tmp 198) (.tmp 199) v117 v118) fun v119 =>
bindP (pPick v116 v119 (.bool false)) fun v120 =>
K v120 w115
def F8_13 (s0 s1 s8 : Value) (w : World) (K : V1) : Prop := F8_13b s0 s1 s8 w K
theorem ok8_13 {K : V1}
    (hn : HN (fun e w => K (e 6) w) kn) (hr : HR Tryz.prog [.tmp 6] K kr) (he : HE (blkK 0 (fun e w => K (e 6) w) noE) ke) :
    ∀ e w, F8_13 (e 0) (e 1) (e 8) w K → denL Tryz.prog (tabOf T8) 304 fuel ((flat (thenC (nthC (flat (elseC (nthC (flat (elseC (nthC (flat (blkB (nthC (flat (bodyOf Tryz.f8)) 6))) 1))) 1))) 1))).drop 0) e w kn kr ke := by
  intro e w h
  unfold F8_13 at h
  have e1 : ∀ (_ : Unit), F8_13b (e 0) (e 1) (e 8) w K = denL Tryz.prog (tabOf T8) 304 fuel ((flat (thenC (nthC (flat (elseC (nthC (flat (elseC (nthC (flat (blkB (nthC (flat (bodyOf Tryz.f8)) 6))) 1))) 1))) 1))).drop 0) e w (fun e w => K (e 6) w) (endD Tryz.prog [.tmp 6] K) (blkK 0 (fun e w => K (e 6) w) noE) := by intro _; kernel_rfl
  exact seg_end (Eq.mp (e1 ()) h) hn hr he
def F8_16b (s0 s1 : Value) (w : World) (K : V1) : Prop :=
callP G22 [s1] w fun v122 w121 =>
bindP (pTuple v122 0) fun v123 =>
bindP (pTuple v122 1) fun v124 =>
eAlloc Tryz.prog 36 w121 fun v126 w125 =>
bindW (st 11 v126 v123 w125) fun w127 =>
bindP (uNot v124) fun v129 =>
ifB v129 (
K (.bool true) w127) (
bindP (pFieldAddr 0 v126) fun v130 =>
bindP (ld1 v130 w127) fun v131 =>
callP G19 [s0, v131] w127 fun v133 w132 =>
bindP (pTuple v133 0) fun v134 =>
bindP (pTuple v133 1) fun v135 =>
eAlloc Tryz.prog 36 w132 fun v137 w136 =>
bindW (st 11 v137 v134 w136) fun w138 =>
bindP (pFieldAddr 0 v126) fun v140 =>
bindP (ld1 v140 w138) fun v141 =>
callP G20 [s1, v141] w138 fun v143 w142 =>
bindP (pTuple v143 0) fun v144 =>
bindP (pTuple v143 1) fun v145 =>
eAlloc Tryz.prog 36 w142 fun v147 w146 =>
bindW (st 11 v147 v144 w146) fun w148 =>
bindP (ldN 11 v137 w148) fun v150 =>
bindP (ldN 11 v147 w148) fun v151 =>
callP G21 [v150, v151] w148 fun v153 w152 =>
stepM (gd true v153) v135 fun v154 =>
stepM (gd true v153) v145 fun v155 =>
Sx.stepG (gd true v153) (bEq Tryz.prog 24 (.tmp 229) (.tmp 230) v154 v155) fun v156 =>
bindP (pPick v153 v156 (.bool false)) fun v157 =>
K v157 w152)
def F8_16 (s0 s1 : Value) (w : World) (K : V1) : Prop := F8_16b s0 s1 w K
theorem ok8_16 {K : V1}
    (hn : HN (fun e w => K (e 6) w) kn) (hr : HR Tryz.prog [.tmp 6] K kr) (he : HE (blkK 0 (fun e w => K (e 6) w) noE) ke) :
    ∀ e w, F8_16 (e 0) (e 1) w K → denL Tryz.prog (tabOf T8) 304 fuel ((flat (thenC (nthC (flat (elseC (nthC (flat (elseC (nthC (flat (elseC (nthC (flat (blkB (nthC (flat (bodyOf Tryz.f8)) 6))) 1))) 1))) 1))) 1))).drop 0) e w kn kr ke := by
  intro e w h
  unfold F8_16 at h
  have e1 : ∀ (_ : Unit), F8_16b (e 0) (e 1) w K = denL Tryz.prog (tabOf T8) 304 fuel ((flat (thenC (nthC (flat (elseC (nthC (flat (elseC (nthC (flat (elseC (nthC (flat (blkB (nthC (flat (bodyOf Tryz.f8)) 6))) 1))) 1))) 1))) 1))).drop 0) e w (fun e w => K (e 6) w) (endD Tryz.prog [.tmp 6] K) (blkK 0 (fun e w => K (e 6) w) noE) := by intro _; kernel_rfl
  exact seg_end (Eq.mp (e1 ()) h) hn hr he
def F8_19b (s0 s1 s7 s8 : Value) (w : World) (K : V1) : Prop :=
callP G23 [s0] w fun v159 w158 =>
bindP (bEq Tryz.prog 23 (.tmp 237) (.const (.pointer none)) v159 (.pointer none)) fun v160 =>
stepM (gd false v160) v159 fun v161 =>
stepM (gd false v160) s1 fun v162 =>
Sx.stepG (gd false v160) (ldN 11 s7 w158) fun v163 =>
stepE (gd false v160) (fun k => callP G9 [v161, v162, v163] w158 k) w158 fun v165 w164 =>
Sx.stepG (gd false v160) (uNot v165) fun v166 =>
bindP (pPick v160 (.bool true) v166) fun v167 =>
ifB v167 (
K (.bool false) w164) (
bindP (ldN 11 s7 w164) fun v168 =>
callP G11 [v159, v168] w164 fun _ w169 =>
callP G19 [v159, s8] w169 fun _ w171 =>
K (.bool true) w171)
def F8_19 (s0 s1 s7 s8 : Value) (w : World) (K : V1) : Prop := F8_19b s0 s1 s7 s8 w K
theorem ok8_19 {K : V1}
    (hn : HN (fun e w => K (e 6) w) kn) (hr : HR Tryz.prog [.tmp 6] K kr) (he : HE (blkK 0 (fun e w => K (e 6) w) noE) ke) :
    ∀ e w, F8_19 (e 0) (e 1) (e 7) (e 8) w K → denL Tryz.prog (tabOf T8) 304 fuel ((flat (thenC (nthC (flat (elseC (nthC (flat (elseC (nthC (flat (elseC (nthC (flat (elseC (nthC (flat (blkB (nthC (flat (bodyOf Tryz.f8)) 6))) 1))) 1))) 1))) 1))) 1))).drop 0) e w kn kr ke := by
  intro e w h
  unfold F8_19 at h
  have e1 : ∀ (_ : Unit), F8_19b (e 0) (e 1) (e 7) (e 8) w K = denL Tryz.prog (tabOf T8) 304 fuel ((flat (thenC (nthC (flat (elseC (nthC (flat (elseC (nthC (flat (elseC (nthC (flat (elseC (nthC (flat (blkB (nthC (flat (bodyOf Tryz.f8)) 6))) 1))) 1))) 1))) 1))) 1))).drop 0) e w (fun e w => K (e 6) w) (endD Tryz.prog [.tmp 6] K) (blkK 0 (fun e w => K (e 6) w) noE) := by intro _; kernel_rfl
  exact seg_end (Eq.mp (e1 ()) h) hn hr he
def F8_24b (s0 s1 s27 : Value) (w : World) (K : V1) : Prop :=
bindP (pNil s1) fun v173 =>
bindP (pFieldAddr 1 v173) fun v174 =>
bindP (ld1 v174 w.drew) fun v175 =>
bindP (pNil s1) fun v176 =>
bindP (pFieldAddr 1 v176) fun v177 =>
bindP (ld1 v177 w.drew) fun v178 =>
callP G24 [s0, s27, v175] w.drew fun v180 w179 =>
fok true (ld1 v177 w179) v178 ∧ (callP G25 [s1, s27, v178] w179 fun v182 w181 =>
bindP (bEq Tryz.prog 24 (.tmp 295) (.tmp 302) v180 v182) fun v183 =>
K v183 w181)
def F8_24 (s0 s1 s27 : Value) (w : World) (K : V1) : Prop := F8_24b s0 s1 s27 w K
theorem ok8_24 {K : V1}
    (hn : HN (fun e w => K (e 6) w) kn) (hr : HR Tryz.prog [.tmp 6] K kr) (he : HE (blkK 0 (fun e w => K (e 6) w) noE) ke) :
    ∀ e w, F8_24 (e 0) (e 1) (e 27) w K → denL Tryz.prog (tabOf T8) 304 fuel ((flat (thenC (nthC (flat (elseC (nthC (flat (elseC (nthC (flat (elseC (nthC (flat (elseC (nthC (flat (elseC (nthC (flat (blkB (nthC (flat (bodyOf Tryz.f8)) 6))) 1))) 1))) 1))) 1))) 1))) 1))).drop 3) e w kn kr ke := by
  intro e w h
  unfold F8_24 at h
  have e1 : ∀ (_ : Unit), F8_24b (e 0) (e 1) (e 27) w K = denL Tryz.prog (tabOf T8) 304 fuel ((flat (thenC (nthC (flat (elseC (nthC (flat (elseC (nthC (flat (elseC (nthC (flat (elseC (nthC (flat (elseC (nthC (flat (blkB (nthC (flat (bodyOf Tryz.f8)) 6))) 1))) 1))) 1))) 1))) 1))) 1))).drop 3) e w (fun e w => K (e 6) w) (endD Tryz.prog [.tmp 6] K) (blkK 0 (fun e w => K (e 6) w) noE) := by intro _; kernel_rfl
  exact seg_end (Eq.mp (e1 ()) h) hn hr he
def F8_23b (s0 s1 s27 s28 : Value) (w : World) (_K : V1) (Y0 : V4) (Y1 : V3) : Prop :=
bindP (lenL s27) fun v184 =>
bindP (bQuo v184 (.int .i64 2)) fun v185 =>
bindP (bLt s28 v185) fun v186 =>
ifB v186 (
bindP (lenL s27) fun v187 =>
bindP (bSub v187 (.int .i64 1)) fun v188 =>
bindP (bSub v188 s28) fun v189 =>
bindP (lenL s27) fun v190 =>
bindP (bSub v190 (.int .i64 1)) fun v191 =>
bindP (bSub v191 s28) fun v192 =>
bindP (pIndexL 11 s27 v192) fun v193 =>
bindP (ldN 11 v193 w.drew) fun v194 =>
bindP (pIndexL 11 s27 s28) fun v195 =>
bindP (ldN 11 v195 w.drew) fun v196 =>
bindP (pIndexL 11 s27 s28) fun v197 =>
bindW (st 11 v197 v194 w.drew) fun w198 =>
fok true (lenL s27) v187 ∧ (bindP (pIndexL 11 s27 v189) fun v200 =>
bindW (st 11 v200 v196 w198) fun w201 =>
bindP (bAdd s28 (.int .i64 1)) fun v203 =>
Y0 s0 s1 s27 v203 w201)) (
Y1 s0 s1 s27 w)
def F8_23L : Nat → Value → Value → Value → Value → World → (V1) → Prop
  | 0, _, _, _, _, _, _ => False
  | n + 1, s0, s1, s27, s28, w, K => F8_23b s0 s1 s27 s28 w K (fun a0 a1 a27 a28 w => F8_23L n a0 a1 a27 a28 w K) (fun a0 a1 a27 w => F8_24 a0 a1 a27 w K)
def F8_23 (s0 s1 s27 s28 : Value) (w : World) (K : V1) : Prop := F8_23L fuel s0 s1 s27 s28 w K
theorem ok8_23 {K : V1}
    (hn : HN (fun e w => K (e 6) w) kn) (hr : HR Tryz.prog [.tmp 6] K kr) (he : HE (blkK 0 (fun e w => K (e 6) w) noE) ke) :
    ∀ e w, F8_23 (e 0) (e 1) (e 27) (e 28) w K → denL Tryz.prog (tabOf T8) 304 fuel ((flat (thenC (nthC (flat (elseC (nthC (flat (elseC (nthC (flat (elseC (nthC (flat (elseC (nthC (flat (elseC (nthC (flat (blkB (nthC (flat (bodyOf Tryz.f8)) 6))) 1))) 1))) 1))) 1))) 1))) 1))).drop 2) e w kn kr ke := by
  intro e w h
  unfold F8_23 at h
  refine seg_loop (id := 1) (body := (loopB (blkB (nthC (flat (thenC (nthC (flat (elseC (nthC (flat (elseC (nthC (flat (elseC (nthC (flat (elseC (nthC (flat (elseC (nthC (flat (blkB (nthC (flat (bodyOf Tryz.f8)) 6))) 1))) 1))) 1))) 1))) 1))) 1))) 2)))) (l2 := (flat (thenC (nthC (flat (elseC (nthC (flat (elseC (nthC (flat (elseC (nthC (flat (elseC (nthC (flat (elseC (nthC (flat (blkB (nthC (flat (bodyOf Tryz.f8)) 6))) 1))) 1))) 1))) 1))) 1))) 1))).drop 3) (by kernel_rfl) ?_
  refine loop_ok (FL := fun m e w => F8_23L m (e 0) (e 1) (e 27) (e 28) w K) (fr := endD Tryz.prog [.tmp 6] K) (fe := (blkK 1 (fun e w => F8_24 (e 0) (e 1) (e 27) w K) (blkK 0 (fun e w => K (e 6) w) noE))) (fun _ _ h => h) ?_ hr (blkK_mono (fun e w h => ok8_24 hn hr he e w h) he) fuel e w h
  intro m e w h
  have h : F8_23L (m + 1) (e 0) (e 1) (e 27) (e 28) w K := h
  rw [F8_23L] at h
  have e1 : ∀ (Y0 : V4) (Y1 : V3), F8_23b (e 0) (e 1) (e 27) (e 28) w K Y0 Y1 = denL Tryz.prog (tabOf T8) 304 fuel (flat (loopB (blkB (nthC (flat (thenC (nthC (flat (elseC (nthC (flat (elseC (nthC (flat (elseC (nthC (flat (elseC (nthC (flat (elseC (nthC (flat (blkB (nthC (flat (bodyOf Tryz.f8)) 6))) 1))) 1))) 1))) 1))) 1))) 1))) 2)))) e w (fun e w => Y0 (e 0) (e 1) (e 27) (e 28) w) (endD Tryz.prog [.tmp 6] K) (blkK 1 (fun e w => Y1 (e 0) (e 1) (e 27) w) (blkK 0 (fun e w => K (e 6) w) noE)) := by intro Y0 Y1; kernel_rfl
  exact Eq.mp (e1 (fun a0 a1 a27 a28 w => F8_23L m a0 a1 a27 a28 w K) (fun a0 a1 a27 w => F8_24 a0 a1 a27 w K)) h
def F8_22b (s0 s1 : Value) (w : World) (_K : V1) (Y0 : V4) : Prop :=
eBuildSl Tryz.prog 37 0 [] w fun v205 w204 =>
bindP (pNil s1) fun v206 =>
bindP (pFieldAddr 2 v206) fun v207 =>
bindP (ld1 v207 w204) fun v208 =>
eAppend Tryz.prog 37 37 v205 v208 w204 fun v210 w209 =>
Y0 s0 s1 v210 (.int .i64 0) w209
def F8_22 (s0 s1 : Value) (w : World) (K : V1) : Prop := F8_22b s0 s1 w K (fun a0 a1 a27 a28 w => F8_23 a0 a1 a27 a28 w K)
theorem ok8_22 {K : V1}
    (hn : HN (fun e w => K (e 6) w) kn) (hr : HR Tryz.prog [.tmp 6] K kr) (he : HE (blkK 0 (fun e w => K (e 6) w) noE) ke) :
    ∀ e w, F8_22 (e 0) (e 1) w K → denL Tryz.prog (tabOf T8) 304 fuel ((flat (thenC (nthC (flat (elseC (nthC (flat (elseC (nthC (flat (elseC (nthC (flat (elseC (nthC (flat (elseC (nthC (flat (blkB (nthC (flat (bodyOf Tryz.f8)) 6))) 1))) 1))) 1))) 1))) 1))) 1))).drop 0) e w kn kr ke := by
  intro e w h
  unfold F8_22 at h
  have e1 : ∀ (Y0 : V4), F8_22b (e 0) (e 1) w K Y0 = denL Tryz.prog (tabOf T8) 304 fuel (((flat (thenC (nthC (flat (elseC (nthC (flat (elseC (nthC (flat (elseC (nthC (flat (elseC (nthC (flat (elseC (nthC (flat (blkB (nthC (flat (bodyOf Tryz.f8)) 6))) 1))) 1))) 1))) 1))) 1))) 1))).drop 0).take 2) e w (fun e w => Y0 (e 0) (e 1) (e 27) (e 28) w) (endD Tryz.prog [.tmp 6] K) (blkK 0 (fun e w => K (e 6) w) noE) := by intro Y0; kernel_rfl
  exact seg 2 (Eq.mp (e1 (fun a0 a1 a27 a28 w => F8_23 a0 a1 a27 a28 w K)) h) (fun e w h => ok8_23 hn hr he e w h) hr he
def F8_25b (s0 s1 s5 : Value) (w : World) (K : V1) : Prop :=
bindP (pFieldAddr 14 s5) fun v211 =>
bindP (ld1 v211 w) fun v212 =>
bindP (lenL v212) fun v213 =>
bindP (bGt v213 (.int .i64 30)) fun v214 =>
ifB v214 (
K (.bool true) w) (
bindP (pFieldAddr 14 s5) fun v215 =>
bindP (ld1 v215 w.drew) fun v216 =>
bindP (pFieldAddr 1 s5) fun v217 =>
bindP (ld1 v217 w.drew) fun v218 =>
bindP (pFieldAddr 14 s5) fun v219 =>
bindP (ld1 v219 w.drew) fun v220 =>
bindP (pFieldAddr 1 s5) fun v221 =>
bindP (ld1 v221 w.drew) fun v222 =>
callP G24 [s0, v216, v218] w.drew fun v224 w223 =>
(fok true (ld1 v219 w223) v220 ∧ fok true (ld1 v221 w223) v222) ∧ (callP G25 [s1, v220, v222] w223 fun v226 w225 =>
bindP (bEq Tryz.prog 24 (.tmp 73) (.tmp 79) v224 v226) fun v227 =>
K v227 w225))
def F8_25 (s0 s1 s5 : Value) (w : World) (K : V1) : Prop := F8_25b s0 s1 s5 w K
theorem ok8_25 {K : V1}
    (hn : HN (fun e w => K (e 6) w) kn) (hr : HR Tryz.prog [.tmp 6] K kr) (he : HE (blkK 0 (fun e w => K (e 6) w) noE) ke) :
    ∀ e w, F8_25 (e 0) (e 1) (e 5) w K → denL Tryz.prog (tabOf T8) 304 fuel ((flat (elseC (nthC (flat (elseC (nthC (flat (elseC (nthC (flat (elseC (nthC (flat (elseC (nthC (flat (elseC (nthC (flat (blkB (nthC (flat (bodyOf Tryz.f8)) 6))) 1))) 1))) 1))) 1))) 1))) 1))).drop 0) e w kn kr ke := by
  intro e w h
  unfold F8_25 at h
  have e1 : ∀ (_ : Unit), F8_25b (e 0) (e 1) (e 5) w K = denL Tryz.prog (tabOf T8) 304 fuel ((flat (elseC (nthC (flat (elseC (nthC (flat (elseC (nthC (flat (elseC (nthC (flat (elseC (nthC (flat (elseC (nthC (flat (blkB (nthC (flat (bodyOf Tryz.f8)) 6))) 1))) 1))) 1))) 1))) 1))) 1))).drop 0) e w (fun e w => K (e 6) w) (endD Tryz.prog [.tmp 6] K) (blkK 0 (fun e w => K (e 6) w) noE) := by intro _; kernel_rfl
  exact seg_end (Eq.mp (e1 ()) h) hn hr he
def F8_21 (s0 s1 s5 s252 : Value) (w : World) (K : V1) : Prop := ifB s252 (F8_22 s0 s1 w K) (F8_25 s0 s1 s5 w K)
theorem ok8_21 {K : V1}
    (hn : HN (fun e w => K (e 6) w) kn) (hr : HR Tryz.prog [.tmp 6] K kr) (he : HE (blkK 0 (fun e w => K (e 6) w) noE) ke) :
    ∀ e w, F8_21 (e 0) (e 1) (e 5) (e 252) w K → denL Tryz.prog (tabOf T8) 304 fuel ((flat (elseC (nthC (flat (elseC (nthC (flat (elseC (nthC (flat (elseC (nthC (flat (elseC (nthC (flat (blkB (nthC (flat (bodyOf Tryz.f8)) 6))) 1))) 1))) 1))) 1))) 1))).drop 1) e w kn kr ke := by
  intro e w h
  unfold F8_21 at h
  refine seg_cond (c := (.tmp 252)) (a := thenC (nthC (flat (elseC (nthC (flat (elseC (nthC (flat (elseC (nthC (flat (elseC (nthC (flat (elseC (nthC (flat (blkB (nthC (flat (bodyOf Tryz.f8)) 6))) 1))) 1))) 1))) 1))) 1))) 1)) (b := elseC (nthC (flat (elseC (nthC (flat (elseC (nthC (flat (elseC (nthC (flat (elseC (nthC (flat (elseC (nthC (flat (blkB (nthC (flat (bodyOf Tryz.f8)) 6))) 1))) 1))) 1))) 1))) 1))) 1)) (l2 := (flat (elseC (nthC (flat (elseC (nthC (flat (elseC (nthC (flat (elseC (nthC (flat (elseC (nthC (flat (blkB (nthC (flat (bodyOf Tryz.f8)) 6))) 1))) 1))) 1))) 1))) 1))).drop 2) (by kernel_rfl) h (fun h => ?_) (fun h => ?_)
  · exact ok8_22 hn hr he e w h
  · exact ok8_25 hn hr he e w h
def F8_20b (s0 s1 s5 s63 : Value) (w : World) (_K : V1) (Y0 : V4) : Prop :=
bindP (bEq Tryz.prog 3 (.tmp 63) (.const (.int .i64 5)) s63 (.int .i64 5)) fun v228 =>
Y0 s0 s1 s5 v228 w
def F8_20 (s0 s1 s5 s63 : Value) (w : World) (K : V1) : Prop := F8_20b s0 s1 s5 s63 w K (fun a0 a1 a5 a252 w => F8_21 a0 a1 a5 a252 w K)
theorem ok8_20 {K : V1}
    (hn : HN (fun e w => K (e 6) w) kn) (hr : HR Tryz.prog [.tmp 6] K kr) (he : HE (blkK 0 (fun e w => K (e 6) w) noE) ke) :
    ∀ e w, F8_20 (e 0) (e 1) (e 5) (e 63) w K → denL Tryz.prog (tabOf T8) 304 fuel ((flat (elseC (nthC (flat (elseC (nthC (flat (elseC (nthC (flat (elseC (nthC (flat (elseC (nthC (flat (blkB (nthC (flat (bodyOf Tryz.f8)) 6))) 1))) 1))) 1))) 1))) 1))).drop 0) e w kn kr ke := by
  intro e w h
  unfold F8_20 at h
  have e1 : ∀ (Y0 : V4), F8_20b (e 0) (e 1) (e 5) (e 63) w K Y0 = denL Tryz.prog (tabOf T8) 304 fuel (((flat (elseC (nthC (flat (elseC (nthC (flat (elseC (nthC (flat (elseC (nthC (flat (elseC (nthC (flat (blkB (nthC (flat (bodyOf Tryz.f8)) 6))) 1))) 1))) 1))) 1))) 1))).drop 0).take 1) e w (fun e w => Y0 (e 0) (e 1) (e 5) (e 252) w) (endD Tryz.prog [.tmp 6] K) (blkK 0 (fun e w => K (e 6) w) noE) := by intro Y0; kernel_rfl
  exact seg 1 (Eq.mp (e1 (fun a0 a1 a5 a252 w => F8_21 a0 a1 a5 a252 w K)) h) (fun e w h => ok8_21 hn hr he e w h) hr he
def F8_18 (s0 s1 s5 s7 s8 s63 s233 : Value) (w : World) (K : V1) : Prop := ifB s233 (F8_19 s0 s1 s7 s8 w K) (F8_20 s0 s1 s5 s63 w K)
theorem ok8_18 {K : V1}
    (hn : HN (fun e w => K (e 6) w) kn) (hr : HR Tryz.prog [.tmp 6] K kr) (he : HE (blkK 0 (fun e w => K (e 6) w) noE) ke) :
    ∀ e w, F8_18 (e 0) (e 1) (e 5) (e 7) (e 8) (e 63) (e 233) w K → denL Tryz.prog (tabOf T8) 304 fuel ((flat (elseC (nthC (flat (elseC (nthC (flat (elseC (nthC (flat (elseC (nthC (flat (blkB (nthC (flat (bodyOf Tryz.f8)) 6))) 1))) 1))) 1))) 1))).drop 1) e w kn kr ke := by
  intro e w h
  unfold F8_18 at h
  refine seg_cond (c := (.tmp 233)) (a := thenC (nthC (flat (elseC (nthC (flat (elseC (nthC (flat (elseC (nthC (flat (elseC (nthC (flat (blkB (nthC (flat (bodyOf Tryz.f8)) 6))) 1))) 1))) 1))) 1))) 1)) (b := elseC (nthC (flat (elseC (nthC (flat (elseC (nthC (flat (elseC (nthC (flat (elseC (nthC (flat (blkB (nthC (flat (bodyOf Tryz.f8)) 6))) 1))) 1))) 1))) 1))) 1)) (l2 := (flat (elseC (nthC (flat (elseC (nthC (flat (elseC (nthC (flat (elseC (nthC (flat (blkB (nthC (flat (bodyOf Tryz.f8)) 6))) 1))) 1))) 1))) 1))).drop 2) (by kernel_rfl) h (fun h => ?_) (fun h => ?_)
  · exact ok8_19 hn hr he e w h
  · exact ok8_20 hn hr he e w h
def F8_17b (s0 s1 s5 s7 s8 s63 : Value) (w : World) (_K : V1) (Y0 : V7) : Prop :=
bindP (bEq Tryz.prog 3 (.tmp 63) (.const (.int .i64 4)) s63 (.int .i64 4)) fun v229 =>
Y0 s0 s1 s5 s7 s8 s63 v229 w
def F8_17 (s0 s1 s5 s7 s8 s63 : Value) (w : World) (K : V1) : Prop := F8_17b s0 s1 s5 s7 s8 s63 w K (fun a0 a1 a5 a7 a8 a63 a233 w => F8_18 a0 a1 a5 a7 a8 a63 a233 w K)
theorem ok8_17 {K : V1}
    (hn : HN (fun e w => K (e 6) w) kn) (hr : HR Tryz.prog [.tmp 6] K kr) (he : HE (blkK 0 (fun e w => K (e 6) w) noE) ke) :
    ∀ e w, F8_17 (e 0) (e 1) (e 5) (e 7) (e 8) (e 63) w K → denL Tryz.prog (tabOf T8) 304 fuel ((flat (elseC (nthC (flat (elseC (nthC (flat (elseC (nthC (flat (elseC (nthC (flat (blkB (nthC (flat (bodyOf Tryz.f8)) 6))) 1))) 1))) 1))) 1))).drop 0) e w kn kr ke := by
  intro e w h
  unfold F8_17 at h
  have e1 : ∀ (Y0 : V7), F8_17b (e 0) (e 1) (e 5) (e 7) (e 8) (e 63) w K Y0 = denL Tryz.prog (tabOf T8) 304 fuel (((flat (elseC (nthC (flat (elseC (nthC (flat (elseC (nthC (flat (elseC (nthC (flat (blkB (nthC (flat (bodyOf Tryz.f8)) 6))) 1))) 1))) 1))) 1))).drop 0).take 1) e w (fun e w => Y0 (e 0) (e 1) (e 5) (e 7) (e 8) (e 63) (e 233) w) (endD Tryz.prog [.tmp 6] K) (blkK 0 (fun e w => K (e 6) w) noE) := by intro Y0; kernel_rfl
  exact seg 1 (Eq.mp (e1 (fun a0 a1 a5 a7 a8 a63 a233 w => F8_18 a0 a1 a5 a7 a8 a63 a233 w K)) h) (fun e w h => ok8_18 hn hr he e w h) hr he
def F8_15 (s0 s1 s5 s7 s8 s63 s202 : Value) (w : World) (K : V1) : Prop := ifB s202 (F8_16 s0 s1 w K) (F8_17 s0 s1 s5 s7 s8 s63 w K)
theorem ok8_15 {K : V1}
    (hn : HN (fun e w => K (e 6) w) kn) (hr : HR Tryz.prog [.tmp 6] K kr) (he : HE (blkK 0 (fun e w => K (e 6) w) noE) ke) :
    ∀ e w, F8_15 (e 0) (e 1) (e 5) (e 7) (e 8) (e 63) (e 202) w K → denL Tryz.prog (tabOf T8) 304 fuel ((flat (elseC (nthC (flat (elseC (nthC (flat (elseC (nthC (flat (blkB (nthC (flat (bodyOf Tryz.f8)) 6))) 1))) 1))) 1))).drop 1) e w kn kr ke := by
  intro e w h
  unfold F8_15 at h
  refine seg_cond (c := (.tmp 202)) (a := thenC (nthC (flat (elseC (nthC (flat (elseC (nthC (flat (elseC (nthC (flat (blkB (nthC (flat (bodyOf Tryz.f8)) 6))) 1))) 1))) 1))) 1)) (b := elseC (nthC (flat (elseC (nthC (flat (elseC (nthC (flat (elseC (nthC (flat (blkB (nthC (flat (bodyOf Tryz.f8)) 6))) 1))) 1))) 1))) 1)) (l2 := (flat (elseC (nthC (flat (elseC (nthC (flat (elseC (nthC (flat (blkB (nthC (flat (bodyOf Tryz.f8)) 6))) 1))) 1))) 1))).drop 2) (by kernel_rfl) h (fun h => ?_) (fun h => ?_)
  · exact ok8_16 hn hr he e w h
  · exact ok8_17 hn hr he e w h
def F8_14b (s0 s1 s5 s7 s8 s63 : Value) (w : World) (_K : V1) (Y0 : V7) : Prop :=
bindP (bEq Tryz.prog 3 (.tmp 63) (.const (.int .i64 3)) s63 (.int .i64 3)) fun v230 =>
Y0 s0 s1 s5 s7 s8 s63 v230 w
def F8_14 (s0 s1 s5 s7 s8 s63 : Value) (w : World) (K : V1) : Prop := F8_14b s0 s1 s5 s7 s8 s63 w K (fun a0 a1 a5 a7 a8 a63 a202 w => F8_15 a0 a1 a5 a7 a8 a63 a202 w K)
theorem ok8_14 {K : V1}
    (hn : HN (fun e w => K (e 6) w) kn) (hr : HR Tryz.prog [.tmp 6] K kr) (he : HE (blkK 0 (fun e w => K (e 6) w) noE) ke) :
    ∀ e w, F8_14 (e 0) (e 1) (e 5) (e 7) (e 8) (e 63) w K → denL Tryz.prog (tabOf T8) 304 fuel ((flat (elseC (nthC (flat (elseC (nthC (flat (elseC (nthC (flat (blkB (nthC (flat (bodyOf Tryz.f8)) 6))) 1))) 1))) 1))).drop 0) e w kn kr ke := by
  intro e w h
  unfold F8_14 at h
  have e1 : ∀ (Y0 : V7), F8_14b (e 0) (e 1) (e 5) (e 7) (e 8) (e 63) w K Y0 = denL Tryz.prog (tabOf T8) 304 fuel (((flat (elseC (nthC (flat (elseC (nthC (flat (elseC (nthC (flat (blkB (nthC (flat (bodyOf Tryz.f8)) 6))) 1))) 1))) 1))).drop 0).take 1) e w (fun e w => Y0 (e 0) (e 1) (e 5) (e 7) (e 8) (e 63) (e 202) w) (endD Tryz.prog [.tmp 6] K) (blkK 0 (fun e w => K (e 6) w) noE) := by intro Y0; kernel_rfl
  exact seg 1 (Eq.mp (e1 (fun a0 a1 a5 a7 a8 a63 a202 w => F8_15 a0 a1 a5 a7 a8 a63 a202 w K)) h) (fun e w h => ok8_15 hn hr he e w h) hr he
def F8_12 (s0 s1 s5 s7 s8 s63 s180 : Value) (w : World) (K : V1) : Prop := ifB s180 (F8_13 s0 s1 s8 w K) (F8_14 s0 s1 s5 s7 s8 s63 w K)
theorem ok8_12 {K : V1}
    (hn : HN (fun e w => K (e 6) w) kn) (hr : HR Tryz.prog [.tmp 6] K kr) (he : HE (blkK 0 (fun e w => K (e 6) w) noE) ke) :
    ∀ e w, F8_12 (e 0) (e 1) (e 5) (e 7) (e 8) (e 63) (e 180) w K → denL Tryz.prog (tabOf T8) 304 fuel ((flat (elseC (nthC (flat (elseC (nthC (flat (blkB (nthC (flat (bodyOf Tryz.f8)) 6))) 1))) 1))).drop 1) e w kn kr ke := by
  intro e w h
  unfold F8_12 at h
  refine seg_cond (c := (.tmp 180)) (a := thenC (nthC (flat (elseC (nthC (flat (elseC (nthC (flat (blkB (nthC (flat (bodyOf Tryz.f8)) 6))) 1))) 1))) 1)) (b := elseC (nthC (flat (elseC (nthC (flat (elseC (nthC (flat (blkB (nthC (flat (bodyOf Tryz.f8)) 6))) 1))) 1))) 1)) (l2 := (flat (elseC (nthC (flat (elseC (nthC (flat (blkB (nthC (flat (bodyOf Tryz.f8)) 6))) 1))) 1))).drop 2) (by kernel_rfl) h (fun h => ?_) (fun h => ?_)
  · exact ok8_13 hn hr he e w h
  · exact ok8_14 hn hr he e w h
def F8_11b (s0 s1 s5 s7 s8 s63 : Value) (w : World) (_K : V1) (Y0 : V7) : Prop :=
bindP (bEq Tryz.prog 3 (.tmp 63) (.const (.int .i64 2)) s63 (.int .i64 2)) fun v231 =>
Y0 s0 s1 s5 s7 s8 s63 v231 w
def F8_11 (s0 s1 s5 s7 s8 s63 : Value) (w : World) (K : V1) : Prop := F8_11b s0 s1 s5 s7 s8 s63 w K (fun a0 a1 a5 a7 a8 a63 a180 w => F8_12 a0 a1 a5 a7 a8 a63 a180 w K)
theorem ok8_11 {K : V1}
    (hn : HN (fun e w => K (e 6) w) kn) (hr : HR Tryz.prog [.tmp 6] K kr) (he : HE (blkK 0 (fun e w => K (e 6) w) noE) ke) :
    ∀ e w, F8_11 (e 0) (e 1) (e 5) (e 7) (e 8) (e 63) w K → denL Tryz.prog (tabOf T8) 304 fuel ((flat (elseC (nthC (flat (elseC (nthC (flat (blkB (nthC (flat (bodyOf Tryz.f8)) 6))) 1))) 1))).drop 0) e w kn kr ke := by
  intro e w h
  unfold F8_11 at h
  have e1 : ∀ (Y0 : V7), F8_11b (e 0) (e 1) (e 5) (e 7) (e 8) (e 63) w K Y0 = denL Tryz.prog (tabOf T8) 304 fuel (((flat (elseC (nthC (flat (elseC (nthC (flat (blkB (nthC (flat (bodyOf Tryz.f8)) 6))) 1))) 1))).drop 0).take 1) e w (fun e w => Y0 (e 0) (e 1) (e 5) (e 7) (e 8) (e 63) (e 180) w) (endD Tryz.prog [.tmp 6] K) (blkK 0 (fun e w => K (e 6) w) noE) := by intro Y0; kernel_rfl
  exact seg 1 (Eq.mp (e1 (fun a0 a1 a5 a7 a8 a63 a180 w => F8_12 a0 a1 a5 a7 a8 a63 a180 w K)) h) (fun e w h => ok8_12 hn hr he e w h) hr he
def F8_8 (s0 s1 s5 s7 s8 s63 s107 : Value) (w : World) (K : V1) : Prop := ifB s107 (F8_9 s0 s1 s5 s7 s8 w K) (F8_11 s0 s1 s5 s7 s8 s63 w K)
theorem ok8_8 {K : V1}
    (hn : HN (fun e w => K (e 6) w) kn) (hr : HR Tryz.prog [.tmp 6] K kr) (he : HE (blkK 0 (fun e w => K (e 6) w) noE) ke) :
    ∀ e w, F8_8 (e 0) (e 1) (e 5) (e 7) (e 8) (e 63) (e 107) w K → denL Tryz.prog (tabOf T8) 304 fuel ((flat (elseC (nthC (flat (blkB (nthC (flat (bodyOf Tryz.f8)) 6))) 1))).drop 1) e w kn kr ke := by
  intro e w h
  unfold F8_8 at h
  refine seg_cond (c := (.tmp 107)) (a := thenC (nthC (flat (elseC (nthC (flat (blkB (nthC (flat (bodyOf Tryz.f8)) 6))) 1))) 1)) (b := elseC (nthC (flat (elseC (nthC (flat (blkB (nthC (flat (bodyOf Tryz.f8)) 6))) 1))) 1)) (l2 := (flat (elseC (nthC (flat (blkB (nthC (flat (bodyOf Tryz.f8)) 6))) 1))).drop 2) (by kernel_rfl) h (fun h => ?_) (fun h => ?_)
  · exact ok8_9 hn hr he e w h
  · exact ok8_11 hn hr he e w h
def F8_7b (s0 s1 s5 s7 s8 s63 : Value) (w : World) (_K : V1) (Y0 : V7) : Prop :=
bindP (bEq Tryz.prog 3 (.tmp 63) (.const (.int .i64 1)) s63 (.int .i64 1)) fun v232 =>
Y0 s0 s1 s5 s7 s8 s63 v232 w
def F8_7 (s0 s1 s5 s7 s8 s63 : Value) (w : World) (K : V1) : Prop := F8_7b s0 s1 s5 s7 s8 s63 w K (fun a0 a1 a5 a7 a8 a63 a107 w => F8_8 a0 a1 a5 a7 a8 a63 a107 w K)
theorem ok8_7 {K : V1}
    (hn : HN (fun e w => K (e 6) w) kn) (hr : HR Tryz.prog [.tmp 6] K kr) (he : HE (blkK 0 (fun e w => K (e 6) w) noE) ke) :
    ∀ e w, F8_7 (e 0) (e 1) (e 5) (e 7) (e 8) (e 63) w K → denL Tryz.prog (tabOf T8) 304 fuel ((flat (elseC (nthC (flat (blkB (nthC (flat (bodyOf Tryz.f8)) 6))) 1))).drop 0) e w kn kr ke := by
  intro e w h
  unfold F8_7 at h
  have e1 : ∀ (Y0 : V7), F8_7b (e 0) (e 1) (e 5) (e 7) (e 8) (e 63) w K Y0 = denL Tryz.prog (tabOf T8) 304 fuel (((flat (elseC (nthC (flat (blkB (nthC (flat (bodyOf Tryz.f8)) 6))) 1))).drop 0).take 1) e w (fun e w => Y0 (e 0) (e 1) (e 5) (e 7) (e 8) (e 63) (e 107) w) (endD Tryz.prog [.tmp 6] K) (blkK 0 (fun e w => K (e 6) w) noE) := by intro Y0; kernel_rfl
  exact seg 1 (Eq.mp (e1 (fun a0 a1 a5 a7 a8 a63 a107 w => F8_8 a0 a1 a5 a7 a8 a63 a107 w K)) h) (fun e w h => ok8_8 hn hr he e w h) hr he
def F8_5 (s0 s1 s5 s7 s8 s63 s81 : Value) (w : World) (K : V1) : Prop := ifB s81 (F8_6 s0 s1 s5 s7 w K) (F8_7 s0 s1 s5 s7 s8 s63 w K)
theorem ok8_5 {K : V1}
    (hn : HN (fun e w => K (e 6) w) kn) (hr : HR Tryz.prog [.tmp 6] K kr) (he : HE (blkK 0 (fun e w => K (e 6) w) noE) ke) :
    ∀ e w, F8_5 (e 0) (e 1) (e 5) (e 7) (e 8) (e 63) (e 81) w K → denL Tryz.prog (tabOf T8) 304 fuel ((flat (blkB (nthC (flat (bodyOf Tryz.f8)) 6))).drop 1) e w kn kr ke := by
  intro e w h
  unfold F8_5 at h
  refine seg_cond (c := (.tmp 81)) (a := thenC (nthC (flat (blkB (nthC (flat (bodyOf Tryz.f8)) 6))) 1)) (b := elseC (nthC (flat (blkB (nthC (flat (bodyOf Tryz.f8)) 6))) 1)) (l2 := (flat (blkB (nthC (flat (bodyOf Tryz.f8)) 6))).drop 2) (by kernel_rfl) h (fun h => ?_) (fun h => ?_)
  · exact ok8_6 hn hr he e w h
  · exact ok8_7 hn hr he e w h
def F8_4b (s0 s1 s5 s7 s8 s63 : Value) (w : World) (_K : V1) (Y0 : V7) : Prop :=
bindP (bEq Tryz.prog 3 (.tmp 63) (.const (.int .i64 0)) s63 (.int .i64 0)) fun v233 =>
Y0 s0 s1 s5 s7 s8 s63 v233 w
def F8_4 (s0 s1 s5 s7 s8 s63 : Value) (w : World) (K : V1) : Prop := F8_4b s0 s1 s5 s7 s8 s63 w K (fun a0 a1 a5 a7 a8 a63 a81 w => F8_5 a0 a1 a5 a7 a8 a63 a81 w K)
theorem ok8_4 {K : V1}
    (hn : HN (fun e w => K (e 6) w) kn) (hr : HR Tryz.prog [.tmp 6] K kr) (he : HE (blkK 0 (fun e w => K (e 6) w) noE) ke) :
    ∀ e w, F8_4 (e 0) (e 1) (e 5) (e 7) (e 8) (e 63) w K → denL Tryz.prog (tabOf T8) 304 fuel ((flat (blkB (nthC (flat (bodyOf Tryz.f8)) 6))).drop 0) e w kn kr ke := by
  intro e w h
  unfold F8_4 at h
  have e1 : ∀ (Y0 : V7), F8_4b (e 0) (e 1) (e 5) (e 7) (e 8) (e 63) w K Y0 = denL Tryz.prog (tabOf T8) 304 fuel (((flat (blkB (nthC (flat (bodyOf Tryz.f8)) 6))).drop 0).take 1) e w (fun e w => Y0 (e 0) (e 1) (e 5) (e 7) (e 8) (e 63) (e 81) w) (endD Tryz.prog [.tmp 6] K) (blkK 0 (fun e w => K (e 6) w) noE) := by intro Y0; kernel_rfl
  exact seg 1 (Eq.mp (e1 (fun a0 a1 a5 a7 a8 a63 a81 w => F8_5 a0 a1 a5 a7 a8 a63 a81 w K)) h) (fun e w h => ok8_5 hn hr he e w h) hr he
def F8_3 (s0 s1 s5 s7 s8 s63 : Value) (w : World) (K : V1) : Prop := F8_4 s0 s1 s5 s7 s8 s63 w K
theorem ok8_3 {K : V1}
    (hn : HN (fun e w => K (e 6) w) kn) (hr : HR Tryz.prog [.tmp 6] K kr) (he : HE noE ke) :
    ∀ e w, F8_3 (e 0) (e 1) (e 5) (e 7) (e 8) (e 63) w K → denL Tryz.prog (tabOf T8) 304 fuel ((flat (bodyOf Tryz.f8)).drop 6) e w kn kr ke := by
  intro e w h
  unfold F8_3 at h
  refine seg_block (id := 0) (body := (blkB (nthC (flat (bodyOf Tryz.f8)) 6))) (l2 := (flat (bodyOf Tryz.f8)).drop 7) (by kernel_rfl) ?_
  exact ok8_4 hn hr (blkK_mono hn he) e w h
def F8_2b (s0 s1 s5 s7 s8 : Value) (w : World) (_K : V1) (Y0 : V6) : Prop :=
bindP (pFieldAddr 0 s5) fun v234 =>
bindP (ld1 v234 w) fun v235 =>
callP G14 [v235, (.int .i64 7)] w fun v237 w236 =>
Y0 s0 s1 s5 s7 s8 v237 w236
def F8_2 (s0 s1 s5 s7 s8 : Value) (w : World) (K : V1) : Prop := F8_2b s0 s1 s5 s7 s8 w K (fun a0 a1 a5 a7 a8 a63 w => F8_3 a0 a1 a5 a7 a8 a63 w K)
theorem ok8_2 {K : V1}
    (hn : HN (fun e w => K (e 6) w) kn) (hr : HR Tryz.prog [.tmp 6] K kr) (he : HE noE ke) :
    ∀ e w, F8_2 (e 0) (e 1) (e 5) (e 7) (e 8) w K → denL Tryz.prog (tabOf T8) 304 fuel ((flat (bodyOf Tryz.f8)).drop 5) e w kn kr ke := by
  intro e w h
  unfold F8_2 at h
  have e1 : ∀ (Y0 : V6), F8_2b (e 0) (e 1) (e 5) (e 7) (e 8) w K Y0 = denL Tryz.prog (tabOf T8) 304 fuel (((flat (bodyOf Tryz.f8)).drop 5).take 1) e w (fun e w => Y0 (e 0) (e 1) (e 5) (e 7) (e 8) (e 63) w) (endD Tryz.prog [.tmp 6] K) noE := by intro Y0; kernel_rfl
  exact seg 1 (Eq.mp (e1 (fun a0 a1 a5 a7 a8 a63 w => F8_3 a0 a1 a5 a7 a8 a63 w K)) h) (fun e w h => ok8_3 hn hr he e w h) hr he
def F8_1b (s0 s1 s2 : Value) (w : World) (_K : V1) (Y0 : V5) : Prop :=
eBox 39 s2 w fun v239 w238 =>
bindP (pFieldAddr 3 v239) fun v240 =>
bindP (ldN 11 v240 w238) fun v241 =>
callP G13 [v241] w238 fun v243 w242 =>
eAlloc Tryz.prog 36 w242 fun v245 w244 =>
bindW (st 11 v245 v243 w244) fun w246 =>
bindP (pFieldAddr 1 v239) fun v248 =>
bindP (ld1 v248 w246) fun v249 =>
bindP (pNil s1) fun v250 =>
bindP (pFieldAddr 2 v250) fun v251 =>
bindP (ld1 v251 w246) fun v252 =>
bindP (lenL v252) fun v253 =>
bindP (bGt v253 (.int .i64 0)) fun v254 =>
Sx.stepG (gd true v254) (pFieldAddr 1 v239) fun v255 =>
Sx.stepG (gd true v254) (ld1 v255 w246) fun v256 =>
Sx.stepG (gd true v254) (bRem v256 (.int .i64 5)) fun v257 =>
Sx.stepG (gd true v254) (bNe Tryz.prog 3 (.tmp 43) (.const (.int .i64 0)) v257 (.int .i64 0)) fun v258 =>
bindP (pPick v254 v258 (.bool false)) fun v259 =>
ifB v259 (
bindP (pNil s1) fun v260 =>
bindP (pFieldAddr 2 v260) fun v261 =>
bindP (ld1 v261 w246.drew) fun v262 =>
bindP (pFieldAddr 1 v239) fun v263 =>
bindP (ld1 v263 w246.drew) fun v264 =>
bindP (pNil s1) fun v265 =>
bindP (pFieldAddr 2 v265) fun v266 =>
bindP (ld1 v266 w246.drew) fun v267 =>
bindP (lenL v267) fun v268 =>
callP G14 [v264, v268] w246.drew fun v270 w269 =>
fok true (ld1 v261 w269) v262 ∧ (bindP (pIndexL 11 v262 v270) fun v271 =>
bindP (pFieldAddr 0 v271) fun v272 =>
bindP (ld1 v272 w269) fun v273 =>
Y0 s0 s1 v239 v245 v273 w269)) (
Y0 s0 s1 v239 v245 v249 w246)
def F8_1 (s0 s1 s2 : Value) (w : World) (K : V1) : Prop := F8_1b s0 s1 s2 w K (fun a0 a1 a5 a7 a8 w => F8_2 a0 a1 a5 a7 a8 w K)
theorem ok8_1 {K : V1}
    (hn : HN (fun e w => K (e 6) w) kn) (hr : HR Tryz.prog [.tmp 6] K kr) (he : HE noE ke) :
    ∀ e w, F8_1 (e 0) (e 1) (e 2) w K → denL Tryz.prog (tabOf T8) 304 fuel ((flat (bodyOf Tryz.f8)).drop 0) e w kn kr ke := by
  intro e w h
  unfold F8_1 at h
  have e1 : ∀ (Y0 : V5), F8_1b (e 0) (e 1) (e 2) w K Y0 = denL Tryz.prog (tabOf T8) 304 fuel (((flat (bodyOf Tryz.f8)).drop 0).take 5) e w (fun e w => Y0 (e 0) (e 1) (e 5) (e 7) (e 8) w) (endD Tryz.prog [.tmp 6] K) noE := by intro Y0; kernel_rfl
  exact seg 5 (Eq.mp (e1 (fun a0 a1 a5 a7 a8 w => F8_2 a0 a1 a5 a7 a8 w K)) h) (fun e w h => ok8_2 hn hr he e w h) hr he
def F8 (x0 x1 x2 : Value) (w : World) (K : V1) : Prop := F8_1 x0 x1 x2 w K
def G8 : FnT := fun args w K => on3 (fun x0 x1 x2 => F8 x0 x1 x2 w K) args
theorem c8 {x0 x1 x2 : Value} {w : World} {K : V1} (h : F8 x0 x1 x2 w K) : callP G8 [x0, x1, x2] w K := callP_intro (on3_mk (p := fun x0 x1 x2 => F8 x0 x1 x2 w K) h)
theorem ok8 : OkF Tryz.prog 8 G8 := by
  refine okF_of (tab_ok (l := T8) ⟨ok9, ok11, ok13, ok14, ok15, ok16, ok17, ok18, ok19, ok20, ok21, ok22, ok23, ok24, ok25, trivial⟩) mixed (n := fuel) Tryz.func8 Tryz.call8 fun args w K h => ?_
  obtain ⟨x0, x1, x2, rfl, hh⟩ := of_on3 h
  unfold F8 at hh
  exact fnD_list (c := bodyOf Tryz.f8) (by kernel_rfl) (by kernel_rfl) (ok8_1 (fun _ _ h => h) (fun _ _ h => h) (fun _ _ _ h => h) (initE [x0, x1, x2]) w hh)
def T3 : List (Nat × FnT) := [(4, G4), (5, G5), (6, G6), (7, G7), (8, G8), (9, G9)]
def F3_3b (w : World) (K : V1) : Prop :=
K (.bool true) w
def F3_3 (w : World) (K : V1) : Prop := F3_3b w K
theorem ok3_3 {K : V1}
    (hn : HN (fun e w => K (e 4) w) kn) (hr : HR Tryz.prog [.tmp 4] K kr) (he : HE noE ke) :
    ∀ e w, F3_3 w K → denL Tryz.prog (tabOf T3) 104 fuel ((flat (bodyOf Tryz.f3)).drop 7) e w kn kr ke := by
  intro e w h
  unfold F3_3 at h
  have e1 : ∀ (_ : Unit), F3_3b w K = denL Tryz.prog (tabOf T3) 104 fuel ((flat (bodyOf Tryz.f3)).drop 7) e w (fun e w => K (e 4) w) (endD Tryz.prog [.tmp 4] K) noE := by intro _; kernel_rfl
  exact seg_end (Eq.mp (e1 ()) h) hn hr he
def F3_6b (s1 s5 s7 s9 : Value) (w : World) (_K : V1) (R3 : V4) : Prop :=
bindP (bAdd s9 (.int .i64 1)) fun v1 =>
R3 s1 s5 s7 v1 w
def F3_6 (s1 s5 s7 s9 : Value) (w : World) (K : V1) (R3 : V4) : Prop := F3_6b s1 s5 s7 s9 w K R3
theorem ok3_6 (R3 : V4) {K : V1}
    (hn : HN (fun e w => R3 (e 1) (e 5) (e 7) (e 9) w) kn) (hr : HR Tryz.prog [.tmp 4] K kr) (he : HE (blkK 0 (fun e w => F3_3 w K) noE) ke) :
    ∀ e w, F3_6 (e 1) (e 5) (e 7) (e 9) w K R3 → denL Tryz.prog (tabOf T3) 104 fuel ((flat (loopB (blkB (nthC (flat (bodyOf Tryz.f3)) 6)))).drop 3) e w kn kr ke := by
  intro e w h
  unfold F3_6 at h
  have e1 : ∀ (_ : Unit), F3_6b (e 1) (e 5) (e 7) (e 9) w K R3 = denL Tryz.prog (tabOf T3) 104 fuel ((flat (loopB (blkB (nthC (flat (bodyOf Tryz.f3)) 6)))).drop 3) e w (fun e w => R3 (e 1) (e 5) (e 7) (e 9) w) (endD Tryz.prog [.tmp 4] K) (blkK 0 (fun e w => F3_3 w K) noE) := by intro _; kernel_rfl
  exact seg_end (Eq.mp (e1 ()) h) hn hr he
def F3_9b (s1 s5 s7 s9 s10 : Value) (w : World) (K : V1) (R3 : V4) (Y0 : V4) : Prop :=
stepM (gd true s10) s5 fun v2 =>
stepM (gd true s10) s7 fun v3 =>
stepM (gd true s10) s1 fun v4 =>
stepM (gd true s10) s9 fun v5 =>
Sx.stepG (gd true s10) (pIndexL 15 v4 v5) fun v6 =>
Sx.stepG (gd true s10) (ldN 15 v6 w) fun v7 =>
stepE (gd true s10) (fun k => callP G8 [v2, v3, v7] w k) w fun v9 w8 =>
Sx.stepG (gd true s10) (uNot v9) fun v10 =>
stepM (gd true s10) v10 fun v11 =>
stepM (gd false v11) s5 fun v12 =>
stepM (gd false v11) s7 fun v13 =>
stepM (gd false v11) s1 fun v14 =>
stepM (gd false v11) s9 fun v15 =>
Sx.stepG (gd false v11) (pIndexL 15 v14 v15) fun v16 =>
Sx.stepG (gd false v11) (pFieldAddr 3 v16) fun v17 =>
Sx.stepG (gd false v11) (ldN 11 v17 w8) fun v18 =>
stepE (gd false v11) (fun k => callP G9 [v12, v13, v18] w8 k) w8 fun v20 w19 =>
Sx.stepG (gd false v11) (uNot v20) fun v21 =>
Sx.stepG (gd true s10) (pPick v11 (.bool true) v21) fun v22 =>
bindP (pPick s10 v22 (.bool false)) fun v23 =>
ifB v23 (
K (.bool false) w19) (
Y0 s1 s5 s7 s9 w19)
def F3_9 (s1 s5 s7 s9 s10 : Value) (w : World) (K : V1) (R3 : V4) : Prop := F3_9b s1 s5 s7 s9 s10 w K R3 (fun a1 a5 a7 a9 w => F3_6 a1 a5 a7 a9 w K R3)
theorem ok3_9 (R3 : V4) {K : V1}
    (hn : HN (fun e w => F3_6 (e 1) (e 5) (e 7) (e 9) w K R3) kn) (hr : HR Tryz.prog [.tmp 4] K kr) (he : HE (blkK 1 (fun e w => F3_6 (e 1) (e 5) (e 7) (e 9) w K R3) (blkK 0 (fun e w => F3_3 w K) noE)) ke) :
    ∀ e w, F3_9 (e 1) (e 5) (e 7) (e 9) (e 10) w K R3 → denL Tryz.prog (tabOf T3) 104 fuel ((flat (blkB (nthC (flat (loopB (blkB (nthC (flat (bodyOf Tryz.f3)) 6)))) 2))).drop 3) e w kn kr ke := by
  intro e w h
  unfold F3_9 at h
  have e1 : ∀ (Y0 : V4), F3_9b (e 1) (e 5) (e 7) (e 9) (e 10) w K R3 Y0 = denL Tryz.prog (tabOf T3) 104 fuel ((flat (blkB (nthC (flat (loopB (blkB (nthC (flat (bodyOf Tryz.f3)) 6)))) 2))).drop 3) e w (fun e w => Y0 (e 1) (e 5) (e 7) (e 9) w) (endD Tryz.prog [.tmp 4] K) (blkK 1 (fun e w => Y0 (e 1) (e 5) (e 7) (e 9) w) (blkK 0 (fun e w => F3_3 w K) noE)) := by intro Y0; kernel_rfl
  exact seg_end (Eq.mp (e1 (fun a1 a5 a7 a9 w => F3_6 a1 a5 a7 a9 w K R3)) h) hn hr he
def F3_8b (s1 s5 s7 s9 s10 s11 : Value) (w : World) (_K : V1) (R3 : V4) (Y0 : V6) (Y1 : V5) : Prop :=
bindP (pIndexL 15 s1 s9) fun v24 =>
bindP (pFieldAddr 14 v24) fun v25 =>
bindP (ld1 v25 w) fun v26 =>
bindP (lenL v26) fun v27 =>
bindP (bLt s11 v27) fun v28 =>
stepM (gd true v28) s11 fun v29 =>
Sx.stepG (gd true v28) (bLt v29 (.int .i64 40)) fun v30 =>
bindP (pPick v28 v30 (.bool false)) fun v31 =>
ifB v31 (
stepM (gd true s10) s1 fun v32 =>
stepM (gd true s10) s9 fun v33 =>
Sx.stepG (gd true s10) (pIndexL 15 v32 v33) fun v34 =>
Sx.stepG (gd true s10) (pFieldAddr 14 v34) fun v35 =>
Sx.stepG (gd true s10) (ld1 v35 w) fun v36 =>
stepM (gd true s10) s11 fun v37 =>
Sx.stepG (gd true s10) (pIndexL 11 v36 v37) fun v38 =>
Sx.stepG (gd true s10) (ldN 11 v38 w) fun v39 =>
stepE (gd true s10) (fun k => callP G7 [v39] w k) w fun v41 w40 =>
bindP (pPick s10 v41 (.bool false)) fun v42 =>
bindP (bAdd s11 (.int .i64 1)) fun v43 =>
Y0 s1 s5 s7 s9 v42 v43 w40) (
Y1 s1 s5 s7 s9 s10 w)
def F3_8L : Nat → Value → Value → Value → Value → Value → Value → World → (V1) → (V4) → Prop
  | 0, _, _, _, _, _, _, _, _, _ => False
  | n + 1, s1, s5, s7, s9, s10, s11, w, K, R3 => F3_8b s1 s5 s7 s9 s10 s11 w K R3 (fun a1 a5 a7 a9 a10 a11 w => F3_8L n a1 a5 a7 a9 a10 a11 w K R3) (fun a1 a5 a7 a9 a10 w => F3_9 a1 a5 a7 a9 a10 w K R3)
def F3_8 (s1 s5 s7 s9 s10 s11 : Value) (w : World) (K : V1) (R3 : V4) : Prop := F3_8L fuel s1 s5 s7 s9 s10 s11 w K R3
theorem ok3_8 (R3 : V4) {K : V1}
    (hn : HN (fun e w => F3_6 (e 1) (e 5) (e 7) (e 9) w K R3) kn) (hr : HR Tryz.prog [.tmp 4] K kr) (he : HE (blkK 1 (fun e w => F3_6 (e 1) (e 5) (e 7) (e 9) w K R3) (blkK 0 (fun e w => F3_3 w K) noE)) ke) :
    ∀ e w, F3_8 (e 1) (e 5) (e 7) (e 9) (e 10) (e 11) w K R3 → denL Tryz.prog (tabOf T3) 104 fuel ((flat (blkB (nthC (flat (loopB (blkB (nthC (flat (bodyOf Tryz.f3)) 6)))) 2))).drop 2) e w kn kr ke := by
  intro e w h
  unfold F3_8 at h
  refine seg_loop (id := 2) (body := (loopB (blkB (nthC (flat (blkB (nthC (flat (loopB (blkB (nthC (flat (bodyOf Tryz.f3)) 6)))) 2))) 2)))) (l2 := (flat (blkB (nthC (flat (loopB (blkB (nthC (flat (bodyOf Tryz.f3)) 6)))) 2))).drop 3) (by kernel_rfl) ?_
  refine loop_ok (FL := fun m e w => F3_8L m (e 1) (e 5) (e 7) (e 9) (e 10) (e 11) w K R3) (fr := endD Tryz.prog [.tmp 4] K) (fe := (blkK 2 (fun e w => F3_9 (e 1) (e 5) (e 7) (e 9) (e 10) w K R3) (blkK 1 (fun e w => F3_6 (e 1) (e 5) (e 7) (e 9) w K R3) (blkK 0 (fun e w => F3_3 w K) noE)))) (fun _ _ h => h) ?_ hr (blkK_mono (fun e w h => ok3_9 R3 hn hr he e w h) he) fuel e w h
  intro m e w h
  have h : F3_8L (m + 1) (e 1) (e 5) (e 7) (e 9) (e 10) (e 11) w K R3 := h
  rw [F3_8L] at h
  have e1 : ∀ (Y0 : V6) (Y1 : V5), F3_8b (e 1) (e 5) (e 7) (e 9) (e 10) (e 11) w K R3 Y0 Y1 = denL Tryz.prog (tabOf T3) 104 fuel (flat (loopB (blkB (nthC (flat (blkB (nthC (flat (loopB (blkB (nthC (flat (bodyOf Tryz.f3)) 6)))) 2))) 2)))) e w (fun e w => Y0 (e 1) (e 5) (e 7) (e 9) (e 10) (e 11) w) (endD Tryz.prog [.tmp 4] K) (blkK 2 (fun e w => Y1 (e 1) (e 5) (e 7) (e 9) (e 10) w) (blkK 1 (fun e w => F3_6 (e 1) (e 5) (e 7) (e 9) w K R3) (blkK 0 (fun e w => F3_3 w K) noE))) := by intro Y0 Y1; kernel_rfl
  exact Eq.mp (e1 (fun a1 a5 a7 a9 a10 a11 w => F3_8L m a1 a5 a7 a9 a10 a11 w K R3) (fun a1 a5 a7 a9 a10 w => F3_9 a1 a5 a7 a9 a10 w K R3)) h
def F3_7b (s1 s5 s7 s9 : Value) (w : World) (_K : V1) (R3 : V4) (Y0 : V6) : Prop :=
bindP (pIndexL 15 s1 s9) fun v44 =>
bindP (pFieldAddr 3 v44) fun v45 =>
bindP (ldN 11 v45 w) fun v46 =>
callP G7 [v46] w fun v48 w47 =>
Y0 s1 s5 s7 s9 v48 (.int .i64 0) w47
def F3_7 (s1 s5 s7 s9 : Value) (w : World) (K : V1) (R3 : V4) : Prop := F3_7b s1 s5 s7 s9 w K R3 (fun a1 a5 a7 a9 a10 a11 w => F3_8 a1 a5 a7 a9 a10 a11 w K R3)
theorem ok3_7 (R3 : V4) {K : V1}
    (hn : HN (fun e w => F3_6 (e 1) (e 5) (e 7) (e 9) w K R3) kn) (hr : HR Tryz.prog [.tmp 4] K kr) (he : HE (blkK 1 (fun e w => F3_6 (e 1) (e 5) (e 7) (e 9) w K R3) (blkK 0 (fun e w => F3_3 w K) noE)) ke) :
    ∀ e w, F3_7 (e 1) (e 5) (e 7) (e 9) w K R3 → denL Tryz.prog (tabOf T3) 104 fuel ((flat (blkB (nthC (flat (loopB (blkB (nthC (flat (bodyOf Tryz.f3)) 6)))) 2))).drop 0) e w kn kr ke := by
  intro e w h
  unfold F3_7 at h
  have e1 : ∀ (Y0 : V6), F3_7b (e 1) (e 5) (e 7) (e 9) w K R3 Y0 = denL Tryz.prog (tabOf T3) 104 fuel (((flat (blkB (nthC (flat (loopB (blkB (nthC (flat (bodyOf Tryz.f3)) 6)))) 2))).drop 0).take 2) e w (fun e w => Y0 (e 1) (e 5) (e 7) (e 9) (e 10) (e 11) w) (endD Tryz.prog [.tmp 4] K) (blkK 1 (fun e w => F3_6 (e 1) (e 5) (e 7) (e 9) w K R3) (blkK 0 (fun e w => F3_3 w K) noE)) := by intro Y0; kernel_rfl
  exact seg 2 (Eq.mp (e1 (fun a1 a5 a7 a9 a10 a11 w => F3_8 a1 a5 a7 a9 a10 a11 w K R3)) h) (fun e w h => ok3_8 R3 hn hr he e w h) hr he
def F3_5 (s1 s5 s7 s9 : Value) (w : World) (K : V1) (R3 : V4) : Prop := F3_7 s1 s5 s7 s9 w K R3
theorem ok3_5 (R3 : V4) {K : V1}
    (hn : HN (fun e w => R3 (e 1) (e 5) (e 7) (e 9) w) kn) (hr : HR Tryz.prog [.tmp 4] K kr) (he : HE (blkK 0 (fun e w => F3_3 w K) noE) ke) :
    ∀ e w, F3_5 (e 1) (e 5) (e 7) (e 9) w K R3 → denL Tryz.prog (tabOf T3) 104 fuel ((flat (loopB (blkB (nthC (flat (bodyOf Tryz.f3)) 6)))).drop 2) e w kn kr ke := by
  intro e w h
  unfold F3_5 at h
  refine seg_block (id := 1) (body := (blkB (nthC (flat (loopB (blkB (nthC (flat (bodyOf Tryz.f3)) 6)))) 2))) (l2 := (flat (loopB (blkB (nthC (flat (bodyOf Tryz.f3)) 6)))).drop 3) (by kernel_rfl) ?_
  exact ok3_7 R3 (fun e w h => ok3_6 R3 hn hr he e w h) hr (blkK_mono (fun e w h => ok3_6 R3 hn hr he e w h) he) e w h
def F3_4b (s1 s5 s7 s9 : Value) (w : World) (_K : V1) (R3 : V4) (Y0 : V4) (Y1 : V0) : Prop :=
bindP (bNe Tryz.prog 27 (.tmp 36) (.const (.pointer none)) s7 (.pointer none)) fun v49 =>
stepM (gd true v49) s9 fun v50 =>
stepM (gd true v49) s1 fun v51 =>
Sx.stepG (gd true v49) (lenL v51) fun v52 =>
Sx.stepG (gd true v49) (bLt v50 v52) fun v53 =>
bindP (pPick v49 v53 (.bool false)) fun v54 =>
stepM (gd true v54) s9 fun v55 =>
Sx.stepG (gd true v54) (bLt v55 (.int .i64 60)) fun v56 =>
bindP (pPick v54 v56 (.bool false)) fun v57 =>
ifB v57 (
Y0 s1 s5 s7 s9 w) (
Y1 w)
def F3_4 (s1 s5 s7 s9 : Value) (w : World) (K : V1) (R3 : V4) : Prop := F3_4b s1 s5 s7 s9 w K R3 (fun a1 a5 a7 a9 w => F3_5 a1 a5 a7 a9 w K R3) (fun w => F3_3 w K)
theorem ok3_4 (R3 : V4) {K : V1}
    (hn : HN (fun e w => R3 (e 1) (e 5) (e 7) (e 9) w) kn) (hr : HR Tryz.prog [.tmp 4] K kr) (he : HE (blkK 0 (fun e w => F3_3 w K) noE) ke) :
    ∀ e w, F3_4 (e 1) (e 5) (e 7) (e 9) w K R3 → denL Tryz.prog (tabOf T3) 104 fuel ((flat (loopB (blkB (nthC (flat (bodyOf Tryz.f3)) 6)))).drop 0) e w kn kr ke := by
  intro e w h
  unfold F3_4 at h
  have e1 : ∀ (Y0 : V4) (Y1 : V0), F3_4b (e 1) (e 5) (e 7) (e 9) w K R3 Y0 Y1 = denL Tryz.prog (tabOf T3) 104 fuel (((flat (loopB (blkB (nthC (flat (bodyOf Tryz.f3)) 6)))).drop 0).take 2) e w (fun e w => Y0 (e 1) (e 5) (e 7) (e 9) w) (endD Tryz.prog [.tmp 4] K) (blkK 0 (fun e w => Y1 w) noE) := by intro Y0 Y1; kernel_rfl
  exact seg 2 (Eq.mp (e1 (fun a1 a5 a7 a9 w => F3_5 a1 a5 a7 a9 w K R3) (fun w => F3_3 w K)) h) (fun e w h => ok3_5 R3 hn hr he e w h) hr he
def F3_2L : Nat → Value → Value → Value → Value → World → (V1) → Prop
  | 0, _, _, _, _, _, _ => False
  | n + 1, s1, s5, s7, s9, w, K => F3_4 s1 s5 s7 s9 w K (fun a1 a5 a7 a9 w => F3_2L n a1 a5 a7 a9 w K)
def F3_2 (s1 s5 s7 s9 : Value) (w : World) (K : V1) : Prop := F3_2L fuel s1 s5 s7 s9 w K
theorem ok3_2 {K : V1}
    (hn : HN (fun e w => K (e 4) w) kn) (hr : HR Tryz.prog [.tmp 4] K kr) (he : HE noE ke) :
    ∀ e w, F3_2 (e 1) (e 5) (e 7) (e 9) w K → denL Tryz.prog (tabOf T3) 104 fuel ((flat (bodyOf Tryz.f3)).drop 6) e w kn kr ke := by
  intro e w h
  unfold F3_2 at h
  refine seg_loop (id := 0) (body := (loopB (blkB (nthC (flat (bodyOf Tryz.f3)) 6)))) (l2 := (flat (bodyOf Tryz.f3)).drop 7) (by kernel_rfl) ?_
  refine loop_ok (FL := fun m e w => F3_2L m (e 1) (e 5) (e 7) (e 9) w K) (fr := endD Tryz.prog [.tmp 4] K) (fe := (blkK 0 (fun e w => F3_3 w K) noE)) (fun _ _ h => h) ?_ hr (blkK_mono (fun e w h => ok3_3 hn hr he e w h) he) fuel e w h
  intro m e w h
  have h : F3_2L (m + 1) (e 1) (e 5) (e 7) (e 9) w K := h
  rw [F3_2L] at h
  exact ok3_4 (fun a1 a5 a7 a9 w => F3_2L m a1 a5 a7 a9 w K) (fun _ _ h => h) (fun _ _ h => h) (fun _ _ _ h => h) e w h
def F3_1b (s0 s1 : Value) (w : World) (K : V1) (Y0 : V4) : Prop :=
callP G4 [s0] w fun v59 w58 =>
bindP (pTuple v59 0) fun v60 =>
bindP (pTuple v59 1) fun v61 =>
callP G5 [s0] w58 fun v63 w62 =>
bindP (pTuple v63 0) fun v64 =>
bindP (pTuple v63 1) fun v65 =>
bindP (bNe Tryz.prog 24 (.tmp 22) (.tmp 23) v61 v65) fun v66 =>
stepM (gd false v66) v60 fun v67 =>
Sx.stepG (gd false v66) (bEq Tryz.prog 23 (.tmp 26) (.const (.pointer none)) v67 (.pointer none)) fun v68 =>
stepM (gd false v66) v64 fun v69 =>
Sx.stepG (gd false v66) (bEq Tryz.prog 27 (.tmp 28) (.const (.pointer none)) v69 (.pointer none)) fun v70 =>
Sx.stepG (gd false v66) (bNe Tryz.prog 4 (.tmp 27) (.tmp 29) v68 v70) fun v71 =>
bindP (pPick v66 (.bool true) v71) fun v72 =>
stepE (gd false v72) (fun k => callP G6 [] w62 k) w62 fun v74 w73 =>
Sx.stepG (gd false v72) (uNot v74) fun v75 =>
bindP (pPick v72 (.bool true) v75) fun v76 =>
ifB v76 (
K (.bool false) w73) (
Y0 s1 v60 v64 (.int .i64 0) w73)
def F3_1 (s0 s1 : Value) (w : World) (K : V1) : Prop := F3_1b s0 s1 w K (fun a1 a5 a7 a9 w => F3_2 a1 a5 a7 a9 w K)
theorem ok3_1 {K : V1}
    (hn : HN (fun e w => K (e 4) w) kn) (hr : HR Tryz.prog [.tmp 4] K kr) (he : HE noE ke) :
    ∀ e w, F3_1 (e 0) (e 1) w K → denL Tryz.prog (tabOf T3) 104 fuel ((flat (bodyOf Tryz.f3)).drop 0) e w kn kr ke := by
  intro e w h
  unfold F3_1 at h
  have e1 : ∀ (Y0 : V4), F3_1b (e 0) (e 1) w K Y0 = denL Tryz.prog (tabOf T3) 104 fuel (((flat (bodyOf Tryz.f3)).drop 0).take 6) e w (fun e w => Y0 (e 1) (e 5) (e 7) (e 9) w) (endD Tryz.prog [.tmp 4] K) noE := by intro Y0; kernel_rfl
  exact seg 6 (Eq.mp (e1 (fun a1 a5 a7 a9 w => F3_2 a1 a5 a7 a9 w K)) h) (fun e w h => ok3_2 hn hr he e w h) hr he
def F3 (x0 x1 : Value) (w : World) (K : V1) : Prop := F3_1 x0 x1 w K
def G3 : FnT := fun args w K => on2 (fun x0 x1 => F3 x0 x1 w K) args
theorem c3 {x0 x1 : Value} {w : World} {K : V1} (h : F3 x0 x1 w K) : callP G3 [x0, x1] w K := callP_intro (on2_mk (p := fun x0 x1 => F3 x0 x1 w K) h)
theorem ok3 : OkF Tryz.prog 3 G3 := by
  refine okF_of (tab_ok (l := T3) ⟨ok4, ok5, ok6, ok7, ok8, ok9, trivial⟩) mixed (n := fuel) Tryz.func3 Tryz.call3 fun args w K h => ?_
  obtain ⟨x0, x1, rfl, hh⟩ := of_on2 h
  unfold F3 at hh
  exact fnD_list (c := bodyOf Tryz.f3) (by kernel_rfl) (by kernel_rfl) (ok3_1 (fun _ _ h => h) (fun _ _ h => h) (fun _ _ _ h => h) (initE [x0, x1]) w hh)
end Go.Proofs.Gong
