/- A part of the proofs: what stands below it, told in lemmas. No condition. -/
import Derived.Test.YtbebhjcjncjooaaP1
set_option linter.all false

/- Dk2 -/
namespace Go.Proofs.Gong
open Go Go.Sx Go.Proofs
set_option maxRecDepth 100000
instance : CodC cI 1 := ⟨CI⟩
instance (n : Int) : Nth (cI n) 0 (.int .i64 n) := ⟨rfl⟩
instance : CodC cSt 1 := ⟨⟨fun _ => rfl, fun _ => rfl, by omega⟩⟩
theorem fbFi (s : List UInt8) (n : Nat) : fBuild Try.prog 86 [(0, .string (bs s)), (1, .int .i64 (n : Nat))] = some (fiV (s, n)) := by kernel_rfl
attribute [local irreducible] fBuild fLook fZero eqv bEqv Cl MapH LsH SlH ld1 ldN st callP eBox eAlloc lenM lenL eMapSet eDelete eAppend eBuildSl eRange eNext
section
variable {w0 w : World} {L : List HP} {K : Value → World → Prop} {v : Value} {d : Dk} {n x : List UInt8} {M : List (List UInt8 × (List UInt8 × Nat))}
theorem dmake_spec (h : Sat w0 (DiskA v d :: L) w) (hK : ∀ w', Sat w0 (DiskA v (makeD n d).2 :: L) w' → K (.int .i64 (makeD n d).1) w') : callP G18 [v, .string (bs n)] w K := by
  have oka := makeD_ok (diskA_ok h) n
  unfold makeD at oka hK
  refine c18 ?_
  unfold F18
  refine isname_spec ?_
  cases hn : nameOk n
  · rw [if_pos hn] at hK
    (repeat (first
 | (simp (disch := omega) only [evA, evB, evC, bAdd_i64, bSub_i64])
 | (with_reducible apply go_ld1 h)
 | ((with_reducible first | apply go_ldA h | apply go_rd h | apply go_rdN h | apply go_rlen h); rfl)
 | (with_reducible first | apply go_ldN h | apply go_lenL h)
 | ((with_reducible apply go_st h); intro _ h)
 | ((with_reducible apply go_stA h); rfl; rfl; (first | rfl | simp [OneV.o]); intro _ h)
 | ((with_reducible apply go_stN h); rfl; (first | rfl | simp [OneV.o]); intro _ h)
 | ((with_reducible apply go_box h); rfl; intro _ _ h)
 | ((with_reducible apply go_ix h); omega)
 | ((with_reducible first | apply go_elN h | apply go_f1 h | apply go_rf1 h | apply go_rel h); (case hi => omega); (try case hx => exact inferInstance); (try case hv => rfl))
 | ((with_reducible apply go_fa h); omega; omega)
))
    exact hK _ h
  rw [if_neg (by rw [hn]; simp)] at oka hK
  obtain ⟨p, m, M, rfl, H, ok, h2⟩ := diskA_open h
  clear h
  have h := h2
  clear h2
  (repeat (first
 | (simp (disch := omega) only [evA, evB, evC, bAdd_i64, bSub_i64])
 | (with_reducible apply go_ld1 h)
 | ((with_reducible first | apply go_ldA h | apply go_rd h | apply go_rdN h | apply go_rlen h); rfl)
 | (with_reducible first | apply go_ldN h | apply go_lenL h)
 | ((with_reducible apply go_st h); intro _ h)
 | ((with_reducible apply go_stA h); rfl; rfl; (first | rfl | simp [OneV.o]); intro _ h)
 | ((with_reducible apply go_stN h); rfl; (first | rfl | simp [OneV.o]); intro _ h)
 | ((with_reducible apply go_box h); rfl; intro _ _ h)
 | ((with_reducible apply go_ix h); omega)
 | ((with_reducible first | apply go_elN h | apply go_f1 h | apply go_rf1 h | apply go_rel h); (case hi => omega); (try case hx => exact inferInstance); (try case hv => rfl))
 | ((with_reducible apply go_fa h); omega; omega)
))
  refine go_look2 h (by repeat (first | exact .here | apply Fnt.there)) KST um78 zFi n ?_
  rw [look_file (n := n) H]
  cases hg : fGet n d.fs with
  | none =>
    rw [hg] at oka hK
    have e1 : (Option.map fVal (none : Option Fil)) = none := rfl
    rw [e1]
    simp only [Option.elim_none]
    (repeat (first
 | (simp (disch := omega) only [evA, evB, evC, bAdd_i64, bSub_i64])
 | (with_reducible apply go_ld1 h)
 | ((with_reducible first | apply go_ldA h | apply go_rd h | apply go_rdN h | apply go_rlen h); rfl)
 | (with_reducible first | apply go_ldN h | apply go_lenL h)
 | ((with_reducible apply go_st h); intro _ h)
 | ((with_reducible apply go_stA h); rfl; rfl; (first | rfl | simp [OneV.o]); intro _ h)
 | ((with_reducible apply go_stN h); rfl; (first | rfl | simp [OneV.o]); intro _ h)
 | ((with_reducible apply go_box h); rfl; intro _ _ h)
 | ((with_reducible apply go_ix h); omega)
 | ((with_reducible first | apply go_elN h | apply go_f1 h | apply go_rf1 h | apply go_rel h); (case hi => omega); (try case hx => exact inferInstance); (try case hv => rfl))
 | ((with_reducible apply go_fa h); omega; omega)
))
    refine go_alloc h zFi rfl fun q _ h => ?_
    rw [if_neg (by simp)] at oka hK
    (repeat (first
 | (simp (disch := omega) only [evA, evB, evC, bAdd_i64, bSub_i64])
 | (with_reducible apply go_ld1 h)
 | ((with_reducible first | apply go_ldA h | apply go_rd h | apply go_rdN h | apply go_rlen h); rfl)
 | (with_reducible first | apply go_ldN h | apply go_lenL h)
 | ((with_reducible apply go_st h); intro _ h)
 | ((with_reducible apply go_stA h); rfl; rfl; (first | rfl | simp [OneV.o]); intro _ h)
 | ((with_reducible apply go_stN h); rfl; (first | rfl | simp [OneV.o]); intro _ h)
 | ((with_reducible apply go_box h); rfl; intro _ _ h)
 | ((with_reducible apply go_ix h); omega)
 | ((with_reducible first | apply go_elN h | apply go_f1 h | apply go_rf1 h | apply go_rel h); (case hi => omega); (try case hx => exact inferInstance); (try case hv => rfl))
 | ((with_reducible apply go_fa h); omega; omega)
))
    have e : fBuild Try.prog 86 [] = some (fiV ([], 0)) := by kernel_rfl
    (repeat (first
 | (simp (disch := omega) only [evA, evB, evC, bAdd_i64, bSub_i64])
 | (refine go_some (e ..) ?_)
 | (with_reducible apply go_ld1 h)
 | ((with_reducible first | apply go_ldA h | apply go_rd h | apply go_rdN h | apply go_rlen h); rfl)
 | (with_reducible first | apply go_ldN h | apply go_lenL h)
 | ((with_reducible apply go_st h); intro _ h)
 | ((with_reducible apply go_stA h); rfl; rfl; (first | rfl | simp [OneV.o]); intro _ h)
 | ((with_reducible apply go_stN h); rfl; (first | rfl | simp [OneV.o]); intro _ h)
 | ((with_reducible apply go_box h); rfl; intro _ _ h)
 | ((with_reducible apply go_ix h); omega)
 | ((with_reducible first | apply go_elN h | apply go_f1 h | apply go_rf1 h | apply go_rel h); (case hi => omega); (try case hx => exact inferInstance); (try case hv => rfl))
 | ((with_reducible apply go_fa h); omega; omega)
))
    have h4 := diskA_close H ok (L := Cl q (cFi ([], 0)).toArray 86 :: L) (h.got)
    exact turn_spec (f := ⟨n, [], 0⟩) oka h4 fun w h => hK w (h.got)
  | some f =>
    rw [hg] at oka hK
    have e1 : Option.map fVal (some f) = some (f.s, f.safe) := rfl
    rw [e1]
    simp only [Option.elim_some]
    (repeat (first
 | (simp (disch := omega) only [evA, evB, evC, bAdd_i64, bSub_i64])
 | (with_reducible apply go_ld1 h)
 | ((with_reducible first | apply go_ldA h | apply go_rd h | apply go_rdN h | apply go_rlen h); rfl)
 | (with_reducible first | apply go_ldN h | apply go_lenL h)
 | ((with_reducible apply go_st h); intro _ h)
 | ((with_reducible apply go_stA h); rfl; rfl; (first | rfl | simp [OneV.o]); intro _ h)
 | ((with_reducible apply go_stN h); rfl; (first | rfl | simp [OneV.o]); intro _ h)
 | ((with_reducible apply go_box h); rfl; intro _ _ h)
 | ((with_reducible apply go_ix h); omega)
 | ((with_reducible first | apply go_elN h | apply go_f1 h | apply go_rf1 h | apply go_rel h); (case hi => omega); (try case hx => exact inferInstance); (try case hv => rfl))
 | ((with_reducible apply go_fa h); omega; omega)
))
    refine go_alloc h zFi rfl fun q _ h => ?_
    rw [if_pos (by simp)] at oka hK
    (repeat (first
 | (simp (disch := omega) only [evA, evB, evC, bAdd_i64, bSub_i64])
 | (with_reducible apply go_ld1 h)
 | ((with_reducible first | apply go_ldA h | apply go_rd h | apply go_rdN h | apply go_rlen h); rfl)
 | (with_reducible first | apply go_ldN h | apply go_lenL h)
 | ((with_reducible apply go_st h); intro _ h)
 | ((with_reducible apply go_stA h); rfl; rfl; (first | rfl | simp [OneV.o]); intro _ h)
 | ((with_reducible apply go_stN h); rfl; (first | rfl | simp [OneV.o]); intro _ h)
 | ((with_reducible apply go_box h); rfl; intro _ _ h)
 | ((with_reducible apply go_ix h); omega)
 | ((with_reducible first | apply go_elN h | apply go_f1 h | apply go_rf1 h | apply go_rel h); (case hi => omega); (try case hx => exact inferInstance); (try case hv => rfl))
 | ((with_reducible apply go_fa h); omega; omega)
))
    exact hK _ (diskA_close H ok (h.got))
theorem dsync_spec (h : Sat w0 (DiskA v d :: L) w) (hK : ∀ w', Sat w0 (DiskA v (syncD n d).2 :: L) w' → K (.int .i64 (syncD n d).1) w') : callP G21 [v, .string (bs n)] w K := by
  have oka := syncD_ok (diskA_ok h) n
  unfold syncD at oka hK
  refine c21 ?_
  unfold F21
  obtain ⟨p, m, M, rfl, H, ok, h2⟩ := diskA_open h
  clear h
  have h := h2
  clear h2
  have hu := ok.used
  have hr := ok.room
  (repeat (first
 | (simp (disch := omega) only [evA, evB, evC, bAdd_i64, bSub_i64])
 | (with_reducible apply go_ld1 h)
 | ((with_reducible first | apply go_ldA h | apply go_rd h | apply go_rdN h | apply go_rlen h); rfl)
 | (with_reducible first | apply go_ldN h | apply go_lenL h)
 | ((with_reducible apply go_st h); intro _ h)
 | ((with_reducible apply go_stA h); rfl; rfl; (first | rfl | simp [OneV.o]); intro _ h)
 | ((with_reducible apply go_stN h); rfl; (first | rfl | simp [OneV.o]); intro _ h)
 | ((with_reducible apply go_box h); rfl; intro _ _ h)
 | ((with_reducible apply go_ix h); omega)
 | ((with_reducible first | apply go_elN h | apply go_f1 h | apply go_rf1 h | apply go_rel h); (case hi => omega); (try case hx => exact inferInstance); (try case hv => rfl))
 | ((with_reducible apply go_fa h); omega; omega)
))
  refine go_look2 h (by repeat (first | exact .here | apply Fnt.there)) KST um78 zFi n ?_
  rw [look_file (n := n) H]
  cases hg : fGet n d.fs with
  | none =>
    rw [hg] at oka hK
    have e1 : (Option.map fVal (none : Option Fil)) = none := rfl
    rw [e1]
    simp only [Option.elim_none]
    (repeat (first
 | (simp (disch := omega) only [evA, evB, evC, bAdd_i64, bSub_i64])
 | (with_reducible apply go_ld1 h)
 | ((with_reducible first | apply go_ldA h | apply go_rd h | apply go_rdN h | apply go_rlen h); rfl)
 | (with_reducible first | apply go_ldN h | apply go_lenL h)
 | ((with_reducible apply go_st h); intro _ h)
 | ((with_reducible apply go_stA h); rfl; rfl; (first | rfl | simp [OneV.o]); intro _ h)
 | ((with_reducible apply go_stN h); rfl; (first | rfl | simp [OneV.o]); intro _ h)
 | ((with_reducible apply go_box h); rfl; intro _ _ h)
 | ((with_reducible apply go_ix h); omega)
 | ((with_reducible first | apply go_elN h | apply go_f1 h | apply go_rf1 h | apply go_rel h); (case hi => omega); (try case hx => exact inferInstance); (try case hv => rfl))
 | ((with_reducible apply go_fa h); omega; omega)
))
    refine go_alloc h zFi rfl fun q _ h => ?_
    (repeat (first
 | (simp (disch := omega) only [evA, evB, evC, bAdd_i64, bSub_i64])
 | (with_reducible apply go_ld1 h)
 | ((with_reducible first | apply go_ldA h | apply go_rd h | apply go_rdN h | apply go_rlen h); rfl)
 | (with_reducible first | apply go_ldN h | apply go_lenL h)
 | ((with_reducible apply go_st h); intro _ h)
 | ((with_reducible apply go_stA h); rfl; rfl; (first | rfl | simp [OneV.o]); intro _ h)
 | ((with_reducible apply go_stN h); rfl; (first | rfl | simp [OneV.o]); intro _ h)
 | ((with_reducible apply go_box h); rfl; intro _ _ h)
 | ((with_reducible apply go_ix h); omega)
 | ((with_reducible first | apply go_elN h | apply go_f1 h | apply go_rf1 h | apply go_rel h); (case hi => omega); (try case hx => exact inferInstance); (try case hv => rfl))
 | ((with_reducible apply go_fa h); omega; omega)
))
    exact hK _ (diskA_close H ok (h.got))
  | some f =>
    rw [hg] at oka hK
    obtain ⟨hm, hn⟩ := kGet_mem hg
    have e1 : Option.map fVal (some f) = some (f.s, f.safe) := rfl
    rw [e1]
    simp only [Option.elim_some]
    (repeat (first
 | (simp (disch := omega) only [evA, evB, evC, bAdd_i64, bSub_i64])
 | (with_reducible apply go_ld1 h)
 | ((with_reducible first | apply go_ldA h | apply go_rd h | apply go_rdN h | apply go_rlen h); rfl)
 | (with_reducible first | apply go_ldN h | apply go_lenL h)
 | ((with_reducible apply go_st h); intro _ h)
 | ((with_reducible apply go_stA h); rfl; rfl; (first | rfl | simp [OneV.o]); intro _ h)
 | ((with_reducible apply go_stN h); rfl; (first | rfl | simp [OneV.o]); intro _ h)
 | ((with_reducible apply go_box h); rfl; intro _ _ h)
 | ((with_reducible apply go_ix h); omega)
 | ((with_reducible first | apply go_elN h | apply go_f1 h | apply go_rf1 h | apply go_rel h); (case hi => omega); (try case hx => exact inferInstance); (try case hv => rfl))
 | ((with_reducible apply go_fa h); omega; omega)
))
    refine go_alloc h zFi rfl fun q _ h => ?_
    (repeat (first
 | (simp (disch := omega) only [evA, evB, evC, bAdd_i64, bSub_i64])
 | (with_reducible apply go_ld1 h)
 | ((with_reducible first | apply go_ldA h | apply go_rd h | apply go_rdN h | apply go_rlen h); rfl)
 | (with_reducible first | apply go_ldN h | apply go_lenL h)
 | ((with_reducible apply go_st h); intro _ h)
 | ((with_reducible apply go_stA h); rfl; rfl; (first | rfl | simp [OneV.o]); intro _ h)
 | ((with_reducible apply go_stN h); rfl; (first | rfl | simp [OneV.o]); intro _ h)
 | ((with_reducible apply go_box h); rfl; intro _ _ h)
 | ((with_reducible apply go_ix h); omega)
 | ((with_reducible first | apply go_elN h | apply go_f1 h | apply go_rf1 h | apply go_rel h); (case hi => omega); (try case hx => exact inferInstance); (try case hv => rfl))
 | ((with_reducible apply go_fa h); omega; omega)
))
    have h4 := diskA_close H ok (L := Cl q (cFi (f.s, f.s.length)).toArray 86 :: L) (h.got)
    have e : n = ({ f with safe := f.s.length } : Fil).name := hn.symm
    rw [e]
    exact turn_spec (f := { f with safe := f.s.length }) oka h4 fun w h => hK w (h.got)
theorem dren_spec {b : List UInt8} (h : Sat w0 (DiskA v d :: L) w) (hK : ∀ w', Sat w0 (DiskA v (renD n b d).2 :: L) w' → K (.int .i64 (renD n b d).1) w') : callP G41 [v, .string (bs n), .string (bs b)] w K := by
  have oka := renD_ok (diskA_ok h) n b
  unfold renD at oka hK
  refine c41 ?_
  unfold F41
  obtain ⟨p, m, M, rfl, H, ok, h2⟩ := diskA_open h
  clear h
  have h := h2
  clear h2
  (repeat (first
 | (simp (disch := omega) only [evA, evB, evC, bAdd_i64, bSub_i64])
 | (with_reducible apply go_ld1 h)
 | ((with_reducible first | apply go_ldA h | apply go_rd h | apply go_rdN h | apply go_rlen h); rfl)
 | (with_reducible first | apply go_ldN h | apply go_lenL h)
 | ((with_reducible apply go_st h); intro _ h)
 | ((with_reducible apply go_stA h); rfl; rfl; (first | rfl | simp [OneV.o]); intro _ h)
 | ((with_reducible apply go_stN h); rfl; (first | rfl | simp [OneV.o]); intro _ h)
 | ((with_reducible apply go_box h); rfl; intro _ _ h)
 | ((with_reducible apply go_ix h); omega)
 | ((with_reducible first | apply go_elN h | apply go_f1 h | apply go_rf1 h | apply go_rel h); (case hi => omega); (try case hx => exact inferInstance); (try case hv => rfl))
 | ((with_reducible apply go_fa h); omega; omega)
))
  refine go_look2 h (by repeat (first | exact .here | apply Fnt.there)) KST um78 zFi n ?_
  rw [look_file (n := n) H]
  cases hg : fGet n d.fs with
  | none =>
    rw [hg] at oka hK
    have e1 : (Option.map fVal (none : Option Fil)) = none := rfl
    rw [e1]
    simp only [Option.elim_none]
    (repeat (first
 | (simp (disch := omega) only [evA, evB, evC, bAdd_i64, bSub_i64])
 | (with_reducible apply go_ld1 h)
 | ((with_reducible first | apply go_ldA h | apply go_rd h | apply go_rdN h | apply go_rlen h); rfl)
 | (with_reducible first | apply go_ldN h | apply go_lenL h)
 | ((with_reducible apply go_st h); intro _ h)
 | ((with_reducible apply go_stA h); rfl; rfl; (first | rfl | simp [OneV.o]); intro _ h)
 | ((with_reducible apply go_stN h); rfl; (first | rfl | simp [OneV.o]); intro _ h)
 | ((with_reducible apply go_box h); rfl; intro _ _ h)
 | ((with_reducible apply go_ix h); omega)
 | ((with_reducible first | apply go_elN h | apply go_f1 h | apply go_rf1 h | apply go_rel h); (case hi => omega); (try case hx => exact inferInstance); (try case hv => rfl))
 | ((with_reducible apply go_fa h); omega; omega)
))
    refine go_alloc h zFi rfl fun q _ h => ?_
    (repeat (first
 | (simp (disch := omega) only [evA, evB, evC, bAdd_i64, bSub_i64])
 | (with_reducible apply go_ld1 h)
 | ((with_reducible first | apply go_ldA h | apply go_rd h | apply go_rdN h | apply go_rlen h); rfl)
 | (with_reducible first | apply go_ldN h | apply go_lenL h)
 | ((with_reducible apply go_st h); intro _ h)
 | ((with_reducible apply go_stA h); rfl; rfl; (first | rfl | simp [OneV.o]); intro _ h)
 | ((with_reducible apply go_stN h); rfl; (first | rfl | simp [OneV.o]); intro _ h)
 | ((with_reducible apply go_box h); rfl; intro _ _ h)
 | ((with_reducible apply go_ix h); omega)
 | ((with_reducible first | apply go_elN h | apply go_f1 h | apply go_rf1 h | apply go_rel h); (case hi => omega); (try case hx => exact inferInstance); (try case hv => rfl))
 | ((with_reducible apply go_fa h); omega; omega)
))
    exact hK _ (diskA_close H ok (h.got))
  | some f =>
    rw [hg] at oka hK
    have e1 : Option.map fVal (some f) = some (f.s, f.safe) := rfl
    rw [e1]
    simp only [Option.elim_some] at hK oka ⊢
    (repeat (first
 | (simp (disch := omega) only [evA, evB, evC, bAdd_i64, bSub_i64])
 | (with_reducible apply go_ld1 h)
 | ((with_reducible first | apply go_ldA h | apply go_rd h | apply go_rdN h | apply go_rlen h); rfl)
 | (with_reducible first | apply go_ldN h | apply go_lenL h)
 | ((with_reducible apply go_st h); intro _ h)
 | ((with_reducible apply go_stA h); rfl; rfl; (first | rfl | simp [OneV.o]); intro _ h)
 | ((with_reducible apply go_stN h); rfl; (first | rfl | simp [OneV.o]); intro _ h)
 | ((with_reducible apply go_box h); rfl; intro _ _ h)
 | ((with_reducible apply go_ix h); omega)
 | ((with_reducible first | apply go_elN h | apply go_f1 h | apply go_rf1 h | apply go_rel h); (case hi => omega); (try case hx => exact inferInstance); (try case hv => rfl))
 | ((with_reducible apply go_fa h); omega; omega)
))
    refine go_alloc h zFi rfl fun q _ h => ?_
    (repeat (first
 | (simp (disch := omega) only [evA, evB, evC, bAdd_i64, bSub_i64])
 | (with_reducible apply go_ld1 h)
 | ((with_reducible first | apply go_ldA h | apply go_rd h | apply go_rdN h | apply go_rlen h); rfl)
 | (with_reducible first | apply go_ldN h | apply go_lenL h)
 | ((with_reducible apply go_st h); intro _ h)
 | ((with_reducible apply go_stA h); rfl; rfl; (first | rfl | simp [OneV.o]); intro _ h)
 | ((with_reducible apply go_stN h); rfl; (first | rfl | simp [OneV.o]); intro _ h)
 | ((with_reducible apply go_box h); rfl; intro _ _ h)
 | ((with_reducible apply go_ix h); omega)
 | ((with_reducible first | apply go_elN h | apply go_f1 h | apply go_rf1 h | apply go_rel h); (case hi => omega); (try case hx => exact inferInstance); (try case hv => rfl))
 | ((with_reducible apply go_fa h); omega; omega)
))
    refine isname_spec ?_
    cases hb : nameOk b
    · rw [if_pos hb] at hK
      (repeat (first
 | (simp (disch := omega) only [evA, evB, evC, bAdd_i64, bSub_i64])
 | (with_reducible apply go_ld1 h)
 | ((with_reducible first | apply go_ldA h | apply go_rd h | apply go_rdN h | apply go_rlen h); rfl)
 | (with_reducible first | apply go_ldN h | apply go_lenL h)
 | ((with_reducible apply go_st h); intro _ h)
 | ((with_reducible apply go_stA h); rfl; rfl; (first | rfl | simp [OneV.o]); intro _ h)
 | ((with_reducible apply go_stN h); rfl; (first | rfl | simp [OneV.o]); intro _ h)
 | ((with_reducible apply go_box h); rfl; intro _ _ h)
 | ((with_reducible apply go_ix h); omega)
 | ((with_reducible first | apply go_elN h | apply go_f1 h | apply go_rf1 h | apply go_rel h); (case hi => omega); (try case hx => exact inferInstance); (try case hv => rfl))
 | ((with_reducible apply go_fa h); omega; omega)
))
      exact hK _ (diskA_close H ok (h.got))
    rw [if_neg (by rw [hb]; simp)] at hK oka
    (repeat (first
 | (simp (disch := omega) only [evA, evB, evC, bAdd_i64, bSub_i64])
 | (with_reducible apply go_ld1 h)
 | ((with_reducible first | apply go_ldA h | apply go_rd h | apply go_rdN h | apply go_rlen h); rfl)
 | (with_reducible first | apply go_ldN h | apply go_lenL h)
 | ((with_reducible apply go_st h); intro _ h)
 | ((with_reducible apply go_stA h); rfl; rfl; (first | rfl | simp [OneV.o]); intro _ h)
 | ((with_reducible apply go_stN h); rfl; (first | rfl | simp [OneV.o]); intro _ h)
 | ((with_reducible apply go_box h); rfl; intro _ _ h)
 | ((with_reducible apply go_ix h); omega)
 | ((with_reducible first | apply go_elN h | apply go_f1 h | apply go_rf1 h | apply go_rel h); (case hi => omega); (try case hx => exact inferInstance); (try case hv => rfl))
 | ((with_reducible apply go_fa h); omega; omega)
))
    have h4 := diskA_close H ok (L := Cl q (cFi (f.s, f.safe)).toArray 86 :: L) (h.got)
    refine use_spec h4 (fun hu w h => ?_) (fun e hu w h => ?_)
    · rw [hu] at hK
      (repeat (first
 | (simp (disch := omega) only [evA, evB, evC, bAdd_i64, bSub_i64])
 | (with_reducible apply go_ld1 h)
 | ((with_reducible first | apply go_ldA h | apply go_rd h | apply go_rdN h | apply go_rlen h); rfl)
 | (with_reducible first | apply go_ldN h | apply go_lenL h)
 | ((with_reducible apply go_st h); intro _ h)
 | ((with_reducible apply go_stA h); rfl; rfl; (first | rfl | simp [OneV.o]); intro _ h)
 | ((with_reducible apply go_stN h); rfl; (first | rfl | simp [OneV.o]); intro _ h)
 | ((with_reducible apply go_box h); rfl; intro _ _ h)
 | ((with_reducible apply go_ix h); omega)
 | ((with_reducible first | apply go_elN h | apply go_f1 h | apply go_rf1 h | apply go_rel h); (case hi => omega); (try case hx => exact inferInstance); (try case hv => rfl))
 | ((with_reducible apply go_fa h); omega; omega)
))
      exact hK _ (h.got)
    · rw [hu] at hK oka
      obtain ⟨p', m, M, e', H, ok, h5⟩ := diskA_open h
      cases e'
      clear h
      have h := h5
      clear h5
      (repeat (first
 | (simp (disch := omega) only [evA, evB, evC, bAdd_i64, bSub_i64])
 | (with_reducible apply go_ld1 h)
 | ((with_reducible first | apply go_ldA h | apply go_rd h | apply go_rdN h | apply go_rlen h); rfl)
 | (with_reducible first | apply go_ldN h | apply go_lenL h)
 | ((with_reducible apply go_st h); intro _ h)
 | ((with_reducible apply go_stA h); rfl; rfl; (first | rfl | simp [OneV.o]); intro _ h)
 | ((with_reducible apply go_stN h); rfl; (first | rfl | simp [OneV.o]); intro _ h)
 | ((with_reducible apply go_box h); rfl; intro _ _ h)
 | ((with_reducible apply go_ix h); omega)
 | ((with_reducible first | apply go_elN h | apply go_f1 h | apply go_rf1 h | apply go_rel h); (case hi => omega); (try case hx => exact inferInstance); (try case hv => rfl))
 | ((with_reducible apply go_fa h); omega; omega)
))
      refine eDelete_sat (h.frt (A := MapH kSt fiV m M)) KST um78 n fun w h => ?_
      (repeat (first
 | (simp (disch := omega) only [evA, evB, evC, bAdd_i64, bSub_i64])
 | (with_reducible apply go_ld1 h)
 | ((with_reducible first | apply go_ldA h | apply go_rd h | apply go_rdN h | apply go_rlen h); rfl)
 | (with_reducible first | apply go_ldN h | apply go_lenL h)
 | ((with_reducible apply go_st h); intro _ h)
 | ((with_reducible apply go_stA h); rfl; rfl; (first | rfl | simp [OneV.o]); intro _ h)
 | ((with_reducible apply go_stN h); rfl; (first | rfl | simp [OneV.o]); intro _ h)
 | ((with_reducible apply go_box h); rfl; intro _ _ h)
 | ((with_reducible apply go_ix h); omega)
 | ((with_reducible first | apply go_elN h | apply go_f1 h | apply go_rf1 h | apply go_rel h); (case hi => omega); (try case hx => exact inferInstance); (try case hv => rfl))
 | ((with_reducible apply go_fa h); omega; omega)
))
      refine eMapSet_sat (h.drew.frt (A := MapH kSt fiV m (aDel n M))) KST um78 b (f.s, f.safe) fun w h => ?_
      exact hK _ (diskA_close (d := { e with fs := fPut { f with name := b } (fDel n e.fs) }) ((H.del STO.txt n).put STO.txt { f with name := b }) oka (h.got))
theorem dread_spec (h : Sat w0 (DiskA v d :: L) w) (hK : ∀ w', Sat w0 (DiskA v d :: L) w' → K (.tuple #[.string (bs ((fGet n d.fs).elim [] (·.s))), .int .i64 ((fGet n d.fs).elim 5 fun _ => 0)]) w') : callP G23 [v, .string (bs n)] w K := by
  refine c23 ?_
  unfold F23
  obtain ⟨p, m, M, rfl, H, ok, h2⟩ := diskA_open h
  clear h
  have h := h2
  clear h2
  (repeat (first
 | (simp (disch := omega) only [evA, evB, evC, bAdd_i64, bSub_i64])
 | (with_reducible apply go_ld1 h)
 | ((with_reducible first | apply go_ldA h | apply go_rd h | apply go_rdN h | apply go_rlen h); rfl)
 | (with_reducible first | apply go_ldN h | apply go_lenL h)
 | ((with_reducible apply go_st h); intro _ h)
 | ((with_reducible apply go_stA h); rfl; rfl; (first | rfl | simp [OneV.o]); intro _ h)
 | ((with_reducible apply go_stN h); rfl; (first | rfl | simp [OneV.o]); intro _ h)
 | ((with_reducible apply go_box h); rfl; intro _ _ h)
 | ((with_reducible apply go_ix h); omega)
 | ((with_reducible first | apply go_elN h | apply go_f1 h | apply go_rf1 h | apply go_rel h); (case hi => omega); (try case hx => exact inferInstance); (try case hv => rfl))
 | ((with_reducible apply go_fa h); omega; omega)
))
  refine go_look2 h (by repeat (first | exact .here | apply Fnt.there)) KST um78 zFi n ?_
  rw [look_file (n := n) H]
  cases hg : fGet n d.fs with
  | none =>
    rw [hg] at hK
    have e1 : (Option.map fVal (none : Option Fil)) = none := rfl
    rw [e1]
    simp only [Option.elim_none]
    (repeat (first
 | (simp (disch := omega) only [evA, evB, evC, bAdd_i64, bSub_i64])
 | (with_reducible apply go_ld1 h)
 | ((with_reducible first | apply go_ldA h | apply go_rd h | apply go_rdN h | apply go_rlen h); rfl)
 | (with_reducible first | apply go_ldN h | apply go_lenL h)
 | ((with_reducible apply go_st h); intro _ h)
 | ((with_reducible apply go_stA h); rfl; rfl; (first | rfl | simp [OneV.o]); intro _ h)
 | ((with_reducible apply go_stN h); rfl; (first | rfl | simp [OneV.o]); intro _ h)
 | ((with_reducible apply go_box h); rfl; intro _ _ h)
 | ((with_reducible apply go_ix h); omega)
 | ((with_reducible first | apply go_elN h | apply go_f1 h | apply go_rf1 h | apply go_rel h); (case hi => omega); (try case hx => exact inferInstance); (try case hv => rfl))
 | ((with_reducible apply go_fa h); omega; omega)
))
    refine go_alloc h zFi rfl fun q _ h => ?_
    (repeat (first
 | (simp (disch := omega) only [evA, evB, evC, bAdd_i64, bSub_i64])
 | (with_reducible apply go_ld1 h)
 | ((with_reducible first | apply go_ldA h | apply go_rd h | apply go_rdN h | apply go_rlen h); rfl)
 | (with_reducible first | apply go_ldN h | apply go_lenL h)
 | ((with_reducible apply go_st h); intro _ h)
 | ((with_reducible apply go_stA h); rfl; rfl; (first | rfl | simp [OneV.o]); intro _ h)
 | ((with_reducible apply go_stN h); rfl; (first | rfl | simp [OneV.o]); intro _ h)
 | ((with_reducible apply go_box h); rfl; intro _ _ h)
 | ((with_reducible apply go_ix h); omega)
 | ((with_reducible first | apply go_elN h | apply go_f1 h | apply go_rf1 h | apply go_rel h); (case hi => omega); (try case hx => exact inferInstance); (try case hv => rfl))
 | ((with_reducible apply go_fa h); omega; omega)
))
    exact hK _ (diskA_close H ok (h.got))
  | some f =>
    rw [hg] at hK
    have e1 : Option.map fVal (some f) = some (f.s, f.safe) := rfl
    rw [e1]
    simp only [Option.elim_some]
    (repeat (first
 | (simp (disch := omega) only [evA, evB, evC, bAdd_i64, bSub_i64])
 | (with_reducible apply go_ld1 h)
 | ((with_reducible first | apply go_ldA h | apply go_rd h | apply go_rdN h | apply go_rlen h); rfl)
 | (with_reducible first | apply go_ldN h | apply go_lenL h)
 | ((with_reducible apply go_st h); intro _ h)
 | ((with_reducible apply go_stA h); rfl; rfl; (first | rfl | simp [OneV.o]); intro _ h)
 | ((with_reducible apply go_stN h); rfl; (first | rfl | simp [OneV.o]); intro _ h)
 | ((with_reducible apply go_box h); rfl; intro _ _ h)
 | ((with_reducible apply go_ix h); omega)
 | ((with_reducible first | apply go_elN h | apply go_f1 h | apply go_rf1 h | apply go_rel h); (case hi => omega); (try case hx => exact inferInstance); (try case hv => rfl))
 | ((with_reducible apply go_fa h); omega; omega)
))
    refine go_alloc h zFi rfl fun q _ h => ?_
    (repeat (first
 | (simp (disch := omega) only [evA, evB, evC, bAdd_i64, bSub_i64])
 | (with_reducible apply go_ld1 h)
 | ((with_reducible first | apply go_ldA h | apply go_rd h | apply go_rdN h | apply go_rlen h); rfl)
 | (with_reducible first | apply go_ldN h | apply go_lenL h)
 | ((with_reducible apply go_st h); intro _ h)
 | ((with_reducible apply go_stA h); rfl; rfl; (first | rfl | simp [OneV.o]); intro _ h)
 | ((with_reducible apply go_stN h); rfl; (first | rfl | simp [OneV.o]); intro _ h)
 | ((with_reducible apply go_box h); rfl; intro _ _ h)
 | ((with_reducible apply go_ix h); omega)
 | ((with_reducible first | apply go_elN h | apply go_f1 h | apply go_rf1 h | apply go_rel h); (case hi => omega); (try case hx => exact inferInstance); (try case hv => rfl))
 | ((with_reducible apply go_fa h); omega; omega)
))
    exact hK _ (diskA_close H ok (h.got))
end
end Go.Proofs.Gong

/- Dk3 -/
namespace Go.Proofs.Gong
open Go Go.Sx Go.Proofs
set_option maxRecDepth 100000
attribute [local irreducible] fBuild fLook fZero eqv bEqv Cl MapH LsH SlH ld1 ldN st callP eBox eAlloc lenM lenL eMapSet eDelete eAppend eBuildSl eRange eNext
section
variable {w0 w : World} {L : List HP} {K : Value → World → Prop} {v : Value} {d : Dk} {n x : List UInt8} {M : List (List UInt8 × (List UInt8 × Nat))}
theorem dstop_spec {k : Int} (hk : k ≤ 9223372036854775807) (h : Sat w0 (DiskA v d :: L) w) (hK : ∀ w', Sat w0 (DiskA v (stopD k d).2 :: L) w' → K (.int .i64 (stopD k d).1) w') : callP G11 [v, .int .i64 k] w K := by
  have oka := stopD_ok (diskA_ok h) hk
  unfold stopD at oka hK
  refine c11 ?_
  unfold F11
  by_cases g : k < 0
  · have g' : decide (k < 0) = true := by simpa using g
    rw [if_pos g] at hK
    (repeat (first
 | (simp (disch := omega) only [evA, evB, evC, bAdd_i64, bSub_i64, g'])
 | (with_reducible apply go_ld1 h)
 | ((with_reducible first | apply go_ldA h | apply go_rd h | apply go_rdN h | apply go_rlen h); rfl)
 | (with_reducible first | apply go_ldN h | apply go_lenL h)
 | ((with_reducible apply go_st h); intro _ h)
 | ((with_reducible apply go_stA h); rfl; rfl; (first | rfl | simp [OneV.o]); intro _ h)
 | ((with_reducible apply go_stN h); rfl; (first | rfl | simp [OneV.o]); intro _ h)
 | ((with_reducible apply go_box h); rfl; intro _ _ h)
 | ((with_reducible apply go_ix h); omega)
 | ((with_reducible first | apply go_elN h | apply go_f1 h | apply go_rf1 h | apply go_rel h); (case hi => omega); (try case hx => exact inferInstance); (try case hv => rfl))
 | ((with_reducible apply go_fa h); omega; omega)
))
    exact hK _ h
  · have g' : decide (k < 0) = false := by simpa using g
    rw [if_neg g] at hK oka
    obtain ⟨p, m, M, rfl, H, ok, h2⟩ := diskA_open h
    clear h
    have h := h2
    clear h2
    (repeat (first
 | (simp (disch := omega) only [evA, evB, evC, bAdd_i64, bSub_i64, g'])
 | (with_reducible apply go_ld1 h)
 | ((with_reducible first | apply go_ldA h | apply go_rd h | apply go_rdN h | apply go_rlen h); rfl)
 | (with_reducible first | apply go_ldN h | apply go_lenL h)
 | ((with_reducible apply go_st h); intro _ h)
 | ((with_reducible apply go_stA h); rfl; rfl; (first | rfl | simp [OneV.o]); intro _ h)
 | ((with_reducible apply go_stN h); rfl; (first | rfl | simp [OneV.o]); intro _ h)
 | ((with_reducible apply go_box h); rfl; intro _ _ h)
 | ((with_reducible apply go_ix h); omega)
 | ((with_reducible first | apply go_elN h | apply go_f1 h | apply go_rf1 h | apply go_rel h); (case hi => omega); (try case hx => exact inferInstance); (try case hv => rfl))
 | ((with_reducible apply go_fa h); omega; omega)
))
    exact hK _ (diskA_close (d := { d with stop := true, left := k }) H oka (h.got))
theorem dnames_spec (hc : d.fs.length ≤ 1073741824) (h : Sat w0 (DiskA v d :: L) w) (hK : ∀ s w', Sat w0 (LsH cSt 1 9 s (d.fs.map (·.name)) :: DiskA v d :: L) w' → K s w') : callP G15 [v] w K := by
  refine c15 ?_
  unfold F15
  obtain ⟨p, m, M, rfl, H, ok, h2⟩ := diskA_open h
  clear h
  have h := h2
  clear h2
  obtain ⟨r1, _, _, ⟨rfl, _⟩, _⟩ := map_iff.1 (h.frt (A := MapH kSt fiV m M))
  (repeat (first
 | (simp (disch := omega) only [evA, evB, evC, bAdd_i64, bSub_i64])
 | (with_reducible apply go_ld1 h)
 | ((with_reducible first | apply go_ldA h | apply go_rd h | apply go_rdN h | apply go_rlen h); rfl)
 | (with_reducible first | apply go_ldN h | apply go_lenL h)
 | ((with_reducible apply go_st h); intro _ h)
 | ((with_reducible apply go_stA h); rfl; rfl; (first | rfl | simp [OneV.o]); intro _ h)
 | ((with_reducible apply go_stN h); rfl; (first | rfl | simp [OneV.o]); intro _ h)
 | ((with_reducible apply go_box h); rfl; intro _ _ h)
 | ((with_reducible apply go_ix h); omega)
 | ((with_reducible first | apply go_elN h | apply go_f1 h | apply go_rf1 h | apply go_rel h); (case hi => omega); (try case hx => exact inferInstance); (try case hv => rfl))
 | ((with_reducible apply go_fa h); omega; omega)
))
  refine c43 ?_
  unfold F43
  (repeat (first
 | (simp (disch := omega) only [evA, evB, evC, bAdd_i64, bSub_i64])
 | (with_reducible apply go_ld1 h)
 | ((with_reducible first | apply go_ldA h | apply go_rd h | apply go_rdN h | apply go_rlen h); rfl)
 | (with_reducible first | apply go_ldN h | apply go_lenL h)
 | ((with_reducible apply go_st h); intro _ h)
 | ((with_reducible apply go_stA h); rfl; rfl; (first | rfl | simp [OneV.o]); intro _ h)
 | ((with_reducible apply go_stN h); rfl; (first | rfl | simp [OneV.o]); intro _ h)
 | ((with_reducible apply go_box h); rfl; intro _ _ h)
 | ((with_reducible apply go_ix h); omega)
 | ((with_reducible first | apply go_elN h | apply go_f1 h | apply go_rf1 h | apply go_rel h); (case hi => omega); (try case hx => exact inferInstance); (try case hv => rfl))
 | ((with_reducible apply go_fa h); omega; omega)
))
  refine sortedS_sat (m := M) (ev := fiV) (L := Cl p #[.int .i64 d.room, .map (some r1), .bool d.stop, .int .i64 d.left] 80 :: L) (h.got) ?_ ?_ fun l s w hp hs h => ?_
  · intro x hx
    obtain ⟨f, hf, e⟩ := List.mem_map.1 (H.pm.mem_iff.1 hx)
    have := (ok.ok f hf).2
    rw [← e]
    show f.name.length ≤ maxLen
    unfold maxLen; omega
  · rw [H.len]; omega
  have el : l = d.fs.map fKey := H.sorted STO.txt hp (hs.imp fun h => by
    simp only [ltS, decide_eq_false_iff_not]; exact h)
  subst el
  exact hK _ _ (Sat.f1 (diskA_close H ok (h.got)))
theorem kept_spec {k : Int} {many : Nat} (hm : many ≤ 1099511627776) (hK : K (.int .i64 (keptN k many : Nat)) w) : callP G44 [.int .i64 k, .int .i64 (many : Nat)] w K := by
  refine c44 ?_
  unfold F44 F44_1 F44_1b
  have e1 : bRem (.int .i64 k) (.int .i64 ((many : Int) + 1)) = some (.int .i64 (k.tmod ((many : Int) + 1))) := bRem_int _ _ _ (by omega)
  have b1 := Int.tmod_lt_of_pos k (b := (many : Int) + 1) (by omega)
  have b2 := Int.lt_tmod_of_pos k (b := (many : Int) + 1) (by omega)
  have hb : (many : Int) + 1 ≠ 0 := by omega
  have key : (keptN k many : Int) = if k.tmod ((many : Int) + 1) < 0 then k.tmod ((many : Int) + 1) + ((many : Int) + 1) else k.tmod ((many : Int) + 1) := by
    unfold keptN
    rw [Int.toNat_of_nonneg (Int.emod_nonneg _ hb)]
    have e := Int.mul_tdiv_add_tmod k ((many : Int) + 1)
    generalize k.tmod ((many : Int) + 1) = r at b1 b2 e
    generalize k.tdiv ((many : Int) + 1) = q at e
    split
    · have : k = (r + ((many : Int) + 1)) + ((many : Int) + 1) * (q - 1) := by rw [Int.mul_sub]; omega
      rw [this, Int.add_mul_emod_self_left, Int.emod_eq_of_lt (by omega) (by omega)]
    · have : k = r + ((many : Int) + 1) * q := by omega
      rw [this, Int.add_mul_emod_self_left, Int.emod_eq_of_lt (by omega) (by omega)]
  rw [key] at hK
  generalize k.tmod ((many : Int) + 1) = r at b1 b2 e1 hK
  by_cases g : r < 0
  · have g' : decide (r < 0) = true := by simpa using g
    rw [if_pos g] at hK
    (repeat (first
 | (simp (disch := omega) only [evA, evB, evC, bAdd_i64, bSub_i64, g'])
 | (refine go_some (e1 ..) ?_)
 | (with_reducible apply go_ld1 h)
 | ((with_reducible first | apply go_ldA h | apply go_rd h | apply go_rdN h | apply go_rlen h); rfl)
 | (with_reducible first | apply go_ldN h | apply go_lenL h)
 | ((with_reducible apply go_st h); intro _ h)
 | ((with_reducible apply go_stA h); rfl; rfl; (first | rfl | simp [OneV.o]); intro _ h)
 | ((with_reducible apply go_stN h); rfl; (first | rfl | simp [OneV.o]); intro _ h)
 | ((with_reducible apply go_box h); rfl; intro _ _ h)
 | ((with_reducible apply go_ix h); omega)
 | ((with_reducible first | apply go_elN h | apply go_f1 h | apply go_rf1 h | apply go_rel h); (case hi => omega); (try case hx => exact inferInstance); (try case hv => rfl))
 | ((with_reducible apply go_fa h); omega; omega)
))
    unfold F44_2 F44_2b
    exact hK
  · have g' : decide (r < 0) = false := by simpa using g
    rw [if_neg g] at hK
    (repeat (first
 | (simp (disch := omega) only [evA, evB, evC, bAdd_i64, bSub_i64, g'])
 | (refine go_some (e1 ..) ?_)
 | (with_reducible apply go_ld1 h)
 | ((with_reducible first | apply go_ldA h | apply go_rd h | apply go_rdN h | apply go_rlen h); rfl)
 | (with_reducible first | apply go_ldN h | apply go_lenL h)
 | ((with_reducible apply go_st h); intro _ h)
 | ((with_reducible apply go_stA h); rfl; rfl; (first | rfl | simp [OneV.o]); intro _ h)
 | ((with_reducible apply go_stN h); rfl; (first | rfl | simp [OneV.o]); intro _ h)
 | ((with_reducible apply go_box h); rfl; intro _ _ h)
 | ((with_reducible apply go_ix h); omega)
 | ((with_reducible first | apply go_elN h | apply go_f1 h | apply go_rf1 h | apply go_rel h); (case hi => omega); (try case hx => exact inferInstance); (try case hv => rfl))
 | ((with_reducible apply go_fa h); omega; omega)
))
    unfold F44_2 F44_2b
    exact hK
omit w0 w L K v d n x M in
theorem crF_snoc {keep : List Int} {f : Fil} : ∀ {j : Nat} {l : List Fil}, crF keep j (l ++ [f]) = crF keep j l ++ [crFil keep (j + l.length) f]
  | j, [] => rfl
  | j, g :: l => by
    have := crF_snoc (keep := keep) (f := f) (j := j + 1) (l := l)
    simp only [List.cons_append, crF, this, List.length_cons]
    rw [show j + 1 + l.length = j + (l.length + 1) from by omega]
theorem crash_loop {p : Nat} {sv nv m : Value} {keep : List Int} [hrd : RdIn w0 L sv Int cI 1 keep] (hc : d.fs.length ≤ 1073741824) (ok : DOk d) (hK : ∀ w', Sat w0 (DiskA (ptr p) (crashD keep d) :: L) w' → K (.tuple #[]) w') :
    ∀ (k i : Nat) (M : List (List UInt8 × (List UInt8 × Nat))) (w : World), d.fs.length - i < k → i ≤ d.fs.length → KInv ltS fKey fVal M (crF keep 0 (d.fs.take i) ++ d.fs.drop i) →
      Sat w0 (Cl p #[.int .i64 d.room, m, .bool d.stop, .int .i64 d.left] 80 :: MapH kSt fiV m M :: LsH cSt 1 9 nv (d.fs.map (·.name)) :: L) w → F17_2L k (ptr p) sv nv (.int .i64 (d.fs.length : Nat)) (.int .i64 i) w K := by
  intro k
  induction k with
  | zero => intro i M w hd; omega
  | succ k ih =>
    intro i M w hd hi H h
    rw [F17_2L]
    unfold F17_4 F17_4b
    by_cases g : i < d.fs.length
    · have g' : decide ((i : Int) < (d.fs.length : Int)) = true := by simpa using g
      have hil : i < (d.fs.map (·.name)).length := by simpa using g
      (repeat (first
 | (simp (disch := omega) only [evA, evB, evC, bAdd_i64, bSub_i64, g'])
 | (with_reducible apply go_ld1 h)
 | ((with_reducible first | apply go_ldA h | apply go_rd h | apply go_rdN h); rfl)
 | (with_reducible first | apply go_ldN h | apply go_lenR h)
 | ((with_reducible apply go_st h); intro _ h)
 | ((with_reducible apply go_stA h); rfl; rfl; (first | rfl | simp [OneV.o]); intro _ h)
 | ((with_reducible apply go_stN h); rfl; (first | rfl | simp [OneV.o]); intro _ h)
 | ((with_reducible apply go_box h); rfl; intro _ _ h)
 | ((with_reducible apply go_ixR h); omega)
 | ((with_reducible first | apply go_elR h | apply go_f1R h | apply go_rf1R h | apply go_relR h | apply go_e1R h | apply go_re1R h); (case hc => exact inferInstance); (case hi => omega); (try case hx => exact inferInstance); (try case hv => rfl))
 | ((with_reducible apply go_fNR h); (case hc => exact inferInstance); (case hi => omega); (try case hp => exact inferInstance); (try case hv => rfl))
 | ((with_reducible apply go_faR h); (case hc => exact inferInstance); omega; omega)
 | ((with_reducible apply go_rlenR h); rfl)
))
      unfold F17_5 F17_7 F17_7b
      have hnm : (d.fs.map (·.name))[i] = d.fs[i].name := by simp
      have hfo := ok.ok _ (List.getElem_mem g)
      have hfl := usedF_mem (List.getElem_mem g)
      have hu := ok.used
      have hr := ok.room
      have hcl := crLong_le (keep := keep) (i := i) hfo
      have hcur : crF keep 0 (d.fs.take i) ++ d.fs.drop i = crF keep 0 (d.fs.take i) ++ d.fs[i] :: d.fs.drop (i + 1) := by rw [List.drop_eq_getElem_cons g]
      rw [hcur] at H
      obtain ⟨f, hf⟩ : ∃ f, d.fs[i] = f := ⟨_, rfl⟩
      rw [hf] at hnm hfo hfl hcl H
      have hget : aGet f.name M = some (f.s, f.safe) := by
        rw [show aGet f.name M = _ from H.get STO.txt f.name, show kGet fKey f.name _ = some f from kGet_of STO.txt H.asc (by simp)]
        rfl
      (repeat (first
 | (simp (disch := omega) only [evA, evB, evC, bAdd_i64, bSub_i64, hnm])
 | (with_reducible apply go_ld1 h)
 | ((with_reducible first | apply go_ldA h | apply go_rd h | apply go_rdN h); rfl)
 | (with_reducible first | apply go_ldN h | apply go_lenR h)
 | ((with_reducible apply go_st h); intro _ h)
 | ((with_reducible apply go_stA h); rfl; rfl; (first | rfl | simp [OneV.o]); intro _ h)
 | ((with_reducible apply go_stN h); rfl; (first | rfl | simp [OneV.o]); intro _ h)
 | ((with_reducible apply go_box h); rfl; intro _ _ h)
 | ((with_reducible apply go_ixR h); omega)
 | ((with_reducible first | apply go_elR h | apply go_f1R h | apply go_rf1R h | apply go_relR h | apply go_e1R h | apply go_re1R h); (case hc => exact inferInstance); (case hi => omega); (try case hx => exact inferInstance); (try case hv => rfl))
 | ((with_reducible apply go_fNR h); (case hc => exact inferInstance); (case hi => omega); (try case hp => exact inferInstance); (try case hv => rfl))
 | ((with_reducible apply go_faR h); (case hc => exact inferInstance); omega; omega)
 | ((with_reducible apply go_rlenR h); rfl)
))
      refine go_look1 h (by repeat (first | exact .here | apply Fnt.there)) KST um78 zFi f.name ?_
      rw [hget]
      simp only [Option.elim_some]
      refine go_alloc h zFi rfl fun q _ h => ?_
      have fin : ∀ (lg : Nat) (w : World), lg = crLong keep i f → Sat w0 (Cl q (cFi (f.s, f.safe)).toArray 86 :: Cl p #[.int .i64 d.room, m, .bool d.stop, .int .i64 d.left] 80 :: MapH kSt fiV m M :: LsH cSt 1 9 nv (d.fs.map (·.name)) :: L) w →
          F17_8 (ptr p) sv (.string (bs f.name)) (ptr q) (.int .i64 (lg : Nat)) nv (.int .i64 (d.fs.length : Nat)) (.int .i64 (i : Nat)) w K (fun a0 a1 a9 a10 a11 w => F17_2L k a0 a1 a9 a10 a11 w K) := by
        intro lg w elg h
        subst elg
        unfold F17_8 F17_8b
        (repeat (first
 | (simp (disch := omega) only [evA, evB, evC, bAdd_i64, bSub_i64])
 | (with_reducible apply go_ld1 h)
 | ((with_reducible first | apply go_ldA h | apply go_rd h | apply go_rdN h); rfl)
 | (with_reducible first | apply go_ldN h | apply go_lenR h)
 | ((with_reducible apply go_st h); intro _ h)
 | ((with_reducible apply go_stA h); rfl; rfl; (first | rfl | simp [OneV.o]); intro _ h)
 | ((with_reducible apply go_stN h); rfl; (first | rfl | simp [OneV.o]); intro _ h)
 | ((with_reducible apply go_box h); rfl; intro _ _ h)
 | ((with_reducible apply go_ixR h); omega)
 | ((with_reducible first | apply go_elR h | apply go_f1R h | apply go_rf1R h | apply go_relR h | apply go_e1R h | apply go_re1R h); (case hc => exact inferInstance); (case hi => omega); (try case hx => exact inferInstance); (try case hv => rfl))
 | ((with_reducible apply go_fNR h); (case hc => exact inferInstance); (case hi => omega); (try case hp => exact inferInstance); (try case hv => rfl))
 | ((with_reducible apply go_faR h); (case hc => exact inferInstance); omega; omega)
 | ((with_reducible apply go_rlenR h); rfl)
))
        refine go_some (sub_to (l := f.s) (i := crLong keep i f) hcl.2) ?_
        refine go_some (fbFi _ _) ?_
        refine eMapSet_sat (h.drew.frt (A := MapH kSt fiV m M)) KST um78 f.name (f.s.take (crLong keep i f), crLong keep i f) fun w h => ?_
        unfold F17_6 F17_6b
        (repeat (first
 | (simp (disch := omega) only [evA, evB, evC, bAdd_i64, bSub_i64])
 | (with_reducible apply go_ld1 h)
 | ((with_reducible first | apply go_ldA h | apply go_rd h | apply go_rdN h | apply go_rlen h); rfl)
 | (with_reducible first | apply go_ldN h | apply go_lenL h)
 | ((with_reducible apply go_st h); intro _ h)
 | ((with_reducible apply go_stA h); rfl; rfl; (first | rfl | simp [OneV.o]); intro _ h)
 | ((with_reducible apply go_stN h); rfl; (first | rfl | simp [OneV.o]); intro _ h)
 | ((with_reducible apply go_box h); rfl; intro _ _ h)
 | ((with_reducible apply go_ix h); omega)
 | ((with_reducible first | apply go_elN h | apply go_f1 h | apply go_rf1 h | apply go_rel h); (case hi => omega); (try case hx => exact inferInstance); (try case hv => rfl))
 | ((with_reducible apply go_fa h); omega; omega)
))
        refine ih (i + 1) _ w (by omega) (by omega) ?_ (h.got)
        have h1 := H.put STO.txt (crFil keep i f)
        have hsp := H.asc.ne STO.txt
        rw [List.pairwise_append, List.pairwise_cons] at hsp
        have e2 : kPut ltS fKey (crFil keep i f) (crF keep 0 (d.fs.take i) ++ f :: d.fs.drop (i + 1)) = crF keep 0 (d.fs.take i) ++ crFil keep i f :: d.fs.drop (i + 1) := by
          rw [kPut_rep STO.txt H.asc (x := crFil keep i f) (b := f) (by simp) rfl]
          exact kRep_split (b := f) rfl (fun d hd => hsp.2.2 d hd f (by simp)) (fun d hd e => hsp.2.1.1 d hd e.symm)
        rw [e2] at h1
        have e3 : crF keep 0 (d.fs.take (i + 1)) ++ d.fs.drop (i + 1) = crF keep 0 (d.fs.take i) ++ crFil keep i f :: d.fs.drop (i + 1) := by
          rw [List.take_succ_eq_append_getElem g, crF_snoc, hf, List.length_take, Nat.zero_add, Nat.min_eq_left hi, List.append_assoc]
          rfl
        rw [e3]; exact h1
      by_cases g2 : i < keep.length
      · have g2' : decide ((i : Int) < (keep.length : Int)) = true := by simpa using g2
        have esub : ((f.s.length : Nat) : Int) - ((f.safe : Nat) : Int) = ((f.s.length - f.safe : Nat) : Int) := by have := hfo.1; omega
        (repeat (first
 | (simp (disch := omega) only [evA, evB, evC, bAdd_i64, bSub_i64, g2', esub])
 | (with_reducible apply go_ld1 h)
 | ((with_reducible first | apply go_ldA h | apply go_rd h | apply go_rdN h); rfl)
 | (with_reducible first | apply go_ldN h | apply go_lenR h)
 | ((with_reducible apply go_st h); intro _ h)
 | ((with_reducible apply go_stA h); rfl; rfl; (first | rfl | simp [OneV.o]); intro _ h)
 | ((with_reducible apply go_stN h); rfl; (first | rfl | simp [OneV.o]); intro _ h)
 | ((with_reducible apply go_box h); rfl; intro _ _ h)
 | ((with_reducible apply go_ixR h); omega)
 | ((with_reducible first | apply go_elR h | apply go_f1R h | apply go_rf1R h | apply go_relR h | apply go_e1R h | apply go_re1R h); (case hc => exact inferInstance); (case hi => omega); (try case hx => exact inferInstance); (try case hv => rfl))
 | ((with_reducible apply go_fNR h); (case hc => exact inferInstance); (case hi => omega); (try case hp => exact inferInstance); (try case hv => rfl))
 | ((with_reducible apply go_faR h); (case hc => exact inferInstance); omega; omega)
 | ((with_reducible apply go_rlenR h); rfl)
))
        refine kept_spec (k := keep[i]) (many := f.s.length - f.safe) (by omega) ?_
        have hkl := keptN_le keep[i] (f.s.length - f.safe)
        have eadd : ((f.safe : Nat) : Int) + ((keptN keep[i] (f.s.length - f.safe) : Nat) : Int) = ((f.safe + keptN keep[i] (f.s.length - f.safe) : Nat) : Int) := by omega
        (repeat (first
 | (simp (disch := omega) only [evA, evB, evC, bAdd_i64, bSub_i64, eadd])
 | (with_reducible apply go_ld1 h)
 | ((with_reducible first | apply go_ldA h | apply go_rd h | apply go_rdN h); rfl)
 | (with_reducible first | apply go_ldN h | apply go_lenR h)
 | ((with_reducible apply go_st h); intro _ h)
 | ((with_reducible apply go_stA h); rfl; rfl; (first | rfl | simp [OneV.o]); intro _ h)
 | ((with_reducible apply go_stN h); rfl; (first | rfl | simp [OneV.o]); intro _ h)
 | ((with_reducible apply go_box h); rfl; intro _ _ h)
 | ((with_reducible apply go_ixR h); omega)
 | ((with_reducible first | apply go_elR h | apply go_f1R h | apply go_rf1R h | apply go_relR h | apply go_e1R h | apply go_re1R h); (case hc => exact inferInstance); (case hi => omega); (try case hx => exact inferInstance); (try case hv => rfl))
 | ((with_reducible apply go_fNR h); (case hc => exact inferInstance); (case hi => omega); (try case hp => exact inferInstance); (try case hv => rfl))
 | ((with_reducible apply go_faR h); (case hc => exact inferInstance); omega; omega)
 | ((with_reducible apply go_rlenR h); rfl)
))
        refine fin _ _ ?_ (h.drew.got)
        unfold crLong
        rw [List.getElem?_eq_getElem g2]
      · have g2' : decide ((i : Int) < (keep.length : Int)) = false := by simpa using g2
        (repeat (first
 | (simp (disch := omega) only [evA, evB, evC, bAdd_i64, bSub_i64, g2'])
 | (with_reducible apply go_ld1 h)
 | ((with_reducible first | apply go_ldA h | apply go_rd h | apply go_rdN h); rfl)
 | (with_reducible first | apply go_ldN h | apply go_lenR h)
 | ((with_reducible apply go_st h); intro _ h)
 | ((with_reducible apply go_stA h); rfl; rfl; (first | rfl | simp [OneV.o]); intro _ h)
 | ((with_reducible apply go_stN h); rfl; (first | rfl | simp [OneV.o]); intro _ h)
 | ((with_reducible apply go_box h); rfl; intro _ _ h)
 | ((with_reducible apply go_ixR h); omega)
 | ((with_reducible first | apply go_elR h | apply go_f1R h | apply go_rf1R h | apply go_relR h | apply go_e1R h | apply go_re1R h); (case hc => exact inferInstance); (case hi => omega); (try case hx => exact inferInstance); (try case hv => rfl))
 | ((with_reducible apply go_fNR h); (case hc => exact inferInstance); (case hi => omega); (try case hp => exact inferInstance); (try case hv => rfl))
 | ((with_reducible apply go_faR h); (case hc => exact inferInstance); omega; omega)
 | ((with_reducible apply go_rlenR h); rfl)
))
        refine fin _ _ ?_ (h.got)
        unfold crLong
        rw [List.getElem?_eq_none (by omega)]
    · have g' : decide ((i : Int) < (d.fs.length : Int)) = false := by simpa using g
      have e : i = d.fs.length := by omega
      subst e
      rw [List.take_length, List.drop_length, List.append_nil] at H
      (repeat (first
 | (simp (disch := omega) only [evA, evB, evC, bAdd_i64, bSub_i64, g'])
 | (with_reducible apply go_ld1 h)
 | ((with_reducible first | apply go_ldA h | apply go_rd h | apply go_rdN h | apply go_rlen h); rfl)
 | (with_reducible first | apply go_ldN h | apply go_lenL h)
 | ((with_reducible apply go_st h); intro _ h)
 | ((with_reducible apply go_stA h); rfl; rfl; (first | rfl | simp [OneV.o]); intro _ h)
 | ((with_reducible apply go_stN h); rfl; (first | rfl | simp [OneV.o]); intro _ h)
 | ((with_reducible apply go_box h); rfl; intro _ _ h)
 | ((with_reducible apply go_ix h); omega)
 | ((with_reducible first | apply go_elN h | apply go_f1 h | apply go_rf1 h | apply go_rel h); (case hi => omega); (try case hx => exact inferInstance); (try case hv => rfl))
 | ((with_reducible apply go_fa h); omega; omega)
))
      unfold F17_3 F17_3b
      (repeat (first
 | (simp (disch := omega) only [evA, evB, evC, bAdd_i64, bSub_i64])
 | (with_reducible apply go_ld1 h)
 | ((with_reducible first | apply go_ldA h | apply go_rd h | apply go_rdN h | apply go_rlen h); rfl)
 | (with_reducible first | apply go_ldN h | apply go_lenL h)
 | ((with_reducible apply go_st h); intro _ h)
 | ((with_reducible apply go_stA h); rfl; rfl; (first | rfl | simp [OneV.o]); intro _ h)
 | ((with_reducible apply go_stN h); rfl; (first | rfl | simp [OneV.o]); intro _ h)
 | ((with_reducible apply go_box h); rfl; intro _ _ h)
 | ((with_reducible apply go_ix h); omega)
 | ((with_reducible first | apply go_elN h | apply go_f1 h | apply go_rf1 h | apply go_rel h); (case hi => omega); (try case hx => exact inferInstance); (try case hv => rfl))
 | ((with_reducible apply go_fa h); omega; omega)
))
      exact hK _ (diskA_close (d := crashD keep d) H (crashD_ok ok keep) (h.got))
theorem dcrash_spec {sv : Value} {keep : List Int} [hrd : RdIn w0 L sv Int cI 1 keep] (hc : d.fs.length ≤ 1073741824) (h : Sat w0 (DiskA v d :: L) w) (hK : ∀ w', Sat w0 (DiskA v (crashD keep d) :: L) w' → K (.tuple #[]) w') : callP G17 [v, sv] w K := by
  refine c17 ?_
  unfold F17 F17_1 F17_1b
  refine dnames_spec hc h fun nv w h => ?_
  replace h := h.frt (A := DiskA v d)
  obtain ⟨p, m, M, rfl, H, ok, h2⟩ := diskA_open h
  clear h
  have h := h2
  clear h2
  (repeat (first
 | (simp (disch := omega) only [evA, evB, evC, bAdd_i64, bSub_i64])
 | (with_reducible apply go_ld1 h)
 | ((with_reducible first | apply go_ldA h | apply go_rd h | apply go_rdN h | apply go_rlen h); rfl)
 | (with_reducible first | apply go_ldN h | apply go_lenL h)
 | ((with_reducible apply go_st h); intro _ h)
 | ((with_reducible apply go_stA h); rfl; rfl; (first | rfl | simp [OneV.o]); intro _ h)
 | ((with_reducible apply go_stN h); rfl; (first | rfl | simp [OneV.o]); intro _ h)
 | ((with_reducible apply go_box h); rfl; intro _ _ h)
 | ((with_reducible apply go_ix h); omega)
 | ((with_reducible first | apply go_elN h | apply go_f1 h | apply go_rf1 h | apply go_rel h); (case hi => omega); (try case hx => exact inferInstance); (try case hv => rfl))
 | ((with_reducible apply go_fa h); omega; omega)
))
  rw [List.length_map]
  unfold F17_2
  exact crash_loop (keep := keep) hc ok hK fuel 0 M _ (by unfold fuel; omega) (by omega) (by simpa [crF] using H) (h.got)
end
end Go.Proofs.Gong

/- Dk7 -/
namespace Go.Proofs.Gong
open Go Go.Sx Go.Proofs
set_option maxRecDepth 100000
theorem CB1' : Cod (fun b : UInt8 => [Value.int .u8 b.toNat]) 1 := ⟨fun _ => rfl, fun _ => rfl, by omega⟩
theorem called_len {k : Int} {n : List UInt8} {d : Dk} : (calledD k n d).2.fs.length ≤ d.fs.length + 1 := by
  unfold calledD
  split
  · exact makeD_len
  split
  · exact appD_len
  split
  · exact syncD_len
  · exact renD_len
attribute [local irreducible] fBuild fLook fZero eqv bEqv Cl MapH LsH SlH ld1 ldN st callP eBox eAlloc lenM lenL eMapSet eDelete eAppend eBuildSl eRange eNext
section
variable {w0 w : World} {L : List HP} {K : Value → World → Prop} {v a b : Value} {d : Dk} {n x : List UInt8} {l : List (List UInt8)}
theorem sameT_loop [ra : RdIn w0 L a (List UInt8) cSt 1 l] [rb : RdIn w0 L b (List UInt8) cSt 1 l] (hl : l.length ≤ 1073741824) (hK : ∀ w', Sat w0 L w' → K (.bool true) w') : ∀ (k i : Nat) (w : World), l.length - i < k → i ≤ l.length → Sat w0 L w → F14_2L k a b (.bool true) (.int .i64 i) w K := by
  intro k
  induction k with
  | zero => intro i w hd; omega
  | succ k ih =>
    intro i w hd hi h
    rw [F14_2L]
    unfold F14_2b
    by_cases g : i < l.length
    · have g' : decide ((i : Int) < (l.length : Int)) = true := by simpa using g
      (repeat (first
 | (simp (disch := omega) only [evA, evB, evC, bAdd_i64, bSub_i64, g'])
 | (with_reducible apply go_ld1 h)
 | ((with_reducible first | apply go_ldA h | apply go_rd h | apply go_rdN h); rfl)
 | (with_reducible first | apply go_ldN h | apply go_lenR h)
 | ((with_reducible apply go_st h); intro _ h)
 | ((with_reducible apply go_stA h); rfl; rfl; (first | rfl | simp [OneV.o]); intro _ h)
 | ((with_reducible apply go_stN h); rfl; (first | rfl | simp [OneV.o]); intro _ h)
 | ((with_reducible apply go_box h); rfl; intro _ _ h)
 | ((with_reducible apply go_ixR h); omega)
 | ((with_reducible first | apply go_elR h | apply go_f1R h | apply go_rf1R h | apply go_relR h | apply go_e1R h | apply go_re1R h); (case hc => exact inferInstance); (case hi => omega); (try case hx => exact inferInstance); (try case hv => rfl))
 | ((with_reducible apply go_fNR h); (case hc => exact inferInstance); (case hi => omega); (try case hp => exact inferInstance); (try case hv => rfl))
 | ((with_reducible apply go_faR h); (case hc => exact inferInstance); omega; omega)
 | ((with_reducible apply go_rlenR h); rfl)
))
      exact ih (i + 1) _ (by omega) (by omega) h.drew
    · have g' : decide ((i : Int) < (l.length : Int)) = false := by simpa using g
      (repeat (first
 | (simp (disch := omega) only [evA, evB, evC, bAdd_i64, bSub_i64, g'])
 | (with_reducible apply go_ld1 h)
 | ((with_reducible first | apply go_ldA h | apply go_rd h | apply go_rdN h); rfl)
 | (with_reducible first | apply go_ldN h | apply go_lenR h)
 | ((with_reducible apply go_st h); intro _ h)
 | ((with_reducible apply go_stA h); rfl; rfl; (first | rfl | simp [OneV.o]); intro _ h)
 | ((with_reducible apply go_stN h); rfl; (first | rfl | simp [OneV.o]); intro _ h)
 | ((with_reducible apply go_box h); rfl; intro _ _ h)
 | ((with_reducible apply go_ixR h); omega)
 | ((with_reducible first | apply go_elR h | apply go_f1R h | apply go_rf1R h | apply go_relR h | apply go_e1R h | apply go_re1R h); (case hc => exact inferInstance); (case hi => omega); (try case hx => exact inferInstance); (try case hv => rfl))
 | ((with_reducible apply go_fNR h); (case hc => exact inferInstance); (case hi => omega); (try case hp => exact inferInstance); (try case hv => rfl))
 | ((with_reducible apply go_faR h); (case hc => exact inferInstance); omega; omega)
 | ((with_reducible apply go_rlenR h); rfl)
))
      unfold F14_3 F14_3b
      exact hK _ h
theorem sameT_spec [ra : RdIn w0 L a (List UInt8) cSt 1 l] [rb : RdIn w0 L b (List UInt8) cSt 1 l] (hl : l.length ≤ 1073741824) (h : Sat w0 L w) (hK : ∀ w', Sat w0 L w' → K (.bool true) w') : callP G14 [a, b] w K := by
  refine c14 ?_
  unfold F14 F14_1 F14_1b F14_2
  (repeat (first
 | (simp (disch := omega) only [evA, evB, evC, bAdd_i64, bSub_i64])
 | (with_reducible apply go_ld1 h)
 | ((with_reducible first | apply go_ldA h | apply go_rd h | apply go_rdN h); rfl)
 | (with_reducible first | apply go_ldN h | apply go_lenR h)
 | ((with_reducible apply go_st h); intro _ h)
 | ((with_reducible apply go_stA h); rfl; rfl; (first | rfl | simp [OneV.o]); intro _ h)
 | ((with_reducible apply go_stN h); rfl; (first | rfl | simp [OneV.o]); intro _ h)
 | ((with_reducible apply go_box h); rfl; intro _ _ h)
 | ((with_reducible apply go_ixR h); omega)
 | ((with_reducible first | apply go_elR h | apply go_f1R h | apply go_rf1R h | apply go_relR h | apply go_e1R h | apply go_re1R h); (case hc => exact inferInstance); (case hi => omega); (try case hx => exact inferInstance); (try case hv => rfl))
 | ((with_reducible apply go_fNR h); (case hc => exact inferInstance); (case hi => omega); (try case hp => exact inferInstance); (try case hv => rfl))
 | ((with_reducible apply go_faR h); (case hc => exact inferInstance); omega; omega)
 | ((with_reducible apply go_rlenR h); rfl)
))
  exact sameT_loop hl hK fuel 0 _ (by unfold fuel; omega) (by omega) h
theorem works25_spec (h : Sat w0 L w) (hK : ∀ w', Sat w0 L w' → K (.bool true) w') : callP G9 [] w K := by
  refine c9 ?_
  unfold F9
  refine dnew_spec h (fun hb => by omega) fun _ _ p w h => ?_
  have e1 : makeD [102] (newD 100) = (0, ⟨100, false, 0, [⟨[102], [], 0⟩]⟩) := by rfl
  have e2 : appD [102] [97, 98, 99] ⟨100, false, 0, [⟨[102], [], 0⟩]⟩ = (0, ⟨100, false, 0, [⟨[102], [97, 98, 99], 0⟩]⟩) := by rfl
  have e3 : syncD [102] ⟨100, false, 0, [⟨[102], [97, 98, 99], 0⟩]⟩ = (0, ⟨100, false, 0, [⟨[102], [97, 98, 99], 3⟩]⟩) := by rfl
  have e4 : appD [102] [100, 101, 102] ⟨100, false, 0, [⟨[102], [97, 98, 99], 3⟩]⟩ = (0, ⟨100, false, 0, [⟨[102], [97, 98, 99, 100, 101, 102], 3⟩]⟩) := by rfl
  have e5 : crashD [1] ⟨100, false, 0, [⟨[102], [97, 98, 99, 100, 101, 102], 3⟩]⟩ = ⟨100, false, 0, [⟨[102], [97, 98, 99, 100], 4⟩]⟩ := by rfl
  have e6 : fGet [102] [(⟨[102], [97, 98, 99, 100], 4⟩ : Fil)] = some ⟨[102], [97, 98, 99, 100], 4⟩ := by rfl
  (repeat (first
 | (simp (disch := omega) only [evA, evB, evC, bAdd_i64, bSub_i64])
 | (refine go_some (bEq_nilp up23   ..) ?_)
 | (with_reducible apply go_ld1 h)
 | ((with_reducible first | apply go_ldA h | apply go_rd h | apply go_rdN h | apply go_rlen h); rfl)
 | (with_reducible first | apply go_ldN h | apply go_lenL h)
 | ((with_reducible apply go_st h); intro _ h)
 | ((with_reducible apply go_stA h); rfl; rfl; (first | rfl | simp [OneV.o]); intro _ h)
 | ((with_reducible apply go_stN h); rfl; (first | rfl | simp [OneV.o]); intro _ h)
 | ((with_reducible apply go_box h); rfl; intro _ _ h)
 | ((with_reducible apply go_ix h); omega)
 | ((with_reducible first | apply go_elN h | apply go_f1 h | apply go_rf1 h | apply go_rel h); (case hi => omega); (try case hx => exact inferInstance); (try case hv => rfl))
 | ((with_reducible apply go_fa h); omega; omega)
))
  refine dmake_spec (n := [102]) h fun w h => ?_
  rw [e1] at h ⊢
  (repeat (first
 | (simp (disch := omega) only [evA, evB, evC, bAdd_i64, bSub_i64])
 | (with_reducible apply go_ld1 h)
 | ((with_reducible first | apply go_ldA h | apply go_rd h | apply go_rdN h | apply go_rlen h); rfl)
 | (with_reducible first | apply go_ldN h | apply go_lenL h)
 | ((with_reducible apply go_st h); intro _ h)
 | ((with_reducible apply go_stA h); rfl; rfl; (first | rfl | simp [OneV.o]); intro _ h)
 | ((with_reducible apply go_stN h); rfl; (first | rfl | simp [OneV.o]); intro _ h)
 | ((with_reducible apply go_box h); rfl; intro _ _ h)
 | ((with_reducible apply go_ix h); omega)
 | ((with_reducible first | apply go_elN h | apply go_f1 h | apply go_rf1 h | apply go_rel h); (case hi => omega); (try case hx => exact inferInstance); (try case hv => rfl))
 | ((with_reducible apply go_fa h); omega; omega)
))
  refine app_spec (n := [102]) (x := [97, 98, 99]) (by simp) (by simp) h fun w h => ?_
  rw [e2] at h ⊢
  (repeat (first
 | (simp (disch := omega) only [evA, evB, evC, bAdd_i64, bSub_i64])
 | (with_reducible apply go_ld1 h)
 | ((with_reducible first | apply go_ldA h | apply go_rd h | apply go_rdN h | apply go_rlen h); rfl)
 | (with_reducible first | apply go_ldN h | apply go_lenL h)
 | ((with_reducible apply go_st h); intro _ h)
 | ((with_reducible apply go_stA h); rfl; rfl; (first | rfl | simp [OneV.o]); intro _ h)
 | ((with_reducible apply go_stN h); rfl; (first | rfl | simp [OneV.o]); intro _ h)
 | ((with_reducible apply go_box h); rfl; intro _ _ h)
 | ((with_reducible apply go_ix h); omega)
 | ((with_reducible first | apply go_elN h | apply go_f1 h | apply go_rf1 h | apply go_rel h); (case hi => omega); (try case hx => exact inferInstance); (try case hv => rfl))
 | ((with_reducible apply go_fa h); omega; omega)
))
  refine dsync_spec (n := [102]) h fun w h => ?_
  rw [e3] at h ⊢
  (repeat (first
 | (simp (disch := omega) only [evA, evB, evC, bAdd_i64, bSub_i64])
 | (with_reducible apply go_ld1 h)
 | ((with_reducible first | apply go_ldA h | apply go_rd h | apply go_rdN h | apply go_rlen h); rfl)
 | (with_reducible first | apply go_ldN h | apply go_lenL h)
 | ((with_reducible apply go_st h); intro _ h)
 | ((with_reducible apply go_stA h); rfl; rfl; (first | rfl | simp [OneV.o]); intro _ h)
 | ((with_reducible apply go_stN h); rfl; (first | rfl | simp [OneV.o]); intro _ h)
 | ((with_reducible apply go_box h); rfl; intro _ _ h)
 | ((with_reducible apply go_ix h); omega)
 | ((with_reducible first | apply go_elN h | apply go_f1 h | apply go_rf1 h | apply go_rel h); (case hi => omega); (try case hx => exact inferInstance); (try case hv => rfl))
 | ((with_reducible apply go_fa h); omega; omega)
))
  refine app_spec (n := [102]) (x := [100, 101, 102]) (by simp) (by simp) h fun w h => ?_
  rw [e4] at h ⊢
  (repeat (first
 | (simp (disch := omega) only [evA, evB, evC, bAdd_i64, bSub_i64])
 | (with_reducible apply go_ld1 h)
 | ((with_reducible first | apply go_ldA h | apply go_rd h | apply go_rdN h | apply go_rlen h); rfl)
 | (with_reducible first | apply go_ldN h | apply go_lenL h)
 | ((with_reducible apply go_st h); intro _ h)
 | ((with_reducible apply go_stA h); rfl; rfl; (first | rfl | simp [OneV.o]); intro _ h)
 | ((with_reducible apply go_stN h); rfl; (first | rfl | simp [OneV.o]); intro _ h)
 | ((with_reducible apply go_box h); rfl; intro _ _ h)
 | ((with_reducible apply go_ix h); omega)
 | ((with_reducible first | apply go_elN h | apply go_f1 h | apply go_rf1 h | apply go_rel h); (case hi => omega); (try case hx => exact inferInstance); (try case hv => rfl))
 | ((with_reducible apply go_fa h); omega; omega)
))
  refine go_lit1 (f := cI) (x := (1 : Int)) CI h u22 (c := #[.int .i64 1]) (by kernel_rfl) rfl fun s w h => ?_
  refine dcrash_spec (keep := [1]) (L := LsH cI 1 3 s [1] :: L) (by simp) h.f1 fun w h => ?_
  rw [e5] at h
  (repeat (first
 | (simp (disch := omega) only [evA, evB, evC, bAdd_i64, bSub_i64])
 | (with_reducible apply go_ld1 h)
 | ((with_reducible first | apply go_ldA h | apply go_rd h | apply go_rdN h | apply go_rlen h); rfl)
 | (with_reducible first | apply go_ldN h | apply go_lenL h)
 | ((with_reducible apply go_st h); intro _ h)
 | ((with_reducible apply go_stA h); rfl; rfl; (first | rfl | simp [OneV.o]); intro _ h)
 | ((with_reducible apply go_stN h); rfl; (first | rfl | simp [OneV.o]); intro _ h)
 | ((with_reducible apply go_box h); rfl; intro _ _ h)
 | ((with_reducible apply go_ix h); omega)
 | ((with_reducible first | apply go_elN h | apply go_f1 h | apply go_rf1 h | apply go_rel h); (case hi => omega); (try case hx => exact inferInstance); (try case hv => rfl))
 | ((with_reducible apply go_fa h); omega; omega)
))
  refine dread_spec (n := [102]) h fun w h => ?_
  simp only [e6, Option.elim_some]
  (repeat (first
 | (simp (disch := omega) only [evA, evB, evC, bAdd_i64, bSub_i64])
 | (with_reducible apply go_ld1 h)
 | ((with_reducible first | apply go_ldA h | apply go_rd h | apply go_rdN h | apply go_rlen h); rfl)
 | (with_reducible first | apply go_ldN h | apply go_lenL h)
 | ((with_reducible apply go_st h); intro _ h)
 | ((with_reducible apply go_stA h); rfl; rfl; (first | rfl | simp [OneV.o]); intro _ h)
 | ((with_reducible apply go_stN h); rfl; (first | rfl | simp [OneV.o]); intro _ h)
 | ((with_reducible apply go_box h); rfl; intro _ _ h)
 | ((with_reducible apply go_ix h); omega)
 | ((with_reducible first | apply go_elN h | apply go_f1 h | apply go_rf1 h | apply go_rel h); (case hi => omega); (try case hx => exact inferInstance); (try case hv => rfl))
 | ((with_reducible apply go_fa h); omega; omega)
))
  exact hK _ (h.got)
theorem called_spec {y : Int} (hc : d.fs.length ≤ 1073741824) (h : Sat w0 (DiskA v d :: L) w) (hK : ∀ w', Sat w0 (DiskA v (calledD (bel (IntKind.i64.wrap (y.tdiv 3)) 4) n d).2 :: L) w' → K (.int .i64 (calledD (bel (IntKind.i64.wrap (y.tdiv 3)) 4) n d).1) w') : callP G12 [v, .string (bs n), .int .i64 y] w K := by
  refine c12 ?_
  unfold F12
  refine go_some (bQuo_int _ _ _ (by decide)) ?_
  refine Below_spec (by decide) (by decide) fun r h1 h2 hr => ?_
  rw [← hr] at hK
  unfold calledD at hK
  have h4 : r = 0 ∨ r = 1 ∨ r = 2 ∨ r = 3 := by omega
  rcases h4 with rfl | rfl | rfl | rfl
  · rw [if_pos rfl] at hK
    (repeat (first
 | (simp (disch := omega) only [evA, evB, evC, bAdd_i64, bSub_i64, Int.reduceEq])
 | (with_reducible apply go_ld1 h)
 | ((with_reducible first | apply go_ldA h | apply go_rd h | apply go_rdN h | apply go_rlen h); rfl)
 | (with_reducible first | apply go_ldN h | apply go_lenL h)
 | ((with_reducible apply go_st h); intro _ h)
 | ((with_reducible apply go_stA h); rfl; rfl; (first | rfl | simp [OneV.o]); intro _ h)
 | ((with_reducible apply go_stN h); rfl; (first | rfl | simp [OneV.o]); intro _ h)
 | ((with_reducible apply go_box h); rfl; intro _ _ h)
 | ((with_reducible apply go_ix h); omega)
 | ((with_reducible first | apply go_elN h | apply go_f1 h | apply go_rf1 h | apply go_rel h); (case hi => omega); (try case hx => exact inferInstance); (try case hv => rfl))
 | ((with_reducible apply go_fa h); omega; omega)
))
    exact dmake_spec h hK
  · rw [if_neg (by decide), if_pos rfl] at hK
    (repeat (first
 | (simp (disch := omega) only [evA, evB, evC, bAdd_i64, bSub_i64, Int.reduceEq])
 | (with_reducible apply go_ld1 h)
 | ((with_reducible first | apply go_ldA h | apply go_rd h | apply go_rdN h | apply go_rlen h); rfl)
 | (with_reducible first | apply go_ldN h | apply go_lenL h)
 | ((with_reducible apply go_st h); intro _ h)
 | ((with_reducible apply go_stA h); rfl; rfl; (first | rfl | simp [OneV.o]); intro _ h)
 | ((with_reducible apply go_stN h); rfl; (first | rfl | simp [OneV.o]); intro _ h)
 | ((with_reducible apply go_box h); rfl; intro _ _ h)
 | ((with_reducible apply go_ix h); omega)
 | ((with_reducible first | apply go_elN h | apply go_f1 h | apply go_rf1 h | apply go_rel h); (case hi => omega); (try case hx => exact inferInstance); (try case hv => rfl))
 | ((with_reducible apply go_fa h); omega; omega)
))
    exact app_spec (x := dataB) hc (by simp [dataB]) h hK
  · rw [if_neg (by decide), if_neg (by decide), if_pos rfl] at hK
    (repeat (first
 | (simp (disch := omega) only [evA, evB, evC, bAdd_i64, bSub_i64, Int.reduceEq])
 | (with_reducible apply go_ld1 h)
 | ((with_reducible first | apply go_ldA h | apply go_rd h | apply go_rdN h | apply go_rlen h); rfl)
 | (with_reducible first | apply go_ldN h | apply go_lenL h)
 | ((with_reducible apply go_st h); intro _ h)
 | ((with_reducible apply go_stA h); rfl; rfl; (first | rfl | simp [OneV.o]); intro _ h)
 | ((with_reducible apply go_stN h); rfl; (first | rfl | simp [OneV.o]); intro _ h)
 | ((with_reducible apply go_box h); rfl; intro _ _ h)
 | ((with_reducible apply go_ix h); omega)
 | ((with_reducible first | apply go_elN h | apply go_f1 h | apply go_rf1 h | apply go_rel h); (case hi => omega); (try case hx => exact inferInstance); (try case hv => rfl))
 | ((with_reducible apply go_fa h); omega; omega)
))
    exact dsync_spec h hK
  · rw [if_neg (by decide), if_neg (by decide), if_neg (by decide)] at hK
    (repeat (first
 | (simp (disch := omega) only [evA, evB, evC, bAdd_i64, bSub_i64, Int.reduceEq])
 | (with_reducible apply go_ld1 h)
 | ((with_reducible first | apply go_ldA h | apply go_rd h | apply go_rdN h | apply go_rlen h); rfl)
 | (with_reducible first | apply go_ldN h | apply go_lenL h)
 | ((with_reducible apply go_st h); intro _ h)
 | ((with_reducible apply go_stA h); rfl; rfl; (first | rfl | simp [OneV.o]); intro _ h)
 | ((with_reducible apply go_stN h); rfl; (first | rfl | simp [OneV.o]); intro _ h)
 | ((with_reducible apply go_box h); rfl; intro _ _ h)
 | ((with_reducible apply go_ix h); omega)
 | ((with_reducible first | apply go_elN h | apply go_f1 h | apply go_rf1 h | apply go_rel h); (case hi => omega); (try case hx => exact inferInstance); (try case hv => rfl))
 | ((with_reducible apply go_fa h); omega; omega)
))
    exact dren_spec (b := [97]) h hK
end
end Go.Proofs.Gong

/- Dk8 -/
namespace Go.Proofs.Gong
open Go Go.Sx Go.Proofs
set_option maxRecDepth 100000
def nmK (r : Nat) : List UInt8 := [UInt8.ofNat (97 + r)]
def N3 : List (List UInt8) := [[97], [98], [99]]
theorem nmK_mem {r : Nat} (h : r < 3) : nmK r ∈ N3 := by
  have : r = 0 ∨ r = 1 ∨ r = 2 := by omega
  rcases this with rfl | rfl | rfl <;> decide
theorem stops_end {fs : List Fil} {left : Int} (ha : KAsc ltS fKey fs) (h : Few N3 200 fs) : (makeD [122] (crashD [] (dS 1048576 left fs))).1 = 0 ∧ (appD [122] [120] (makeD [122] (crashD [] (dS 1048576 left fs))).2).1 = 0 := by
  have hno : fGet [122] (crF [] 0 fs) = none := by
    refine kGet_none.2 fun f hf e => ?_
    have hk : fKey f ∈ (crF [] 0 fs).map fKey := List.mem_map.2 ⟨f, hf, rfl⟩
    rw [crF_keys] at hk
    obtain ⟨g, hg, e2⟩ := List.mem_map.1 hk
    have := h.1 g hg
    have e3 : g.name = [122] := e2.trans e
    rw [e3] at this
    revert this; decide
  have hu := crF_used (keep := []) (i := 0) (l := fs)
  have hu2 := h.2
  have e1 : makeD [122] (crashD [] (dS 1048576 left fs)) = (0, ⟨1048576, false, 0, fPut ⟨[122], [], 0⟩ (crF [] 0 fs)⟩) := by
    unfold makeD
    rw [if_neg (by decide)]
    have : (crashD [] (dS 1048576 left fs)).fs = crF [] 0 fs := rfl
    rw [this, hno]
    rfl
  rw [e1]
  refine ⟨rfl, ?_⟩
  unfold appD
  have ha2 : KAsc ltS fKey (crF [] 0 fs) := by rw [kasc_keys, crF_keys, ← kasc_keys]; exact ha
  have hg : fGet [122] (fPut ⟨[122], [], 0⟩ (crF [] 0 fs)) = some ⟨[122], [], 0⟩ := by
    rw [show fGet [122] (fPut ⟨[122], [], 0⟩ (crF [] 0 fs)) = _ from kGet_put STO.txt ha2, if_pos rfl]
  have hu3 := usedF_put (f := ⟨[122], [], 0⟩) (l := crF [] 0 fs)
  have hu4 := usedF_del_le (n := [122]) (l := crF [] 0 fs)
  simp only [hg]
  rw [if_neg (by simp only [List.length_cons, List.length_nil]; simp only [List.length_nil] at hu3; omega)]
  rfl
attribute [local irreducible] fBuild fLook fZero eqv bEqv Cl MapH LsH SlH ld1 ldN st callP eBox eAlloc lenM lenL eMapSet eDelete eAppend eBuildSl eRange eNext
section
variable {w0 w : World} {L : List HP} {K : Value → World → Prop} {s0 a b : Value} {l : List Int}
theorem stops_tail {fs : List Fil} {n done : Int} (ha : KAsc ltS fKey fs) (hd : 0 ≤ done ∧ done ≤ n) (hf : Few N3 200 fs) (hc : fs.length ≤ 1000) (hK : ∀ w', Sat w0 L w' → K (.bool true) w')
    (h : Sat w0 (DiskA a (dS 1048576 (n - done) fs) :: DiskA b (dG 1048576 fs) :: L) w) : F3_3 (.int .i64 n) a b (.int .i64 done) w K := by
  unfold F3_3 F3_3b
  refine dnames_spec (by show fs.length ≤ _; omega) h fun x1 w h => ?_
  refine dnames_spec (d := dG 1048576 fs) (by show fs.length ≤ _; omega) (h.frt (A := DiskA b (dG 1048576 fs))) fun x2 w h => ?_
  replace h : Sat w0 (LsH cSt 1 9 x2 (fs.map fKey) :: DiskA b (dG 1048576 fs) :: LsH cSt 1 9 x1 (fs.map fKey) :: DiskA a (dS 1048576 (n - done) fs) :: L) w := h
  refine sameT_spec (l := fs.map fKey) (by simp; omega) h fun w h => ?_
  (repeat (first
 | (simp (disch := omega) only [evA, evB, evC, bAdd_i64, bSub_i64])
 | (with_reducible apply go_ld1 h)
 | ((with_reducible first | apply go_ldA h | apply go_rd h | apply go_rdN h | apply go_rlen h); rfl)
 | (with_reducible first | apply go_ldN h | apply go_lenL h)
 | ((with_reducible apply go_st h); intro _ h)
 | ((with_reducible apply go_stA h); rfl; rfl; (first | rfl | simp [OneV.o]); intro _ h)
 | ((with_reducible apply go_stN h); rfl; (first | rfl | simp [OneV.o]); intro _ h)
 | ((with_reducible apply go_box h); rfl; intro _ _ h)
 | ((with_reducible apply go_ix h); omega)
 | ((with_reducible first | apply go_elN h | apply go_f1 h | apply go_rf1 h | apply go_rel h); (case hi => omega); (try case hx => exact inferInstance); (try case hv => rfl))
 | ((with_reducible apply go_fa h); omega; omega)
))
  refine used_spec (d := dS 1048576 (n - done) fs) (by show fs.length ≤ _; omega) (h.frt) fun w h => ?_
  (repeat (first
 | (simp (disch := omega) only [evA, evB, evC, bAdd_i64, bSub_i64])
 | (with_reducible apply go_ld1 h)
 | ((with_reducible first | apply go_ldA h | apply go_rd h | apply go_rdN h | apply go_rlen h); rfl)
 | (with_reducible first | apply go_ldN h | apply go_lenL h)
 | ((with_reducible apply go_st h); intro _ h)
 | ((with_reducible apply go_stA h); rfl; rfl; (first | rfl | simp [OneV.o]); intro _ h)
 | ((with_reducible apply go_stN h); rfl; (first | rfl | simp [OneV.o]); intro _ h)
 | ((with_reducible apply go_box h); rfl; intro _ _ h)
 | ((with_reducible apply go_ix h); omega)
 | ((with_reducible first | apply go_elN h | apply go_f1 h | apply go_rf1 h | apply go_rel h); (case hi => omega); (try case hx => exact inferInstance); (try case hv => rfl))
 | ((with_reducible apply go_fa h); omega; omega)
))
  refine used_spec (d := dG 1048576 fs) (by show fs.length ≤ _; omega) (h.frt (A := DiskA b (dG 1048576 fs))) fun w h => ?_
  have g1 : decide (done > n) = false := by simp; omega
  have eu : (usedF (dS 1048576 (n - done) fs).fs) = (usedF (dG 1048576 fs).fs) := rfl
  rw [eu]
  (repeat (first
 | (simp (disch := omega) only [evA, evB, evC, bAdd_i64, bSub_i64, g1])
 | (with_reducible apply go_ld1 h)
 | ((with_reducible first | apply go_ldA h | apply go_rd h | apply go_rdN h | apply go_rlen h); rfl)
 | (with_reducible first | apply go_ldN h | apply go_lenL h)
 | ((with_reducible apply go_st h); intro _ h)
 | ((with_reducible apply go_stA h); rfl; rfl; (first | rfl | simp [OneV.o]); intro _ h)
 | ((with_reducible apply go_stN h); rfl; (first | rfl | simp [OneV.o]); intro _ h)
 | ((with_reducible apply go_box h); rfl; intro _ _ h)
 | ((with_reducible apply go_ix h); omega)
 | ((with_reducible first | apply go_elN h | apply go_f1 h | apply go_rf1 h | apply go_rel h); (case hi => omega); (try case hx => exact inferInstance); (try case hv => rfl))
 | ((with_reducible apply go_fa h); omega; omega)
))
  have h2 := Sat.nilLs cI 1 3 h
  refine dcrash_spec (v := a) (d := dS 1048576 (n - done) fs) (keep := []) (L := LsH cI 1 3 (.slice none 0 0) [] :: DiskA b (dG 1048576 fs) :: L) (by show fs.length ≤ _; omega) (h2.got) fun w h => ?_
  obtain ⟨e1, e2⟩ := stops_end (left := n - done) ha hf
  have el : (makeD [122] (crashD [] (dS 1048576 (n - done) fs))).2.fs.length ≤ 1073741824 := by
    refine Nat.le_trans makeD_len ?_
    show (crF [] 0 fs).length + 1 ≤ _
    rw [crF_len]; omega
  refine stopped_spec h ?_
  have es : stoppedD (crashD [] (dS 1048576 (n - done) fs)) = false := rfl
  rw [es]
  (repeat (first
 | (simp (disch := omega) only [evA, evB, evC, bAdd_i64, bSub_i64])
 | (with_reducible apply go_ld1 h)
 | ((with_reducible first | apply go_ldA h | apply go_rd h | apply go_rdN h | apply go_rlen h); rfl)
 | (with_reducible first | apply go_ldN h | apply go_lenL h)
 | ((with_reducible apply go_st h); intro _ h)
 | ((with_reducible apply go_stA h); rfl; rfl; (first | rfl | simp [OneV.o]); intro _ h)
 | ((with_reducible apply go_stN h); rfl; (first | rfl | simp [OneV.o]); intro _ h)
 | ((with_reducible apply go_box h); rfl; intro _ _ h)
 | ((with_reducible apply go_ix h); omega)
 | ((with_reducible first | apply go_elN h | apply go_f1 h | apply go_rf1 h | apply go_rel h); (case hi => omega); (try case hx => exact inferInstance); (try case hv => rfl))
 | ((with_reducible apply go_fa h); omega; omega)
))
  refine dmake_spec (n := [122]) h fun w h => ?_
  rw [e1]
  (repeat (first
 | (simp (disch := omega) only [evA, evB, evC, bAdd_i64, bSub_i64])
 | (with_reducible apply go_ld1 h)
 | ((with_reducible first | apply go_ldA h | apply go_rd h | apply go_rdN h | apply go_rlen h); rfl)
 | (with_reducible first | apply go_ldN h | apply go_lenL h)
 | ((with_reducible apply go_st h); intro _ h)
 | ((with_reducible apply go_stA h); rfl; rfl; (first | rfl | simp [OneV.o]); intro _ h)
 | ((with_reducible apply go_stN h); rfl; (first | rfl | simp [OneV.o]); intro _ h)
 | ((with_reducible apply go_box h); rfl; intro _ _ h)
 | ((with_reducible apply go_ix h); omega)
 | ((with_reducible first | apply go_elN h | apply go_f1 h | apply go_rf1 h | apply go_rel h); (case hi => omega); (try case hx => exact inferInstance); (try case hv => rfl))
 | ((with_reducible apply go_fa h); omega; omega)
))
  refine app_spec (n := [122]) (x := [120]) el (by simp) h fun w h => ?_
  rw [e2]
  (repeat (first
 | (simp (disch := omega) only [evA, evB, evC, bAdd_i64, bSub_i64])
 | (with_reducible apply go_ld1 h)
 | ((with_reducible first | apply go_ldA h | apply go_rd h | apply go_rdN h | apply go_rlen h); rfl)
 | (with_reducible first | apply go_ldN h | apply go_lenL h)
 | ((with_reducible apply go_st h); intro _ h)
 | ((with_reducible apply go_stA h); rfl; rfl; (first | rfl | simp [OneV.o]); intro _ h)
 | ((with_reducible apply go_stN h); rfl; (first | rfl | simp [OneV.o]); intro _ h)
 | ((with_reducible apply go_box h); rfl; intro _ _ h)
 | ((with_reducible apply go_ix h); omega)
 | ((with_reducible first | apply go_elN h | apply go_f1 h | apply go_rf1 h | apply go_rel h); (case hi => omega); (try case hx => exact inferInstance); (try case hv => rfl))
 | ((with_reducible apply go_fa h); omega; omega)
))
  exact hK _ (h.got)
theorem stops_loop {n : Int} (hn : 0 ≤ n ∧ n < 50) [hrd : RdIn w0 L s0 Int cI 1 l] (hlen : lenL s0 = some (.int .i64 l.length)) (hK : ∀ w', Sat w0 L w' → K (.bool true) w') :
    ∀ (k i : Nat) (done : Int) (fs : List Fil) (w : World), 40 - i < k → i ≤ 40 → 0 ≤ done ∧ done ≤ n → Few N3 (4 * i) fs → fs.length ≤ i → Sat w0 (DiskA a (dS 1048576 (n - done) fs) :: DiskA b (dG 1048576 fs) :: L) w →
      F3_2L k s0 (.int .i64 n) a b (.int .i64 done) (.int .i64 i) w K := by
  intro k
  induction k with
  | zero => intro i _ _ _ hd; omega
  | succ k ih =>
    intro i done fs w hd hi hdn hf hfl h
    rw [F3_2L]
    unfold F3_4 F3_4b
    have ha : KAsc ltS fKey fs := (diskA_ok h.f1).asc
    have fin : F3_3 (.int .i64 n) a b (.int .i64 done) w K := stops_tail ha hdn ⟨hf.1, by have := hf.2; omega⟩ (by omega) hK h
    by_cases g : i < l.length
    · have g' : decide ((i : Int) < (l.length : Int)) = true := by simpa using g
      by_cases g2 : i < 40
      · have g2' : decide ((i : Int) < 40) = true := by simp; omega
        (repeat (first
 | (simp (disch := omega) only [evA, evB, evC, bAdd_i64, bSub_i64, g', g2'])
 | (with_reducible apply go_ld1 h)
 | ((with_reducible first | apply go_ldA h | apply go_rd h | apply go_rdN h); rfl)
 | (with_reducible first | apply go_ldN h | apply go_lenR h)
 | ((with_reducible apply go_st h); intro _ h)
 | ((with_reducible apply go_stA h); rfl; rfl; (first | rfl | simp [OneV.o]); intro _ h)
 | ((with_reducible apply go_stN h); rfl; (first | rfl | simp [OneV.o]); intro _ h)
 | ((with_reducible apply go_box h); rfl; intro _ _ h)
 | ((with_reducible apply go_ixR h); omega)
 | ((with_reducible first | apply go_elR h | apply go_f1R h | apply go_rf1R h | apply go_relR h | apply go_e1R h | apply go_re1R h); (case hc => exact inferInstance); (case hi => omega); (try case hx => exact inferInstance); (try case hv => rfl))
 | ((with_reducible apply go_fNR h); (case hc => exact inferInstance); (case hi => omega); (try case hp => exact inferInstance); (try case hv => rfl))
 | ((with_reducible apply go_faR h); (case hc => exact inferInstance); omega; omega)
 | ((with_reducible apply go_rlenR h); rfl)
))
        unfold F3_5 F3_7 F3_7b
        (repeat (first
 | (simp (disch := omega) only [evA, evB, evC, bAdd_i64, bSub_i64])
 | (with_reducible apply go_ld1 h)
 | ((with_reducible first | apply go_ldA h | apply go_rd h | apply go_rdN h); rfl)
 | (with_reducible first | apply go_ldN h | apply go_lenR h)
 | ((with_reducible apply go_st h); intro _ h)
 | ((with_reducible apply go_stA h); rfl; rfl; (first | rfl | simp [OneV.o]); intro _ h)
 | ((with_reducible apply go_stN h); rfl; (first | rfl | simp [OneV.o]); intro _ h)
 | ((with_reducible apply go_box h); rfl; intro _ _ h)
 | ((with_reducible apply go_ixR h); omega)
 | ((with_reducible first | apply go_elR h | apply go_f1R h | apply go_rf1R h | apply go_relR h | apply go_e1R h | apply go_re1R h); (case hc => exact inferInstance); (case hi => omega); (try case hx => exact inferInstance); (try case hv => rfl))
 | ((with_reducible apply go_fNR h); (case hc => exact inferInstance); (case hi => omega); (try case hp => exact inferInstance); (try case hv => rfl))
 | ((with_reducible apply go_faR h); (case hc => exact inferInstance); omega; omega)
 | ((with_reducible apply go_rlenR h); rfl)
))
        refine Below_spec (by decide) (by decide) fun r h1 h2 _ => ?_
        obtain ⟨r, rfl⟩ : ∃ q : Nat, r = q := ⟨r.toNat, by omega⟩
        have hr : r < 3 := by omega
        have hmem := nmK_mem hr
        refine go_some (bAdd_i64 (by omega)) ?_
        refine go_some (show cInt .u8 (.int .i64 (97 + (r : Int))) = some (.int .u8 ((UInt8.ofNat (97 + r)).toNat : Nat)) from by
          rw [show (97 : Int) + (r : Int) = ((97 + r : Nat) : Int) from by omega]
          simp only [cInt]; congr 2) ?_
        refine go_lit1 (f := fun b : UInt8 => [.int .u8 b.toNat]) (x := UInt8.ofNat (97 + r)) CB1' h u30 (c := #[.int .u8 ((UInt8.ofNat (97 + r)).toNat : Nat)]) (by kernel_rfl) rfl fun s w h => ?_
        refine go_some (cBytes_rd (l := [UInt8.ofNat (97 + r)]) (ls_rd h) (by simp)) ?_
        replace h := h.drop
        (repeat (first
 | (simp (disch := omega) only [evA, evB, evC, bAdd_i64, bSub_i64])
 | (with_reducible apply go_ld1 h)
 | ((with_reducible first | apply go_ldA h | apply go_rd h | apply go_rdN h); rfl)
 | (with_reducible first | apply go_ldN h | apply go_lenR h)
 | ((with_reducible apply go_st h); intro _ h)
 | ((with_reducible apply go_stA h); rfl; rfl; (first | rfl | simp [OneV.o]); intro _ h)
 | ((with_reducible apply go_stN h); rfl; (first | rfl | simp [OneV.o]); intro _ h)
 | ((with_reducible apply go_box h); rfl; intro _ _ h)
 | ((with_reducible apply go_ixR h); omega)
 | ((with_reducible first | apply go_elR h | apply go_f1R h | apply go_rf1R h | apply go_relR h | apply go_e1R h | apply go_re1R h); (case hc => exact inferInstance); (case hi => omega); (try case hx => exact inferInstance); (try case hv => rfl))
 | ((with_reducible apply go_fNR h); (case hc => exact inferInstance); (case hi => omega); (try case hp => exact inferInstance); (try case hv => rfl))
 | ((with_reducible apply go_faR h); (case hc => exact inferInstance); omega; omega)
 | ((with_reducible apply go_rlenR h); rfl)
))
        have hboth := both_called (bel (IntKind.i64.wrap (l[i].tdiv 3)) 4) (nmK r) 1048576 (n - done) fs
        have hfew := few_called (k := bel (IntKind.i64.wrap (l[i].tdiv 3)) 4) (n := nmK r) (d := dG 1048576 fs) ha hf hmem (by decide)
        have hln := called_len (k := bel (IntKind.i64.wrap (l[i].tdiv 3)) 4) (n := nmK r) (d := dG 1048576 fs)
        have hfew0 : Few N3 (4 * (i + 1)) fs := ⟨hf.1, by have := hf.2; omega⟩
        refine called_spec (n := nmK r) (y := l[i]) (d := dS 1048576 (n - done) fs) (by show fs.length ≤ _; omega) h fun w h => ?_
        rcases hboth with ⟨g3, e⟩ | ⟨fs', g3, e1, e2⟩ | ⟨c, c0, c1, e1, e2⟩
        · rw [e] at h ⊢
          have hdn2 : done = n := by omega
          have g4 : decide (done = n) = true := by simpa using hdn2
          (repeat (first
 | (simp (disch := omega) only [evA, evB, evC, bAdd_i64, bSub_i64, g4])
 | (with_reducible apply go_ld1 h)
 | ((with_reducible first | apply go_ldA h | apply go_rd h | apply go_rdN h | apply go_rlen h); rfl)
 | (with_reducible first | apply go_ldN h | apply go_lenL h)
 | ((with_reducible apply go_st h); intro _ h)
 | ((with_reducible apply go_stA h); rfl; rfl; (first | rfl | simp [OneV.o]); intro _ h)
 | ((with_reducible apply go_stN h); rfl; (first | rfl | simp [OneV.o]); intro _ h)
 | ((with_reducible apply go_box h); rfl; intro _ _ h)
 | ((with_reducible apply go_ix h); omega)
 | ((with_reducible first | apply go_elN h | apply go_f1 h | apply go_rf1 h | apply go_rel h); (case hi => omega); (try case hx => exact inferInstance); (try case hv => rfl))
 | ((with_reducible apply go_fa h); omega; omega)
))
          refine stopped_spec h ?_
          have es : stoppedD (dS 1048576 (n - done) fs) = true := by simp [stoppedD, dS, g3]
          rw [es]
          (repeat (first
 | (simp (disch := omega) only [evA, evB, evC, bAdd_i64, bSub_i64])
 | (with_reducible apply go_ld1 h)
 | ((with_reducible first | apply go_ldA h | apply go_rd h | apply go_rdN h | apply go_rlen h); rfl)
 | (with_reducible first | apply go_ldN h | apply go_lenL h)
 | ((with_reducible apply go_st h); intro _ h)
 | ((with_reducible apply go_stA h); rfl; rfl; (first | rfl | simp [OneV.o]); intro _ h)
 | ((with_reducible apply go_stN h); rfl; (first | rfl | simp [OneV.o]); intro _ h)
 | ((with_reducible apply go_box h); rfl; intro _ _ h)
 | ((with_reducible apply go_ix h); omega)
 | ((with_reducible first | apply go_elN h | apply go_f1 h | apply go_rf1 h | apply go_rel h); (case hi => omega); (try case hx => exact inferInstance); (try case hv => rfl))
 | ((with_reducible apply go_fa h); omega; omega)
))
          unfold F3_6 F3_6b
          (repeat (first
 | (simp (disch := omega) only [evA, evB, evC, bAdd_i64, bSub_i64])
 | (with_reducible apply go_ld1 h)
 | ((with_reducible first | apply go_ldA h | apply go_rd h | apply go_rdN h | apply go_rlen h); rfl)
 | (with_reducible first | apply go_ldN h | apply go_lenL h)
 | ((with_reducible apply go_st h); intro _ h)
 | ((with_reducible apply go_stA h); rfl; rfl; (first | rfl | simp [OneV.o]); intro _ h)
 | ((with_reducible apply go_stN h); rfl; (first | rfl | simp [OneV.o]); intro _ h)
 | ((with_reducible apply go_box h); rfl; intro _ _ h)
 | ((with_reducible apply go_ix h); omega)
 | ((with_reducible first | apply go_elN h | apply go_f1 h | apply go_rf1 h | apply go_rel h); (case hi => omega); (try case hx => exact inferInstance); (try case hv => rfl))
 | ((with_reducible apply go_fa h); omega; omega)
))
          exact ih (i + 1) done fs _ (by omega) (by omega) hdn hfew0 (by omega) h
        · rw [e2] at hfew hln
          rw [e1] at h ⊢
          (repeat (first
 | (simp (disch := omega) only [evA, evB, evC, bAdd_i64, bSub_i64, Int.reduceEq])
 | (with_reducible apply go_ld1 h)
 | ((with_reducible first | apply go_ldA h | apply go_rd h | apply go_rdN h | apply go_rlen h); rfl)
 | (with_reducible first | apply go_ldN h | apply go_lenL h)
 | ((with_reducible apply go_st h); intro _ h)
 | ((with_reducible apply go_stA h); rfl; rfl; (first | rfl | simp [OneV.o]); intro _ h)
 | ((with_reducible apply go_stN h); rfl; (first | rfl | simp [OneV.o]); intro _ h)
 | ((with_reducible apply go_box h); rfl; intro _ _ h)
 | ((with_reducible apply go_ix h); omega)
 | ((with_reducible first | apply go_elN h | apply go_f1 h | apply go_rf1 h | apply go_rel h); (case hi => omega); (try case hx => exact inferInstance); (try case hv => rfl))
 | ((with_reducible apply go_fa h); omega; omega)
))
          unfold F3_8 F3_8b
          (repeat (first
 | (simp (disch := omega) only [evA, evB, evC, bAdd_i64, bSub_i64])
 | (with_reducible apply go_ld1 h)
 | ((with_reducible first | apply go_ldA h | apply go_rd h | apply go_rdN h); rfl)
 | (with_reducible first | apply go_ldN h | apply go_lenR h)
 | ((with_reducible apply go_st h); intro _ h)
 | ((with_reducible apply go_stA h); rfl; rfl; (first | rfl | simp [OneV.o]); intro _ h)
 | ((with_reducible apply go_stN h); rfl; (first | rfl | simp [OneV.o]); intro _ h)
 | ((with_reducible apply go_box h); rfl; intro _ _ h)
 | ((with_reducible apply go_ixR h); omega)
 | ((with_reducible first | apply go_elR h | apply go_f1R h | apply go_rf1R h | apply go_relR h | apply go_e1R h | apply go_re1R h); (case hc => exact inferInstance); (case hi => omega); (try case hx => exact inferInstance); (try case hv => rfl))
 | ((with_reducible apply go_fNR h); (case hc => exact inferInstance); (case hi => omega); (try case hp => exact inferInstance); (try case hv => rfl))
 | ((with_reducible apply go_faR h); (case hc => exact inferInstance); omega; omega)
 | ((with_reducible apply go_rlenR h); rfl)
))
          refine called_spec (v := b) (n := nmK r) (y := l[i]) (d := dG 1048576 fs) (by show fs.length ≤ _; omega) (h.frt (A := DiskA b (dG 1048576 fs))) fun w h => ?_
          rw [e2] at h ⊢
          have g5 : decide (done + 1 ≤ n) = true := by simp; omega
          (repeat (first
 | (simp (disch := omega) only [evA, evB, evC, bAdd_i64, bSub_i64, g5])
 | (with_reducible apply go_ld1 h)
 | ((with_reducible first | apply go_ldA h | apply go_rd h | apply go_rdN h | apply go_rlen h); rfl)
 | (with_reducible first | apply go_ldN h | apply go_lenL h)
 | ((with_reducible apply go_st h); intro _ h)
 | ((with_reducible apply go_stA h); rfl; rfl; (first | rfl | simp [OneV.o]); intro _ h)
 | ((with_reducible apply go_stN h); rfl; (first | rfl | simp [OneV.o]); intro _ h)
 | ((with_reducible apply go_box h); rfl; intro _ _ h)
 | ((with_reducible apply go_ix h); omega)
 | ((with_reducible first | apply go_elN h | apply go_f1 h | apply go_rf1 h | apply go_rel h); (case hi => omega); (try case hx => exact inferInstance); (try case hv => rfl))
 | ((with_reducible apply go_fa h); omega; omega)
))
          unfold F3_6 F3_6b
          (repeat (first
 | (simp (disch := omega) only [evA, evB, evC, bAdd_i64, bSub_i64])
 | (with_reducible apply go_ld1 h)
 | ((with_reducible first | apply go_ldA h | apply go_rd h | apply go_rdN h | apply go_rlen h); rfl)
 | (with_reducible first | apply go_ldN h | apply go_lenL h)
 | ((with_reducible apply go_st h); intro _ h)
 | ((with_reducible apply go_stA h); rfl; rfl; (first | rfl | simp [OneV.o]); intro _ h)
 | ((with_reducible apply go_stN h); rfl; (first | rfl | simp [OneV.o]); intro _ h)
 | ((with_reducible apply go_box h); rfl; intro _ _ h)
 | ((with_reducible apply go_ix h); omega)
 | ((with_reducible first | apply go_elN h | apply go_f1 h | apply go_rf1 h | apply go_rel h); (case hi => omega); (try case hx => exact inferInstance); (try case hv => rfl))
 | ((with_reducible apply go_fa h); omega; omega)
))
          refine ih (i + 1) (done + 1) fs' _ (by omega) (by omega) (by omega) ⟨hfew.1, by have := hfew.2; show usedF fs' ≤ 4 * (i + 1); have h9 : usedF fs' ≤ 4 * i + 4 := this; omega⟩ (by have h9 : fs'.length ≤ fs.length + 1 := hln; omega) ?_
          rw [show n - (done + 1) = n - done - 1 from by omega]
          exact h.got
        · rw [e1] at h ⊢
          have g4 : decide (c = 0) = false := by simpa using c0
          have g5 : decide (c = 251) = false := by simpa using c1
          (repeat (first
 | (simp (disch := omega) only [evA, evB, evC, bAdd_i64, bSub_i64, g4, g5])
 | (with_reducible apply go_ld1 h)
 | ((with_reducible first | apply go_ldA h | apply go_rd h | apply go_rdN h | apply go_rlen h); rfl)
 | (with_reducible first | apply go_ldN h | apply go_lenL h)
 | ((with_reducible apply go_st h); intro _ h)
 | ((with_reducible apply go_stA h); rfl; rfl; (first | rfl | simp [OneV.o]); intro _ h)
 | ((with_reducible apply go_stN h); rfl; (first | rfl | simp [OneV.o]); intro _ h)
 | ((with_reducible apply go_box h); rfl; intro _ _ h)
 | ((with_reducible apply go_ix h); omega)
 | ((with_reducible first | apply go_elN h | apply go_f1 h | apply go_rf1 h | apply go_rel h); (case hi => omega); (try case hx => exact inferInstance); (try case hv => rfl))
 | ((with_reducible apply go_fa h); omega; omega)
))
          unfold F3_8 F3_8b
          (repeat (first
 | (simp (disch := omega) only [evA, evB, evC, bAdd_i64, bSub_i64])
 | (with_reducible apply go_ld1 h)
 | ((with_reducible first | apply go_ldA h | apply go_rd h | apply go_rdN h); rfl)
 | (with_reducible first | apply go_ldN h | apply go_lenR h)
 | ((with_reducible apply go_st h); intro _ h)
 | ((with_reducible apply go_stA h); rfl; rfl; (first | rfl | simp [OneV.o]); intro _ h)
 | ((with_reducible apply go_stN h); rfl; (first | rfl | simp [OneV.o]); intro _ h)
 | ((with_reducible apply go_box h); rfl; intro _ _ h)
 | ((with_reducible apply go_ixR h); omega)
 | ((with_reducible first | apply go_elR h | apply go_f1R h | apply go_rf1R h | apply go_relR h | apply go_e1R h | apply go_re1R h); (case hc => exact inferInstance); (case hi => omega); (try case hx => exact inferInstance); (try case hv => rfl))
 | ((with_reducible apply go_fNR h); (case hc => exact inferInstance); (case hi => omega); (try case hp => exact inferInstance); (try case hv => rfl))
 | ((with_reducible apply go_faR h); (case hc => exact inferInstance); omega; omega)
 | ((with_reducible apply go_rlenR h); rfl)
))
          refine called_spec (v := b) (n := nmK r) (y := l[i]) (d := dG 1048576 fs) (by show fs.length ≤ _; omega) (h.frt (A := DiskA b (dG 1048576 fs))) fun w h => ?_
          rw [e2] at h ⊢
          have g6 : decide (done ≤ n) = true := by simp; omega
          (repeat (first
 | (simp (disch := omega) only [evA, evB, evC, bAdd_i64, bSub_i64, g6])
 | (with_reducible apply go_ld1 h)
 | ((with_reducible first | apply go_ldA h | apply go_rd h | apply go_rdN h | apply go_rlen h); rfl)
 | (with_reducible first | apply go_ldN h | apply go_lenL h)
 | ((with_reducible apply go_st h); intro _ h)
 | ((with_reducible apply go_stA h); rfl; rfl; (first | rfl | simp [OneV.o]); intro _ h)
 | ((with_reducible apply go_stN h); rfl; (first | rfl | simp [OneV.o]); intro _ h)
 | ((with_reducible apply go_box h); rfl; intro _ _ h)
 | ((with_reducible apply go_ix h); omega)
 | ((with_reducible first | apply go_elN h | apply go_f1 h | apply go_rf1 h | apply go_rel h); (case hi => omega); (try case hx => exact inferInstance); (try case hv => rfl))
 | ((with_reducible apply go_fa h); omega; omega)
))
          unfold F3_6 F3_6b
          (repeat (first
 | (simp (disch := omega) only [evA, evB, evC, bAdd_i64, bSub_i64])
 | (with_reducible apply go_ld1 h)
 | ((with_reducible first | apply go_ldA h | apply go_rd h | apply go_rdN h | apply go_rlen h); rfl)
 | (with_reducible first | apply go_ldN h | apply go_lenL h)
 | ((with_reducible apply go_st h); intro _ h)
 | ((with_reducible apply go_stA h); rfl; rfl; (first | rfl | simp [OneV.o]); intro _ h)
 | ((with_reducible apply go_stN h); rfl; (first | rfl | simp [OneV.o]); intro _ h)
 | ((with_reducible apply go_box h); rfl; intro _ _ h)
 | ((with_reducible apply go_ix h); omega)
 | ((with_reducible first | apply go_elN h | apply go_f1 h | apply go_rf1 h | apply go_rel h); (case hi => omega); (try case hx => exact inferInstance); (try case hv => rfl))
 | ((with_reducible apply go_fa h); omega; omega)
))
          exact ih (i + 1) done fs _ (by omega) (by omega) hdn hfew0 (by omega) (h.got)
      · have g2' : decide ((i : Int) < 40) = false := by simp; omega
        (repeat (first
 | (simp (disch := omega) only [evA, evB, evC, bAdd_i64, bSub_i64, g', g2'])
 | (with_reducible apply go_ld1 h)
 | ((with_reducible first | apply go_ldA h | apply go_rd h | apply go_rdN h); rfl)
 | (with_reducible first | apply go_ldN h | apply go_lenR h)
 | ((with_reducible apply go_st h); intro _ h)
 | ((with_reducible apply go_stA h); rfl; rfl; (first | rfl | simp [OneV.o]); intro _ h)
 | ((with_reducible apply go_stN h); rfl; (first | rfl | simp [OneV.o]); intro _ h)
 | ((with_reducible apply go_box h); rfl; intro _ _ h)
 | ((with_reducible apply go_ixR h); omega)
 | ((with_reducible first | apply go_elR h | apply go_f1R h | apply go_rf1R h | apply go_relR h | apply go_e1R h | apply go_re1R h); (case hc => exact inferInstance); (case hi => omega); (try case hx => exact inferInstance); (try case hv => rfl))
 | ((with_reducible apply go_fNR h); (case hc => exact inferInstance); (case hi => omega); (try case hp => exact inferInstance); (try case hv => rfl))
 | ((with_reducible apply go_faR h); (case hc => exact inferInstance); omega; omega)
 | ((with_reducible apply go_rlenR h); rfl)
))
        exact fin
    · have g' : decide ((i : Int) < (l.length : Int)) = false := by simpa using g
      (repeat (first
 | (simp (disch := omega) only [evA, evB, evC, bAdd_i64, bSub_i64, g'])
 | (with_reducible apply go_ld1 h)
 | ((with_reducible first | apply go_ldA h | apply go_rd h | apply go_rdN h); rfl)
 | (with_reducible first | apply go_ldN h | apply go_lenR h)
 | ((with_reducible apply go_st h); intro _ h)
 | ((with_reducible apply go_stA h); rfl; rfl; (first | rfl | simp [OneV.o]); intro _ h)
 | ((with_reducible apply go_stN h); rfl; (first | rfl | simp [OneV.o]); intro _ h)
 | ((with_reducible apply go_box h); rfl; intro _ _ h)
 | ((with_reducible apply go_ixR h); omega)
 | ((with_reducible first | apply go_elR h | apply go_f1R h | apply go_rf1R h | apply go_relR h | apply go_e1R h | apply go_re1R h); (case hc => exact inferInstance); (case hi => omega); (try case hx => exact inferInstance); (try case hv => rfl))
 | ((with_reducible apply go_fNR h); (case hc => exact inferInstance); (case hi => omega); (try case hp => exact inferInstance); (try case hv => rfl))
 | ((with_reducible apply go_faR h); (case hc => exact inferInstance); omega; omega)
 | ((with_reducible apply go_rlenR h); rfl)
))
      exact fin
theorem diskStops_spec {n : Int} (hrd : Rd w0 1 s0 l.length (l.flatMap cI)) (h : Sat w0 L w) (hK : ∀ w', Sat w0 L w' → K (.bool true) w') : callP G3 [s0, .int .i64 n] w K := by
  refine c3 ?_
  unfold F3 F3_1 F3_1b
  refine dnew_spec h (fun hb => by omega) fun _ _ p w h => ?_
  (repeat (first
 | (simp (disch := omega) only [evA, evB, evC, bAdd_i64, bSub_i64])
 | (with_reducible apply go_ld1 h)
 | ((with_reducible first | apply go_ldA h | apply go_rd h | apply go_rdN h | apply go_rlen h); rfl)
 | (with_reducible first | apply go_ldN h | apply go_lenL h)
 | ((with_reducible apply go_st h); intro _ h)
 | ((with_reducible apply go_stA h); rfl; rfl; (first | rfl | simp [OneV.o]); intro _ h)
 | ((with_reducible apply go_stN h); rfl; (first | rfl | simp [OneV.o]); intro _ h)
 | ((with_reducible apply go_box h); rfl; intro _ _ h)
 | ((with_reducible apply go_ix h); omega)
 | ((with_reducible first | apply go_elN h | apply go_f1 h | apply go_rf1 h | apply go_rel h); (case hi => omega); (try case hx => exact inferInstance); (try case hv => rfl))
 | ((with_reducible apply go_fa h); omega; omega)
))
  refine dnew_spec h (fun hb => by omega) fun _ _ q w h => ?_
  (repeat (first
 | (simp (disch := omega) only [evA, evB, evC, bAdd_i64, bSub_i64])
 | (refine go_some (bEq_nilp up23   ..) ?_)
 | (with_reducible apply go_ld1 h)
 | ((with_reducible first | apply go_ldA h | apply go_rd h | apply go_rdN h | apply go_rlen h); rfl)
 | (with_reducible first | apply go_ldN h | apply go_lenL h)
 | ((with_reducible apply go_st h); intro _ h)
 | ((with_reducible apply go_stA h); rfl; rfl; (first | rfl | simp [OneV.o]); intro _ h)
 | ((with_reducible apply go_stN h); rfl; (first | rfl | simp [OneV.o]); intro _ h)
 | ((with_reducible apply go_box h); rfl; intro _ _ h)
 | ((with_reducible apply go_ix h); omega)
 | ((with_reducible first | apply go_elN h | apply go_f1 h | apply go_rf1 h | apply go_rel h); (case hi => omega); (try case hx => exact inferInstance); (try case hv => rfl))
 | ((with_reducible apply go_fa h); omega; omega)
))
  refine works25_spec h fun w h => ?_
  (repeat (first
 | (simp (disch := omega) only [evA, evB, evC, bAdd_i64, bSub_i64])
 | (with_reducible apply go_ld1 h)
 | ((with_reducible first | apply go_ldA h | apply go_rd h | apply go_rdN h | apply go_rlen h); rfl)
 | (with_reducible first | apply go_ldN h | apply go_lenL h)
 | ((with_reducible apply go_st h); intro _ h)
 | ((with_reducible apply go_stA h); rfl; rfl; (first | rfl | simp [OneV.o]); intro _ h)
 | ((with_reducible apply go_stN h); rfl; (first | rfl | simp [OneV.o]); intro _ h)
 | ((with_reducible apply go_box h); rfl; intro _ _ h)
 | ((with_reducible apply go_ix h); omega)
 | ((with_reducible first | apply go_elN h | apply go_f1 h | apply go_rf1 h | apply go_rel h); (case hi => omega); (try case hx => exact inferInstance); (try case hv => rfl))
 | ((with_reducible apply go_fa h); omega; omega)
))
  refine Below_spec (by decide) (by decide) fun r h1 h2 _ => ?_
  refine dstop_spec (v := ptr p) (d := newD 1048576) (k := r) (by omega) (h.frt (A := DiskA (ptr p) (newD 1048576))) fun w h => ?_
  have e : stopD r (newD 1048576) = (0, dS 1048576 r []) := by
    unfold stopD; rw [if_neg (by omega)]; rfl
  rw [e] at h ⊢
  (repeat (first
 | (simp (disch := omega) only [evA, evB, evC, bAdd_i64, bSub_i64])
 | (with_reducible apply go_ld1 h)
 | ((with_reducible first | apply go_ldA h | apply go_rd h | apply go_rdN h | apply go_rlen h); rfl)
 | (with_reducible first | apply go_ldN h | apply go_lenL h)
 | ((with_reducible apply go_st h); intro _ h)
 | ((with_reducible apply go_stA h); rfl; rfl; (first | rfl | simp [OneV.o]); intro _ h)
 | ((with_reducible apply go_stN h); rfl; (first | rfl | simp [OneV.o]); intro _ h)
 | ((with_reducible apply go_box h); rfl; intro _ _ h)
 | ((with_reducible apply go_ix h); omega)
 | ((with_reducible first | apply go_elN h | apply go_f1 h | apply go_rf1 h | apply go_rel h); (case hi => omega); (try case hx => exact inferInstance); (try case hv => rfl))
 | ((with_reducible apply go_fa h); omega; omega)
))
  unfold F3_2
  have : RdIn w0 L s0 Int cI 1 l := RdIn.arg hrd
  refine stops_loop (a := ptr p) (b := ptr q) ⟨h1, h2⟩ hrd.len hK fuel 0 0 [] _ (by unfold fuel; omega) (by omega) (by omega) ⟨by simp, by simp [usedF]⟩ (by simp) ?_
  rw [Int.sub_zero]
  exact h
end
theorem fit_intC {W : World} {B : Nat} {c : List Value} (h : FitL2 W B [.int .i64] c) : ∃ n : Int, c = cI n ∧ True := by
  obtain ⟨n, vs, rfl, _, h2⟩ := fitL2_int h
  rw [fitL2_nil h2]; exact ⟨n, rfl, trivial⟩
theorem lawDiskStops {W : World} {v : Value} {n : Nat} {cs : List Value} (rd : Rd W 1 v n cs) (hn : n ≤ 140737488351232) (ft : ∀ i, i < n → FitL2 W 140737488351232 [.int .i64] ((cs.drop (i * 1)).take 1)) (m : Int) {p : Prop} (_ : p) :
    callP G3 [v, .int .i64 m] W fun v w' => v = .bool true ∧ Sat W [] w' := by
  obtain ⟨l, rfl, rfl, _⟩ := fit_list2 (fun c h => fit_intC h) n cs rd.length ft
  exact diskStops_spec rd (Sat.start W) fun w' h => ⟨rfl, h⟩
end Go.Proofs.Gong
