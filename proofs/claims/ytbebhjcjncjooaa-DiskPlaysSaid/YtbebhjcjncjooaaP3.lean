/- A part of the proofs: what stands below it, told in lemmas. No condition. -/
import Derived.Test.YtbebhjcjncjooaaP2
import Derived.Test.YtbebhjcjncjooaaP1
set_option linter.all false

/- Dk3 -/
namespace Go.Proofs.Gong
open Go Go.Sx Go.Proofs
set_option maxRecDepth 100000
attribute [local irreducible] fBuild fLook fZero eqv bEqv Cl MapH LsH SlH ld1 ldN st callP eBox eAlloc lenM lenL eMapSet eDelete eAppend eBuildSl eRange eNext
section
variable {w0 w : World} {L : List HP} {K : Value → World → Prop} {v : Value} {d : Dk} {n x : List UInt8} {M : List (List UInt8 × (List UInt8 × Nat))}
theorem dstop_spec {k : Int} (hk : k ≤ 9223372036854775807) (h : Sat w0 (DiskA v d :: L) w) (hK : ∀ w', Sat w0 (DiskA v (stopD k d).2 :: L) w' → K (.int .i64 (stopD k d).1) w') : callP G11 [v, .int .i64 k] w K := by
  have oka := stopD_ok (diskA_ok h) hk
  unfold stopD at oka hK
  refine c11 ?_
  unfold F11
  by_cases g : k < 0
  · have g' : decide (k < 0) = true := by simpa using g
    rw [if_pos g] at hK
    (repeat (first
 | (simp (disch := omega) only [evA, evB, evC, bAdd_i64, bSub_i64, g'])
 | (with_reducible apply go_ld1 h)
 | ((with_reducible first | apply go_ldA h | apply go_rd h | apply go_rdN h | apply go_rlen h); rfl)
 | (with_reducible first | apply go_ldN h | apply go_lenL h)
 | ((with_reducible apply go_st h); intro _ h)
 | ((with_reducible apply go_stA h); rfl; rfl; (first | rfl | simp [OneV.o]); intro _ h)
 | ((with_reducible apply go_stN h); rfl; (first | rfl | simp [OneV.o]); intro _ h)
 | ((with_reducible apply go_box h); rfl; intro _ _ h)
 | ((with_reducible apply go_ix h); omega)
 | ((with_reducible first | apply go_elN h | apply go_f1 h | apply go_rf1 h | apply go_rel h); (case hi => omega); (try case hx => exact inferInstance); (try case hv => rfl))
 | ((with_reducible apply go_fa h); omega; omega)
))
    exact hK _ h
  · have g' : decide (k < 0) = false := by simpa using g
    rw [if_neg g] at hK oka
    obtain ⟨p, m, M, rfl, H, ok, h2⟩ := diskA_open h
    clear h
    have h := h2
    clear h2
    (repeat (first
 | (simp (disch := omega) only [evA, evB, evC, bAdd_i64, bSub_i64, g'])
 | (with_reducible apply go_ld1 h)
 | ((with_reducible first | apply go_ldA h | apply go_rd h | apply go_rdN h | apply go_rlen h); rfl)
 | (with_reducible first | apply go_ldN h | apply go_lenL h)
 | ((with_reducible apply go_st h); intro _ h)
 | ((with_reducible apply go_stA h); rfl; rfl; (first | rfl | simp [OneV.o]); intro _ h)
 | ((with_reducible apply go_stN h); rfl; (first | rfl | simp [OneV.o]); intro _ h)
 | ((with_reducible apply go_box h); rfl; intro _ _ h)
 | ((with_reducible apply go_ix h); omega)
 | ((with_reducible first | apply go_elN h | apply go_f1 h | apply go_rf1 h | apply go_rel h); (case hi => omega); (try case hx => exact inferInstance); (try case hv => rfl))
 | ((with_reducible apply go_fa h); omega; omega)
))
    exact hK _ (diskA_close (d := { d with stop := true, left := k }) H oka (h.got))
theorem dnames_spec (hc : d.fs.length ≤ 1073741824) (h : Sat w0 (DiskA v d :: L) w) (hK : ∀ s w', Sat w0 (LsH cSt 1 9 s (d.fs.map (·.name)) :: DiskA v d :: L) w' → K s w') : callP G15 [v] w K := by
  refine c15 ?_
  unfold F15
  obtain ⟨p, m, M, rfl, H, ok, h2⟩ := diskA_open h
  clear h
  have h := h2
  clear h2
  obtain ⟨r1, _, _, ⟨rfl, _⟩, _⟩ := map_iff.1 (h.frt (A := MapH kSt fiV m M))
  (repeat (first
 | (simp (disch := omega) only [evA, evB, evC, bAdd_i64, bSub_i64])
 | (with_reducible apply go_ld1 h)
 | ((with_reducible first | apply go_ldA h | apply go_rd h | apply go_rdN h | apply go_rlen h); rfl)
 | (with_reducible first | apply go_ldN h | apply go_lenL h)
 | ((with_reducible apply go_st h); intro _ h)
 | ((with_reducible apply go_stA h); rfl; rfl; (first | rfl | simp [OneV.o]); intro _ h)
 | ((with_reducible apply go_stN h); rfl; (first | rfl | simp [OneV.o]); intro _ h)
 | ((with_reducible apply go_box h); rfl; intro _ _ h)
 | ((with_reducible apply go_ix h); omega)
 | ((with_reducible first | apply go_elN h | apply go_f1 h | apply go_rf1 h | apply go_rel h); (case hi => omega); (try case hx => exact inferInstance); (try case hv => rfl))
 | ((with_reducible apply go_fa h); omega; omega)
))
  refine c43 ?_
  unfold F43
  (repeat (first
 | (simp (disch := omega) only [evA, evB, evC, bAdd_i64, bSub_i64])
 | (with_reducible apply go_ld1 h)
 | ((with_reducible first | apply go_ldA h | apply go_rd h | apply go_rdN h | apply go_rlen h); rfl)
 | (with_reducible first | apply go_ldN h | apply go_lenL h)
 | ((with_reducible apply go_st h); intro _ h)
 | ((with_reducible apply go_stA h); rfl; rfl; (first | rfl | simp [OneV.o]); intro _ h)
 | ((with_reducible apply go_stN h); rfl; (first | rfl | simp [OneV.o]); intro _ h)
 | ((with_reducible apply go_box h); rfl; intro _ _ h)
 | ((with_reducible apply go_ix h); omega)
 | ((with_reducible first | apply go_elN h | apply go_f1 h | apply go_rf1 h | apply go_rel h); (case hi => omega); (try case hx => exact inferInstance); (try case hv => rfl))
 | ((with_reducible apply go_fa h); omega; omega)
))
  refine sortedS_sat (m := M) (ev := fiV) (L := Cl p #[.int .i64 d.room, .map (some r1), .bool d.stop, .int .i64 d.left] 80 :: L) (h.got) ?_ ?_ fun l s w hp hs h => ?_
  · intro x hx
    obtain ⟨f, hf, e⟩ := List.mem_map.1 (H.pm.mem_iff.1 hx)
    have := (ok.ok f hf).2
    rw [← e]
    show f.name.length ≤ maxLen
    unfold maxLen; omega
  · rw [H.len]; omega
  have el : l = d.fs.map fKey := H.sorted STO.txt hp (hs.imp fun h => by
    simp only [ltS, decide_eq_false_iff_not]; exact h)
  subst el
  exact hK _ _ (Sat.f1 (diskA_close H ok (h.got)))
theorem dfork_spec (h : Sat w0 (DiskA v d :: L) w) (hK : ∀ p w', Sat w0 (DiskA (ptr p) d :: DiskA v d :: L) w' → K (ptr p) w') : callP G22 [v] w K := by
  refine c22 ?_
  unfold F22
  obtain ⟨p, m, M, rfl, H, ok, h2⟩ := diskA_open h
  clear h
  have h := h2
  clear h2
  have := map_one (h.frt (A := MapH kSt fiV m M))
  obtain ⟨r, es, c, ⟨rfl, _⟩, _⟩ := map_iff.1 (h.frt (A := MapH kSt fiV m M))
  (repeat (first
 | (simp (disch := omega) only [evA, evB, evC, bAdd_i64, bSub_i64])
 | (with_reducible apply go_ld1 h)
 | ((with_reducible first | apply go_ldA h | apply go_rd h | apply go_rdN h | apply go_rlen h); rfl)
 | (with_reducible first | apply go_ldN h | apply go_lenL h)
 | ((with_reducible apply go_st h); intro _ h)
 | ((with_reducible apply go_stA h); rfl; rfl; (first | rfl | simp [OneV.o]); intro _ h)
 | ((with_reducible apply go_stN h); rfl; (first | rfl | simp [OneV.o]); intro _ h)
 | ((with_reducible apply go_box h); rfl; intro _ _ h)
 | ((with_reducible apply go_alloc h); (first | exact z80); rfl; intro _ _ h)
 | ((with_reducible apply go_ix h); omega)
 | ((with_reducible first | apply go_elN h | apply go_f1 h | apply go_rf1 h | apply go_rel h); (case hi => omega); (try case hx => exact inferInstance); (try case hv => rfl))
 | ((with_reducible apply go_fa h); omega; omega)
))
  refine c47 ?_
  unfold F47
  rw [bEq_nilm um78]
  (repeat (first
 | (simp (disch := omega) only [evA, evB, evC, bAdd_i64, bSub_i64])
 | (with_reducible apply go_ld1 h)
 | ((with_reducible first | apply go_ldA h | apply go_rd h | apply go_rdN h | apply go_rlen h); rfl)
 | (with_reducible first | apply go_ldN h | apply go_lenL h)
 | ((with_reducible apply go_st h); intro _ h)
 | ((with_reducible apply go_stA h); rfl; rfl; (first | rfl | simp [OneV.o]); intro _ h)
 | ((with_reducible apply go_stN h); rfl; (first | rfl | simp [OneV.o]); intro _ h)
 | ((with_reducible apply go_box h); rfl; intro _ _ h)
 | ((with_reducible apply go_ix h); omega)
 | ((with_reducible first | apply go_elN h | apply go_f1 h | apply go_rf1 h | apply go_rel h); (case hi => omega); (try case hx => exact inferInstance); (try case hv => rfl))
 | ((with_reducible apply go_fa h); omega; omega)
))
  rw [fMkI_of um78 (by simp)]
  simp only [bindP_some]
  refine gClone_sat (h.frt (A := MapH kSt fiV (.map (some r)) M)) fun v' w h => ?_
  rw [fAssert_of um78 (by simp)]
  simp only [bindP_some]
  have := map_one (h.frt (A := MapH kSt fiV v' M))
  (repeat (first
 | (simp (disch := omega) only [evA, evB, evC, bAdd_i64, bSub_i64])
 | (with_reducible apply go_ld1 h)
 | ((with_reducible first | apply go_ldA h | apply go_rd h | apply go_rdN h | apply go_rlen h); rfl)
 | (with_reducible first | apply go_ldN h | apply go_lenL h)
 | ((with_reducible apply go_st h); intro _ h)
 | ((with_reducible apply go_stA h); rfl; rfl; (first | rfl | simp [OneV.o]); intro _ h)
 | ((with_reducible apply go_stN h); rfl; (first | rfl | simp [OneV.o]); intro _ h)
 | ((with_reducible apply go_box h); rfl; intro _ _ h)
 | ((with_reducible apply go_ix h); omega)
 | ((with_reducible first | apply go_elN h | apply go_f1 h | apply go_rf1 h | apply go_rel h); (case hi => omega); (try case hx => exact inferInstance); (try case hv => rfl))
 | ((with_reducible apply go_fa h); omega; omega)
))
  have h3 : Sat w0 (Cl _ #[.int .i64 d.room, v', .bool d.stop, .int .i64 d.left] 80 :: MapH kSt fiV v' M :: Cl p #[.int .i64 d.room, .map (some r), .bool d.stop, .int .i64 d.left] 80 :: MapH kSt fiV (.map (some r)) M :: L) _ := h.got
  have h4 := diskA_close H ok h3
  have h5 : Sat w0 (Cl p #[.int .i64 d.room, .map (some r), .bool d.stop, .int .i64 d.left] 80 :: MapH kSt fiV (.map (some r)) M :: DiskA (ptr _) d :: L) _ := h4.got
  exact hK _ _ (Sat.f1 (diskA_close H ok h5))
theorem kept_spec {k : Int} {many : Nat} (hm : many ≤ 1099511627776) (hK : K (.int .i64 (keptN k many : Nat)) w) : callP G44 [.int .i64 k, .int .i64 (many : Nat)] w K := by
  refine c44 ?_
  unfold F44 F44_1 F44_1b
  have e1 : bRem (.int .i64 k) (.int .i64 ((many : Int) + 1)) = some (.int .i64 (k.tmod ((many : Int) + 1))) := bRem_int _ _ _ (by omega)
  have b1 := Int.tmod_lt_of_pos k (b := (many : Int) + 1) (by omega)
  have b2 := Int.lt_tmod_of_pos k (b := (many : Int) + 1) (by omega)
  have hb : (many : Int) + 1 ≠ 0 := by omega
  have key : (keptN k many : Int) = if k.tmod ((many : Int) + 1) < 0 then k.tmod ((many : Int) + 1) + ((many : Int) + 1) else k.tmod ((many : Int) + 1) := by
    unfold keptN
    rw [Int.toNat_of_nonneg (Int.emod_nonneg _ hb)]
    have e := Int.mul_tdiv_add_tmod k ((many : Int) + 1)
    generalize k.tmod ((many : Int) + 1) = r at b1 b2 e
    generalize k.tdiv ((many : Int) + 1) = q at e
    split
    · have : k = (r + ((many : Int) + 1)) + ((many : Int) + 1) * (q - 1) := by rw [Int.mul_sub]; omega
      rw [this, Int.add_mul_emod_self_left, Int.emod_eq_of_lt (by omega) (by omega)]
    · have : k = r + ((many : Int) + 1) * q := by omega
      rw [this, Int.add_mul_emod_self_left, Int.emod_eq_of_lt (by omega) (by omega)]
  rw [key] at hK
  generalize k.tmod ((many : Int) + 1) = r at b1 b2 e1 hK
  by_cases g : r < 0
  · have g' : decide (r < 0) = true := by simpa using g
    rw [if_pos g] at hK
    (repeat (first
 | (simp (disch := omega) only [evA, evB, evC, bAdd_i64, bSub_i64, g'])
 | (refine go_some (e1 ..) ?_)
 | (with_reducible apply go_ld1 h)
 | ((with_reducible first | apply go_ldA h | apply go_rd h | apply go_rdN h | apply go_rlen h); rfl)
 | (with_reducible first | apply go_ldN h | apply go_lenL h)
 | ((with_reducible apply go_st h); intro _ h)
 | ((with_reducible apply go_stA h); rfl; rfl; (first | rfl | simp [OneV.o]); intro _ h)
 | ((with_reducible apply go_stN h); rfl; (first | rfl | simp [OneV.o]); intro _ h)
 | ((with_reducible apply go_box h); rfl; intro _ _ h)
 | ((with_reducible apply go_ix h); omega)
 | ((with_reducible first | apply go_elN h | apply go_f1 h | apply go_rf1 h | apply go_rel h); (case hi => omega); (try case hx => exact inferInstance); (try case hv => rfl))
 | ((with_reducible apply go_fa h); omega; omega)
))
    unfold F44_2 F44_2b
    exact hK
  · have g' : decide (r < 0) = false := by simpa using g
    rw [if_neg g] at hK
    (repeat (first
 | (simp (disch := omega) only [evA, evB, evC, bAdd_i64, bSub_i64, g'])
 | (refine go_some (e1 ..) ?_)
 | (with_reducible apply go_ld1 h)
 | ((with_reducible first | apply go_ldA h | apply go_rd h | apply go_rdN h | apply go_rlen h); rfl)
 | (with_reducible first | apply go_ldN h | apply go_lenL h)
 | ((with_reducible apply go_st h); intro _ h)
 | ((with_reducible apply go_stA h); rfl; rfl; (first | rfl | simp [OneV.o]); intro _ h)
 | ((with_reducible apply go_stN h); rfl; (first | rfl | simp [OneV.o]); intro _ h)
 | ((with_reducible apply go_box h); rfl; intro _ _ h)
 | ((with_reducible apply go_ix h); omega)
 | ((with_reducible first | apply go_elN h | apply go_f1 h | apply go_rf1 h | apply go_rel h); (case hi => omega); (try case hx => exact inferInstance); (try case hv => rfl))
 | ((with_reducible apply go_fa h); omega; omega)
))
    unfold F44_2 F44_2b
    exact hK
omit w0 w L K v d n x M in
theorem crF_snoc {keep : List Int} {f : Fil} : ∀ {j : Nat} {l : List Fil}, crF keep j (l ++ [f]) = crF keep j l ++ [crFil keep (j + l.length) f]
  | j, [] => rfl
  | j, g :: l => by
    have := crF_snoc (keep := keep) (f := f) (j := j + 1) (l := l)
    simp only [List.cons_append, crF, this, List.length_cons]
    rw [show j + 1 + l.length = j + (l.length + 1) from by omega]
theorem crash_loop {p : Nat} {sv nv m : Value} {keep : List Int} [hrd : RdIn w0 L sv Int cI 1 keep] (hc : d.fs.length ≤ 1073741824) (ok : DOk d) (hK : ∀ w', Sat w0 (DiskA (ptr p) (crashD keep d) :: L) w' → K (.tuple #[]) w') :
    ∀ (k i : Nat) (M : List (List UInt8 × (List UInt8 × Nat))) (w : World), d.fs.length - i < k → i ≤ d.fs.length → KInv ltS fKey fVal M (crF keep 0 (d.fs.take i) ++ d.fs.drop i) →
      Sat w0 (Cl p #[.int .i64 d.room, m, .bool d.stop, .int .i64 d.left] 80 :: MapH kSt fiV m M :: LsH cSt 1 9 nv (d.fs.map (·.name)) :: L) w → F17_2L k (ptr p) sv nv (.int .i64 (d.fs.length : Nat)) (.int .i64 i) w K := by
  intro k
  induction k with
  | zero => intro i M w hd; omega
  | succ k ih =>
    intro i M w hd hi H h
    rw [F17_2L]
    unfold F17_4 F17_4b
    by_cases g : i < d.fs.length
    · have g' : decide ((i : Int) < (d.fs.length : Int)) = true := by simpa using g
      have hil : i < (d.fs.map (·.name)).length := by simpa using g
      (repeat (first
 | (simp (disch := omega) only [evA, evB, evC, bAdd_i64, bSub_i64, g'])
 | (with_reducible apply go_ld1 h)
 | ((with_reducible first | apply go_ldA h | apply go_rd h | apply go_rdN h); rfl)
 | (with_reducible first | apply go_ldN h | apply go_lenR h)
 | ((with_reducible apply go_st h); intro _ h)
 | ((with_reducible apply go_stA h); rfl; rfl; (first | rfl | simp [OneV.o]); intro _ h)
 | ((with_reducible apply go_stN h); rfl; (first | rfl | simp [OneV.o]); intro _ h)
 | ((with_reducible apply go_box h); rfl; intro _ _ h)
 | ((with_reducible apply go_ixR h); omega)
 | ((with_reducible first | apply go_elR h | apply go_f1R h | apply go_rf1R h | apply go_relR h | apply go_e1R h | apply go_re1R h); (case hc => exact inferInstance); (case hi => omega); (try case hx => exact inferInstance); (try case hv => rfl))
 | ((with_reducible apply go_fNR h); (case hc => exact inferInstance); (case hi => omega); (try case hp => exact inferInstance); (try case hv => rfl))
 | ((with_reducible apply go_faR h); (case hc => exact inferInstance); omega; omega)
 | ((with_reducible apply go_rlenR h); rfl)
))
      unfold F17_5 F17_7 F17_7b
      have hnm : (d.fs.map (·.name))[i] = d.fs[i].name := by simp
      have hfo := ok.ok _ (List.getElem_mem g)
      have hfl := usedF_mem (List.getElem_mem g)
      have hu := ok.used
      have hr := ok.room
      have hcl := crLong_le (keep := keep) (i := i) hfo
      have hcur : crF keep 0 (d.fs.take i) ++ d.fs.drop i = crF keep 0 (d.fs.take i) ++ d.fs[i] :: d.fs.drop (i + 1) := by rw [List.drop_eq_getElem_cons g]
      rw [hcur] at H
      obtain ⟨f, hf⟩ : ∃ f, d.fs[i] = f := ⟨_, rfl⟩
      rw [hf] at hnm hfo hfl hcl H
      have hget : aGet f.name M = some (f.s, f.safe) := by
        rw [show aGet f.name M = _ from H.get STO.txt f.name, show kGet fKey f.name _ = some f from kGet_of STO.txt H.asc (by simp)]
        rfl
      (repeat (first
 | (simp (disch := omega) only [evA, evB, evC, bAdd_i64, bSub_i64, hnm])
 | (with_reducible apply go_ld1 h)
 | ((with_reducible first | apply go_ldA h | apply go_rd h | apply go_rdN h); rfl)
 | (with_reducible first | apply go_ldN h | apply go_lenR h)
 | ((with_reducible apply go_st h); intro _ h)
 | ((with_reducible apply go_stA h); rfl; rfl; (first | rfl | simp [OneV.o]); intro _ h)
 | ((with_reducible apply go_stN h); rfl; (first | rfl | simp [OneV.o]); intro _ h)
 | ((with_reducible apply go_box h); rfl; intro _ _ h)
 | ((with_reducible apply go_ixR h); omega)
 | ((with_reducible first | apply go_elR h | apply go_f1R h | apply go_rf1R h | apply go_relR h | apply go_e1R h | apply go_re1R h); (case hc => exact inferInstance); (case hi => omega); (try case hx => exact inferInstance); (try case hv => rfl))
 | ((with_reducible apply go_fNR h); (case hc => exact inferInstance); (case hi => omega); (try case hp => exact inferInstance); (try case hv => rfl))
 | ((with_reducible apply go_faR h); (case hc => exact inferInstance); omega; omega)
 | ((with_reducible apply go_rlenR h); rfl)
))
      refine go_look1 h (by repeat (first | exact .here | apply Fnt.there)) KST um78 zFi f.name ?_
      rw [hget]
      simp only [Option.elim_some]
      refine go_alloc h zFi rfl fun q _ h => ?_
      have fin : ∀ (lg : Nat) (w : World), lg = crLong keep i f → Sat w0 (Cl q (cFi (f.s, f.safe)).toArray 86 :: Cl p #[.int .i64 d.room, m, .bool d.stop, .int .i64 d.left] 80 :: MapH kSt fiV m M :: LsH cSt 1 9 nv (d.fs.map (·.name)) :: L) w →
          F17_8 (ptr p) sv (.string (bs f.name)) (ptr q) (.int .i64 (lg : Nat)) nv (.int .i64 (d.fs.length : Nat)) (.int .i64 (i : Nat)) w K (fun a0 a1 a9 a10 a11 w => F17_2L k a0 a1 a9 a10 a11 w K) := by
        intro lg w elg h
        subst elg
        unfold F17_8 F17_8b
        (repeat (first
 | (simp (disch := omega) only [evA, evB, evC, bAdd_i64, bSub_i64])
 | (with_reducible apply go_ld1 h)
 | ((with_reducible first | apply go_ldA h | apply go_rd h | apply go_rdN h); rfl)
 | (with_reducible first | apply go_ldN h | apply go_lenR h)
 | ((with_reducible apply go_st h); intro _ h)
 | ((with_reducible apply go_stA h); rfl; rfl; (first | rfl | simp [OneV.o]); intro _ h)
 | ((with_reducible apply go_stN h); rfl; (first | rfl | simp [OneV.o]); intro _ h)
 | ((with_reducible apply go_box h); rfl; intro _ _ h)
 | ((with_reducible apply go_ixR h); omega)
 | ((with_reducible first | apply go_elR h | apply go_f1R h | apply go_rf1R h | apply go_relR h | apply go_e1R h | apply go_re1R h); (case hc => exact inferInstance); (case hi => omega); (try case hx => exact inferInstance); (try case hv => rfl))
 | ((with_reducible apply go_fNR h); (case hc => exact inferInstance); (case hi => omega); (try case hp => exact inferInstance); (try case hv => rfl))
 | ((with_reducible apply go_faR h); (case hc => exact inferInstance); omega; omega)
 | ((with_reducible apply go_rlenR h); rfl)
))
        refine go_some (sub_to (l := f.s) (i := crLong keep i f) hcl.2) ?_
        refine go_some (fbFi _ _) ?_
        refine eMapSet_sat (h.drew.frt (A := MapH kSt fiV m M)) KST um78 f.name (f.s.take (crLong keep i f), crLong keep i f) fun w h => ?_
        unfold F17_6 F17_6b
        (repeat (first
 | (simp (disch := omega) only [evA, evB, evC, bAdd_i64, bSub_i64])
 | (with_reducible apply go_ld1 h)
 | ((with_reducible first | apply go_ldA h | apply go_rd h | apply go_rdN h | apply go_rlen h); rfl)
 | (with_reducible first | apply go_ldN h | apply go_lenL h)
 | ((with_reducible apply go_st h); intro _ h)
 | ((with_reducible apply go_stA h); rfl; rfl; (first | rfl | simp [OneV.o]); intro _ h)
 | ((with_reducible apply go_stN h); rfl; (first | rfl | simp [OneV.o]); intro _ h)
 | ((with_reducible apply go_box h); rfl; intro _ _ h)
 | ((with_reducible apply go_ix h); omega)
 | ((with_reducible first | apply go_elN h | apply go_f1 h | apply go_rf1 h | apply go_rel h); (case hi => omega); (try case hx => exact inferInstance); (try case hv => rfl))
 | ((with_reducible apply go_fa h); omega; omega)
))
        refine ih (i + 1) _ w (by omega) (by omega) ?_ (h.got)
        have h1 := H.put STO.txt (crFil keep i f)
        have hsp := H.asc.ne STO.txt
        rw [List.pairwise_append, List.pairwise_cons] at hsp
        have e2 : kPut ltS fKey (crFil keep i f) (crF keep 0 (d.fs.take i) ++ f :: d.fs.drop (i + 1)) = crF keep 0 (d.fs.take i) ++ crFil keep i f :: d.fs.drop (i + 1) := by
          rw [kPut_rep STO.txt H.asc (x := crFil keep i f) (b := f) (by simp) rfl]
          exact kRep_split (b := f) rfl (fun d hd => hsp.2.2 d hd f (by simp)) (fun d hd e => hsp.2.1.1 d hd e.symm)
        rw [e2] at h1
        have e3 : crF keep 0 (d.fs.take (i + 1)) ++ d.fs.drop (i + 1) = crF keep 0 (d.fs.take i) ++ crFil keep i f :: d.fs.drop (i + 1) := by
          rw [List.take_succ_eq_append_getElem g, crF_snoc, hf, List.length_take, Nat.zero_add, Nat.min_eq_left hi, List.append_assoc]
          rfl
        rw [e3]; exact h1
      by_cases g2 : i < keep.length
      · have g2' : decide ((i : Int) < (keep.length : Int)) = true := by simpa using g2
        have esub : ((f.s.length : Nat) : Int) - ((f.safe : Nat) : Int) = ((f.s.length - f.safe : Nat) : Int) := by have := hfo.1; omega
        (repeat (first
 | (simp (disch := omega) only [evA, evB, evC, bAdd_i64, bSub_i64, g2', esub])
 | (with_reducible apply go_ld1 h)
 | ((with_reducible first | apply go_ldA h | apply go_rd h | apply go_rdN h); rfl)
 | (with_reducible first | apply go_ldN h | apply go_lenR h)
 | ((with_reducible apply go_st h); intro _ h)
 | ((with_reducible apply go_stA h); rfl; rfl; (first | rfl | simp [OneV.o]); intro _ h)
 | ((with_reducible apply go_stN h); rfl; (first | rfl | simp [OneV.o]); intro _ h)
 | ((with_reducible apply go_box h); rfl; intro _ _ h)
 | ((with_reducible apply go_ixR h); omega)
 | ((with_reducible first | apply go_elR h | apply go_f1R h | apply go_rf1R h | apply go_relR h | apply go_e1R h | apply go_re1R h); (case hc => exact inferInstance); (case hi => omega); (try case hx => exact inferInstance); (try case hv => rfl))
 | ((with_reducible apply go_fNR h); (case hc => exact inferInstance); (case hi => omega); (try case hp => exact inferInstance); (try case hv => rfl))
 | ((with_reducible apply go_faR h); (case hc => exact inferInstance); omega; omega)
 | ((with_reducible apply go_rlenR h); rfl)
))
        refine kept_spec (k := keep[i]) (many := f.s.length - f.safe) (by omega) ?_
        have hkl := keptN_le keep[i] (f.s.length - f.safe)
        have eadd : ((f.safe : Nat) : Int) + ((keptN keep[i] (f.s.length - f.safe) : Nat) : Int) = ((f.safe + keptN keep[i] (f.s.length - f.safe) : Nat) : Int) := by omega
        (repeat (first
 | (simp (disch := omega) only [evA, evB, evC, bAdd_i64, bSub_i64, eadd])
 | (with_reducible apply go_ld1 h)
 | ((with_reducible first | apply go_ldA h | apply go_rd h | apply go_rdN h); rfl)
 | (with_reducible first | apply go_ldN h | apply go_lenR h)
 | ((with_reducible apply go_st h); intro _ h)
 | ((with_reducible apply go_stA h); rfl; rfl; (first | rfl | simp [OneV.o]); intro _ h)
 | ((with_reducible apply go_stN h); rfl; (first | rfl | simp [OneV.o]); intro _ h)
 | ((with_reducible apply go_box h); rfl; intro _ _ h)
 | ((with_reducible apply go_ixR h); omega)
 | ((with_reducible first | apply go_elR h | apply go_f1R h | apply go_rf1R h | apply go_relR h | apply go_e1R h | apply go_re1R h); (case hc => exact inferInstance); (case hi => omega); (try case hx => exact inferInstance); (try case hv => rfl))
 | ((with_reducible apply go_fNR h); (case hc => exact inferInstance); (case hi => omega); (try case hp => exact inferInstance); (try case hv => rfl))
 | ((with_reducible apply go_faR h); (case hc => exact inferInstance); omega; omega)
 | ((with_reducible apply go_rlenR h); rfl)
))
        refine fin _ _ ?_ (h.drew.got)
        unfold crLong
        rw [List.getElem?_eq_getElem g2]
      · have g2' : decide ((i : Int) < (keep.length : Int)) = false := by simpa using g2
        (repeat (first
 | (simp (disch := omega) only [evA, evB, evC, bAdd_i64, bSub_i64, g2'])
 | (with_reducible apply go_ld1 h)
 | ((with_reducible first | apply go_ldA h | apply go_rd h | apply go_rdN h); rfl)
 | (with_reducible first | apply go_ldN h | apply go_lenR h)
 | ((with_reducible apply go_st h); intro _ h)
 | ((with_reducible apply go_stA h); rfl; rfl; (first | rfl | simp [OneV.o]); intro _ h)
 | ((with_reducible apply go_stN h); rfl; (first | rfl | simp [OneV.o]); intro _ h)
 | ((with_reducible apply go_box h); rfl; intro _ _ h)
 | ((with_reducible apply go_ixR h); omega)
 | ((with_reducible first | apply go_elR h | apply go_f1R h | apply go_rf1R h | apply go_relR h | apply go_e1R h | apply go_re1R h); (case hc => exact inferInstance); (case hi => omega); (try case hx => exact inferInstance); (try case hv => rfl))
 | ((with_reducible apply go_fNR h); (case hc => exact inferInstance); (case hi => omega); (try case hp => exact inferInstance); (try case hv => rfl))
 | ((with_reducible apply go_faR h); (case hc => exact inferInstance); omega; omega)
 | ((with_reducible apply go_rlenR h); rfl)
))
        refine fin _ _ ?_ (h.got)
        unfold crLong
        rw [List.getElem?_eq_none (by omega)]
    · have g' : decide ((i : Int) < (d.fs.length : Int)) = false := by simpa using g
      have e : i = d.fs.length := by omega
      subst e
      rw [List.take_length, List.drop_length, List.append_nil] at H
      (repeat (first
 | (simp (disch := omega) only [evA, evB, evC, bAdd_i64, bSub_i64, g'])
 | (with_reducible apply go_ld1 h)
 | ((with_reducible first | apply go_ldA h | apply go_rd h | apply go_rdN h | apply go_rlen h); rfl)
 | (with_reducible first | apply go_ldN h | apply go_lenL h)
 | ((with_reducible apply go_st h); intro _ h)
 | ((with_reducible apply go_stA h); rfl; rfl; (first | rfl | simp [OneV.o]); intro _ h)
 | ((with_reducible apply go_stN h); rfl; (first | rfl | simp [OneV.o]); intro _ h)
 | ((with_reducible apply go_box h); rfl; intro _ _ h)
 | ((with_reducible apply go_ix h); omega)
 | ((with_reducible first | apply go_elN h | apply go_f1 h | apply go_rf1 h | apply go_rel h); (case hi => omega); (try case hx => exact inferInstance); (try case hv => rfl))
 | ((with_reducible apply go_fa h); omega; omega)
))
      unfold F17_3 F17_3b
      (repeat (first
 | (simp (disch := omega) only [evA, evB, evC, bAdd_i64, bSub_i64])
 | (with_reducible apply go_ld1 h)
 | ((with_reducible first | apply go_ldA h | apply go_rd h | apply go_rdN h | apply go_rlen h); rfl)
 | (with_reducible first | apply go_ldN h | apply go_lenL h)
 | ((with_reducible apply go_st h); intro _ h)
 | ((with_reducible apply go_stA h); rfl; rfl; (first | rfl | simp [OneV.o]); intro _ h)
 | ((with_reducible apply go_stN h); rfl; (first | rfl | simp [OneV.o]); intro _ h)
 | ((with_reducible apply go_box h); rfl; intro _ _ h)
 | ((with_reducible apply go_ix h); omega)
 | ((with_reducible first | apply go_elN h | apply go_f1 h | apply go_rf1 h | apply go_rel h); (case hi => omega); (try case hx => exact inferInstance); (try case hv => rfl))
 | ((with_reducible apply go_fa h); omega; omega)
))
      exact hK _ (diskA_close (d := crashD keep d) H (crashD_ok ok keep) (h.got))
theorem dcrash_spec {sv : Value} {keep : List Int} [hrd : RdIn w0 L sv Int cI 1 keep] (hc : d.fs.length ≤ 1073741824) (h : Sat w0 (DiskA v d :: L) w) (hK : ∀ w', Sat w0 (DiskA v (crashD keep d) :: L) w' → K (.tuple #[]) w') : callP G17 [v, sv] w K := by
  refine c17 ?_
  unfold F17 F17_1 F17_1b
  refine dnames_spec hc h fun nv w h => ?_
  replace h := h.frt (A := DiskA v d)
  obtain ⟨p, m, M, rfl, H, ok, h2⟩ := diskA_open h
  clear h
  have h := h2
  clear h2
  (repeat (first
 | (simp (disch := omega) only [evA, evB, evC, bAdd_i64, bSub_i64])
 | (with_reducible apply go_ld1 h)
 | ((with_reducible first | apply go_ldA h | apply go_rd h | apply go_rdN h | apply go_rlen h); rfl)
 | (with_reducible first | apply go_ldN h | apply go_lenL h)
 | ((with_reducible apply go_st h); intro _ h)
 | ((with_reducible apply go_stA h); rfl; rfl; (first | rfl | simp [OneV.o]); intro _ h)
 | ((with_reducible apply go_stN h); rfl; (first | rfl | simp [OneV.o]); intro _ h)
 | ((with_reducible apply go_box h); rfl; intro _ _ h)
 | ((with_reducible apply go_ix h); omega)
 | ((with_reducible first | apply go_elN h | apply go_f1 h | apply go_rf1 h | apply go_rel h); (case hi => omega); (try case hx => exact inferInstance); (try case hv => rfl))
 | ((with_reducible apply go_fa h); omega; omega)
))
  rw [List.length_map]
  unfold F17_2
  exact crash_loop (keep := keep) hc ok hK fuel 0 M _ (by unfold fuel; omega) (by omega) (by simpa [crF] using H) (h.got)
end
end Go.Proofs.Gong

/- Dk7 -/
namespace Go.Proofs.Gong
open Go Go.Sx Go.Proofs
set_option maxRecDepth 100000
attribute [local irreducible] fBuild fLook fZero eqv bEqv Cl MapH LsH SlH ld1 ldN st callP eBox eAlloc lenM lenL eMapSet eDelete eAppend eBuildSl eRange eNext
section
variable {w0 w : World} {L : List HP} {K : Value → World → Prop} {v a b : Value} {d : Dk} {n x : List UInt8} {l : List (List UInt8)}
theorem sameT_loop [ra : RdIn w0 L a (List UInt8) cSt 1 l] [rb : RdIn w0 L b (List UInt8) cSt 1 l] (hl : l.length ≤ 1073741824) (hK : ∀ w', Sat w0 L w' → K (.bool true) w') : ∀ (k i : Nat) (w : World), l.length - i < k → i ≤ l.length → Sat w0 L w → F14_2L k a b (.bool true) (.int .i64 i) w K := by
  intro k
  induction k with
  | zero => intro i w hd; omega
  | succ k ih =>
    intro i w hd hi h
    rw [F14_2L]
    unfold F14_2b
    by_cases g : i < l.length
    · have g' : decide ((i : Int) < (l.length : Int)) = true := by simpa using g
      (repeat (first
 | (simp (disch := omega) only [evA, evB, evC, bAdd_i64, bSub_i64, g'])
 | (with_reducible apply go_ld1 h)
 | ((with_reducible first | apply go_ldA h | apply go_rd h | apply go_rdN h); rfl)
 | (with_reducible first | apply go_ldN h | apply go_lenR h)
 | ((with_reducible apply go_st h); intro _ h)
 | ((with_reducible apply go_stA h); rfl; rfl; (first | rfl | simp [OneV.o]); intro _ h)
 | ((with_reducible apply go_stN h); rfl; (first | rfl | simp [OneV.o]); intro _ h)
 | ((with_reducible apply go_box h); rfl; intro _ _ h)
 | ((with_reducible apply go_ixR h); omega)
 | ((with_reducible first | apply go_elR h | apply go_f1R h | apply go_rf1R h | apply go_relR h | apply go_e1R h | apply go_re1R h); (case hc => exact inferInstance); (case hi => omega); (try case hx => exact inferInstance); (try case hv => rfl))
 | ((with_reducible apply go_fNR h); (case hc => exact inferInstance); (case hi => omega); (try case hp => exact inferInstance); (try case hv => rfl))
 | ((with_reducible apply go_faR h); (case hc => exact inferInstance); omega; omega)
 | ((with_reducible apply go_rlenR h); rfl)
))
      exact ih (i + 1) _ (by omega) (by omega) h.drew
    · have g' : decide ((i : Int) < (l.length : Int)) = false := by simpa using g
      (repeat (first
 | (simp (disch := omega) only [evA, evB, evC, bAdd_i64, bSub_i64, g'])
 | (with_reducible apply go_ld1 h)
 | ((with_reducible first | apply go_ldA h | apply go_rd h | apply go_rdN h); rfl)
 | (with_reducible first | apply go_ldN h | apply go_lenR h)
 | ((with_reducible apply go_st h); intro _ h)
 | ((with_reducible apply go_stA h); rfl; rfl; (first | rfl | simp [OneV.o]); intro _ h)
 | ((with_reducible apply go_stN h); rfl; (first | rfl | simp [OneV.o]); intro _ h)
 | ((with_reducible apply go_box h); rfl; intro _ _ h)
 | ((with_reducible apply go_ixR h); omega)
 | ((with_reducible first | apply go_elR h | apply go_f1R h | apply go_rf1R h | apply go_relR h | apply go_e1R h | apply go_re1R h); (case hc => exact inferInstance); (case hi => omega); (try case hx => exact inferInstance); (try case hv => rfl))
 | ((with_reducible apply go_fNR h); (case hc => exact inferInstance); (case hi => omega); (try case hp => exact inferInstance); (try case hv => rfl))
 | ((with_reducible apply go_faR h); (case hc => exact inferInstance); omega; omega)
 | ((with_reducible apply go_rlenR h); rfl)
))
      unfold F14_3 F14_3b
      exact hK _ h
theorem sameT_spec [ra : RdIn w0 L a (List UInt8) cSt 1 l] [rb : RdIn w0 L b (List UInt8) cSt 1 l] (hl : l.length ≤ 1073741824) (h : Sat w0 L w) (hK : ∀ w', Sat w0 L w' → K (.bool true) w') : callP G14 [a, b] w K := by
  refine c14 ?_
  unfold F14 F14_1 F14_1b F14_2
  (repeat (first
 | (simp (disch := omega) only [evA, evB, evC, bAdd_i64, bSub_i64])
 | (with_reducible apply go_ld1 h)
 | ((with_reducible first | apply go_ldA h | apply go_rd h | apply go_rdN h); rfl)
 | (with_reducible first | apply go_ldN h | apply go_lenR h)
 | ((with_reducible apply go_st h); intro _ h)
 | ((with_reducible apply go_stA h); rfl; rfl; (first | rfl | simp [OneV.o]); intro _ h)
 | ((with_reducible apply go_stN h); rfl; (first | rfl | simp [OneV.o]); intro _ h)
 | ((with_reducible apply go_box h); rfl; intro _ _ h)
 | ((with_reducible apply go_ixR h); omega)
 | ((with_reducible first | apply go_elR h | apply go_f1R h | apply go_rf1R h | apply go_relR h | apply go_e1R h | apply go_re1R h); (case hc => exact inferInstance); (case hi => omega); (try case hx => exact inferInstance); (try case hv => rfl))
 | ((with_reducible apply go_fNR h); (case hc => exact inferInstance); (case hi => omega); (try case hp => exact inferInstance); (try case hv => rfl))
 | ((with_reducible apply go_faR h); (case hc => exact inferInstance); omega; omega)
 | ((with_reducible apply go_rlenR h); rfl)
))
  exact sameT_loop hl hK fuel 0 _ (by unfold fuel; omega) (by omega) h
theorem works25_spec (h : Sat w0 L w) (hK : ∀ w', Sat w0 L w' → K (.bool true) w') : callP G9 [] w K := by
  refine c9 ?_
  unfold F9
  refine dnew_spec h (fun hb => by omega) fun _ _ p w h => ?_
  have e1 : makeD [102] (newD 100) = (0, ⟨100, false, 0, [⟨[102], [], 0⟩]⟩) := by rfl
  have e2 : appD [102] [97, 98, 99] ⟨100, false, 0, [⟨[102], [], 0⟩]⟩ = (0, ⟨100, false, 0, [⟨[102], [97, 98, 99], 0⟩]⟩) := by rfl
  have e3 : syncD [102] ⟨100, false, 0, [⟨[102], [97, 98, 99], 0⟩]⟩ = (0, ⟨100, false, 0, [⟨[102], [97, 98, 99], 3⟩]⟩) := by rfl
  have e4 : appD [102] [100, 101, 102] ⟨100, false, 0, [⟨[102], [97, 98, 99], 3⟩]⟩ = (0, ⟨100, false, 0, [⟨[102], [97, 98, 99, 100, 101, 102], 3⟩]⟩) := by rfl
  have e5 : crashD [1] ⟨100, false, 0, [⟨[102], [97, 98, 99, 100, 101, 102], 3⟩]⟩ = ⟨100, false, 0, [⟨[102], [97, 98, 99, 100], 4⟩]⟩ := by rfl
  have e6 : fGet [102] [(⟨[102], [97, 98, 99, 100], 4⟩ : Fil)] = some ⟨[102], [97, 98, 99, 100], 4⟩ := by rfl
  (repeat (first
 | (simp (disch := omega) only [evA, evB, evC, bAdd_i64, bSub_i64])
 | (refine go_some (bEq_nilp up23   ..) ?_)
 | (with_reducible apply go_ld1 h)
 | ((with_reducible first | apply go_ldA h | apply go_rd h | apply go_rdN h | apply go_rlen h); rfl)
 | (with_reducible first | apply go_ldN h | apply go_lenL h)
 | ((with_reducible apply go_st h); intro _ h)
 | ((with_reducible apply go_stA h); rfl; rfl; (first | rfl | simp [OneV.o]); intro _ h)
 | ((with_reducible apply go_stN h); rfl; (first | rfl | simp [OneV.o]); intro _ h)
 | ((with_reducible apply go_box h); rfl; intro _ _ h)
 | ((with_reducible apply go_ix h); omega)
 | ((with_reducible first | apply go_elN h | apply go_f1 h | apply go_rf1 h | apply go_rel h); (case hi => omega); (try case hx => exact inferInstance); (try case hv => rfl))
 | ((with_reducible apply go_fa h); omega; omega)
))
  refine dmake_spec (n := [102]) h fun w h => ?_
  rw [e1] at h ⊢
  (repeat (first
 | (simp (disch := omega) only [evA, evB, evC, bAdd_i64, bSub_i64])
 | (with_reducible apply go_ld1 h)
 | ((with_reducible first | apply go_ldA h | apply go_rd h | apply go_rdN h | apply go_rlen h); rfl)
 | (with_reducible first | apply go_ldN h | apply go_lenL h)
 | ((with_reducible apply go_st h); intro _ h)
 | ((with_reducible apply go_stA h); rfl; rfl; (first | rfl | simp [OneV.o]); intro _ h)
 | ((with_reducible apply go_stN h); rfl; (first | rfl | simp [OneV.o]); intro _ h)
 | ((with_reducible apply go_box h); rfl; intro _ _ h)
 | ((with_reducible apply go_ix h); omega)
 | ((with_reducible first | apply go_elN h | apply go_f1 h | apply go_rf1 h | apply go_rel h); (case hi => omega); (try case hx => exact inferInstance); (try case hv => rfl))
 | ((with_reducible apply go_fa h); omega; omega)
))
  refine app_spec (n := [102]) (x := [97, 98, 99]) (by simp) (by simp) h fun w h => ?_
  rw [e2] at h ⊢
  (repeat (first
 | (simp (disch := omega) only [evA, evB, evC, bAdd_i64, bSub_i64])
 | (with_reducible apply go_ld1 h)
 | ((with_reducible first | apply go_ldA h | apply go_rd h | apply go_rdN h | apply go_rlen h); rfl)
 | (with_reducible first | apply go_ldN h | apply go_lenL h)
 | ((with_reducible apply go_st h); intro _ h)
 | ((with_reducible apply go_stA h); rfl; rfl; (first | rfl | simp [OneV.o]); intro _ h)
 | ((with_reducible apply go_stN h); rfl; (first | rfl | simp [OneV.o]); intro _ h)
 | ((with_reducible apply go_box h); rfl; intro _ _ h)
 | ((with_reducible apply go_ix h); omega)
 | ((with_reducible first | apply go_elN h | apply go_f1 h | apply go_rf1 h | apply go_rel h); (case hi => omega); (try case hx => exact inferInstance); (try case hv => rfl))
 | ((with_reducible apply go_fa h); omega; omega)
))
  refine dsync_spec (n := [102]) h fun w h => ?_
  rw [e3] at h ⊢
  (repeat (first
 | (simp (disch := omega) only [evA, evB, evC, bAdd_i64, bSub_i64])
 | (with_reducible apply go_ld1 h)
 | ((with_reducible first | apply go_ldA h | apply go_rd h | apply go_rdN h | apply go_rlen h); rfl)
 | (with_reducible first | apply go_ldN h | apply go_lenL h)
 | ((with_reducible apply go_st h); intro _ h)
 | ((with_reducible apply go_stA h); rfl; rfl; (first | rfl | simp [OneV.o]); intro _ h)
 | ((with_reducible apply go_stN h); rfl; (first | rfl | simp [OneV.o]); intro _ h)
 | ((with_reducible apply go_box h); rfl; intro _ _ h)
 | ((with_reducible apply go_ix h); omega)
 | ((with_reducible first | apply go_elN h | apply go_f1 h | apply go_rf1 h | apply go_rel h); (case hi => omega); (try case hx => exact inferInstance); (try case hv => rfl))
 | ((with_reducible apply go_fa h); omega; omega)
))
  refine app_spec (n := [102]) (x := [100, 101, 102]) (by simp) (by simp) h fun w h => ?_
  rw [e4] at h ⊢
  (repeat (first
 | (simp (disch := omega) only [evA, evB, evC, bAdd_i64, bSub_i64])
 | (with_reducible apply go_ld1 h)
 | ((with_reducible first | apply go_ldA h | apply go_rd h | apply go_rdN h | apply go_rlen h); rfl)
 | (with_reducible first | apply go_ldN h | apply go_lenL h)
 | ((with_reducible apply go_st h); intro _ h)
 | ((with_reducible apply go_stA h); rfl; rfl; (first | rfl | simp [OneV.o]); intro _ h)
 | ((with_reducible apply go_stN h); rfl; (first | rfl | simp [OneV.o]); intro _ h)
 | ((with_reducible apply go_box h); rfl; intro _ _ h)
 | ((with_reducible apply go_ix h); omega)
 | ((with_reducible first | apply go_elN h | apply go_f1 h | apply go_rf1 h | apply go_rel h); (case hi => omega); (try case hx => exact inferInstance); (try case hv => rfl))
 | ((with_reducible apply go_fa h); omega; omega)
))
  refine go_lit1 (f := cI) (x := (1 : Int)) CI h u22 (c := #[.int .i64 1]) (by kernel_rfl) rfl fun s w h => ?_
  refine dcrash_spec (keep := [1]) (L := LsH cI 1 3 s [1] :: L) (by simp) h.f1 fun w h => ?_
  rw [e5] at h
  (repeat (first
 | (simp (disch := omega) only [evA, evB, evC, bAdd_i64, bSub_i64])
 | (with_reducible apply go_ld1 h)
 | ((with_reducible first | apply go_ldA h | apply go_rd h | apply go_rdN h | apply go_rlen h); rfl)
 | (with_reducible first | apply go_ldN h | apply go_lenL h)
 | ((with_reducible apply go_st h); intro _ h)
 | ((with_reducible apply go_stA h); rfl; rfl; (first | rfl | simp [OneV.o]); intro _ h)
 | ((with_reducible apply go_stN h); rfl; (first | rfl | simp [OneV.o]); intro _ h)
 | ((with_reducible apply go_box h); rfl; intro _ _ h)
 | ((with_reducible apply go_ix h); omega)
 | ((with_reducible first | apply go_elN h | apply go_f1 h | apply go_rf1 h | apply go_rel h); (case hi => omega); (try case hx => exact inferInstance); (try case hv => rfl))
 | ((with_reducible apply go_fa h); omega; omega)
))
  refine dread_spec (n := [102]) h fun w h => ?_
  simp only [e6, Option.elim_some]
  (repeat (first
 | (simp (disch := omega) only [evA, evB, evC, bAdd_i64, bSub_i64])
 | (with_reducible apply go_ld1 h)
 | ((with_reducible first | apply go_ldA h | apply go_rd h | apply go_rdN h | apply go_rlen h); rfl)
 | (with_reducible first | apply go_ldN h | apply go_lenL h)
 | ((with_reducible apply go_st h); intro _ h)
 | ((with_reducible apply go_stA h); rfl; rfl; (first | rfl | simp [OneV.o]); intro _ h)
 | ((with_reducible apply go_stN h); rfl; (first | rfl | simp [OneV.o]); intro _ h)
 | ((with_reducible apply go_box h); rfl; intro _ _ h)
 | ((with_reducible apply go_ix h); omega)
 | ((with_reducible first | apply go_elN h | apply go_f1 h | apply go_rf1 h | apply go_rel h); (case hi => omega); (try case hx => exact inferInstance); (try case hv => rfl))
 | ((with_reducible apply go_fa h); omega; omega)
))
  exact hK _ (h.got)
end
end Go.Proofs.Gong

/- Dl0 -/
namespace Go.Proofs.Gong
open Go Go.Sx Go.Proofs
set_option maxRecDepth 100000
@[reducible] def cFil (f : Fil) : List Value := [.string (bs f.name), .string (bs f.s), .int .i64 (f.safe : Nat)]
abbrev filV (f : Fil) : Value := .agg (cFil f).toArray
instance CFil : CodC cFil 3 := ⟨⟨fun _ => rfl, fun _ => rfl, by omega⟩⟩
theorem fbFil (x : Fil) : fBuildSl Try.prog 105 1 [(0, .agg (cFil x).toArray)] = some (cFil x).toArray := by kernel_rfl
def RefD (v : Value) (d : Dk) : HP := HEx fun p => HEx fun s => HPr (v = ptr p) (HSt (Cl p #[.int .i64 d.room, .bool d.stop, .int .i64 d.left, s] 101) (LsH cFil 3 105 s d.fs))
theorem fat_at {n : List UInt8} {p : Fil → Bool} (hp : p = fun x => decide (fKey x = n)) : ∀ {fs : List Fil} {i : Nat} (hi : i < fs.length), (∀ j (h : j < i), p (fs[j]'(by omega)) = false) → p fs[i] = true → fGet n fs = some fs[i]
  | r :: fs, 0, _, _, h1 => by
    subst hp
    simp only [List.getElem_cons_zero] at h1 ⊢
    unfold fGet kGet
    have h1' : decide (fKey r = n) = true := h1
    rw [List.find?_cons, h1']
  | r :: fs, i + 1, hi, h0, h1 => by
    have h2 := h0 0 (by omega)
    simp only [List.getElem_cons_zero] at h2
    have := fat_at hp (fs := fs) (i := i) (by simpa using hi) (fun j h => by have := h0 (j + 1) (by omega); simpa using this) (by simpa using h1)
    subst hp
    unfold fGet kGet at this ⊢
    have h2' : decide (fKey r = n) = false := h2
    rw [List.find?_cons, h2']
    simpa using this
theorem fat_no {n : List UInt8} {fs : List Fil} (h : ∀ j (h : j < fs.length), decide (fs[j].name = n) = false) : fGet n fs = none := by
  unfold fGet kGet
  rw [List.find?_eq_none]
  intro x hx
  obtain ⟨j, hj, rfl⟩ := List.getElem_of_mem hx
  show ¬ decide (fs[j].name = n) = true
  rw [h j hj]; simp
theorem kIns_at {r : Fil} {o : List Fil} {k : Nat} (hle : ∀ x ∈ o.take k, x.name < r.name) (hs : ∀ x, o[k]? = some x → ¬ x.name < r.name) : o.take k ++ r :: o.drop k = kIns ltS fKey r o := by
  unfold kIns
  have e0 : o = o.take k ++ o.drop k := (List.take_append_drop k o).symm
  have e1 : o.takeWhile (fun d => ltS (fKey d) (fKey r)) = o.take k ∧ o.dropWhile (fun d => ltS (fKey d) (fKey r)) = o.drop k := by
    constructor
    · conv => lhs; rw [e0]
      rw [List.takeWhile_append_of_pos (by intro x hx; simpa [ltS] using hle x hx)]
      cases hd : o.drop k with
      | nil => simp
      | cons y t =>
        have : o[k]? = some y := by rw [← List.head?_drop, hd]; rfl
        have := hs y this
        rw [List.takeWhile_cons, if_neg (by simpa [ltS] using this), List.append_nil]
    · conv => lhs; rw [e0]
      rw [List.dropWhile_append_of_pos (by intro x hx; simpa [ltS] using hle x hx)]
      cases hd : o.drop k with
      | nil => simp
      | cons y t =>
        have : o[k]? = some y := by rw [← List.head?_drop, hd]; rfl
        have := hs y this
        rw [List.dropWhile_cons, if_neg (by simpa [ltS] using this)]
  rw [e1.1, e1.2]
theorem fDel_take {n : List UInt8} {fs : List Fil} {i : Nat} (hi : i < fs.length) : fDel n (fs.take (i + 1)) = fDel n (fs.take i) ++ if fs[i].name = n then [] else [fs[i]] := by
  unfold fDel kDel
  rw [List.take_succ_eq_append_getElem hi, List.filter_append]
  by_cases h : fs[i].name = n <;> simp [h, fKey]
theorem fDel_len {n : List UInt8} {fs : List Fil} : (fDel n fs).length ≤ fs.length := List.length_filter_le _ _
attribute [local irreducible] fBuild fLook fZero eqv bEqv Cl MapH LsH SlH ld1 ldN st callP eBox eAlloc lenM lenL eMapSet eDelete eAppend eBuildSl eRange eNext
section
variable {w0 w : World} {L : List HP} {K : Value → World → Prop} {v : Value} {d : Dk} {n x : List UInt8} {fs : List Fil} {f : Fil}
theorem refD_iff : Sat w0 (RefD v d :: L) w ↔ ∃ p s, v = ptr p ∧ Sat w0 (Cl p #[.int .i64 d.room, .bool d.stop, .int .i64 d.left, s] 101 :: LsH cFil 3 105 s d.fs :: L) w := by
  simp only [RefD, Sat.ex_iff, Sat.pr_iff, Sat.star_iff]
theorem risname_spec (hK : K (.bool (nameOk n)) w) : callP G78 [.string (bs n)] w K := by
  refine c78 ?_
  unfold F78
  unfold nameOk at hK
  by_cases g1 : n.length ≥ 1
  · have g0 : decide ((n.length : Int) ≥ 1) = true := by simp; omega
    have e2 : decide ((n.length : Int) ≤ 64) = decide (n.length ≤ 64) := by congr 1; simp; omega
    rw [decide_eq_true g1, Bool.true_and] at hK
    (repeat (first
 | (simp (disch := omega) only [evA, evB, evC, bAdd_i64, bSub_i64, g0, e2])
 | (with_reducible apply go_ld1 h)
 | ((with_reducible first | apply go_ldA h | apply go_rd h | apply go_rdN h | apply go_rlen h); rfl)
 | (with_reducible first | apply go_ldN h | apply go_lenL h)
 | ((with_reducible apply go_st h); intro _ h)
 | ((with_reducible apply go_stA h); rfl; rfl; (first | rfl | simp [OneV.o]); intro _ h)
 | ((with_reducible apply go_stN h); rfl; (first | rfl | simp [OneV.o]); intro _ h)
 | ((with_reducible apply go_box h); rfl; intro _ _ h)
 | ((with_reducible apply go_ix h); omega)
 | ((with_reducible first | apply go_elN h | apply go_f1 h | apply go_rf1 h | apply go_rel h); (case hi => omega); (try case hx => exact inferInstance); (try case hv => rfl))
 | ((with_reducible apply go_fa h); omega; omega)
))
    exact hK
  · have g0 : decide ((n.length : Int) ≥ 1) = false := by simp; omega
    rw [decide_eq_false (by omega), Bool.false_and] at hK
    (repeat (first
 | (simp (disch := omega) only [evA, evB, evC, bAdd_i64, bSub_i64, g0])
 | (with_reducible apply go_ld1 h)
 | ((with_reducible first | apply go_ldA h | apply go_rd h | apply go_rdN h | apply go_rlen h); rfl)
 | (with_reducible first | apply go_ldN h | apply go_lenL h)
 | ((with_reducible apply go_st h); intro _ h)
 | ((with_reducible apply go_stA h); rfl; rfl; (first | rfl | simp [OneV.o]); intro _ h)
 | ((with_reducible apply go_stN h); rfl; (first | rfl | simp [OneV.o]); intro _ h)
 | ((with_reducible apply go_box h); rfl; intro _ _ h)
 | ((with_reducible apply go_ix h); omega)
 | ((with_reducible first | apply go_elN h | apply go_f1 h | apply go_rf1 h | apply go_rel h); (case hi => omega); (try case hx => exact inferInstance); (try case hv => rfl))
 | ((with_reducible apply go_fa h); omega; omega)
))
    exact hK
theorem rfat_loop {p : Nat} {c0 c1 c2 s : Value} (hl : fs.length ≤ 1073741824) (hK0 : fGet n fs = none → K (.int .i64 (-1)) w)
    (hK1 : ∀ i (hi : i < fs.length), fGet n fs = some fs[i] → K (.int .i64 (i : Nat)) w)
    (h : Sat w0 (Cl p #[c0, c1, c2, s] 101 :: LsH cFil 3 105 s fs :: L) w) :
    ∀ (k i : Nat), fs.length - i < k → i ≤ fs.length → (∀ j (h : j < i) (hj : j < fs.length), decide (fs[j].name = n) = false) → F79_2L k (ptr p) (.string (bs n)) (.int .i64 i) w K := by
  intro k
  induction k with
  | zero => intro i hd; omega
  | succ k ih =>
    intro i hd hi h0
    rw [F79_2L]
    unfold F79_2b
    by_cases g : i < fs.length
    · have g' : decide ((i : Int) < (fs.length : Int)) = true := by simpa using g
      (repeat (first
 | (simp (disch := omega) only [evA, evB, evC, bAdd_i64, bSub_i64, g'])
 | (with_reducible apply go_ld1 h)
 | ((with_reducible first | apply go_ldA h | apply go_rd h | apply go_rdN h | apply go_rlen h); rfl)
 | (with_reducible first | apply go_ldN h | apply go_lenL h)
 | ((with_reducible apply go_st h); intro _ h)
 | ((with_reducible apply go_stA h); rfl; rfl; (first | rfl | simp [OneV.o]); intro _ h)
 | ((with_reducible apply go_stN h); rfl; (first | rfl | simp [OneV.o]); intro _ h)
 | ((with_reducible apply go_box h); rfl; intro _ _ h)
 | ((with_reducible apply go_ix h); omega)
 | ((with_reducible first | apply go_elN h | apply go_f1 h | apply go_rf1 h | apply go_rel h); (case hi => omega); (try case hx => exact inferInstance); (try case hv => rfl))
 | ((with_reducible apply go_fa h); omega; omega)
))
      cases hs : decide (fs[i].name = n)
      · (repeat (first
 | (simp (disch := omega) only [evA, evB, evC, bAdd_i64, bSub_i64])
 | (with_reducible apply go_ld1 h)
 | ((with_reducible first | apply go_ldA h | apply go_rd h | apply go_rdN h | apply go_rlen h); rfl)
 | (with_reducible first | apply go_ldN h | apply go_lenL h)
 | ((with_reducible apply go_st h); intro _ h)
 | ((with_reducible apply go_stA h); rfl; rfl; (first | rfl | simp [OneV.o]); intro _ h)
 | ((with_reducible apply go_stN h); rfl; (first | rfl | simp [OneV.o]); intro _ h)
 | ((with_reducible apply go_box h); rfl; intro _ _ h)
 | ((with_reducible apply go_ix h); omega)
 | ((with_reducible first | apply go_elN h | apply go_f1 h | apply go_rf1 h | apply go_rel h); (case hi => omega); (try case hx => exact inferInstance); (try case hv => rfl))
 | ((with_reducible apply go_fa h); omega; omega)
))
        refine ih (i + 1) (by omega) (by omega) (fun j h hj => ?_)
        by_cases ej : j = i
        · subst ej; exact hs
        · exact h0 j (by omega) hj
      · (repeat (first
 | (simp (disch := omega) only [evA, evB, evC, bAdd_i64, bSub_i64])
 | (with_reducible apply go_ld1 h)
 | ((with_reducible first | apply go_ldA h | apply go_rd h | apply go_rdN h | apply go_rlen h); rfl)
 | (with_reducible first | apply go_ldN h | apply go_lenL h)
 | ((with_reducible apply go_st h); intro _ h)
 | ((with_reducible apply go_stA h); rfl; rfl; (first | rfl | simp [OneV.o]); intro _ h)
 | ((with_reducible apply go_stN h); rfl; (first | rfl | simp [OneV.o]); intro _ h)
 | ((with_reducible apply go_box h); rfl; intro _ _ h)
 | ((with_reducible apply go_ix h); omega)
 | ((with_reducible first | apply go_elN h | apply go_f1 h | apply go_rf1 h | apply go_rel h); (case hi => omega); (try case hx => exact inferInstance); (try case hv => rfl))
 | ((with_reducible apply go_fa h); omega; omega)
))
        exact hK1 i g (fat_at rfl g (fun j h => h0 j h (by omega)) hs)
    · have g' : decide ((i : Int) < (fs.length : Int)) = false := by simpa using g
      (repeat (first
 | (simp (disch := omega) only [evA, evB, evC, bAdd_i64, bSub_i64, g'])
 | (with_reducible apply go_ld1 h)
 | ((with_reducible first | apply go_ldA h | apply go_rd h | apply go_rdN h | apply go_rlen h); rfl)
 | (with_reducible first | apply go_ldN h | apply go_lenL h)
 | ((with_reducible apply go_st h); intro _ h)
 | ((with_reducible apply go_stA h); rfl; rfl; (first | rfl | simp [OneV.o]); intro _ h)
 | ((with_reducible apply go_stN h); rfl; (first | rfl | simp [OneV.o]); intro _ h)
 | ((with_reducible apply go_box h); rfl; intro _ _ h)
 | ((with_reducible apply go_ix h); omega)
 | ((with_reducible first | apply go_elN h | apply go_f1 h | apply go_rf1 h | apply go_rel h); (case hi => omega); (try case hx => exact inferInstance); (try case hv => rfl))
 | ((with_reducible apply go_fa h); omega; omega)
))
      unfold F79_3 F79_3b
      exact hK0 (fat_no fun j hj => h0 j (by omega) hj)
theorem rfat_spec (hl : d.fs.length ≤ 1073741824) (h : Sat w0 (RefD v d :: L) w) (hK0 : fGet n d.fs = none → K (.int .i64 (-1)) w)
    (hK1 : ∀ i (hi : i < d.fs.length), fGet n d.fs = some d.fs[i] → K (.int .i64 (i : Nat)) w) : callP G79 [v, .string (bs n)] w K := by
  refine c79 ?_
  unfold F79 F79_1 F79_1b F79_2
  replace h := refD_iff.1 h
  obtain ⟨p, s, rfl, h⟩ := h
  exact rfat_loop hl hK0 hK1 h fuel 0 (by unfold fuel; omega) (by omega) (fun j h => by omega)
theorem rftake_loop {p : Nat} {c0 c1 c2 s : Value} (hl : fs.length ≤ 1073741824) (hK : ∀ s' w', Sat w0 (Cl p #[c0, c1, c2, s'] 101 :: LsH cFil 3 105 s' (fDel n fs) :: L) w' → K (.tuple #[]) w') :
    ∀ (k i : Nat) (s4 : Value) (w : World), fs.length - i < k → i ≤ fs.length → Sat w0 (LsH cFil 3 105 s4 (fDel n (fs.take i)) :: Cl p #[c0, c1, c2, s] 101 :: LsH cFil 3 105 s fs :: L) w → F82_2L k (ptr p) (.string (bs n)) s4 (.int .i64 i) w K := by
  intro k
  induction k with
  | zero => intro i s4 w hd; omega
  | succ k ih =>
    intro i s4 w hd hi h
    rw [F82_2L]
    unfold F82_4 F82_4b
    have hdl := fDel_len (n := n) (fs := fs.take i)
    rw [List.length_take] at hdl
    by_cases g : i < fs.length
    · have g' : decide ((i : Int) < (fs.length : Int)) = true := by simpa using g
      have ht := fDel_take (n := n) g
      by_cases hs : fs[i].name = n
      · have hs' : decide (fs[i].name = n) = true := by simpa using hs
        rw [if_pos hs, List.append_nil] at ht
        (repeat (first
 | (simp (disch := omega) only [evA, evB, evC, bAdd_i64, bSub_i64, g', hs'])
 | (with_reducible apply go_ld1 h)
 | ((with_reducible first | apply go_ldA h | apply go_rd h | apply go_rdN h | apply go_rlen h); rfl)
 | (with_reducible first | apply go_ldN h | apply go_lenL h)
 | ((with_reducible apply go_st h); intro _ h)
 | ((with_reducible apply go_stA h); rfl; rfl; (first | rfl | simp [OneV.o]); intro _ h)
 | ((with_reducible apply go_stN h); rfl; (first | rfl | simp [OneV.o]); intro _ h)
 | ((with_reducible apply go_box h); rfl; intro _ _ h)
 | ((with_reducible apply go_ix h); omega)
 | ((with_reducible first | apply go_elN h | apply go_f1 h | apply go_rf1 h | apply go_rel h); (case hi => omega); (try case hx => exact inferInstance); (try case hv => rfl))
 | ((with_reducible apply go_fa h); omega; omega)
))
        unfold F82_5 F82_5b
        (repeat (first
 | (simp (disch := omega) only [evA, evB, evC, bAdd_i64, bSub_i64])
 | (with_reducible apply go_ld1 h)
 | ((with_reducible first | apply go_ldA h | apply go_rd h | apply go_rdN h | apply go_rlen h); rfl)
 | (with_reducible first | apply go_ldN h | apply go_lenL h)
 | ((with_reducible apply go_st h); intro _ h)
 | ((with_reducible apply go_stA h); rfl; rfl; (first | rfl | simp [OneV.o]); intro _ h)
 | ((with_reducible apply go_stN h); rfl; (first | rfl | simp [OneV.o]); intro _ h)
 | ((with_reducible apply go_box h); rfl; intro _ _ h)
 | ((with_reducible apply go_ix h); omega)
 | ((with_reducible first | apply go_elN h | apply go_f1 h | apply go_rf1 h | apply go_rel h); (case hi => omega); (try case hx => exact inferInstance); (try case hv => rfl))
 | ((with_reducible apply go_fa h); omega; omega)
))
        exact ih (i + 1) _ _ (by omega) (by omega) (by rw [ht]; exact h)
      · have hs' : decide (fs[i].name = n) = false := by simpa using hs
        rw [if_neg hs] at ht
        (repeat (first
 | (simp (disch := omega) only [evA, evB, evC, bAdd_i64, bSub_i64, g', hs'])
 | (with_reducible apply go_ld1 h)
 | ((with_reducible first | apply go_ldA h | apply go_rd h | apply go_rdN h | apply go_rlen h); rfl)
 | (with_reducible first | apply go_ldN h | apply go_lenL h)
 | ((with_reducible apply go_st h); intro _ h)
 | ((with_reducible apply go_stA h); rfl; rfl; (first | rfl | simp [OneV.o]); intro _ h)
 | ((with_reducible apply go_stN h); rfl; (first | rfl | simp [OneV.o]); intro _ h)
 | ((with_reducible apply go_box h); rfl; intro _ _ h)
 | ((with_reducible apply go_ix h); omega)
 | ((with_reducible first | apply go_elN h | apply go_f1 h | apply go_rf1 h | apply go_rel h); (case hi => omega); (try case hx => exact inferInstance); (try case hv => rfl))
 | ((with_reducible apply go_fa h); omega; omega)
 | ((with_reducible first | apply go_lit0 CFil.cod h u99 (by kernel_rfl) | apply go_lit1 CFil.cod h u99 (fbFil _) rfl); intro _ _ h)
 | ((with_reducible apply go_app h sl99 ss99); (case hm => repeat (first | exact .here | apply Fnt.there)); (case hb => first | omega | (simp; omega)); intro _ _ _ h)
))
        unfold F82_5 F82_5b
        (repeat (first
 | (simp (disch := omega) only [evA, evB, evC, bAdd_i64, bSub_i64])
 | (with_reducible apply go_ld1 h)
 | ((with_reducible first | apply go_ldA h | apply go_rd h | apply go_rdN h | apply go_rlen h); rfl)
 | (with_reducible first | apply go_ldN h | apply go_lenL h)
 | ((with_reducible apply go_st h); intro _ h)
 | ((with_reducible apply go_stA h); rfl; rfl; (first | rfl | simp [OneV.o]); intro _ h)
 | ((with_reducible apply go_stN h); rfl; (first | rfl | simp [OneV.o]); intro _ h)
 | ((with_reducible apply go_box h); rfl; intro _ _ h)
 | ((with_reducible apply go_ix h); omega)
 | ((with_reducible first | apply go_elN h | apply go_f1 h | apply go_rf1 h | apply go_rel h); (case hi => omega); (try case hx => exact inferInstance); (try case hv => rfl))
 | ((with_reducible apply go_fa h); omega; omega)
))
        exact ih (i + 1) _ _ (by omega) (by omega) (by rw [ht]; exact h.got)
    · have g' : decide ((i : Int) < (fs.length : Int)) = false := by simpa using g
      have e : i = fs.length := by omega
      subst e
      rw [List.take_length] at h
      have := ls_one h
      (repeat (first
 | (simp (disch := omega) only [evA, evB, evC, bAdd_i64, bSub_i64, g'])
 | (with_reducible apply go_ld1 h)
 | ((with_reducible first | apply go_ldA h | apply go_rd h | apply go_rdN h | apply go_rlen h); rfl)
 | (with_reducible first | apply go_ldN h | apply go_lenL h)
 | ((with_reducible apply go_st h); intro _ h)
 | ((with_reducible apply go_stA h); rfl; rfl; (first | rfl | simp [OneV.o]); intro _ h)
 | ((with_reducible apply go_stN h); rfl; (first | rfl | simp [OneV.o]); intro _ h)
 | ((with_reducible apply go_box h); rfl; intro _ _ h)
 | ((with_reducible apply go_ix h); omega)
 | ((with_reducible first | apply go_elN h | apply go_f1 h | apply go_rf1 h | apply go_rel h); (case hi => omega); (try case hx => exact inferInstance); (try case hv => rfl))
 | ((with_reducible apply go_fa h); omega; omega)
))
      unfold F82_3 F82_3b
      (repeat (first
 | (simp (disch := omega) only [evA, evB, evC, bAdd_i64, bSub_i64])
 | (with_reducible apply go_ld1 h)
 | ((with_reducible first | apply go_ldA h | apply go_rd h | apply go_rdN h | apply go_rlen h); rfl)
 | (with_reducible first | apply go_ldN h | apply go_lenL h)
 | ((with_reducible apply go_st h); intro _ h)
 | ((with_reducible apply go_stA h); rfl; rfl; (first | rfl | simp [OneV.o]); intro _ h)
 | ((with_reducible apply go_stN h); rfl; (first | rfl | simp [OneV.o]); intro _ h)
 | ((with_reducible apply go_box h); rfl; intro _ _ h)
 | ((with_reducible apply go_ix h); omega)
 | ((with_reducible first | apply go_elN h | apply go_f1 h | apply go_rf1 h | apply go_rel h); (case hi => omega); (try case hx => exact inferInstance); (try case hv => rfl))
 | ((with_reducible apply go_fa h); omega; omega)
))
      exact hK _ _ (h.got)
theorem rftake_spec (hl : d.fs.length ≤ 1073741824) (h : Sat w0 (RefD v d :: L) w) (hK : ∀ w', Sat w0 (RefD v { d with fs := fDel n d.fs } :: L) w' → K (.tuple #[]) w') : callP G82 [v, .string (bs n)] w K := by
  refine c82 ?_
  unfold F82 F82_1 F82_1b F82_2
  replace h := refD_iff.1 h
  obtain ⟨p, s, rfl, h⟩ := h
  exact rftake_loop hl (fun s' w' h => hK w' (refD_iff.2 ⟨p, s', rfl, h⟩)) fuel 0 _ _ (by unfold fuel; omega) (by omega) (Sat.nilLs cFil 3 105 h)
theorem rfput_loop {p q : Nat} {c0 c1 c2 s : Value} (hl : fs.length ≤ 1073741824) (hK : ∀ s' w', Sat w0 (Cl p #[c0, c1, c2, s'] 101 :: LsH cFil 3 105 s' (kIns ltS fKey f fs) :: L) w' → K (.tuple #[]) w') :
    ∀ (k i : Nat) (w : World), fs.length - i < k → i ≤ fs.length → (∀ x ∈ fs.take i, x.name < f.name) → Sat w0 (Cl q (cFil f).toArray 105 :: Cl p #[c0, c1, c2, s] 101 :: LsH cFil 3 105 s fs :: L) w → F81_2L k (ptr p) (ptr q) (.int .i64 i) w K := by
  intro k
  induction k with
  | zero => intro i w hd; omega
  | succ k ih =>
    intro i w hd hi hle h
    rw [F81_2L]
    unfold F81_2b
    have fin : ∀ w, (∀ x, fs[i]? = some x → ¬ x.name < f.name) → Sat w0 (Cl q (cFil f).toArray 105 :: Cl p #[c0, c1, c2, s] 101 :: LsH cFil 3 105 s fs :: L) w → F81_3 (ptr p) (ptr q) (.int .i64 i) w K := by
      intro w hs h
      unfold F81_3 F81_3b
      (repeat (first
 | (simp (disch := omega) only [evA, evB, evC, bAdd_i64, bSub_i64])
 | (with_reducible apply go_ld1 h)
 | ((with_reducible first | apply go_ldA h | apply go_rd h | apply go_rdN h | apply go_rlen h); rfl)
 | (with_reducible first | apply go_ldN h | apply go_lenL h)
 | ((with_reducible apply go_st h); intro _ h)
 | ((with_reducible apply go_stA h); rfl; rfl; (first | rfl | simp [OneV.o]); intro _ h)
 | ((with_reducible apply go_stN h); rfl; (first | rfl | simp [OneV.o]); intro _ h)
 | ((with_reducible apply go_box h); rfl; intro _ _ h)
 | ((with_reducible apply go_ix h); omega)
 | ((with_reducible first | apply go_elN h | apply go_f1 h | apply go_rf1 h | apply go_rel h); (case hi => omega); (try case hx => exact inferInstance); (try case hv => rfl))
 | ((with_reducible apply go_fa h); omega; omega)
))
      refine go_subTo' h (i := i) hi fun v1 r1 => ?_
      replace h := Sat.nilLs cFil 3 105 h
      refine ls_app (l := []) (m := fs.take i) CFil.cod h sl99 ss99 (r1 h.drop inferInstance) (by simp; omega) fun s1 w h => ?_
      (repeat (first
 | (simp (disch := omega) only [evA, evB, evC, bAdd_i64, bSub_i64])
 | (with_reducible apply go_ld1 h)
 | ((with_reducible first | apply go_ldA h | apply go_rd h | apply go_rdN h | apply go_rlen h); rfl)
 | (with_reducible first | apply go_ldN h | apply go_lenL h)
 | ((with_reducible apply go_st h); intro _ h)
 | ((with_reducible apply go_stA h); rfl; rfl; (first | rfl | simp [OneV.o]); intro _ h)
 | ((with_reducible apply go_stN h); rfl; (first | rfl | simp [OneV.o]); intro _ h)
 | ((with_reducible apply go_box h); rfl; intro _ _ h)
 | ((with_reducible apply go_ix h); omega)
 | ((with_reducible first | apply go_elN h | apply go_f1 h | apply go_rf1 h | apply go_rel h); (case hi => omega); (try case hx => exact inferInstance); (try case hv => rfl))
 | ((with_reducible apply go_fa h); omega; omega)
 | ((with_reducible first | apply go_lit0 CFil.cod h u99 (by kernel_rfl) | apply go_lit1 CFil.cod h u99 (fbFil _) rfl); intro _ _ h)
 | ((with_reducible apply go_app h sl99 ss99); (case hm => repeat (first | exact .here | apply Fnt.there)); (case hb => first | omega | (simp; omega)); intro _ _ _ h)
))
      refine go_subFrom' (v := s) (l := fs) h (i := i) hi fun v2 r2 => ?_
      refine ls_app (l := ([] ++ fs.take i) ++ [f]) (m := fs.drop i) CFil.cod (h.frt) sl99 ss99 (r2 h inferInstance) (by simp; omega) fun s3 w h => ?_
      have e : [] ++ fs.take i ++ [f] ++ fs.drop i = kIns ltS fKey f fs := by rw [← kIns_at hle hs]; simp
      rw [e] at h
      have := ls_one h
      (repeat (first
 | (simp (disch := omega) only [evA, evB, evC, bAdd_i64, bSub_i64])
 | (with_reducible apply go_ld1 h)
 | ((with_reducible first | apply go_ldA h | apply go_rd h | apply go_rdN h | apply go_rlen h); rfl)
 | (with_reducible first | apply go_ldN h | apply go_lenL h)
 | ((with_reducible apply go_st h); intro _ h)
 | ((with_reducible apply go_stA h); rfl; rfl; (first | rfl | simp [OneV.o]); intro _ h)
 | ((with_reducible apply go_stN h); rfl; (first | rfl | simp [OneV.o]); intro _ h)
 | ((with_reducible apply go_box h); rfl; intro _ _ h)
 | ((with_reducible apply go_ix h); omega)
 | ((with_reducible first | apply go_elN h | apply go_f1 h | apply go_rf1 h | apply go_rel h); (case hi => omega); (try case hx => exact inferInstance); (try case hv => rfl))
 | ((with_reducible apply go_fa h); omega; omega)
))
      exact hK _ _ (h.got)
    by_cases g : i < fs.length
    · have g' : decide ((i : Int) < (fs.length : Int)) = true := by simpa using g
      by_cases hs : fs[i].name < f.name
      · have hs' : decide (fs[i].name < f.name) = true := by simpa using hs
        (repeat (first
 | (simp (disch := omega) only [evA, evB, evC, bAdd_i64, bSub_i64, g', hs'])
 | (refine go_some (bLt_txt fs[i].name f.name ..) ?_)
 | (with_reducible apply go_ld1 h)
 | ((with_reducible first | apply go_ldA h | apply go_rd h | apply go_rdN h | apply go_rlen h); rfl)
 | (with_reducible first | apply go_ldN h | apply go_lenL h)
 | ((with_reducible apply go_st h); intro _ h)
 | ((with_reducible apply go_stA h); rfl; rfl; (first | rfl | simp [OneV.o]); intro _ h)
 | ((with_reducible apply go_stN h); rfl; (first | rfl | simp [OneV.o]); intro _ h)
 | ((with_reducible apply go_box h); rfl; intro _ _ h)
 | ((with_reducible apply go_ix h); omega)
 | ((with_reducible first | apply go_elN h | apply go_f1 h | apply go_rf1 h | apply go_rel h); (case hi => omega); (try case hx => exact inferInstance); (try case hv => rfl))
 | ((with_reducible apply go_fa h); omega; omega)
))
        refine ih (i + 1) _ (by omega) (by omega) (fun x hx => ?_) (h.drew.got)
        rw [List.take_succ_eq_append_getElem g] at hx
        rcases List.mem_append.1 hx with hx | hx
        · exact hle x hx
        · simp at hx; subst hx; exact hs
      · have hs' : decide (fs[i].name < f.name) = false := by simpa using hs
        (repeat (first
 | (simp (disch := omega) only [evA, evB, evC, bAdd_i64, bSub_i64, g', hs'])
 | (refine go_some (bLt_txt fs[i].name f.name ..) ?_)
 | (with_reducible apply go_ld1 h)
 | ((with_reducible first | apply go_ldA h | apply go_rd h | apply go_rdN h | apply go_rlen h); rfl)
 | (with_reducible first | apply go_ldN h | apply go_lenL h)
 | ((with_reducible apply go_st h); intro _ h)
 | ((with_reducible apply go_stA h); rfl; rfl; (first | rfl | simp [OneV.o]); intro _ h)
 | ((with_reducible apply go_stN h); rfl; (first | rfl | simp [OneV.o]); intro _ h)
 | ((with_reducible apply go_box h); rfl; intro _ _ h)
 | ((with_reducible apply go_ix h); omega)
 | ((with_reducible first | apply go_elN h | apply go_f1 h | apply go_rf1 h | apply go_rel h); (case hi => omega); (try case hx => exact inferInstance); (try case hv => rfl))
 | ((with_reducible apply go_fa h); omega; omega)
))
        exact fin _ (fun x hx => by rw [List.getElem?_eq_getElem g] at hx; cases hx; exact hs) (h.drew.got)
    · have g' : decide ((i : Int) < (fs.length : Int)) = false := by simpa using g
      (repeat (first
 | (simp (disch := omega) only [evA, evB, evC, bAdd_i64, bSub_i64, g'])
 | (with_reducible apply go_ld1 h)
 | ((with_reducible first | apply go_ldA h | apply go_rd h | apply go_rdN h | apply go_rlen h); rfl)
 | (with_reducible first | apply go_ldN h | apply go_lenL h)
 | ((with_reducible apply go_st h); intro _ h)
 | ((with_reducible apply go_stA h); rfl; rfl; (first | rfl | simp [OneV.o]); intro _ h)
 | ((with_reducible apply go_stN h); rfl; (first | rfl | simp [OneV.o]); intro _ h)
 | ((with_reducible apply go_box h); rfl; intro _ _ h)
 | ((with_reducible apply go_ix h); omega)
 | ((with_reducible first | apply go_elN h | apply go_f1 h | apply go_rf1 h | apply go_rel h); (case hi => omega); (try case hx => exact inferInstance); (try case hv => rfl))
 | ((with_reducible apply go_fa h); omega; omega)
))
      exact fin _ (fun x hx => by rw [List.getElem?_eq_none (by omega)] at hx; cases hx) (h.drew.got)
theorem rfput_spec (hl : d.fs.length ≤ 1073741824) (h : Sat w0 (RefD v d :: L) w) (hK : ∀ w', Sat w0 (RefD v { d with fs := fPut f d.fs } :: L) w' → K (.tuple #[]) w') : callP G81 [v, filV f] w K := by
  refine c81 ?_
  unfold F81 F81_1 F81_1b
  obtain ⟨p0, s0, rfl, _⟩ := refD_iff.1 h
  (repeat (first
 | (simp (disch := omega) only [evA, evB, evC, bAdd_i64, bSub_i64])
 | (with_reducible apply go_ld1 h)
 | ((with_reducible first | apply go_ldA h | apply go_rd h | apply go_rdN h | apply go_rlen h); rfl)
 | (with_reducible first | apply go_ldN h | apply go_lenL h)
 | ((with_reducible apply go_st h); intro _ h)
 | ((with_reducible apply go_stA h); rfl; rfl; (first | rfl | simp [OneV.o]); intro _ h)
 | ((with_reducible apply go_stN h); rfl; (first | rfl | simp [OneV.o]); intro _ h)
 | ((with_reducible apply go_box h); rfl; intro _ _ h)
 | ((with_reducible apply go_alloc h); (first | exact z105); rfl; intro _ _ h)
 | ((with_reducible apply go_ix h); omega)
 | ((with_reducible first | apply go_elN h | apply go_f1 h | apply go_rf1 h | apply go_rel h); (case hi => omega); (try case hx => exact inferInstance); (try case hv => rfl))
 | ((with_reducible apply go_fa h); omega; omega)
))
  refine rftake_spec (n := f.name) hl (h.frt (A := RefD (ptr p0) d)) fun w h => ?_
  replace h := refD_iff.1 h
  obtain ⟨p, s, ep, h⟩ := h
  cases ep
  unfold F81_2
  have := fDel_len (n := f.name) (fs := d.fs)
  exact rfput_loop (fs := fDel f.name d.fs) (f := f) (by omega) (fun s' w' h => hK w' (refD_iff.2 ⟨p0, s', rfl, h⟩)) fuel 0 _ (by unfold fuel; omega) (by omega) (by simp) (h.got)
theorem rfuse_spec (ok : DOk d) (h : Sat w0 (RefD v d :: L) w) (hK0 : useD d = none → ∀ w', Sat w0 (RefD v d :: L) w' → K (.bool false) w') (hK1 : ∀ e, useD d = some e → ∀ w', Sat w0 (RefD v e :: L) w' → K (.bool true) w') : callP G80 [v] w K := by
  refine c80 ?_
  unfold F80
  replace h := refD_iff.1 h
  obtain ⟨p, s, rfl, h⟩ := h
  cases hs : d.stop
  · have hu : useD d = some d := by unfold useD; rw [hs]; rfl
    have h0 := refD_iff.2 ⟨p, s, rfl, h⟩
    rw [hs] at h
    (repeat (first
 | (simp (disch := omega) only [evA, evB, evC, bAdd_i64, bSub_i64])
 | (with_reducible apply go_ld1 h)
 | ((with_reducible first | apply go_ldA h | apply go_rd h | apply go_rdN h | apply go_rlen h); rfl)
 | (with_reducible first | apply go_ldN h | apply go_lenL h)
 | ((with_reducible apply go_st h); intro _ h)
 | ((with_reducible apply go_stA h); rfl; rfl; (first | rfl | simp [OneV.o]); intro _ h)
 | ((with_reducible apply go_stN h); rfl; (first | rfl | simp [OneV.o]); intro _ h)
 | ((with_reducible apply go_box h); rfl; intro _ _ h)
 | ((with_reducible apply go_ix h); omega)
 | ((with_reducible first | apply go_elN h | apply go_f1 h | apply go_rf1 h | apply go_rel h); (case hi => omega); (try case hx => exact inferInstance); (try case hv => rfl))
 | ((with_reducible apply go_fa h); omega; omega)
))
    exact hK1 d hu _ h0
  · have h0 := refD_iff.2 ⟨p, s, rfl, h⟩
    rw [hs] at h
    have hb := ok.left
    by_cases hl : d.left = 0
    · have hu : useD d = none := by unfold useD; rw [hs, if_pos rfl, if_pos hl]
      have hl' : decide (d.left = 0) = true := by simpa using hl
      (repeat (first
 | (simp (disch := omega) only [evA, evB, evC, bAdd_i64, bSub_i64, hl'])
 | (with_reducible apply go_ld1 h)
 | ((with_reducible first | apply go_ldA h | apply go_rd h | apply go_rdN h | apply go_rlen h); rfl)
 | (with_reducible first | apply go_ldN h | apply go_lenL h)
 | ((with_reducible apply go_st h); intro _ h)
 | ((with_reducible apply go_stA h); rfl; rfl; (first | rfl | simp [OneV.o]); intro _ h)
 | ((with_reducible apply go_stN h); rfl; (first | rfl | simp [OneV.o]); intro _ h)
 | ((with_reducible apply go_box h); rfl; intro _ _ h)
 | ((with_reducible apply go_ix h); omega)
 | ((with_reducible first | apply go_elN h | apply go_f1 h | apply go_rf1 h | apply go_rel h); (case hi => omega); (try case hx => exact inferInstance); (try case hv => rfl))
 | ((with_reducible apply go_fa h); omega; omega)
))
      exact hK0 hu _ h0
    · have hu : useD d = some { d with left := d.left - 1 } := by unfold useD; rw [hs, if_pos rfl, if_neg hl]
      have hl' : decide (d.left = 0) = false := by simpa using hl
      (repeat (first
 | (simp (disch := omega) only [evA, evB, evC, bAdd_i64, bSub_i64, hl'])
 | (with_reducible apply go_ld1 h)
 | ((with_reducible first | apply go_ldA h | apply go_rd h | apply go_rdN h | apply go_rlen h); rfl)
 | (with_reducible first | apply go_ldN h | apply go_lenL h)
 | ((with_reducible apply go_st h); intro _ h)
 | ((with_reducible apply go_stA h); rfl; rfl; (first | rfl | simp [OneV.o]); intro _ h)
 | ((with_reducible apply go_stN h); rfl; (first | rfl | simp [OneV.o]); intro _ h)
 | ((with_reducible apply go_box h); rfl; intro _ _ h)
 | ((with_reducible apply go_ix h); omega)
 | ((with_reducible first | apply go_elN h | apply go_f1 h | apply go_rf1 h | apply go_rel h); (case hi => omega); (try case hx => exact inferInstance); (try case hv => rfl))
 | ((with_reducible apply go_fa h); omega; omega)
))
      refine hK1 _ hu _ (refD_iff.2 ⟨p, s, rfl, ?_⟩)
      show Sat w0 (Cl p #[.int .i64 d.room, .bool d.stop, .int .i64 (d.left - 1), s] 101 :: LsH cFil 3 105 s d.fs :: L) _
      rw [hs]; exact h
theorem rfnew_spec {m : Int} (h : Sat w0 L w) (hK0 : (m < 0 ∨ 1099511627776 < m) → K (.tuple #[.pointer none, .int .i64 1]) w) (hK1 : 0 ≤ m → m ≤ 1099511627776 → ∀ p w', Sat w0 (RefD (ptr p) (newD m) :: L) w' → K (.tuple #[ptr p, .int .i64 0]) w') : callP G34 [.int .i64 m] w K := by
  refine c34 ?_
  unfold F34
  by_cases g1 : m < 0
  · have g1' : decide (m < 0) = true := by simpa using g1
    (repeat (first
 | (simp (disch := omega) only [evA, evB, evC, bAdd_i64, bSub_i64, g1'])
 | (with_reducible apply go_ld1 h)
 | ((with_reducible first | apply go_ldA h | apply go_rd h | apply go_rdN h | apply go_rlen h); rfl)
 | (with_reducible first | apply go_ldN h | apply go_lenL h)
 | ((with_reducible apply go_st h); intro _ h)
 | ((with_reducible apply go_stA h); rfl; rfl; (first | rfl | simp [OneV.o]); intro _ h)
 | ((with_reducible apply go_stN h); rfl; (first | rfl | simp [OneV.o]); intro _ h)
 | ((with_reducible apply go_box h); rfl; intro _ _ h)
 | ((with_reducible apply go_ix h); omega)
 | ((with_reducible first | apply go_elN h | apply go_f1 h | apply go_rf1 h | apply go_rel h); (case hi => omega); (try case hx => exact inferInstance); (try case hv => rfl))
 | ((with_reducible apply go_fa h); omega; omega)
))
    exact hK0 (.inl g1)
  have g1' : decide (m < 0) = false := by simpa using g1
  by_cases g2 : m > 1099511627776
  · have g2' : decide (m > 1099511627776) = true := by simpa using g2
    (repeat (first
 | (simp (disch := omega) only [evA, evB, evC, bAdd_i64, bSub_i64, g1', g2'])
 | (with_reducible apply go_ld1 h)
 | ((with_reducible first | apply go_ldA h | apply go_rd h | apply go_rdN h | apply go_rlen h); rfl)
 | (with_reducible first | apply go_ldN h | apply go_lenL h)
 | ((with_reducible apply go_st h); intro _ h)
 | ((with_reducible apply go_stA h); rfl; rfl; (first | rfl | simp [OneV.o]); intro _ h)
 | ((with_reducible apply go_stN h); rfl; (first | rfl | simp [OneV.o]); intro _ h)
 | ((with_reducible apply go_box h); rfl; intro _ _ h)
 | ((with_reducible apply go_ix h); omega)
 | ((with_reducible first | apply go_elN h | apply go_f1 h | apply go_rf1 h | apply go_rel h); (case hi => omega); (try case hx => exact inferInstance); (try case hv => rfl))
 | ((with_reducible apply go_fa h); omega; omega)
))
    exact hK0 (.inr g2)
  have g2' : decide (m > 1099511627776) = false := by simpa using g2
  have eb : fBuild Try.prog 101 [(0, .int .i64 m)] = some (.agg #[.int .i64 m, .bool false, .int .i64 0, .slice none 0 0]) := by kernel_rfl
  (repeat (first
 | (simp (disch := omega) only [evA, evB, evC, bAdd_i64, bSub_i64, g1', g2'])
 | (refine go_some (eb ..) ?_)
 | (with_reducible apply go_ld1 h)
 | ((with_reducible first | apply go_ldA h | apply go_rd h | apply go_rdN h | apply go_rlen h); rfl)
 | (with_reducible first | apply go_ldN h | apply go_lenL h)
 | ((with_reducible apply go_st h); intro _ h)
 | ((with_reducible apply go_stA h); rfl; rfl; (first | rfl | simp [OneV.o]); intro _ h)
 | ((with_reducible apply go_stN h); rfl; (first | rfl | simp [OneV.o]); intro _ h)
 | ((with_reducible apply go_box h); rfl; intro _ _ h)
 | ((with_reducible apply go_ix h); omega)
 | ((with_reducible first | apply go_elN h | apply go_f1 h | apply go_rf1 h | apply go_rel h); (case hi => omega); (try case hx => exact inferInstance); (try case hv => rfl))
 | ((with_reducible apply go_fa h); omega; omega)
))
  exact hK1 (by omega) (by omega) _ _ (refD_iff.2 ⟨_, _, rfl, (Sat.nilLs cFil 3 105 h).got⟩)
theorem rfused_loop {p : Nat} {c0 c1 c2 s : Value} (hl : fs.length ≤ 1073741824) (hu : usedF fs ≤ 1099511627776) (h : Sat w0 (Cl p #[c0, c1, c2, s] 101 :: LsH cFil 3 105 s fs :: L) w) (hK : K (.int .i64 (usedF fs : Nat)) w) :
    ∀ (k i : Nat), fs.length - i < k → i ≤ fs.length → F64_2L k (ptr p) (.int .i64 (usedF (fs.take i) : Nat)) (.int .i64 i) w K := by
  intro k
  induction k with
  | zero => intro i hd; omega
  | succ k ih =>
    intro i hd hi
    rw [F64_2L]
    unfold F64_2b
    by_cases g : i < fs.length
    · have g' : decide ((i : Int) < (fs.length : Int)) = true := by simpa using g
      have e1 : usedF (fs.take (i + 1)) = usedF (fs.take i) + fs[i].s.length := by
        unfold usedF
        rw [List.take_succ_eq_append_getElem g, List.map_append, List.sum_append]; rfl
      have e2 : usedF fs = usedF (fs.take (i + 1)) + usedF (fs.drop (i + 1)) := by
        unfold usedF
        rw [← List.sum_append, ← List.map_append, List.take_append_drop]
      (repeat (first
 | (simp (disch := omega) only [evA, evB, evC, bAdd_i64, bSub_i64, g'])
 | (with_reducible apply go_ld1 h)
 | ((with_reducible first | apply go_ldA h | apply go_rd h | apply go_rdN h | apply go_rlen h); rfl)
 | (with_reducible first | apply go_ldN h | apply go_lenL h)
 | ((with_reducible apply go_st h); intro _ h)
 | ((with_reducible apply go_stA h); rfl; rfl; (first | rfl | simp [OneV.o]); intro _ h)
 | ((with_reducible apply go_stN h); rfl; (first | rfl | simp [OneV.o]); intro _ h)
 | ((with_reducible apply go_box h); rfl; intro _ _ h)
 | ((with_reducible apply go_ix h); omega)
 | ((with_reducible first | apply go_elN h | apply go_f1 h | apply go_rf1 h | apply go_rel h); (case hi => omega); (try case hx => exact inferInstance); (try case hv => rfl))
 | ((with_reducible apply go_fa h); omega; omega)
))
      have e3 : ((usedF (fs.take i) : Nat) : Int) + ((fs[i].s.length : Nat) : Int) = ((usedF (fs.take (i + 1)) : Nat) : Int) := by omega
      rw [e3]
      exact ih (i + 1) (by omega) (by omega)
    · have g' : decide ((i : Int) < (fs.length : Int)) = false := by simpa using g
      have e : i = fs.length := by omega
      subst e
      rw [List.take_length]
      (repeat (first
 | (simp (disch := omega) only [evA, evB, evC, bAdd_i64, bSub_i64, g'])
 | (with_reducible apply go_ld1 h)
 | ((with_reducible first | apply go_ldA h | apply go_rd h | apply go_rdN h | apply go_rlen h); rfl)
 | (with_reducible first | apply go_ldN h | apply go_lenL h)
 | ((with_reducible apply go_st h); intro _ h)
 | ((with_reducible apply go_stA h); rfl; rfl; (first | rfl | simp [OneV.o]); intro _ h)
 | ((with_reducible apply go_stN h); rfl; (first | rfl | simp [OneV.o]); intro _ h)
 | ((with_reducible apply go_box h); rfl; intro _ _ h)
 | ((with_reducible apply go_ix h); omega)
 | ((with_reducible first | apply go_elN h | apply go_f1 h | apply go_rf1 h | apply go_rel h); (case hi => omega); (try case hx => exact inferInstance); (try case hv => rfl))
 | ((with_reducible apply go_fa h); omega; omega)
))
      unfold F64_3 F64_3b
      exact hK
theorem rfused_spec (ok : DOk d) (hl : d.fs.length ≤ 1073741824) (h : Sat w0 (RefD v d :: L) w) (hK : K (.int .i64 (usedF d.fs : Nat)) w) : callP G64 [v] w K := by
  refine c64 ?_
  unfold F64 F64_1 F64_1b F64_2
  replace h := refD_iff.1 h
  obtain ⟨p, s, rfl, h⟩ := h
  exact rfused_loop (L := L) hl (by have := ok.used; have := ok.room; omega) h hK fuel 0 (by unfold fuel; omega) (by omega)
end
end Go.Proofs.Gong

/- Dl1 -/
namespace Go.Proofs.Gong
open Go Go.Sx Go.Proofs
set_option maxRecDepth 100000
theorem CStr : Cod cSt 1 := CodC.cod
theorem fbSt (x : List UInt8) : fBuildSl Try.prog 9 1 [(0, .string (bs x))] = some (cSt x).toArray := by kernel_rfl
theorem fbFil0 (n : List UInt8) : fBuild Try.prog 105 [(0, .string (bs n))] = some (filV ⟨n, [], 0⟩) := by kernel_rfl
theorem neg1 : decide ((-1 : Int) < 0) = true := rfl
theorem neg1' : decide ((-1 : Int) ≥ 0) = false := rfl
theorem nat0 (i : Nat) : decide ((i : Int) < 0) = false := by simp
theorem nat0' (i : Nat) : decide ((i : Int) ≥ 0) = true := by simp
theorem keptN_ref (k : Int) (many : Nat) : (k.tmod ((many : Int) + 1) + ((many : Int) + 1)).tmod ((many : Int) + 1) = (keptN k many : Nat) := by
  have b2 := Int.lt_tmod_of_pos k (b := (many : Int) + 1) (by omega)
  have hb : (many : Int) + 1 ≠ 0 := by omega
  unfold keptN
  rw [Int.toNat_of_nonneg (Int.emod_nonneg _ hb), Int.tmod_eq_emod_of_nonneg (by omega), Int.add_emod_right]
  have e := Int.mul_tdiv_add_tmod k ((many : Int) + 1)
  conv => rhs; rw [← e]
  rw [Int.mul_add_emod_self_left]
attribute [local irreducible] fBuild fLook fZero eqv bEqv Cl MapH LsH SlH ld1 ldN st callP eBox eAlloc lenM lenL eMapSet eDelete eAppend eBuildSl eRange eNext
section
variable {w0 w : World} {L : List HP} {K : Value → World → Prop} {v : Value} {d : Dk} {n x : List UInt8}
theorem rfmake_spec (ok : DOk d) (hl : d.fs.length ≤ 1073741824) (h : Sat w0 (RefD v d :: L) w) (hK : ∀ w', Sat w0 (RefD v (makeD n d).2 :: L) w' → K (.int .i64 (makeD n d).1) w') : callP G52 [v, .string (bs n)] w K := by
  unfold makeD at hK
  refine c52 ?_
  unfold F52
  refine risname_spec ?_
  cases hn : nameOk n
  · rw [if_pos hn] at hK
    (repeat (first
 | (simp (disch := omega) only [evA, evB, evC, bAdd_i64, bSub_i64])
 | (with_reducible apply go_ld1 h)
 | ((with_reducible first | apply go_ldA h | apply go_rd h | apply go_rdN h | apply go_rlen h); rfl)
 | (with_reducible first | apply go_ldN h | apply go_lenL h)
 | ((with_reducible apply go_st h); intro _ h)
 | ((with_reducible apply go_stA h); rfl; rfl; (first | rfl | simp [OneV.o]); intro _ h)
 | ((with_reducible apply go_stN h); rfl; (first | rfl | simp [OneV.o]); intro _ h)
 | ((with_reducible apply go_box h); rfl; intro _ _ h)
 | ((with_reducible apply go_ix h); omega)
 | ((with_reducible first | apply go_elN h | apply go_f1 h | apply go_rf1 h | apply go_rel h); (case hi => omega); (try case hx => exact inferInstance); (try case hv => rfl))
 | ((with_reducible apply go_fa h); omega; omega)
))
    exact hK _ h
  rw [if_neg (by simp [hn])] at hK
  (repeat (first
 | (simp (disch := omega) only [evA, evB, evC, bAdd_i64, bSub_i64])
 | (with_reducible apply go_ld1 h)
 | ((with_reducible first | apply go_ldA h | apply go_rd h | apply go_rdN h | apply go_rlen h); rfl)
 | (with_reducible first | apply go_ldN h | apply go_lenL h)
 | ((with_reducible apply go_st h); intro _ h)
 | ((with_reducible apply go_stA h); rfl; rfl; (first | rfl | simp [OneV.o]); intro _ h)
 | ((with_reducible apply go_stN h); rfl; (first | rfl | simp [OneV.o]); intro _ h)
 | ((with_reducible apply go_box h); rfl; intro _ _ h)
 | ((with_reducible apply go_ix h); omega)
 | ((with_reducible first | apply go_elN h | apply go_f1 h | apply go_rf1 h | apply go_rel h); (case hi => omega); (try case hx => exact inferInstance); (try case hv => rfl))
 | ((with_reducible apply go_fa h); omega; omega)
))
  refine rfat_spec (n := n) hl h (fun hg => ?_) (fun i hi hg => ?_)
  · rw [hg] at hK
    rw [if_neg (by simp)] at hK
    unfold turnD at hK
    (repeat (first
 | (simp (disch := omega) only [evA, evB, evC, bAdd_i64, bSub_i64, neg1'])
 | (with_reducible apply go_ld1 h)
 | ((with_reducible first | apply go_ldA h | apply go_rd h | apply go_rdN h | apply go_rlen h); rfl)
 | (with_reducible first | apply go_ldN h | apply go_lenL h)
 | ((with_reducible apply go_st h); intro _ h)
 | ((with_reducible apply go_stA h); rfl; rfl; (first | rfl | simp [OneV.o]); intro _ h)
 | ((with_reducible apply go_stN h); rfl; (first | rfl | simp [OneV.o]); intro _ h)
 | ((with_reducible apply go_box h); rfl; intro _ _ h)
 | ((with_reducible apply go_ix h); omega)
 | ((with_reducible first | apply go_elN h | apply go_f1 h | apply go_rf1 h | apply go_rel h); (case hi => omega); (try case hx => exact inferInstance); (try case hv => rfl))
 | ((with_reducible apply go_fa h); omega; omega)
))
    refine rfuse_spec ok h (fun hu w h => ?_) (fun e hu w h => ?_)
    · rw [hu] at hK
      (repeat (first
 | (simp (disch := omega) only [evA, evB, evC, bAdd_i64, bSub_i64])
 | (with_reducible apply go_ld1 h)
 | ((with_reducible first | apply go_ldA h | apply go_rd h | apply go_rdN h | apply go_rlen h); rfl)
 | (with_reducible first | apply go_ldN h | apply go_lenL h)
 | ((with_reducible apply go_st h); intro _ h)
 | ((with_reducible apply go_stA h); rfl; rfl; (first | rfl | simp [OneV.o]); intro _ h)
 | ((with_reducible apply go_stN h); rfl; (first | rfl | simp [OneV.o]); intro _ h)
 | ((with_reducible apply go_box h); rfl; intro _ _ h)
 | ((with_reducible apply go_ix h); omega)
 | ((with_reducible first | apply go_elN h | apply go_f1 h | apply go_rf1 h | apply go_rel h); (case hi => omega); (try case hx => exact inferInstance); (try case hv => rfl))
 | ((with_reducible apply go_fa h); omega; omega)
))
      exact hK _ h
    · rw [hu] at hK
      have hle : e.fs.length ≤ 1073741824 := by rw [(useD_some hu).2.2.1]; exact hl
      (repeat (first
 | (simp (disch := omega) only [evA, evB, evC, bAdd_i64, bSub_i64])
 | (refine go_some (fbFil0 n ..) ?_)
 | (with_reducible apply go_ld1 h)
 | ((with_reducible first | apply go_ldA h | apply go_rd h | apply go_rdN h | apply go_rlen h); rfl)
 | (with_reducible first | apply go_ldN h | apply go_lenL h)
 | ((with_reducible apply go_st h); intro _ h)
 | ((with_reducible apply go_stA h); rfl; rfl; (first | rfl | simp [OneV.o]); intro _ h)
 | ((with_reducible apply go_stN h); rfl; (first | rfl | simp [OneV.o]); intro _ h)
 | ((with_reducible apply go_box h); rfl; intro _ _ h)
 | ((with_reducible apply go_ix h); omega)
 | ((with_reducible first | apply go_elN h | apply go_f1 h | apply go_rf1 h | apply go_rel h); (case hi => omega); (try case hx => exact inferInstance); (try case hv => rfl))
 | ((with_reducible apply go_fa h); omega; omega)
))
      refine rfput_spec (f := ⟨n, [], 0⟩) hle (h.got) fun w h => ?_
      (repeat (first
 | (simp (disch := omega) only [evA, evB, evC, bAdd_i64, bSub_i64])
 | (with_reducible apply go_ld1 h)
 | ((with_reducible first | apply go_ldA h | apply go_rd h | apply go_rdN h | apply go_rlen h); rfl)
 | (with_reducible first | apply go_ldN h | apply go_lenL h)
 | ((with_reducible apply go_st h); intro _ h)
 | ((with_reducible apply go_stA h); rfl; rfl; (first | rfl | simp [OneV.o]); intro _ h)
 | ((with_reducible apply go_stN h); rfl; (first | rfl | simp [OneV.o]); intro _ h)
 | ((with_reducible apply go_box h); rfl; intro _ _ h)
 | ((with_reducible apply go_ix h); omega)
 | ((with_reducible first | apply go_elN h | apply go_f1 h | apply go_rf1 h | apply go_rel h); (case hi => omega); (try case hx => exact inferInstance); (try case hv => rfl))
 | ((with_reducible apply go_fa h); omega; omega)
))
      exact hK _ (h.got)
  · rw [hg] at hK
    rw [if_pos (by simp)] at hK
    (repeat (first
 | (simp (disch := omega) only [evA, evB, evC, bAdd_i64, bSub_i64, nat0' i])
 | (with_reducible apply go_ld1 h)
 | ((with_reducible first | apply go_ldA h | apply go_rd h | apply go_rdN h | apply go_rlen h); rfl)
 | (with_reducible first | apply go_ldN h | apply go_lenL h)
 | ((with_reducible apply go_st h); intro _ h)
 | ((with_reducible apply go_stA h); rfl; rfl; (first | rfl | simp [OneV.o]); intro _ h)
 | ((with_reducible apply go_stN h); rfl; (first | rfl | simp [OneV.o]); intro _ h)
 | ((with_reducible apply go_box h); rfl; intro _ _ h)
 | ((with_reducible apply go_ix h); omega)
 | ((with_reducible first | apply go_elN h | apply go_f1 h | apply go_rf1 h | apply go_rel h); (case hi => omega); (try case hx => exact inferInstance); (try case hv => rfl))
 | ((with_reducible apply go_fa h); omega; omega)
))
    exact hK _ h
theorem rfapp_spec (ok : DOk d) (hl : d.fs.length ≤ 1073741824) (hx : x.length ≤ 1099511627776) (h : Sat w0 (RefD v d :: L) w) (hK : ∀ w', Sat w0 (RefD v (appD n x d).2 :: L) w' → K (.int .i64 (appD n x d).1) w') : callP G53 [v, .string (bs n), .string (bs x)] w K := by
  unfold appD at hK
  obtain ⟨p, s0, rfl, _⟩ := refD_iff.1 h
  refine c53 ?_
  unfold F53
  have hu := ok.used
  have hr := ok.room
  refine rfat_spec (n := n) hl h (fun hg => ?_) (fun i hi hg => ?_)
  · rw [hg] at hK
    (repeat (first
 | (simp (disch := omega) only [evA, evB, evC, bAdd_i64, bSub_i64, neg1])
 | (with_reducible apply go_ld1 h)
 | ((with_reducible first | apply go_ldA h | apply go_rd h | apply go_rdN h | apply go_rlen h); rfl)
 | (with_reducible first | apply go_ldN h | apply go_lenL h)
 | ((with_reducible apply go_st h); intro _ h)
 | ((with_reducible apply go_stA h); rfl; rfl; (first | rfl | simp [OneV.o]); intro _ h)
 | ((with_reducible apply go_stN h); rfl; (first | rfl | simp [OneV.o]); intro _ h)
 | ((with_reducible apply go_box h); rfl; intro _ _ h)
 | ((with_reducible apply go_ix h); omega)
 | ((with_reducible first | apply go_elN h | apply go_f1 h | apply go_rf1 h | apply go_rel h); (case hi => omega); (try case hx => exact inferInstance); (try case hv => rfl))
 | ((with_reducible apply go_fa h); omega; omega)
))
    exact hK _ h
  · rw [hg] at hK
    simp only at hK
    have hus := usedF_mem (List.getElem_mem hi)
    have h1 := h
    replace h := refD_iff.1 h
    obtain ⟨p', s, e', h⟩ := h
    cases e'
    (repeat (first
 | (simp (disch := omega) only [evA, evB, evC, bAdd_i64, bSub_i64, nat0 i])
 | (with_reducible apply go_ld1 h)
 | ((with_reducible first | apply go_ldA h | apply go_rd h | apply go_rdN h | apply go_rlen h); rfl)
 | (with_reducible first | apply go_ldN h | apply go_lenL h)
 | ((with_reducible apply go_st h); intro _ h)
 | ((with_reducible apply go_stA h); rfl; rfl; (first | rfl | simp [OneV.o]); intro _ h)
 | ((with_reducible apply go_stN h); rfl; (first | rfl | simp [OneV.o]); intro _ h)
 | ((with_reducible apply go_box h); rfl; intro _ _ h)
 | ((with_reducible apply go_ix h); omega)
 | ((with_reducible first | apply go_elN h | apply go_f1 h | apply go_rf1 h | apply go_rel h); (case hi => omega); (try case hx => exact inferInstance); (try case hv => rfl))
 | ((with_reducible apply go_fa h); omega; omega)
))
    refine rfused_spec ok hl h1.drew ?_
    (repeat (first
 | (simp (disch := omega) only [evA, evB, evC, bAdd_i64, bSub_i64])
 | (with_reducible apply go_ld1 h)
 | ((with_reducible first | apply go_ldA h | apply go_rd h | apply go_rdN h | apply go_rlen h); rfl)
 | (with_reducible first | apply go_ldN h | apply go_lenL h)
 | ((with_reducible apply go_st h); intro _ h)
 | ((with_reducible apply go_stA h); rfl; rfl; (first | rfl | simp [OneV.o]); intro _ h)
 | ((with_reducible apply go_stN h); rfl; (first | rfl | simp [OneV.o]); intro _ h)
 | ((with_reducible apply go_box h); rfl; intro _ _ h)
 | ((with_reducible apply go_ix h); omega)
 | ((with_reducible first | apply go_elN h | apply go_f1 h | apply go_rf1 h | apply go_rel h); (case hi => omega); (try case hx => exact inferInstance); (try case hv => rfl))
 | ((with_reducible apply go_fa h); omega; omega)
))
    by_cases g : d.room - ((usedF d.fs : Nat) : Int) < (x.length : Int)
    · have g' : decide ((x.length : Int) > d.room - ((usedF d.fs : Nat) : Int)) = true := by simpa using g
      rw [if_pos g] at hK
      (repeat (first
 | (simp (disch := omega) only [evA, evB, evC, bAdd_i64, bSub_i64, g'])
 | (with_reducible apply go_ld1 h)
 | ((with_reducible first | apply go_ldA h | apply go_rd h | apply go_rdN h | apply go_rlen h); rfl)
 | (with_reducible first | apply go_ldN h | apply go_lenL h)
 | ((with_reducible apply go_st h); intro _ h)
 | ((with_reducible apply go_stA h); rfl; rfl; (first | rfl | simp [OneV.o]); intro _ h)
 | ((with_reducible apply go_stN h); rfl; (first | rfl | simp [OneV.o]); intro _ h)
 | ((with_reducible apply go_box h); rfl; intro _ _ h)
 | ((with_reducible apply go_ix h); omega)
 | ((with_reducible first | apply go_elN h | apply go_f1 h | apply go_rf1 h | apply go_rel h); (case hi => omega); (try case hx => exact inferInstance); (try case hv => rfl))
 | ((with_reducible apply go_fa h); omega; omega)
))
      exact hK _ h1.drew
    · have g' : decide ((x.length : Int) > d.room - ((usedF d.fs : Nat) : Int)) = false := by simpa using g
      rw [if_neg g] at hK
      unfold turnD at hK
      (repeat (first
 | (simp (disch := omega) only [evA, evB, evC, bAdd_i64, bSub_i64, g'])
 | (with_reducible apply go_ld1 h)
 | ((with_reducible first | apply go_ldA h | apply go_rd h | apply go_rdN h | apply go_rlen h); rfl)
 | (with_reducible first | apply go_ldN h | apply go_lenL h)
 | ((with_reducible apply go_st h); intro _ h)
 | ((with_reducible apply go_stA h); rfl; rfl; (first | rfl | simp [OneV.o]); intro _ h)
 | ((with_reducible apply go_stN h); rfl; (first | rfl | simp [OneV.o]); intro _ h)
 | ((with_reducible apply go_box h); rfl; intro _ _ h)
 | ((with_reducible apply go_ix h); omega)
 | ((with_reducible first | apply go_elN h | apply go_f1 h | apply go_rf1 h | apply go_rel h); (case hi => omega); (try case hx => exact inferInstance); (try case hv => rfl))
 | ((with_reducible apply go_fa h); omega; omega)
))
      refine rfuse_spec ok h1.drew (fun hu w h => ?_) (fun e hu w h => ?_)
      · rw [hu] at hK
        (repeat (first
 | (simp (disch := omega) only [evA, evB, evC, bAdd_i64, bSub_i64])
 | (with_reducible apply go_ld1 h)
 | ((with_reducible first | apply go_ldA h | apply go_rd h | apply go_rdN h | apply go_rlen h); rfl)
 | (with_reducible first | apply go_ldN h | apply go_lenL h)
 | ((with_reducible apply go_st h); intro _ h)
 | ((with_reducible apply go_stA h); rfl; rfl; (first | rfl | simp [OneV.o]); intro _ h)
 | ((with_reducible apply go_stN h); rfl; (first | rfl | simp [OneV.o]); intro _ h)
 | ((with_reducible apply go_box h); rfl; intro _ _ h)
 | ((with_reducible apply go_ix h); omega)
 | ((with_reducible first | apply go_elN h | apply go_f1 h | apply go_rf1 h | apply go_rel h); (case hi => omega); (try case hx => exact inferInstance); (try case hv => rfl))
 | ((with_reducible apply go_fa h); omega; omega)
))
        exact hK _ h
      · rw [hu] at hK
        have hfe := (useD_some hu).2.2.1
        have hle : e.fs.length ≤ 1073741824 := by rw [hfe]; exact hl
        replace h := refD_iff.1 h
        obtain ⟨p', s', e', h⟩ := h
        cases e'
        rw [hfe] at h
        have hadd : bAdd (.string (bs d.fs[i].s)) (.string (bs x)) = some (.string (bs (d.fs[i].s ++ x))) := add_txt (by omega)
        (repeat (first
 | (simp (disch := omega) only [evA, evB, evC, bAdd_i64, bSub_i64])
 | (refine go_some (hadd ..) ?_)
 | (with_reducible apply go_ld1 h)
 | ((with_reducible first | apply go_ldA h | apply go_rd h | apply go_rdN h | apply go_rlen h); rfl)
 | (with_reducible first | apply go_ldN h | apply go_lenL h)
 | ((with_reducible apply go_st h); intro _ h)
 | ((with_reducible apply go_stA h); rfl; rfl; (first | rfl | simp [OneV.o]); intro _ h)
 | ((with_reducible apply go_stN h); rfl; (first | rfl | simp [OneV.o]); intro _ h)
 | ((with_reducible apply go_box h); rfl; intro _ _ h)
 | ((with_reducible apply go_alloc h); (first | exact z105); rfl; intro _ _ h)
 | ((with_reducible apply go_ix h); omega)
 | ((with_reducible first | apply go_elN h | apply go_f1 h | apply go_rf1 h | apply go_rel h); (case hi => omega); (try case hx => exact inferInstance); (try case hv => rfl))
 | ((with_reducible apply go_fa h); omega; omega)
))
        refine rfput_spec (v := ptr p) (d := e) (f := { d.fs[i] with s := d.fs[i].s ++ x }) hle (L := Cl _ _ 105 :: L) (refD_iff.2 ⟨p, s', rfl, by rw [hfe]; exact h.got⟩) fun w h => ?_
        (repeat (first
 | (simp (disch := omega) only [evA, evB, evC, bAdd_i64, bSub_i64])
 | (with_reducible apply go_ld1 h)
 | ((with_reducible first | apply go_ldA h | apply go_rd h | apply go_rdN h | apply go_rlen h); rfl)
 | (with_reducible first | apply go_ldN h | apply go_lenL h)
 | ((with_reducible apply go_st h); intro _ h)
 | ((with_reducible apply go_stA h); rfl; rfl; (first | rfl | simp [OneV.o]); intro _ h)
 | ((with_reducible apply go_stN h); rfl; (first | rfl | simp [OneV.o]); intro _ h)
 | ((with_reducible apply go_box h); rfl; intro _ _ h)
 | ((with_reducible apply go_ix h); omega)
 | ((with_reducible first | apply go_elN h | apply go_f1 h | apply go_rf1 h | apply go_rel h); (case hi => omega); (try case hx => exact inferInstance); (try case hv => rfl))
 | ((with_reducible apply go_fa h); omega; omega)
))
        exact hK _ (h.got)
theorem rfsync_spec (ok : DOk d) (hl : d.fs.length ≤ 1073741824) (h : Sat w0 (RefD v d :: L) w) (hK : ∀ w', Sat w0 (RefD v (syncD n d).2 :: L) w' → K (.int .i64 (syncD n d).1) w') : callP G54 [v, .string (bs n)] w K := by
  unfold syncD at hK
  obtain ⟨p, s0, rfl, _⟩ := refD_iff.1 h
  refine c54 ?_
  unfold F54
  refine rfat_spec (n := n) hl h (fun hg => ?_) (fun i hi hg => ?_)
  · rw [hg] at hK
    (repeat (first
 | (simp (disch := omega) only [evA, evB, evC, bAdd_i64, bSub_i64, neg1])
 | (with_reducible apply go_ld1 h)
 | ((with_reducible first | apply go_ldA h | apply go_rd h | apply go_rdN h | apply go_rlen h); rfl)
 | (with_reducible first | apply go_ldN h | apply go_lenL h)
 | ((with_reducible apply go_st h); intro _ h)
 | ((with_reducible apply go_stA h); rfl; rfl; (first | rfl | simp [OneV.o]); intro _ h)
 | ((with_reducible apply go_stN h); rfl; (first | rfl | simp [OneV.o]); intro _ h)
 | ((with_reducible apply go_box h); rfl; intro _ _ h)
 | ((with_reducible apply go_ix h); omega)
 | ((with_reducible first | apply go_elN h | apply go_f1 h | apply go_rf1 h | apply go_rel h); (case hi => omega); (try case hx => exact inferInstance); (try case hv => rfl))
 | ((with_reducible apply go_fa h); omega; omega)
))
    exact hK _ h
  · rw [hg] at hK
    simp only at hK
    unfold turnD at hK
    (repeat (first
 | (simp (disch := omega) only [evA, evB, evC, bAdd_i64, bSub_i64, nat0 i])
 | (with_reducible apply go_ld1 h)
 | ((with_reducible first | apply go_ldA h | apply go_rd h | apply go_rdN h | apply go_rlen h); rfl)
 | (with_reducible first | apply go_ldN h | apply go_lenL h)
 | ((with_reducible apply go_st h); intro _ h)
 | ((with_reducible apply go_stA h); rfl; rfl; (first | rfl | simp [OneV.o]); intro _ h)
 | ((with_reducible apply go_stN h); rfl; (first | rfl | simp [OneV.o]); intro _ h)
 | ((with_reducible apply go_box h); rfl; intro _ _ h)
 | ((with_reducible apply go_ix h); omega)
 | ((with_reducible first | apply go_elN h | apply go_f1 h | apply go_rf1 h | apply go_rel h); (case hi => omega); (try case hx => exact inferInstance); (try case hv => rfl))
 | ((with_reducible apply go_fa h); omega; omega)
))
    refine rfuse_spec ok h (fun hu w h => ?_) (fun e hu w h => ?_)
    · rw [hu] at hK
      (repeat (first
 | (simp (disch := omega) only [evA, evB, evC, bAdd_i64, bSub_i64])
 | (with_reducible apply go_ld1 h)
 | ((with_reducible first | apply go_ldA h | apply go_rd h | apply go_rdN h | apply go_rlen h); rfl)
 | (with_reducible first | apply go_ldN h | apply go_lenL h)
 | ((with_reducible apply go_st h); intro _ h)
 | ((with_reducible apply go_stA h); rfl; rfl; (first | rfl | simp [OneV.o]); intro _ h)
 | ((with_reducible apply go_stN h); rfl; (first | rfl | simp [OneV.o]); intro _ h)
 | ((with_reducible apply go_box h); rfl; intro _ _ h)
 | ((with_reducible apply go_ix h); omega)
 | ((with_reducible first | apply go_elN h | apply go_f1 h | apply go_rf1 h | apply go_rel h); (case hi => omega); (try case hx => exact inferInstance); (try case hv => rfl))
 | ((with_reducible apply go_fa h); omega; omega)
))
      exact hK _ h
    · rw [hu] at hK
      have hfe := (useD_some hu).2.2.1
      have hle : e.fs.length ≤ 1073741824 := by rw [hfe]; exact hl
      replace h := refD_iff.1 h
      obtain ⟨p', s', e', h⟩ := h
      cases e'
      rw [hfe] at h
      (repeat (first
 | (simp (disch := omega) only [evA, evB, evC, bAdd_i64, bSub_i64])
 | (with_reducible apply go_ld1 h)
 | ((with_reducible first | apply go_ldA h | apply go_rd h | apply go_rdN h | apply go_rlen h); rfl)
 | (with_reducible first | apply go_ldN h | apply go_lenL h)
 | ((with_reducible apply go_st h); intro _ h)
 | ((with_reducible apply go_stA h); rfl; rfl; (first | rfl | simp [OneV.o]); intro _ h)
 | ((with_reducible apply go_stN h); rfl; (first | rfl | simp [OneV.o]); intro _ h)
 | ((with_reducible apply go_box h); rfl; intro _ _ h)
 | ((with_reducible apply go_alloc h); (first | exact z105); rfl; intro _ _ h)
 | ((with_reducible apply go_ix h); omega)
 | ((with_reducible first | apply go_elN h | apply go_f1 h | apply go_rf1 h | apply go_rel h); (case hi => omega); (try case hx => exact inferInstance); (try case hv => rfl))
 | ((with_reducible apply go_fa h); omega; omega)
))
      refine rfput_spec (v := ptr p) (d := e) (f := { d.fs[i] with safe := d.fs[i].s.length }) hle (L := Cl _ _ 105 :: L) (refD_iff.2 ⟨p, s', rfl, by rw [hfe]; exact h.got⟩) fun w h => ?_
      (repeat (first
 | (simp (disch := omega) only [evA, evB, evC, bAdd_i64, bSub_i64])
 | (with_reducible apply go_ld1 h)
 | ((with_reducible first | apply go_ldA h | apply go_rd h | apply go_rdN h | apply go_rlen h); rfl)
 | (with_reducible first | apply go_ldN h | apply go_lenL h)
 | ((with_reducible apply go_st h); intro _ h)
 | ((with_reducible apply go_stA h); rfl; rfl; (first | rfl | simp [OneV.o]); intro _ h)
 | ((with_reducible apply go_stN h); rfl; (first | rfl | simp [OneV.o]); intro _ h)
 | ((with_reducible apply go_box h); rfl; intro _ _ h)
 | ((with_reducible apply go_ix h); omega)
 | ((with_reducible first | apply go_elN h | apply go_f1 h | apply go_rf1 h | apply go_rel h); (case hi => omega); (try case hx => exact inferInstance); (try case hv => rfl))
 | ((with_reducible apply go_fa h); omega; omega)
))
      exact hK _ (h.got)
theorem rfren_spec {b : List UInt8} (ok : DOk d) (hl : d.fs.length ≤ 1073741824) (h : Sat w0 (RefD v d :: L) w) (hK : ∀ w', Sat w0 (RefD v (renD n b d).2 :: L) w' → K (.int .i64 (renD n b d).1) w') : callP G55 [v, .string (bs n), .string (bs b)] w K := by
  unfold renD at hK
  obtain ⟨p, s0, rfl, _⟩ := refD_iff.1 h
  refine c55 ?_
  unfold F55
  refine rfat_spec (n := n) hl h (fun hg => ?_) (fun i hi hg => ?_)
  · rw [hg] at hK
    (repeat (first
 | (simp (disch := omega) only [evA, evB, evC, bAdd_i64, bSub_i64, neg1])
 | (with_reducible apply go_ld1 h)
 | ((with_reducible first | apply go_ldA h | apply go_rd h | apply go_rdN h | apply go_rlen h); rfl)
 | (with_reducible first | apply go_ldN h | apply go_lenL h)
 | ((with_reducible apply go_st h); intro _ h)
 | ((with_reducible apply go_stA h); rfl; rfl; (first | rfl | simp [OneV.o]); intro _ h)
 | ((with_reducible apply go_stN h); rfl; (first | rfl | simp [OneV.o]); intro _ h)
 | ((with_reducible apply go_box h); rfl; intro _ _ h)
 | ((with_reducible apply go_ix h); omega)
 | ((with_reducible first | apply go_elN h | apply go_f1 h | apply go_rf1 h | apply go_rel h); (case hi => omega); (try case hx => exact inferInstance); (try case hv => rfl))
 | ((with_reducible apply go_fa h); omega; omega)
))
    exact hK _ h
  · rw [hg] at hK
    simp only at hK
    (repeat (first
 | (simp (disch := omega) only [evA, evB, evC, bAdd_i64, bSub_i64, nat0 i])
 | (with_reducible apply go_ld1 h)
 | ((with_reducible first | apply go_ldA h | apply go_rd h | apply go_rdN h | apply go_rlen h); rfl)
 | (with_reducible first | apply go_ldN h | apply go_lenL h)
 | ((with_reducible apply go_st h); intro _ h)
 | ((with_reducible apply go_stA h); rfl; rfl; (first | rfl | simp [OneV.o]); intro _ h)
 | ((with_reducible apply go_stN h); rfl; (first | rfl | simp [OneV.o]); intro _ h)
 | ((with_reducible apply go_box h); rfl; intro _ _ h)
 | ((with_reducible apply go_ix h); omega)
 | ((with_reducible first | apply go_elN h | apply go_f1 h | apply go_rf1 h | apply go_rel h); (case hi => omega); (try case hx => exact inferInstance); (try case hv => rfl))
 | ((with_reducible apply go_fa h); omega; omega)
))
    refine risname_spec ?_
    cases hn : nameOk b
    · rw [if_pos hn] at hK
      (repeat (first
 | (simp (disch := omega) only [evA, evB, evC, bAdd_i64, bSub_i64])
 | (with_reducible apply go_ld1 h)
 | ((with_reducible first | apply go_ldA h | apply go_rd h | apply go_rdN h | apply go_rlen h); rfl)
 | (with_reducible first | apply go_ldN h | apply go_lenL h)
 | ((with_reducible apply go_st h); intro _ h)
 | ((with_reducible apply go_stA h); rfl; rfl; (first | rfl | simp [OneV.o]); intro _ h)
 | ((with_reducible apply go_stN h); rfl; (first | rfl | simp [OneV.o]); intro _ h)
 | ((with_reducible apply go_box h); rfl; intro _ _ h)
 | ((with_reducible apply go_ix h); omega)
 | ((with_reducible first | apply go_elN h | apply go_f1 h | apply go_rf1 h | apply go_rel h); (case hi => omega); (try case hx => exact inferInstance); (try case hv => rfl))
 | ((with_reducible apply go_fa h); omega; omega)
))
      exact hK _ h
    rw [if_neg (by simp [hn])] at hK
    (repeat (first
 | (simp (disch := omega) only [evA, evB, evC, bAdd_i64, bSub_i64])
 | (with_reducible apply go_ld1 h)
 | ((with_reducible first | apply go_ldA h | apply go_rd h | apply go_rdN h | apply go_rlen h); rfl)
 | (with_reducible first | apply go_ldN h | apply go_lenL h)
 | ((with_reducible apply go_st h); intro _ h)
 | ((with_reducible apply go_stA h); rfl; rfl; (first | rfl | simp [OneV.o]); intro _ h)
 | ((with_reducible apply go_stN h); rfl; (first | rfl | simp [OneV.o]); intro _ h)
 | ((with_reducible apply go_box h); rfl; intro _ _ h)
 | ((with_reducible apply go_ix h); omega)
 | ((with_reducible first | apply go_elN h | apply go_f1 h | apply go_rf1 h | apply go_rel h); (case hi => omega); (try case hx => exact inferInstance); (try case hv => rfl))
 | ((with_reducible apply go_fa h); omega; omega)
))
    refine rfuse_spec ok h (fun hu w h => ?_) (fun e hu w h => ?_)
    · rw [hu] at hK
      (repeat (first
 | (simp (disch := omega) only [evA, evB, evC, bAdd_i64, bSub_i64])
 | (with_reducible apply go_ld1 h)
 | ((with_reducible first | apply go_ldA h | apply go_rd h | apply go_rdN h | apply go_rlen h); rfl)
 | (with_reducible first | apply go_ldN h | apply go_lenL h)
 | ((with_reducible apply go_st h); intro _ h)
 | ((with_reducible apply go_stA h); rfl; rfl; (first | rfl | simp [OneV.o]); intro _ h)
 | ((with_reducible apply go_stN h); rfl; (first | rfl | simp [OneV.o]); intro _ h)
 | ((with_reducible apply go_box h); rfl; intro _ _ h)
 | ((with_reducible apply go_ix h); omega)
 | ((with_reducible first | apply go_elN h | apply go_f1 h | apply go_rf1 h | apply go_rel h); (case hi => omega); (try case hx => exact inferInstance); (try case hv => rfl))
 | ((with_reducible apply go_fa h); omega; omega)
))
      exact hK _ h
    · rw [hu] at hK
      have hfe := (useD_some hu).2.2.1
      have hle : e.fs.length ≤ 1073741824 := by rw [hfe]; exact hl
      have hdl := fDel_len (n := n) (fs := e.fs)
      replace h := refD_iff.1 h
      obtain ⟨p', s', e', h⟩ := h
      cases e'
      rw [hfe] at h
      (repeat (first
 | (simp (disch := omega) only [evA, evB, evC, bAdd_i64, bSub_i64])
 | (with_reducible apply go_ld1 h)
 | ((with_reducible first | apply go_ldA h | apply go_rd h | apply go_rdN h | apply go_rlen h); rfl)
 | (with_reducible first | apply go_ldN h | apply go_lenL h)
 | ((with_reducible apply go_st h); intro _ h)
 | ((with_reducible apply go_stA h); rfl; rfl; (first | rfl | simp [OneV.o]); intro _ h)
 | ((with_reducible apply go_stN h); rfl; (first | rfl | simp [OneV.o]); intro _ h)
 | ((with_reducible apply go_box h); rfl; intro _ _ h)
 | ((with_reducible apply go_alloc h); (first | exact z105); rfl; intro _ _ h)
 | ((with_reducible apply go_ix h); omega)
 | ((with_reducible first | apply go_elN h | apply go_f1 h | apply go_rf1 h | apply go_rel h); (case hi => omega); (try case hx => exact inferInstance); (try case hv => rfl))
 | ((with_reducible apply go_fa h); omega; omega)
))
      rename_i q _
      refine rftake_spec (v := ptr p) (d := e) (n := n) hle (L := Cl _ (cFil d.fs[i]).toArray 105 :: L) (refD_iff.2 ⟨p, s', rfl, by rw [hfe]; exact h.got⟩) fun w h => ?_
      (repeat (first
 | (simp (disch := omega) only [evA, evB, evC, bAdd_i64, bSub_i64])
 | (with_reducible apply go_ld1 h)
 | ((with_reducible first | apply go_ldA h | apply go_rd h | apply go_rdN h | apply go_rlen h); rfl)
 | (with_reducible first | apply go_ldN h | apply go_lenL h)
 | ((with_reducible apply go_st h); intro _ h)
 | ((with_reducible apply go_stA h); rfl; rfl; (first | rfl | simp [OneV.o]); intro _ h)
 | ((with_reducible apply go_stN h); rfl; (first | rfl | simp [OneV.o]); intro _ h)
 | ((with_reducible apply go_box h); rfl; intro _ _ h)
 | ((with_reducible apply go_ix h); omega)
 | ((with_reducible first | apply go_elN h | apply go_f1 h | apply go_rf1 h | apply go_rel h); (case hi => omega); (try case hx => exact inferInstance); (try case hv => rfl))
 | ((with_reducible apply go_fa h); omega; omega)
))
      refine rfput_spec (v := ptr p) (d := { e with fs := fDel n e.fs }) (f := { d.fs[i] with name := b }) (by show (fDel n e.fs).length ≤ _; omega) (h.frt (A := RefD (ptr p) { e with fs := fDel n e.fs })) fun w h => ?_
      (repeat (first
 | (simp (disch := omega) only [evA, evB, evC, bAdd_i64, bSub_i64])
 | (with_reducible apply go_ld1 h)
 | ((with_reducible first | apply go_ldA h | apply go_rd h | apply go_rdN h | apply go_rlen h); rfl)
 | (with_reducible first | apply go_ldN h | apply go_lenL h)
 | ((with_reducible apply go_st h); intro _ h)
 | ((with_reducible apply go_stA h); rfl; rfl; (first | rfl | simp [OneV.o]); intro _ h)
 | ((with_reducible apply go_stN h); rfl; (first | rfl | simp [OneV.o]); intro _ h)
 | ((with_reducible apply go_box h); rfl; intro _ _ h)
 | ((with_reducible apply go_ix h); omega)
 | ((with_reducible first | apply go_elN h | apply go_f1 h | apply go_rf1 h | apply go_rel h); (case hi => omega); (try case hx => exact inferInstance); (try case hv => rfl))
 | ((with_reducible apply go_fa h); omega; omega)
))
      exact hK _ (h.got)
theorem rfcut_spec {k : Int} (ok : DOk d) (hl : d.fs.length ≤ 1073741824) (h : Sat w0 (RefD v d :: L) w) (hK : ∀ w', Sat w0 (RefD v (cutD n k d).2 :: L) w' → K (.int .i64 (cutD n k d).1) w') : callP G57 [v, .string (bs n), .int .i64 k] w K := by
  unfold cutD at hK
  obtain ⟨p, s0, rfl, _⟩ := refD_iff.1 h
  refine c57 ?_
  unfold F57
  refine rfat_spec (n := n) hl h (fun hg => ?_) (fun i hi hg => ?_)
  · rw [hg] at hK
    (repeat (first
 | (simp (disch := omega) only [evA, evB, evC, bAdd_i64, bSub_i64, neg1])
 | (with_reducible apply go_ld1 h)
 | ((with_reducible first | apply go_ldA h | apply go_rd h | apply go_rdN h | apply go_rlen h); rfl)
 | (with_reducible first | apply go_ldN h | apply go_lenL h)
 | ((with_reducible apply go_st h); intro _ h)
 | ((with_reducible apply go_stA h); rfl; rfl; (first | rfl | simp [OneV.o]); intro _ h)
 | ((with_reducible apply go_stN h); rfl; (first | rfl | simp [OneV.o]); intro _ h)
 | ((with_reducible apply go_box h); rfl; intro _ _ h)
 | ((with_reducible apply go_ix h); omega)
 | ((with_reducible first | apply go_elN h | apply go_f1 h | apply go_rf1 h | apply go_rel h); (case hi => omega); (try case hx => exact inferInstance); (try case hv => rfl))
 | ((with_reducible apply go_fa h); omega; omega)
))
    exact hK _ h
  · rw [hg] at hK
    simp only at hK
    replace h := refD_iff.1 h
    obtain ⟨p', s', e', h⟩ := h
    cases e'
    (repeat (first
 | (simp (disch := omega) only [evA, evB, evC, bAdd_i64, bSub_i64, nat0 i])
 | (with_reducible apply go_ld1 h)
 | ((with_reducible first | apply go_ldA h | apply go_rd h | apply go_rdN h | apply go_rlen h); rfl)
 | (with_reducible first | apply go_ldN h | apply go_lenL h)
 | ((with_reducible apply go_st h); intro _ h)
 | ((with_reducible apply go_stA h); rfl; rfl; (first | rfl | simp [OneV.o]); intro _ h)
 | ((with_reducible apply go_stN h); rfl; (first | rfl | simp [OneV.o]); intro _ h)
 | ((with_reducible apply go_box h); rfl; intro _ _ h)
 | ((with_reducible apply go_alloc h); (first | exact z105); rfl; intro _ _ h)
 | ((with_reducible apply go_ix h); omega)
 | ((with_reducible first | apply go_elN h | apply go_f1 h | apply go_rf1 h | apply go_rel h); (case hi => omega); (try case hx => exact inferInstance); (try case hv => rfl))
 | ((with_reducible apply go_fa h); omega; omega)
))
    by_cases g1 : k < 0
    · have g1' : decide (k < 0) = true := by simpa using g1
      rw [if_pos (.inl g1)] at hK
      (repeat (first
 | (simp (disch := omega) only [evA, evB, evC, bAdd_i64, bSub_i64, g1'])
 | (with_reducible apply go_ld1 h)
 | ((with_reducible first | apply go_ldA h | apply go_rd h | apply go_rdN h | apply go_rlen h); rfl)
 | (with_reducible first | apply go_ldN h | apply go_lenL h)
 | ((with_reducible apply go_st h); intro _ h)
 | ((with_reducible apply go_stA h); rfl; rfl; (first | rfl | simp [OneV.o]); intro _ h)
 | ((with_reducible apply go_stN h); rfl; (first | rfl | simp [OneV.o]); intro _ h)
 | ((with_reducible apply go_box h); rfl; intro _ _ h)
 | ((with_reducible apply go_ix h); omega)
 | ((with_reducible first | apply go_elN h | apply go_f1 h | apply go_rf1 h | apply go_rel h); (case hi => omega); (try case hx => exact inferInstance); (try case hv => rfl))
 | ((with_reducible apply go_fa h); omega; omega)
))
      exact hK _ (refD_iff.2 ⟨p, s', rfl, h.got⟩)
    have g1' : decide (k < 0) = false := by simpa using g1
    by_cases g2 : (d.fs[i].s.length : Int) < k
    · have g2' : decide (k > (d.fs[i].s.length : Int)) = true := by simpa using g2
      rw [if_pos (.inr g2)] at hK
      (repeat (first
 | (simp (disch := omega) only [evA, evB, evC, bAdd_i64, bSub_i64, g1', g2'])
 | (with_reducible apply go_ld1 h)
 | ((with_reducible first | apply go_ldA h | apply go_rd h | apply go_rdN h | apply go_rlen h); rfl)
 | (with_reducible first | apply go_ldN h | apply go_lenL h)
 | ((with_reducible apply go_st h); intro _ h)
 | ((with_reducible apply go_stA h); rfl; rfl; (first | rfl | simp [OneV.o]); intro _ h)
 | ((with_reducible apply go_stN h); rfl; (first | rfl | simp [OneV.o]); intro _ h)
 | ((with_reducible apply go_box h); rfl; intro _ _ h)
 | ((with_reducible apply go_ix h); omega)
 | ((with_reducible first | apply go_elN h | apply go_f1 h | apply go_rf1 h | apply go_rel h); (case hi => omega); (try case hx => exact inferInstance); (try case hv => rfl))
 | ((with_reducible apply go_fa h); omega; omega)
))
      exact hK _ (refD_iff.2 ⟨p, s', rfl, h.got⟩)
    have g2' : decide (k > (d.fs[i].s.length : Int)) = false := by simpa using g2
    rw [if_neg (by omega)] at hK
    obtain ⟨j, rfl⟩ : ∃ j : Nat, k = j := ⟨k.toNat, by omega⟩
    simp only [Int.toNat_natCast] at hK
    unfold turnD at hK
    (repeat (first
 | (simp (disch := omega) only [evA, evB, evC, bAdd_i64, bSub_i64, g1', g2'])
 | (with_reducible apply go_ld1 h)
 | ((with_reducible first | apply go_ldA h | apply go_rd h | apply go_rdN h | apply go_rlen h); rfl)
 | (with_reducible first | apply go_ldN h | apply go_lenL h)
 | ((with_reducible apply go_st h); intro _ h)
 | ((with_reducible apply go_stA h); rfl; rfl; (first | rfl | simp [OneV.o]); intro _ h)
 | ((with_reducible apply go_stN h); rfl; (first | rfl | simp [OneV.o]); intro _ h)
 | ((with_reducible apply go_box h); rfl; intro _ _ h)
 | ((with_reducible apply go_ix h); omega)
 | ((with_reducible first | apply go_elN h | apply go_f1 h | apply go_rf1 h | apply go_rel h); (case hi => omega); (try case hx => exact inferInstance); (try case hv => rfl))
 | ((with_reducible apply go_fa h); omega; omega)
))
    rename_i q _
    refine rfuse_spec (v := ptr p) ok (L := Cl _ (cFil d.fs[i]).toArray 105 :: L) (refD_iff.2 ⟨p, s', rfl, h.got⟩) (fun hu w h => ?_) (fun e hu w h => ?_)
    · rw [hu] at hK
      (repeat (first
 | (simp (disch := omega) only [evA, evB, evC, bAdd_i64, bSub_i64])
 | (with_reducible apply go_ld1 h)
 | ((with_reducible first | apply go_ldA h | apply go_rd h | apply go_rdN h | apply go_rlen h); rfl)
 | (with_reducible first | apply go_ldN h | apply go_lenL h)
 | ((with_reducible apply go_st h); intro _ h)
 | ((with_reducible apply go_stA h); rfl; rfl; (first | rfl | simp [OneV.o]); intro _ h)
 | ((with_reducible apply go_stN h); rfl; (first | rfl | simp [OneV.o]); intro _ h)
 | ((with_reducible apply go_box h); rfl; intro _ _ h)
 | ((with_reducible apply go_ix h); omega)
 | ((with_reducible first | apply go_elN h | apply go_f1 h | apply go_rf1 h | apply go_rel h); (case hi => omega); (try case hx => exact inferInstance); (try case hv => rfl))
 | ((with_reducible apply go_fa h); omega; omega)
))
      exact hK _ (h.got)
    · rw [hu] at hK
      have hfe := (useD_some hu).2.2.1
      have hle : e.fs.length ≤ 1073741824 := by rw [hfe]; exact hl
      have emin : min ((d.fs[i].safe : Nat) : Int) (j : Int) = ((min d.fs[i].safe j : Nat) : Int) := by omega
      (repeat (first
 | (simp (disch := omega) only [evA, evB, evC, bAdd_i64, bSub_i64])
 | (with_reducible apply go_ld1 h)
 | ((with_reducible first | apply go_ldA h | apply go_rd h | apply go_rdN h | apply go_rlen h); rfl)
 | (with_reducible first | apply go_ldN h | apply go_lenL h)
 | ((with_reducible apply go_st h); intro _ h)
 | ((with_reducible apply go_stA h); rfl; rfl; (first | rfl | simp [OneV.o]); intro _ h)
 | ((with_reducible apply go_stN h); rfl; (first | rfl | simp [OneV.o]); intro _ h)
 | ((with_reducible apply go_box h); rfl; intro _ _ h)
 | ((with_reducible apply go_ix h); omega)
 | ((with_reducible first | apply go_elN h | apply go_f1 h | apply go_rf1 h | apply go_rel h); (case hi => omega); (try case hx => exact inferInstance); (try case hv => rfl))
 | ((with_reducible apply go_fa h); omega; omega)
))
      refine go_some (sub_to (l := d.fs[i].s) (i := j) (by omega)) ?_
      (repeat (first
 | (simp (disch := omega) only [evA, evB, evC, bAdd_i64, bSub_i64, emin])
 | (with_reducible apply go_ld1 h)
 | ((with_reducible first | apply go_ldA h | apply go_rd h | apply go_rdN h | apply go_rlen h); rfl)
 | (with_reducible first | apply go_ldN h | apply go_lenL h)
 | ((with_reducible apply go_st h); intro _ h)
 | ((with_reducible apply go_stA h); rfl; rfl; (first | rfl | simp [OneV.o]); intro _ h)
 | ((with_reducible apply go_stN h); rfl; (first | rfl | simp [OneV.o]); intro _ h)
 | ((with_reducible apply go_box h); rfl; intro _ _ h)
 | ((with_reducible apply go_ix h); omega)
 | ((with_reducible first | apply go_elN h | apply go_f1 h | apply go_rf1 h | apply go_rel h); (case hi => omega); (try case hx => exact inferInstance); (try case hv => rfl))
 | ((with_reducible apply go_fa h); omega; omega)
))
      refine rfput_spec (v := ptr p) (d := e) (f := { d.fs[i] with s := d.fs[i].s.take j, safe := min d.fs[i].safe j }) hle (h.frt (A := RefD (ptr p) e)) fun w h => ?_
      (repeat (first
 | (simp (disch := omega) only [evA, evB, evC, bAdd_i64, bSub_i64])
 | (with_reducible apply go_ld1 h)
 | ((with_reducible first | apply go_ldA h | apply go_rd h | apply go_rdN h | apply go_rlen h); rfl)
 | (with_reducible first | apply go_ldN h | apply go_lenL h)
 | ((with_reducible apply go_st h); intro _ h)
 | ((with_reducible apply go_stA h); rfl; rfl; (first | rfl | simp [OneV.o]); intro _ h)
 | ((with_reducible apply go_stN h); rfl; (first | rfl | simp [OneV.o]); intro _ h)
 | ((with_reducible apply go_box h); rfl; intro _ _ h)
 | ((with_reducible apply go_ix h); omega)
 | ((with_reducible first | apply go_elN h | apply go_f1 h | apply go_rf1 h | apply go_rel h); (case hi => omega); (try case hx => exact inferInstance); (try case hv => rfl))
 | ((with_reducible apply go_fa h); omega; omega)
))
      exact hK _ (h.got)
theorem rfrem_spec (ok : DOk d) (hl : d.fs.length ≤ 1073741824) (h : Sat w0 (RefD v d :: L) w) (hK : ∀ w', Sat w0 (RefD v (remD n d).2 :: L) w' → K (.int .i64 (remD n d).1) w') : callP G59 [v, .string (bs n)] w K := by
  unfold remD at hK
  refine c59 ?_
  unfold F59
  refine rfat_spec (n := n) hl h (fun hg => ?_) (fun i hi hg => ?_)
  · rw [hg] at hK
    (repeat (first
 | (simp (disch := omega) only [evA, evB, evC, bAdd_i64, bSub_i64, neg1])
 | (with_reducible apply go_ld1 h)
 | ((with_reducible first | apply go_ldA h | apply go_rd h | apply go_rdN h | apply go_rlen h); rfl)
 | (with_reducible first | apply go_ldN h | apply go_lenL h)
 | ((with_reducible apply go_st h); intro _ h)
 | ((with_reducible apply go_stA h); rfl; rfl; (first | rfl | simp [OneV.o]); intro _ h)
 | ((with_reducible apply go_stN h); rfl; (first | rfl | simp [OneV.o]); intro _ h)
 | ((with_reducible apply go_box h); rfl; intro _ _ h)
 | ((with_reducible apply go_ix h); omega)
 | ((with_reducible first | apply go_elN h | apply go_f1 h | apply go_rf1 h | apply go_rel h); (case hi => omega); (try case hx => exact inferInstance); (try case hv => rfl))
 | ((with_reducible apply go_fa h); omega; omega)
))
    exact hK _ h
  · rw [hg] at hK
    simp only at hK
    (repeat (first
 | (simp (disch := omega) only [evA, evB, evC, bAdd_i64, bSub_i64, nat0 i])
 | (with_reducible apply go_ld1 h)
 | ((with_reducible first | apply go_ldA h | apply go_rd h | apply go_rdN h | apply go_rlen h); rfl)
 | (with_reducible first | apply go_ldN h | apply go_lenL h)
 | ((with_reducible apply go_st h); intro _ h)
 | ((with_reducible apply go_stA h); rfl; rfl; (first | rfl | simp [OneV.o]); intro _ h)
 | ((with_reducible apply go_stN h); rfl; (first | rfl | simp [OneV.o]); intro _ h)
 | ((with_reducible apply go_box h); rfl; intro _ _ h)
 | ((with_reducible apply go_ix h); omega)
 | ((with_reducible first | apply go_elN h | apply go_f1 h | apply go_rf1 h | apply go_rel h); (case hi => omega); (try case hx => exact inferInstance); (try case hv => rfl))
 | ((with_reducible apply go_fa h); omega; omega)
))
    refine rfuse_spec ok h (fun hu w h => ?_) (fun e hu w h => ?_)
    · rw [hu] at hK
      (repeat (first
 | (simp (disch := omega) only [evA, evB, evC, bAdd_i64, bSub_i64])
 | (with_reducible apply go_ld1 h)
 | ((with_reducible first | apply go_ldA h | apply go_rd h | apply go_rdN h | apply go_rlen h); rfl)
 | (with_reducible first | apply go_ldN h | apply go_lenL h)
 | ((with_reducible apply go_st h); intro _ h)
 | ((with_reducible apply go_stA h); rfl; rfl; (first | rfl | simp [OneV.o]); intro _ h)
 | ((with_reducible apply go_stN h); rfl; (first | rfl | simp [OneV.o]); intro _ h)
 | ((with_reducible apply go_box h); rfl; intro _ _ h)
 | ((with_reducible apply go_ix h); omega)
 | ((with_reducible first | apply go_elN h | apply go_f1 h | apply go_rf1 h | apply go_rel h); (case hi => omega); (try case hx => exact inferInstance); (try case hv => rfl))
 | ((with_reducible apply go_fa h); omega; omega)
))
      exact hK _ h
    · rw [hu] at hK
      have hfe := (useD_some hu).2.2.1
      (repeat (first
 | (simp (disch := omega) only [evA, evB, evC, bAdd_i64, bSub_i64])
 | (with_reducible apply go_ld1 h)
 | ((with_reducible first | apply go_ldA h | apply go_rd h | apply go_rdN h | apply go_rlen h); rfl)
 | (with_reducible first | apply go_ldN h | apply go_lenL h)
 | ((with_reducible apply go_st h); intro _ h)
 | ((with_reducible apply go_stA h); rfl; rfl; (first | rfl | simp [OneV.o]); intro _ h)
 | ((with_reducible apply go_stN h); rfl; (first | rfl | simp [OneV.o]); intro _ h)
 | ((with_reducible apply go_box h); rfl; intro _ _ h)
 | ((with_reducible apply go_ix h); omega)
 | ((with_reducible first | apply go_elN h | apply go_f1 h | apply go_rf1 h | apply go_rel h); (case hi => omega); (try case hx => exact inferInstance); (try case hv => rfl))
 | ((with_reducible apply go_fa h); omega; omega)
))
      refine rftake_spec (n := n) (by rw [hfe]; exact hl) h fun w h => ?_
      (repeat (first
 | (simp (disch := omega) only [evA, evB, evC, bAdd_i64, bSub_i64])
 | (with_reducible apply go_ld1 h)
 | ((with_reducible first | apply go_ldA h | apply go_rd h | apply go_rdN h | apply go_rlen h); rfl)
 | (with_reducible first | apply go_ldN h | apply go_lenL h)
 | ((with_reducible apply go_st h); intro _ h)
 | ((with_reducible apply go_stA h); rfl; rfl; (first | rfl | simp [OneV.o]); intro _ h)
 | ((with_reducible apply go_stN h); rfl; (first | rfl | simp [OneV.o]); intro _ h)
 | ((with_reducible apply go_box h); rfl; intro _ _ h)
 | ((with_reducible apply go_ix h); omega)
 | ((with_reducible first | apply go_elN h | apply go_f1 h | apply go_rf1 h | apply go_rel h); (case hi => omega); (try case hx => exact inferInstance); (try case hv => rfl))
 | ((with_reducible apply go_fa h); omega; omega)
))
      exact hK _ h
theorem rfstop_spec {k : Int} (h : Sat w0 (RefD v d :: L) w) (hK : ∀ w', Sat w0 (RefD v (stopD k d).2 :: L) w' → K (.int .i64 (stopD k d).1) w') : callP G62 [v, .int .i64 k] w K := by
  unfold stopD at hK
  obtain ⟨p, s0, rfl, _⟩ := refD_iff.1 h
  refine c62 ?_
  unfold F62
  by_cases g1 : k < 0
  · have g1' : decide (k < 0) = true := by simpa using g1
    rw [if_pos g1] at hK
    (repeat (first
 | (simp (disch := omega) only [evA, evB, evC, bAdd_i64, bSub_i64, g1'])
 | (with_reducible apply go_ld1 h)
 | ((with_reducible first | apply go_ldA h | apply go_rd h | apply go_rdN h | apply go_rlen h); rfl)
 | (with_reducible first | apply go_ldN h | apply go_lenL h)
 | ((with_reducible apply go_st h); intro _ h)
 | ((with_reducible apply go_stA h); rfl; rfl; (first | rfl | simp [OneV.o]); intro _ h)
 | ((with_reducible apply go_stN h); rfl; (first | rfl | simp [OneV.o]); intro _ h)
 | ((with_reducible apply go_box h); rfl; intro _ _ h)
 | ((with_reducible apply go_ix h); omega)
 | ((with_reducible first | apply go_elN h | apply go_f1 h | apply go_rf1 h | apply go_rel h); (case hi => omega); (try case hx => exact inferInstance); (try case hv => rfl))
 | ((with_reducible apply go_fa h); omega; omega)
))
    exact hK _ h
  · have g1' : decide (k < 0) = false := by simpa using g1
    rw [if_neg g1] at hK
    replace h := refD_iff.1 h
    obtain ⟨p', s', e', h⟩ := h
    cases e'
    (repeat (first
 | (simp (disch := omega) only [evA, evB, evC, bAdd_i64, bSub_i64, g1'])
 | (with_reducible apply go_ld1 h)
 | ((with_reducible first | apply go_ldA h | apply go_rd h | apply go_rdN h | apply go_rlen h); rfl)
 | (with_reducible first | apply go_ldN h | apply go_lenL h)
 | ((with_reducible apply go_st h); intro _ h)
 | ((with_reducible apply go_stA h); rfl; rfl; (first | rfl | simp [OneV.o]); intro _ h)
 | ((with_reducible apply go_stN h); rfl; (first | rfl | simp [OneV.o]); intro _ h)
 | ((with_reducible apply go_box h); rfl; intro _ _ h)
 | ((with_reducible apply go_ix h); omega)
 | ((with_reducible first | apply go_elN h | apply go_f1 h | apply go_rf1 h | apply go_rel h); (case hi => omega); (try case hx => exact inferInstance); (try case hv => rfl))
 | ((with_reducible apply go_fa h); omega; omega)
))
    exact hK _ (refD_iff.2 ⟨p, s', rfl, h.got⟩)
theorem rfread_spec (hl : d.fs.length ≤ 1073741824) (h : Sat w0 (RefD v d :: L) w) (hK : K (.tuple #[.string (bs ((fGet n d.fs).elim [] (·.s))), .int .i64 ((fGet n d.fs).elim 5 fun _ => 0)]) w) : callP G65 [v, .string (bs n)] w K := by
  obtain ⟨p, s0, rfl, _⟩ := refD_iff.1 h
  refine c65 ?_
  unfold F65
  refine rfat_spec (n := n) hl h (fun hg => ?_) (fun i hi hg => ?_)
  · rw [hg] at hK
    (repeat (first
 | (simp (disch := omega) only [evA, evB, evC, bAdd_i64, bSub_i64, neg1])
 | (with_reducible apply go_ld1 h)
 | ((with_reducible first | apply go_ldA h | apply go_rd h | apply go_rdN h | apply go_rlen h); rfl)
 | (with_reducible first | apply go_ldN h | apply go_lenL h)
 | ((with_reducible apply go_st h); intro _ h)
 | ((with_reducible apply go_stA h); rfl; rfl; (first | rfl | simp [OneV.o]); intro _ h)
 | ((with_reducible apply go_stN h); rfl; (first | rfl | simp [OneV.o]); intro _ h)
 | ((with_reducible apply go_box h); rfl; intro _ _ h)
 | ((with_reducible apply go_ix h); omega)
 | ((with_reducible first | apply go_elN h | apply go_f1 h | apply go_rf1 h | apply go_rel h); (case hi => omega); (try case hx => exact inferInstance); (try case hv => rfl))
 | ((with_reducible apply go_fa h); omega; omega)
))
    exact hK
  · rw [hg] at hK
    replace h := refD_iff.1 h
    obtain ⟨p', s', e', h⟩ := h
    cases e'
    (repeat (first
 | (simp (disch := omega) only [evA, evB, evC, bAdd_i64, bSub_i64, nat0 i])
 | (with_reducible apply go_ld1 h)
 | ((with_reducible first | apply go_ldA h | apply go_rd h | apply go_rdN h | apply go_rlen h); rfl)
 | (with_reducible first | apply go_ldN h | apply go_lenL h)
 | ((with_reducible apply go_st h); intro _ h)
 | ((with_reducible apply go_stA h); rfl; rfl; (first | rfl | simp [OneV.o]); intro _ h)
 | ((with_reducible apply go_stN h); rfl; (first | rfl | simp [OneV.o]); intro _ h)
 | ((with_reducible apply go_box h); rfl; intro _ _ h)
 | ((with_reducible apply go_ix h); omega)
 | ((with_reducible first | apply go_elN h | apply go_f1 h | apply go_rf1 h | apply go_rel h); (case hi => omega); (try case hx => exact inferInstance); (try case hv => rfl))
 | ((with_reducible apply go_fa h); omega; omega)
))
    exact hK
theorem rfsafe_spec (hl : d.fs.length ≤ 1073741824) (h : Sat w0 (RefD v d :: L) w) (hK : K (.tuple #[.int .i64 (((fGet n d.fs).elim 0 (·.safe) : Nat)), .int .i64 ((fGet n d.fs).elim 5 fun _ => 0)]) w) : callP G66 [v, .string (bs n)] w K := by
  obtain ⟨p, s0, rfl, _⟩ := refD_iff.1 h
  refine c66 ?_
  unfold F66
  refine rfat_spec (n := n) hl h (fun hg => ?_) (fun i hi hg => ?_)
  · rw [hg] at hK
    (repeat (first
 | (simp (disch := omega) only [evA, evB, evC, bAdd_i64, bSub_i64, neg1])
 | (with_reducible apply go_ld1 h)
 | ((with_reducible first | apply go_ldA h | apply go_rd h | apply go_rdN h | apply go_rlen h); rfl)
 | (with_reducible first | apply go_ldN h | apply go_lenL h)
 | ((with_reducible apply go_st h); intro _ h)
 | ((with_reducible apply go_stA h); rfl; rfl; (first | rfl | simp [OneV.o]); intro _ h)
 | ((with_reducible apply go_stN h); rfl; (first | rfl | simp [OneV.o]); intro _ h)
 | ((with_reducible apply go_box h); rfl; intro _ _ h)
 | ((with_reducible apply go_ix h); omega)
 | ((with_reducible first | apply go_elN h | apply go_f1 h | apply go_rf1 h | apply go_rel h); (case hi => omega); (try case hx => exact inferInstance); (try case hv => rfl))
 | ((with_reducible apply go_fa h); omega; omega)
))
    exact hK
  · rw [hg] at hK
    replace h := refD_iff.1 h
    obtain ⟨p', s', e', h⟩ := h
    cases e'
    (repeat (first
 | (simp (disch := omega) only [evA, evB, evC, bAdd_i64, bSub_i64, nat0 i])
 | (with_reducible apply go_ld1 h)
 | ((with_reducible first | apply go_ldA h | apply go_rd h | apply go_rdN h | apply go_rlen h); rfl)
 | (with_reducible first | apply go_ldN h | apply go_lenL h)
 | ((with_reducible apply go_st h); intro _ h)
 | ((with_reducible apply go_stA h); rfl; rfl; (first | rfl | simp [OneV.o]); intro _ h)
 | ((with_reducible apply go_stN h); rfl; (first | rfl | simp [OneV.o]); intro _ h)
 | ((with_reducible apply go_box h); rfl; intro _ _ h)
 | ((with_reducible apply go_ix h); omega)
 | ((with_reducible first | apply go_elN h | apply go_f1 h | apply go_rf1 h | apply go_rel h); (case hi => omega); (try case hx => exact inferInstance); (try case hv => rfl))
 | ((with_reducible apply go_fa h); omega; omega)
))
    exact hK
theorem rfnames_loop {p : Nat} {c0 c1 c2 s : Value} {fs : List Fil} (hl : fs.length ≤ 1073741824) (hK : ∀ s' w', Sat w0 (LsH cSt 1 9 s' (fs.map (·.name)) :: Cl p #[c0, c1, c2, s] 101 :: LsH cFil 3 105 s fs :: L) w' → K s' w') :
    ∀ (k i : Nat) (s3 : Value) (w : World), fs.length - i < k → i ≤ fs.length → Sat w0 (LsH cSt 1 9 s3 ((fs.take i).map (·.name)) :: Cl p #[c0, c1, c2, s] 101 :: LsH cFil 3 105 s fs :: L) w → F63_2L k (ptr p) s3 (.int .i64 i) w K := by
  intro k
  induction k with
  | zero => intro i s3 w hd; omega
  | succ k ih =>
    intro i s3 w hd hi h
    rw [F63_2L]
    unfold F63_2b
    by_cases g : i < fs.length
    · have g' : decide ((i : Int) < (fs.length : Int)) = true := by simpa using g
      have ht : (fs.take (i + 1)).map (·.name) = (fs.take i).map (·.name) ++ [fs[i].name] := by rw [List.take_succ_eq_append_getElem g, List.map_append]; rfl
      (repeat (first
 | (simp (disch := omega) only [evA, evB, evC, bAdd_i64, bSub_i64, g'])
 | (with_reducible apply go_ld1 h)
 | ((with_reducible first | apply go_ldA h | apply go_rd h | apply go_rdN h | apply go_rlen h); rfl)
 | (with_reducible first | apply go_ldN h | apply go_lenL h)
 | ((with_reducible apply go_st h); intro _ h)
 | ((with_reducible apply go_stA h); rfl; rfl; (first | rfl | simp [OneV.o]); intro _ h)
 | ((with_reducible apply go_stN h); rfl; (first | rfl | simp [OneV.o]); intro _ h)
 | ((with_reducible apply go_box h); rfl; intro _ _ h)
 | ((with_reducible apply go_ix h); omega)
 | ((with_reducible first | apply go_elN h | apply go_f1 h | apply go_rf1 h | apply go_rel h); (case hi => omega); (try case hx => exact inferInstance); (try case hv => rfl))
 | ((with_reducible apply go_fa h); omega; omega)
 | ((with_reducible first | apply go_lit0 CStr h u33 (by kernel_rfl) | apply go_lit1 CStr h u33 (fbSt _) rfl); intro _ _ h)
 | ((with_reducible apply go_app h sl33 ss33); (case hm => repeat (first | exact .here | apply Fnt.there)); (case hb => first | omega | (simp; omega)); intro _ _ _ h)
))
      exact ih (i + 1) _ _ (by omega) (by omega) (by rw [ht]; exact h.got)
    · have g' : decide ((i : Int) < (fs.length : Int)) = false := by simpa using g
      have e : i = fs.length := by omega
      subst e
      rw [List.take_length] at h
      (repeat (first
 | (simp (disch := omega) only [evA, evB, evC, bAdd_i64, bSub_i64, g'])
 | (with_reducible apply go_ld1 h)
 | ((with_reducible first | apply go_ldA h | apply go_rd h | apply go_rdN h | apply go_rlen h); rfl)
 | (with_reducible first | apply go_ldN h | apply go_lenL h)
 | ((with_reducible apply go_st h); intro _ h)
 | ((with_reducible apply go_stA h); rfl; rfl; (first | rfl | simp [OneV.o]); intro _ h)
 | ((with_reducible apply go_stN h); rfl; (first | rfl | simp [OneV.o]); intro _ h)
 | ((with_reducible apply go_box h); rfl; intro _ _ h)
 | ((with_reducible apply go_ix h); omega)
 | ((with_reducible first | apply go_elN h | apply go_f1 h | apply go_rf1 h | apply go_rel h); (case hi => omega); (try case hx => exact inferInstance); (try case hv => rfl))
 | ((with_reducible apply go_fa h); omega; omega)
))
      unfold F63_3 F63_3b
      exact hK _ _ h
theorem rfnames_spec (hl : d.fs.length ≤ 1073741824) (h : Sat w0 (RefD v d :: L) w) (hK : ∀ s w', Sat w0 (LsH cSt 1 9 s (d.fs.map (·.name)) :: RefD v d :: L) w' → K s w') : callP G63 [v] w K := by
  refine c63 ?_
  unfold F63 F63_1 F63_1b F63_2
  replace h := refD_iff.1 h
  obtain ⟨p, s, rfl, h⟩ := h
  exact rfnames_loop hl (fun s' w' h => hK s' w' (Sat.f1 (refD_iff.2 ⟨p, s, rfl, h.got⟩))) fuel 0 _ _ (by unfold fuel; omega) (by omega) (Sat.nilLs cSt 1 9 h)
end
end Go.Proofs.Gong

/- Dl2 -/
namespace Go.Proofs.Gong
open Go Go.Sx Go.Proofs
set_option maxRecDepth 100000
attribute [local irreducible] fBuild fLook fZero eqv bEqv Cl MapH LsH SlH ld1 ldN st callP eBox eAlloc lenM lenL eMapSet eDelete eAppend eBuildSl eRange eNext
section
variable {w0 w : World} {L : List HP} {K : Value → World → Prop} {v : Value} {d : Dk} {n x : List UInt8}
theorem rfcrash_loop {p : Nat} {sv s : Value} {keep : List Int} [hrd : RdIn w0 L sv Int cI 1 keep] (hc : d.fs.length ≤ 1073741824) (ok : DOk d) (hK : ∀ w', Sat w0 (RefD (ptr p) (crashD keep d) :: L) w' → K (.tuple #[]) w') :
    ∀ (k i : Nat) (s4 : Value) (w : World), d.fs.length - i < k → i ≤ d.fs.length →
      Sat w0 (LsH cFil 3 105 s4 (crF keep 0 (d.fs.take i)) :: Cl p #[.int .i64 d.room, .bool d.stop, .int .i64 d.left, s] 101 :: LsH cFil 3 105 s d.fs :: L) w → F60_2L k (ptr p) sv s4 (.int .i64 i) w K := by
  intro k
  induction k with
  | zero => intro i s4 w hd; omega
  | succ k ih =>
    intro i s4 w hd hi h
    rw [F60_2L]
    unfold F60_4 F60_4b
    have hcl := crF_len (keep := keep) (i := 0) (l := d.fs.take i)
    rw [List.length_take] at hcl
    by_cases g : i < d.fs.length
    · have g' : decide ((i : Int) < (d.fs.length : Int)) = true := by simpa using g
      (repeat (first
 | (simp (disch := omega) only [evA, evB, evC, bAdd_i64, bSub_i64, g'])
 | (with_reducible apply go_ld1 h)
 | ((with_reducible first | apply go_ldA h | apply go_rd h | apply go_rdN h | apply go_rlen h); rfl)
 | (with_reducible first | apply go_ldN h | apply go_lenL h)
 | ((with_reducible apply go_st h); intro _ h)
 | ((with_reducible apply go_stA h); rfl; rfl; (first | rfl | simp [OneV.o]); intro _ h)
 | ((with_reducible apply go_stN h); rfl; (first | rfl | simp [OneV.o]); intro _ h)
 | ((with_reducible apply go_box h); rfl; intro _ _ h)
 | ((with_reducible apply go_ix h); omega)
 | ((with_reducible first | apply go_elN h | apply go_f1 h | apply go_rf1 h | apply go_rel h); (case hi => omega); (try case hx => exact inferInstance); (try case hv => rfl))
 | ((with_reducible apply go_fa h); omega; omega)
))
      unfold F60_5 F60_7 F60_7b
      have hfo := ok.ok _ (List.getElem_mem g)
      have hfl := usedF_mem (List.getElem_mem g)
      have hu := ok.used
      have hr := ok.room
      have hlg := crLong_le (keep := keep) (i := i) hfo
      have ht : crF keep 0 (d.fs.take (i + 1)) = crF keep 0 (d.fs.take i) ++ [crFil keep i d.fs[i]] := by
        rw [List.take_succ_eq_append_getElem g, crF_snoc, List.length_take, Nat.zero_add, Nat.min_eq_left hi]
      (repeat (first
 | (simp (disch := omega) only [evA, evB, evC, bAdd_i64, bSub_i64])
 | (with_reducible apply go_ld1 h)
 | ((with_reducible first | apply go_ldA h | apply go_rd h | apply go_rdN h); rfl)
 | (with_reducible first | apply go_ldN h | apply go_lenR h)
 | ((with_reducible apply go_st h); intro _ h)
 | ((with_reducible apply go_stA h); rfl; rfl; (first | rfl | simp [OneV.o]); intro _ h)
 | ((with_reducible apply go_stN h); rfl; (first | rfl | simp [OneV.o]); intro _ h)
 | ((with_reducible apply go_box h); rfl; intro _ _ h)
 | ((with_reducible apply go_alloc h); (first | exact z105); rfl; intro _ _ h)
 | ((with_reducible apply go_ixR h); omega)
 | ((with_reducible first | apply go_elR h | apply go_f1R h | apply go_rf1R h | apply go_relR h | apply go_e1R h | apply go_re1R h); (case hc => exact inferInstance); (case hi => omega); (try case hx => exact inferInstance); (try case hv => rfl))
 | ((with_reducible apply go_fNR h); (case hc => exact inferInstance); (case hi => omega); (try case hp => exact inferInstance); (try case hv => rfl))
 | ((with_reducible apply go_faR h); (case hc => exact inferInstance); omega; omega)
 | ((with_reducible apply go_rlenR h); rfl)
))
      have fin : ∀ (ad q : Nat) (w : World), d.fs[i].safe + ad = crLong keep i d.fs[i] → Sat w0 (Cl q (cFil d.fs[i]).toArray 105 :: LsH cFil 3 105 s4 (crF keep 0 (d.fs.take i)) :: Cl p #[.int .i64 d.room, .bool d.stop, .int .i64 d.left, s] 101 :: LsH cFil 3 105 s d.fs :: L) w →
          F60_8 (ptr p) sv s4 (.int .i64 (i : Nat)) (ptr q) (.int .i64 (ad : Nat)) w K (fun a0 a1 a4 a5 w => F60_2L k a0 a1 a4 a5 w K) := by
        intro ad q w ead h
        unfold F60_8 F60_8b
        have eadd : ((d.fs[i].safe : Nat) : Int) + ((ad : Nat) : Int) = ((crLong keep i d.fs[i] : Nat) : Int) := by omega
        (repeat (first
 | (simp (disch := omega) only [evA, evB, evC, bAdd_i64, bSub_i64, eadd])
 | (with_reducible apply go_ld1 h)
 | ((with_reducible first | apply go_ldA h | apply go_rd h | apply go_rdN h | apply go_rlen h); rfl)
 | (with_reducible first | apply go_ldN h | apply go_lenL h)
 | ((with_reducible apply go_st h); intro _ h)
 | ((with_reducible apply go_stA h); rfl; rfl; (first | rfl | simp [OneV.o]); intro _ h)
 | ((with_reducible apply go_stN h); rfl; (first | rfl | simp [OneV.o]); intro _ h)
 | ((with_reducible apply go_box h); rfl; intro _ _ h)
 | ((with_reducible apply go_ix h); omega)
 | ((with_reducible first | apply go_elN h | apply go_f1 h | apply go_rf1 h | apply go_rel h); (case hi => omega); (try case hx => exact inferInstance); (try case hv => rfl))
 | ((with_reducible apply go_fa h); omega; omega)
))
        refine go_some (sub_to (l := d.fs[i].s) (i := crLong keep i d.fs[i]) hlg.2) ?_
        have el : (d.fs[i].s.take (crLong keep i d.fs[i])).length = crLong keep i d.fs[i] := by rw [List.length_take]; omega
        (repeat (first
 | (simp (disch := omega) only [evA, evB, evC, bAdd_i64, bSub_i64, el])
 | (with_reducible apply go_ld1 h)
 | ((with_reducible first | apply go_ldA h | apply go_rd h | apply go_rdN h | apply go_rlen h); rfl)
 | (with_reducible first | apply go_ldN h | apply go_lenL h)
 | ((with_reducible apply go_st h); intro _ h)
 | ((with_reducible apply go_stA h); rfl; rfl; (first | rfl | simp [OneV.o]); intro _ h)
 | ((with_reducible apply go_stN h); rfl; (first | rfl | simp [OneV.o]); intro _ h)
 | ((with_reducible apply go_box h); rfl; intro _ _ h)
 | ((with_reducible apply go_ix h); omega)
 | ((with_reducible first | apply go_elN h | apply go_f1 h | apply go_rf1 h | apply go_rel h); (case hi => omega); (try case hx => exact inferInstance); (try case hv => rfl))
 | ((with_reducible apply go_fa h); omega; omega)
))
        refine go_lit1 (x := crFil keep i d.fs[i]) CFil.cod h u99 (fbFil (crFil keep i d.fs[i])) rfl fun s1 w h => ?_
        (repeat (first
 | (simp (disch := omega) only [evA, evB, evC, bAdd_i64, bSub_i64])
 | (with_reducible apply go_ld1 h)
 | ((with_reducible first | apply go_ldA h | apply go_rd h | apply go_rdN h | apply go_rlen h); rfl)
 | (with_reducible first | apply go_ldN h | apply go_lenL h)
 | ((with_reducible apply go_st h); intro _ h)
 | ((with_reducible apply go_stA h); rfl; rfl; (first | rfl | simp [OneV.o]); intro _ h)
 | ((with_reducible apply go_stN h); rfl; (first | rfl | simp [OneV.o]); intro _ h)
 | ((with_reducible apply go_box h); rfl; intro _ _ h)
 | ((with_reducible apply go_ix h); omega)
 | ((with_reducible first | apply go_elN h | apply go_f1 h | apply go_rf1 h | apply go_rel h); (case hi => omega); (try case hx => exact inferInstance); (try case hv => rfl))
 | ((with_reducible apply go_fa h); omega; omega)
 | ((with_reducible first | apply go_lit0 CFil.cod h u99 (by kernel_rfl) | apply go_lit1 CFil.cod h u99 (fbFil _) rfl); intro _ _ h)
 | ((with_reducible apply go_app h sl99 ss99); (case hm => repeat (first | exact .here | apply Fnt.there)); (case hb => first | omega | (simp; omega)); intro _ _ _ h)
))
        unfold F60_6 F60_6b
        (repeat (first
 | (simp (disch := omega) only [evA, evB, evC, bAdd_i64, bSub_i64])
 | (with_reducible apply go_ld1 h)
 | ((with_reducible first | apply go_ldA h | apply go_rd h | apply go_rdN h | apply go_rlen h); rfl)
 | (with_reducible first | apply go_ldN h | apply go_lenL h)
 | ((with_reducible apply go_st h); intro _ h)
 | ((with_reducible apply go_stA h); rfl; rfl; (first | rfl | simp [OneV.o]); intro _ h)
 | ((with_reducible apply go_stN h); rfl; (first | rfl | simp [OneV.o]); intro _ h)
 | ((with_reducible apply go_box h); rfl; intro _ _ h)
 | ((with_reducible apply go_ix h); omega)
 | ((with_reducible first | apply go_elN h | apply go_f1 h | apply go_rf1 h | apply go_rel h); (case hi => omega); (try case hx => exact inferInstance); (try case hv => rfl))
 | ((with_reducible apply go_fa h); omega; omega)
))
        exact ih (i + 1) _ _ (by omega) (by omega) (by rw [ht]; exact h.got)
      by_cases g2 : i < keep.length
      · have g2' : decide ((i : Int) < (keep.length : Int)) = true := by simpa using g2
        have em : ((d.fs[i].s.length : Nat) : Int) - ((d.fs[i].safe : Nat) : Int) = ((d.fs[i].s.length - d.fs[i].safe : Nat) : Int) := by have := hfo.1; omega
        have hkl := keptN_le keep[i] (d.fs[i].s.length - d.fs[i].safe)
        generalize hm : d.fs[i].s.length - d.fs[i].safe = m at em hkl
        have e1 : bRem (.int .i64 keep[i]) (.int .i64 ((m : Int) + 1)) = some (.int .i64 (keep[i].tmod ((m : Int) + 1))) := bRem_int _ _ _ (by omega)
        have b1 := Int.tmod_lt_of_pos keep[i] (b := (m : Int) + 1) (by omega)
        have b2 := Int.lt_tmod_of_pos keep[i] (b := (m : Int) + 1) (by omega)
        have hkr := keptN_ref keep[i] m
        generalize hq : keep[i].tmod ((m : Int) + 1) = r at e1 b1 b2 hkr
        have e2 : bRem (.int .i64 (r + ((m : Int) + 1))) (.int .i64 ((m : Int) + 1)) = some (.int .i64 ((r + ((m : Int) + 1)).tmod ((m : Int) + 1))) := bRem_int _ _ _ (by omega)
        rw [hkr] at e2
        (repeat (first
 | (simp (disch := omega) only [evA, evB, evC, bAdd_i64, bSub_i64, g2', em])
 | (refine go_some (e1 ..) ?_)
 | (refine go_some (e2 ..) ?_)
 | (with_reducible apply go_ld1 h)
 | ((with_reducible first | apply go_ldA h | apply go_rd h | apply go_rdN h); rfl)
 | (with_reducible first | apply go_ldN h | apply go_lenR h)
 | ((with_reducible apply go_st h); intro _ h)
 | ((with_reducible apply go_stA h); rfl; rfl; (first | rfl | simp [OneV.o]); intro _ h)
 | ((with_reducible apply go_stN h); rfl; (first | rfl | simp [OneV.o]); intro _ h)
 | ((with_reducible apply go_box h); rfl; intro _ _ h)
 | ((with_reducible apply go_ixR h); omega)
 | ((with_reducible first | apply go_elR h | apply go_f1R h | apply go_rf1R h | apply go_relR h | apply go_e1R h | apply go_re1R h); (case hc => exact inferInstance); (case hi => omega); (try case hx => exact inferInstance); (try case hv => rfl))
 | ((with_reducible apply go_fNR h); (case hc => exact inferInstance); (case hi => omega); (try case hp => exact inferInstance); (try case hv => rfl))
 | ((with_reducible apply go_faR h); (case hc => exact inferInstance); omega; omega)
 | ((with_reducible apply go_rlenR h); rfl)
))
        refine fin _ _ _ ?_ (h.got)
        unfold crLong
        rw [List.getElem?_eq_getElem g2, hm]
      · have g2' : decide ((i : Int) < (keep.length : Int)) = false := by simpa using g2
        (repeat (first
 | (simp (disch := omega) only [evA, evB, evC, bAdd_i64, bSub_i64, g2'])
 | (with_reducible apply go_ld1 h)
 | ((with_reducible first | apply go_ldA h | apply go_rd h | apply go_rdN h); rfl)
 | (with_reducible first | apply go_ldN h | apply go_lenR h)
 | ((with_reducible apply go_st h); intro _ h)
 | ((with_reducible apply go_stA h); rfl; rfl; (first | rfl | simp [OneV.o]); intro _ h)
 | ((with_reducible apply go_stN h); rfl; (first | rfl | simp [OneV.o]); intro _ h)
 | ((with_reducible apply go_box h); rfl; intro _ _ h)
 | ((with_reducible apply go_ixR h); omega)
 | ((with_reducible first | apply go_elR h | apply go_f1R h | apply go_rf1R h | apply go_relR h | apply go_e1R h | apply go_re1R h); (case hc => exact inferInstance); (case hi => omega); (try case hx => exact inferInstance); (try case hv => rfl))
 | ((with_reducible apply go_fNR h); (case hc => exact inferInstance); (case hi => omega); (try case hp => exact inferInstance); (try case hv => rfl))
 | ((with_reducible apply go_faR h); (case hc => exact inferInstance); omega; omega)
 | ((with_reducible apply go_rlenR h); rfl)
))
        refine fin 0 _ _ ?_ (h.got)
        unfold crLong
        rw [List.getElem?_eq_none (by omega)]; rfl
    · have g' : decide ((i : Int) < (d.fs.length : Int)) = false := by simpa using g
      have e : i = d.fs.length := by omega
      subst e
      rw [List.take_length] at h
      have := ls_one h
      (repeat (first
 | (simp (disch := omega) only [evA, evB, evC, bAdd_i64, bSub_i64, g'])
 | (with_reducible apply go_ld1 h)
 | ((with_reducible first | apply go_ldA h | apply go_rd h | apply go_rdN h | apply go_rlen h); rfl)
 | (with_reducible first | apply go_ldN h | apply go_lenL h)
 | ((with_reducible apply go_st h); intro _ h)
 | ((with_reducible apply go_stA h); rfl; rfl; (first | rfl | simp [OneV.o]); intro _ h)
 | ((with_reducible apply go_stN h); rfl; (first | rfl | simp [OneV.o]); intro _ h)
 | ((with_reducible apply go_box h); rfl; intro _ _ h)
 | ((with_reducible apply go_ix h); omega)
 | ((with_reducible first | apply go_elN h | apply go_f1 h | apply go_rf1 h | apply go_rel h); (case hi => omega); (try case hx => exact inferInstance); (try case hv => rfl))
 | ((with_reducible apply go_fa h); omega; omega)
))
      unfold F60_3 F60_3b
      (repeat (first
 | (simp (disch := omega) only [evA, evB, evC, bAdd_i64, bSub_i64])
 | (with_reducible apply go_ld1 h)
 | ((with_reducible first | apply go_ldA h | apply go_rd h | apply go_rdN h | apply go_rlen h); rfl)
 | (with_reducible first | apply go_ldN h | apply go_lenL h)
 | ((with_reducible apply go_st h); intro _ h)
 | ((with_reducible apply go_stA h); rfl; rfl; (first | rfl | simp [OneV.o]); intro _ h)
 | ((with_reducible apply go_stN h); rfl; (first | rfl | simp [OneV.o]); intro _ h)
 | ((with_reducible apply go_box h); rfl; intro _ _ h)
 | ((with_reducible apply go_ix h); omega)
 | ((with_reducible first | apply go_elN h | apply go_f1 h | apply go_rf1 h | apply go_rel h); (case hi => omega); (try case hx => exact inferInstance); (try case hv => rfl))
 | ((with_reducible apply go_fa h); omega; omega)
))
      exact hK _ (refD_iff.2 ⟨p, s4, rfl, h.got⟩)
theorem rfcrash_spec {sv : Value} {keep : List Int} [hrd : RdIn w0 L sv Int cI 1 keep] (ok : DOk d) (hc : d.fs.length ≤ 1073741824) (h : Sat w0 (RefD v d :: L) w) (hK : ∀ w', Sat w0 (RefD v (crashD keep d) :: L) w' → K (.tuple #[]) w') : callP G60 [v, sv] w K := by
  refine c60 ?_
  unfold F60 F60_1 F60_1b F60_2
  replace h := refD_iff.1 h
  obtain ⟨p, s, rfl, h⟩ := h
  exact rfcrash_loop (keep := keep) hc ok hK fuel 0 _ _ (by unfold fuel; omega) (by omega) (Sat.nilLs cFil 3 105 h)
end
end Go.Proofs.Gong

/- Dl3 -/
namespace Go.Proofs.Gong
open Go Go.Sx Go.Proofs
set_option maxRecDepth 100000
theorem bNe_bd (x y : Operand) (a c : Bool) : bNe Try.prog 4 x y (.bool a) (.bool c) = some (.bool (!(a == c))) := bNe_bool (by kernel_rfl) a c
attribute [local irreducible] fBuild fLook fZero eqv bEqv Cl MapH LsH SlH ld1 ldN st callP eBox eAlloc lenM lenL eMapSet eDelete eAppend eBuildSl eRange eNext
section
variable {w0 w : World} {L : List HP} {K : Value → World → Prop} {v rv a b : Value} {d : Dk} {n x : List UInt8}
theorem spoilT_loop (hK : ∀ l' w', Sat w0 (LsH cSt 1 9 a l' :: L) w' → K (.tuple #[]) w') :
    ∀ (k i : Nat) (l : List (List UInt8)) (w : World), l.length - i < k → i ≤ l.length → l.length ≤ 1073741824 → Sat w0 (LsH cSt 1 9 a l :: L) w → F67_2L k a (.int .i64 i) w K := by
  intro k
  induction k with
  | zero => intro i l w hd; omega
  | succ k ih =>
    intro i l w hd hi hl h
    rw [F67_2L]
    unfold F67_2b
    by_cases g : i < l.length
    · have g' : decide ((i : Int) < (l.length : Int)) = true := by simpa using g
      (repeat (first
 | (simp (disch := omega) only [evA, evB, evC, bAdd_i64, bSub_i64, g'])
 | (with_reducible apply go_ld1 h)
 | ((with_reducible first | apply go_ldA h | apply go_rd h | apply go_rdN h | apply go_rlen h); rfl)
 | (with_reducible first | apply go_ldN h | apply go_lenL h)
 | ((with_reducible apply go_st h); intro _ h)
 | ((with_reducible apply go_stA h); rfl; rfl; (first | rfl | simp [OneV.o]); intro _ h)
 | ((with_reducible apply go_stN h); rfl; (first | rfl | simp [OneV.o]); intro _ h)
 | ((with_reducible apply go_box h); rfl; intro _ _ h)
 | ((with_reducible apply go_ix h); omega)
 | ((with_reducible first | apply go_elN h | apply go_f1 h | apply go_rf1 h | apply go_rel h); (case hi => omega); (try case hx => exact inferInstance); (try case hv => rfl))
 | ((with_reducible apply go_fa h); omega; omega)
))
      refine ls_st CStr h g [97, 110, 111, 116, 104, 101, 114, 32, 111, 110, 101] rfl fun w h => ?_
      (repeat (first
 | (simp (disch := omega) only [evA, evB, evC, bAdd_i64, bSub_i64])
 | (with_reducible apply go_ld1 h)
 | ((with_reducible first | apply go_ldA h | apply go_rd h | apply go_rdN h | apply go_rlen h); rfl)
 | (with_reducible first | apply go_ldN h | apply go_lenL h)
 | ((with_reducible apply go_st h); intro _ h)
 | ((with_reducible apply go_stA h); rfl; rfl; (first | rfl | simp [OneV.o]); intro _ h)
 | ((with_reducible apply go_stN h); rfl; (first | rfl | simp [OneV.o]); intro _ h)
 | ((with_reducible apply go_box h); rfl; intro _ _ h)
 | ((with_reducible apply go_ix h); omega)
 | ((with_reducible first | apply go_elN h | apply go_f1 h | apply go_rf1 h | apply go_rel h); (case hi => omega); (try case hx => exact inferInstance); (try case hv => rfl))
 | ((with_reducible apply go_fa h); omega; omega)
))
      exact ih (i + 1) _ w (by simp; omega) (by simp; omega) (by simpa using hl) h
    · have g' : decide ((i : Int) < (l.length : Int)) = false := by simpa using g
      (repeat (first
 | (simp (disch := omega) only [evA, evB, evC, bAdd_i64, bSub_i64, g'])
 | (with_reducible apply go_ld1 h)
 | ((with_reducible first | apply go_ldA h | apply go_rd h | apply go_rdN h | apply go_rlen h); rfl)
 | (with_reducible first | apply go_ldN h | apply go_lenL h)
 | ((with_reducible apply go_st h); intro _ h)
 | ((with_reducible apply go_stA h); rfl; rfl; (first | rfl | simp [OneV.o]); intro _ h)
 | ((with_reducible apply go_stN h); rfl; (first | rfl | simp [OneV.o]); intro _ h)
 | ((with_reducible apply go_box h); rfl; intro _ _ h)
 | ((with_reducible apply go_ix h); omega)
 | ((with_reducible first | apply go_elN h | apply go_f1 h | apply go_rf1 h | apply go_rel h); (case hi => omega); (try case hx => exact inferInstance); (try case hv => rfl))
 | ((with_reducible apply go_fa h); omega; omega)
))
      exact hK _ _ h
theorem spoilT_spec {l : List (List UInt8)} (hl : l.length ≤ 1073741824) (h : Sat w0 (LsH cSt 1 9 a l :: L) w) (hK : ∀ l' w', Sat w0 (LsH cSt 1 9 a l' :: L) w' → K (.tuple #[]) w') : callP G67 [a] w K := by
  refine c67 ?_
  unfold F67 F67_1 F67_1b F67_2
  exact spoilT_loop hK fuel 0 l _ (by unfold fuel; omega) (by omega) hl h
theorem sameI_loop {l : List Int} [ra : RdIn w0 L a Int cI 1 l] [rb : RdIn w0 L b Int cI 1 l] (hl : l.length ≤ 1073741824) (hK : ∀ w', Sat w0 L w' → K (.bool true) w') : ∀ (k i : Nat) (w : World), l.length - i < k → i ≤ l.length → Sat w0 L w → F61_2L k a b (.bool true) (.int .i64 i) w K := by
  intro k
  induction k with
  | zero => intro i w hd; omega
  | succ k ih =>
    intro i w hd hi h
    rw [F61_2L]
    unfold F61_2b
    by_cases g : i < l.length
    · have g' : decide ((i : Int) < (l.length : Int)) = true := by simpa using g
      (repeat (first
 | (simp (disch := omega) only [evA, evB, evC, bAdd_i64, bSub_i64, g'])
 | (with_reducible apply go_ld1 h)
 | ((with_reducible first | apply go_ldA h | apply go_rd h | apply go_rdN h); rfl)
 | (with_reducible first | apply go_ldN h | apply go_lenR h)
 | ((with_reducible apply go_st h); intro _ h)
 | ((with_reducible apply go_stA h); rfl; rfl; (first | rfl | simp [OneV.o]); intro _ h)
 | ((with_reducible apply go_stN h); rfl; (first | rfl | simp [OneV.o]); intro _ h)
 | ((with_reducible apply go_box h); rfl; intro _ _ h)
 | ((with_reducible apply go_ixR h); omega)
 | ((with_reducible first | apply go_elR h | apply go_f1R h | apply go_rf1R h | apply go_relR h | apply go_e1R h | apply go_re1R h); (case hc => exact inferInstance); (case hi => omega); (try case hx => exact inferInstance); (try case hv => rfl))
 | ((with_reducible apply go_fNR h); (case hc => exact inferInstance); (case hi => omega); (try case hp => exact inferInstance); (try case hv => rfl))
 | ((with_reducible apply go_faR h); (case hc => exact inferInstance); omega; omega)
 | ((with_reducible apply go_rlenR h); rfl)
))
      exact ih (i + 1) _ (by omega) (by omega) h.drew
    · have g' : decide ((i : Int) < (l.length : Int)) = false := by simpa using g
      (repeat (first
 | (simp (disch := omega) only [evA, evB, evC, bAdd_i64, bSub_i64, g'])
 | (with_reducible apply go_ld1 h)
 | ((with_reducible first | apply go_ldA h | apply go_rd h | apply go_rdN h); rfl)
 | (with_reducible first | apply go_ldN h | apply go_lenR h)
 | ((with_reducible apply go_st h); intro _ h)
 | ((with_reducible apply go_stA h); rfl; rfl; (first | rfl | simp [OneV.o]); intro _ h)
 | ((with_reducible apply go_stN h); rfl; (first | rfl | simp [OneV.o]); intro _ h)
 | ((with_reducible apply go_box h); rfl; intro _ _ h)
 | ((with_reducible apply go_ixR h); omega)
 | ((with_reducible first | apply go_elR h | apply go_f1R h | apply go_rf1R h | apply go_relR h | apply go_e1R h | apply go_re1R h); (case hc => exact inferInstance); (case hi => omega); (try case hx => exact inferInstance); (try case hv => rfl))
 | ((with_reducible apply go_fNR h); (case hc => exact inferInstance); (case hi => omega); (try case hp => exact inferInstance); (try case hv => rfl))
 | ((with_reducible apply go_faR h); (case hc => exact inferInstance); omega; omega)
 | ((with_reducible apply go_rlenR h); rfl)
))
      unfold F61_3 F61_3b
      exact hK _ h
theorem sameI_spec {l : List Int} [ra : RdIn w0 L a Int cI 1 l] [rb : RdIn w0 L b Int cI 1 l] (hl : l.length ≤ 1073741824) (h : Sat w0 L w) (hK : ∀ w', Sat w0 L w' → K (.bool true) w') : callP G61 [a, b] w K := by
  refine c61 ?_
  unfold F61 F61_1 F61_1b F61_2
  (repeat (first
 | (simp (disch := omega) only [evA, evB, evC, bAdd_i64, bSub_i64])
 | (with_reducible apply go_ld1 h)
 | ((with_reducible first | apply go_ldA h | apply go_rd h | apply go_rdN h); rfl)
 | (with_reducible first | apply go_ldN h | apply go_lenR h)
 | ((with_reducible apply go_st h); intro _ h)
 | ((with_reducible apply go_stA h); rfl; rfl; (first | rfl | simp [OneV.o]); intro _ h)
 | ((with_reducible apply go_stN h); rfl; (first | rfl | simp [OneV.o]); intro _ h)
 | ((with_reducible apply go_box h); rfl; intro _ _ h)
 | ((with_reducible apply go_ixR h); omega)
 | ((with_reducible first | apply go_elR h | apply go_f1R h | apply go_rf1R h | apply go_relR h | apply go_e1R h | apply go_re1R h); (case hc => exact inferInstance); (case hi => omega); (try case hx => exact inferInstance); (try case hv => rfl))
 | ((with_reducible apply go_fNR h); (case hc => exact inferInstance); (case hi => omega); (try case hp => exact inferInstance); (try case hv => rfl))
 | ((with_reducible apply go_faR h); (case hc => exact inferInstance); omega; omega)
 | ((with_reducible apply go_rlenR h); rfl)
))
  exact sameI_loop hl hK fuel 0 _ (by unfold fuel; omega) (by omega) h
theorem dstands_end {p : Nat} {s : Value} (hc : d.fs.length ≤ 1073741824) (h : Sat w0 (Cl p #[.int .i64 d.room, .bool d.stop, .int .i64 d.left, s] 101 :: LsH cFil 3 105 s d.fs :: DiskA v d :: L) w)
    (hK : ∀ w', Sat w0 (DiskA v d :: RefD (ptr p) d :: L) w' → K (.bool true) w') : F36_3 v (ptr p) (.string (bs n)) w K := by
  unfold F36_3 F36_3b
  have h := refD_iff.2 ⟨p, s, rfl, h⟩
  refine dread_spec (v := v) (n := n) (d := d) (h.frt (A := DiskA v d)) fun w h => ?_
  (repeat (first
 | (simp (disch := omega) only [evA, evB, evC, bAdd_i64, bSub_i64])
 | (with_reducible apply go_ld1 h)
 | ((with_reducible first | apply go_ldA h | apply go_rd h | apply go_rdN h | apply go_rlen h); rfl)
 | (with_reducible first | apply go_ldN h | apply go_lenL h)
 | ((with_reducible apply go_st h); intro _ h)
 | ((with_reducible apply go_stA h); rfl; rfl; (first | rfl | simp [OneV.o]); intro _ h)
 | ((with_reducible apply go_stN h); rfl; (first | rfl | simp [OneV.o]); intro _ h)
 | ((with_reducible apply go_box h); rfl; intro _ _ h)
 | ((with_reducible apply go_ix h); omega)
 | ((with_reducible first | apply go_elN h | apply go_f1 h | apply go_rf1 h | apply go_rel h); (case hi => omega); (try case hx => exact inferInstance); (try case hv => rfl))
 | ((with_reducible apply go_fa h); omega; omega)
))
  refine rfread_spec (v := ptr p) (n := n) (d := d) hc (h.frt (A := RefD (ptr p) d)) ?_
  (repeat (first
 | (simp (disch := omega) only [evA, evB, evC, bAdd_i64, bSub_i64])
 | (with_reducible apply go_ld1 h)
 | ((with_reducible first | apply go_ldA h | apply go_rd h | apply go_rdN h | apply go_rlen h); rfl)
 | (with_reducible first | apply go_ldN h | apply go_lenL h)
 | ((with_reducible apply go_st h); intro _ h)
 | ((with_reducible apply go_stA h); rfl; rfl; (first | rfl | simp [OneV.o]); intro _ h)
 | ((with_reducible apply go_stN h); rfl; (first | rfl | simp [OneV.o]); intro _ h)
 | ((with_reducible apply go_box h); rfl; intro _ _ h)
 | ((with_reducible apply go_ix h); omega)
 | ((with_reducible first | apply go_elN h | apply go_f1 h | apply go_rf1 h | apply go_rel h); (case hi => omega); (try case hx => exact inferInstance); (try case hv => rfl))
 | ((with_reducible apply go_fa h); omega; omega)
))
  refine dsafe_spec (v := v) (n := n) (d := d) h fun w h => ?_
  (repeat (first
 | (simp (disch := omega) only [evA, evB, evC, bAdd_i64, bSub_i64])
 | (with_reducible apply go_ld1 h)
 | ((with_reducible first | apply go_ldA h | apply go_rd h | apply go_rdN h | apply go_rlen h); rfl)
 | (with_reducible first | apply go_ldN h | apply go_lenL h)
 | ((with_reducible apply go_st h); intro _ h)
 | ((with_reducible apply go_stA h); rfl; rfl; (first | rfl | simp [OneV.o]); intro _ h)
 | ((with_reducible apply go_stN h); rfl; (first | rfl | simp [OneV.o]); intro _ h)
 | ((with_reducible apply go_box h); rfl; intro _ _ h)
 | ((with_reducible apply go_ix h); omega)
 | ((with_reducible first | apply go_elN h | apply go_f1 h | apply go_rf1 h | apply go_rel h); (case hi => omega); (try case hx => exact inferInstance); (try case hv => rfl))
 | ((with_reducible apply go_fa h); omega; omega)
))
  refine rfsafe_spec (v := ptr p) (n := n) (d := d) hc (h.frt (A := RefD (ptr p) d)) ?_
  (repeat (first
 | (simp (disch := omega) only [evA, evB, evC, bAdd_i64, bSub_i64])
 | (with_reducible apply go_ld1 h)
 | ((with_reducible first | apply go_ldA h | apply go_rd h | apply go_rdN h | apply go_rlen h); rfl)
 | (with_reducible first | apply go_ldN h | apply go_lenL h)
 | ((with_reducible apply go_st h); intro _ h)
 | ((with_reducible apply go_stA h); rfl; rfl; (first | rfl | simp [OneV.o]); intro _ h)
 | ((with_reducible apply go_stN h); rfl; (first | rfl | simp [OneV.o]); intro _ h)
 | ((with_reducible apply go_box h); rfl; intro _ _ h)
 | ((with_reducible apply go_ix h); omega)
 | ((with_reducible first | apply go_elN h | apply go_f1 h | apply go_rf1 h | apply go_rel h); (case hi => omega); (try case hx => exact inferInstance); (try case hv => rfl))
 | ((with_reducible apply go_fa h); omega; omega)
))
  refine dnames_spec hc h fun x w h => ?_
  (repeat (first
 | (simp (disch := omega) only [evA, evB, evC, bAdd_i64, bSub_i64])
 | (with_reducible apply go_ld1 h)
 | ((with_reducible first | apply go_ldA h | apply go_rd h | apply go_rdN h | apply go_rlen h); rfl)
 | (with_reducible first | apply go_ldN h | apply go_lenL h)
 | ((with_reducible apply go_st h); intro _ h)
 | ((with_reducible apply go_stA h); rfl; rfl; (first | rfl | simp [OneV.o]); intro _ h)
 | ((with_reducible apply go_stN h); rfl; (first | rfl | simp [OneV.o]); intro _ h)
 | ((with_reducible apply go_box h); rfl; intro _ _ h)
 | ((with_reducible apply go_ix h); omega)
 | ((with_reducible first | apply go_elN h | apply go_f1 h | apply go_rf1 h | apply go_rel h); (case hi => omega); (try case hx => exact inferInstance); (try case hv => rfl))
 | ((with_reducible apply go_fa h); omega; omega)
))
  refine spoilT_spec (by simpa using hc) h fun l' w h => ?_
  (repeat (first
 | (simp (disch := omega) only [evA, evB, evC, bAdd_i64, bSub_i64])
 | (with_reducible apply go_ld1 h)
 | ((with_reducible first | apply go_ldA h | apply go_rd h | apply go_rdN h | apply go_rlen h); rfl)
 | (with_reducible first | apply go_ldN h | apply go_lenL h)
 | ((with_reducible apply go_st h); intro _ h)
 | ((with_reducible apply go_stA h); rfl; rfl; (first | rfl | simp [OneV.o]); intro _ h)
 | ((with_reducible apply go_stN h); rfl; (first | rfl | simp [OneV.o]); intro _ h)
 | ((with_reducible apply go_box h); rfl; intro _ _ h)
 | ((with_reducible apply go_ix h); omega)
 | ((with_reducible first | apply go_elN h | apply go_f1 h | apply go_rf1 h | apply go_rel h); (case hi => omega); (try case hx => exact inferInstance); (try case hv => rfl))
 | ((with_reducible apply go_fa h); omega; omega)
))
  exact hK _ (h.got)
theorem dstands_loop {p : Nat} {s : Value} (hc : d.fs.length ≤ 1073741824) (ok : DOk d) (hK : ∀ w', Sat w0 (DiskA v d :: RefD (ptr p) d :: L) w' → K (.bool true) w') :
    ∀ (k i : Nat) (w : World), d.fs.length - i < k → i ≤ d.fs.length → Sat w0 (Cl p #[.int .i64 d.room, .bool d.stop, .int .i64 d.left, s] 101 :: LsH cFil 3 105 s d.fs :: DiskA v d :: L) w → F36_2L k v (ptr p) (.string (bs n)) (.int .i64 i) w K := by
  intro k
  induction k with
  | zero => intro i w hd; omega
  | succ k ih =>
    intro i w hd hi h
    rw [F36_2L]
    unfold F36_2b
    by_cases g : i < d.fs.length
    · have g' : decide ((i : Int) < (d.fs.length : Int)) = true := by simpa using g
      have hg : fGet d.fs[i].name d.fs = some d.fs[i] := kGet_of STO.txt ok.asc (List.getElem_mem g)
      (repeat (first
 | (simp (disch := omega) only [evA, evB, evC, bAdd_i64, bSub_i64, g'])
 | (with_reducible apply go_ld1 h)
 | ((with_reducible first | apply go_ldA h | apply go_rd h | apply go_rdN h | apply go_rlen h); rfl)
 | (with_reducible first | apply go_ldN h | apply go_lenL h)
 | ((with_reducible apply go_st h); intro _ h)
 | ((with_reducible apply go_stA h); rfl; rfl; (first | rfl | simp [OneV.o]); intro _ h)
 | ((with_reducible apply go_stN h); rfl; (first | rfl | simp [OneV.o]); intro _ h)
 | ((with_reducible apply go_box h); rfl; intro _ _ h)
 | ((with_reducible apply go_ix h); omega)
 | ((with_reducible first | apply go_elN h | apply go_f1 h | apply go_rf1 h | apply go_rel h); (case hi => omega); (try case hx => exact inferInstance); (try case hv => rfl))
 | ((with_reducible apply go_fa h); omega; omega)
))
      refine dread_spec (v := v) (n := d.fs[i].name) (d := d) (h.frt (A := DiskA v d)) fun w h => ?_
      simp only [hg, Option.elim_some]
      (repeat (first
 | (simp (disch := omega) only [evA, evB, evC, bAdd_i64, bSub_i64])
 | (with_reducible apply go_ld1 h)
 | ((with_reducible first | apply go_ldA h | apply go_rd h | apply go_rdN h | apply go_rlen h); rfl)
 | (with_reducible first | apply go_ldN h | apply go_lenL h)
 | ((with_reducible apply go_st h); intro _ h)
 | ((with_reducible apply go_stA h); rfl; rfl; (first | rfl | simp [OneV.o]); intro _ h)
 | ((with_reducible apply go_stN h); rfl; (first | rfl | simp [OneV.o]); intro _ h)
 | ((with_reducible apply go_box h); rfl; intro _ _ h)
 | ((with_reducible apply go_ix h); omega)
 | ((with_reducible first | apply go_elN h | apply go_f1 h | apply go_rf1 h | apply go_rel h); (case hi => omega); (try case hx => exact inferInstance); (try case hv => rfl))
 | ((with_reducible apply go_fa h); omega; omega)
))
      refine dsafe_spec (v := v) (n := d.fs[i].name) (d := d) h fun w h => ?_
      simp only [hg, Option.elim_some]
      (repeat (first
 | (simp (disch := omega) only [evA, evB, evC, bAdd_i64, bSub_i64])
 | (with_reducible apply go_ld1 h)
 | ((with_reducible first | apply go_ldA h | apply go_rd h | apply go_rdN h | apply go_rlen h); rfl)
 | (with_reducible first | apply go_ldN h | apply go_lenL h)
 | ((with_reducible apply go_st h); intro _ h)
 | ((with_reducible apply go_stA h); rfl; rfl; (first | rfl | simp [OneV.o]); intro _ h)
 | ((with_reducible apply go_stN h); rfl; (first | rfl | simp [OneV.o]); intro _ h)
 | ((with_reducible apply go_box h); rfl; intro _ _ h)
 | ((with_reducible apply go_ix h); omega)
 | ((with_reducible first | apply go_elN h | apply go_f1 h | apply go_rf1 h | apply go_rel h); (case hi => omega); (try case hx => exact inferInstance); (try case hv => rfl))
 | ((with_reducible apply go_fa h); omega; omega)
))
      exact ih (i + 1) w (by omega) (by omega) (h.got)
    · have g' : decide ((i : Int) < (d.fs.length : Int)) = false := by simpa using g
      (repeat (first
 | (simp (disch := omega) only [evA, evB, evC, bAdd_i64, bSub_i64, g'])
 | (with_reducible apply go_ld1 h)
 | ((with_reducible first | apply go_ldA h | apply go_rd h | apply go_rdN h | apply go_rlen h); rfl)
 | (with_reducible first | apply go_ldN h | apply go_lenL h)
 | ((with_reducible apply go_st h); intro _ h)
 | ((with_reducible apply go_stA h); rfl; rfl; (first | rfl | simp [OneV.o]); intro _ h)
 | ((with_reducible apply go_stN h); rfl; (first | rfl | simp [OneV.o]); intro _ h)
 | ((with_reducible apply go_box h); rfl; intro _ _ h)
 | ((with_reducible apply go_ix h); omega)
 | ((with_reducible first | apply go_elN h | apply go_f1 h | apply go_rf1 h | apply go_rel h); (case hi => omega); (try case hx => exact inferInstance); (try case hv => rfl))
 | ((with_reducible apply go_fa h); omega; omega)
))
      exact dstands_end hc h hK
theorem dstands_spec (hc : d.fs.length ≤ 1073741824) (h : Sat w0 (DiskA v d :: RefD rv d :: L) w) (hK : ∀ w', Sat w0 (DiskA v d :: RefD rv d :: L) w' → K (.bool true) w') : callP G36 [v, rv, .string (bs n)] w K := by
  have ok := diskA_ok h
  obtain ⟨p, s0, rfl, _⟩ := refD_iff.1 h.f1
  refine c36 ?_
  unfold F36 F36_1 F36_1b
  refine dnames_spec hc h.drew fun a w h => ?_
  (repeat (first
 | (simp (disch := omega) only [evA, evB, evC, bAdd_i64, bSub_i64])
 | (with_reducible apply go_ld1 h)
 | ((with_reducible first | apply go_ldA h | apply go_rd h | apply go_rdN h | apply go_rlen h); rfl)
 | (with_reducible first | apply go_ldN h | apply go_lenL h)
 | ((with_reducible apply go_st h); intro _ h)
 | ((with_reducible apply go_stA h); rfl; rfl; (first | rfl | simp [OneV.o]); intro _ h)
 | ((with_reducible apply go_stN h); rfl; (first | rfl | simp [OneV.o]); intro _ h)
 | ((with_reducible apply go_box h); rfl; intro _ _ h)
 | ((with_reducible apply go_ix h); omega)
 | ((with_reducible first | apply go_elN h | apply go_f1 h | apply go_rf1 h | apply go_rel h); (case hi => omega); (try case hx => exact inferInstance); (try case hv => rfl))
 | ((with_reducible apply go_fa h); omega; omega)
))
  refine rfnames_spec (v := ptr p) hc (h.frt (A := RefD (ptr p) d)) fun b w h => ?_
  (repeat (first
 | (simp (disch := omega) only [evA, evB, evC, bAdd_i64, bSub_i64])
 | (with_reducible apply go_ld1 h)
 | ((with_reducible first | apply go_ldA h | apply go_rd h | apply go_rdN h | apply go_rlen h); rfl)
 | (with_reducible first | apply go_ldN h | apply go_lenL h)
 | ((with_reducible apply go_st h); intro _ h)
 | ((with_reducible apply go_stA h); rfl; rfl; (first | rfl | simp [OneV.o]); intro _ h)
 | ((with_reducible apply go_stN h); rfl; (first | rfl | simp [OneV.o]); intro _ h)
 | ((with_reducible apply go_box h); rfl; intro _ _ h)
 | ((with_reducible apply go_ix h); omega)
 | ((with_reducible first | apply go_elN h | apply go_f1 h | apply go_rf1 h | apply go_rel h); (case hi => omega); (try case hx => exact inferInstance); (try case hv => rfl))
 | ((with_reducible apply go_fa h); omega; omega)
))
  refine sameT_spec (l := d.fs.map fun f : Fil => f.name) (by simpa using hc) h fun w h => ?_
  (repeat (first
 | (simp (disch := omega) only [evA, evB, evC, bAdd_i64, bSub_i64])
 | (with_reducible apply go_ld1 h)
 | ((with_reducible first | apply go_ldA h | apply go_rd h | apply go_rdN h | apply go_rlen h); rfl)
 | (with_reducible first | apply go_ldN h | apply go_lenL h)
 | ((with_reducible apply go_st h); intro _ h)
 | ((with_reducible apply go_stA h); rfl; rfl; (first | rfl | simp [OneV.o]); intro _ h)
 | ((with_reducible apply go_stN h); rfl; (first | rfl | simp [OneV.o]); intro _ h)
 | ((with_reducible apply go_box h); rfl; intro _ _ h)
 | ((with_reducible apply go_ix h); omega)
 | ((with_reducible first | apply go_elN h | apply go_f1 h | apply go_rf1 h | apply go_rel h); (case hi => omega); (try case hx => exact inferInstance); (try case hv => rfl))
 | ((with_reducible apply go_fa h); omega; omega)
))
  refine used_spec hc (h.frt (A := DiskA v d)) fun w h => ?_
  (repeat (first
 | (simp (disch := omega) only [evA, evB, evC, bAdd_i64, bSub_i64])
 | (with_reducible apply go_ld1 h)
 | ((with_reducible first | apply go_ldA h | apply go_rd h | apply go_rdN h | apply go_rlen h); rfl)
 | (with_reducible first | apply go_ldN h | apply go_lenL h)
 | ((with_reducible apply go_st h); intro _ h)
 | ((with_reducible apply go_stA h); rfl; rfl; (first | rfl | simp [OneV.o]); intro _ h)
 | ((with_reducible apply go_stN h); rfl; (first | rfl | simp [OneV.o]); intro _ h)
 | ((with_reducible apply go_box h); rfl; intro _ _ h)
 | ((with_reducible apply go_ix h); omega)
 | ((with_reducible first | apply go_elN h | apply go_f1 h | apply go_rf1 h | apply go_rel h); (case hi => omega); (try case hx => exact inferInstance); (try case hv => rfl))
 | ((with_reducible apply go_fa h); omega; omega)
))
  refine rfused_spec (v := ptr p) ok hc (h.frt (A := RefD (ptr p) d)) ?_
  replace h := refD_iff.1 (h.frt (A := RefD (ptr p) d))
  obtain ⟨p', s, e', h⟩ := h
  cases e'
  have fin : F36_2 v (ptr p) (.string (bs n)) (.int .i64 ((0 : Nat) : Int)) w K := by
    unfold F36_2
    exact dstands_loop hc ok hK fuel 0 w (by unfold fuel; omega) (by omega) (h.got)
  have hst : ∀ {K' : Value → World → Prop}, K' (.bool (stoppedD d)) w → callP G13 [v] w K' := fun hk => stopped_spec (h.frt (A := DiskA v d)) hk
  cases hs : d.stop
  · have es : stoppedD d = false := by unfold stoppedD; rw [hs]; rfl
    rw [hs] at h
    (repeat (first
 | (simp (disch := omega) only [evA, evB, evC, bAdd_i64, bSub_i64])
 | (with_reducible apply go_ld1 h)
 | ((with_reducible first | apply go_ldA h | apply go_rd h | apply go_rdN h | apply go_rlen h); rfl)
 | (with_reducible first | apply go_ldN h | apply go_lenL h)
 | ((with_reducible apply go_st h); intro _ h)
 | ((with_reducible apply go_stA h); rfl; rfl; (first | rfl | simp [OneV.o]); intro _ h)
 | ((with_reducible apply go_stN h); rfl; (first | rfl | simp [OneV.o]); intro _ h)
 | ((with_reducible apply go_box h); rfl; intro _ _ h)
 | ((with_reducible apply go_ix h); omega)
 | ((with_reducible first | apply go_elN h | apply go_f1 h | apply go_rf1 h | apply go_rel h); (case hi => omega); (try case hx => exact inferInstance); (try case hv => rfl))
 | ((with_reducible apply go_fa h); omega; omega)
))
    refine hst ?_
    rw [es]
    (repeat (first
 | (simp (disch := omega) only [evA, evB, evC, bAdd_i64, bSub_i64, bNe_bd, beq_self_eq_true])
 | (with_reducible apply go_ld1 h)
 | ((with_reducible first | apply go_ldA h | apply go_rd h | apply go_rdN h | apply go_rlen h); rfl)
 | (with_reducible first | apply go_ldN h | apply go_lenL h)
 | ((with_reducible apply go_st h); intro _ h)
 | ((with_reducible apply go_stA h); rfl; rfl; (first | rfl | simp [OneV.o]); intro _ h)
 | ((with_reducible apply go_stN h); rfl; (first | rfl | simp [OneV.o]); intro _ h)
 | ((with_reducible apply go_box h); rfl; intro _ _ h)
 | ((with_reducible apply go_ix h); omega)
 | ((with_reducible first | apply go_elN h | apply go_f1 h | apply go_rf1 h | apply go_rel h); (case hi => omega); (try case hx => exact inferInstance); (try case hv => rfl))
 | ((with_reducible apply go_fa h); omega; omega)
))
    exact fin
  · have es : stoppedD d = decide (d.left = 0) := by unfold stoppedD; rw [hs]; rfl
    rw [hs] at h
    (repeat (first
 | (simp (disch := omega) only [evA, evB, evC, bAdd_i64, bSub_i64])
 | (with_reducible apply go_ld1 h)
 | ((with_reducible first | apply go_ldA h | apply go_rd h | apply go_rdN h | apply go_rlen h); rfl)
 | (with_reducible first | apply go_ldN h | apply go_lenL h)
 | ((with_reducible apply go_st h); intro _ h)
 | ((with_reducible apply go_stA h); rfl; rfl; (first | rfl | simp [OneV.o]); intro _ h)
 | ((with_reducible apply go_stN h); rfl; (first | rfl | simp [OneV.o]); intro _ h)
 | ((with_reducible apply go_box h); rfl; intro _ _ h)
 | ((with_reducible apply go_ix h); omega)
 | ((with_reducible first | apply go_elN h | apply go_f1 h | apply go_rf1 h | apply go_rel h); (case hi => omega); (try case hx => exact inferInstance); (try case hv => rfl))
 | ((with_reducible apply go_fa h); omega; omega)
))
    refine hst ?_
    rw [es]
    (repeat (first
 | (simp (disch := omega) only [evA, evB, evC, bAdd_i64, bSub_i64, bNe_bd, beq_self_eq_true])
 | (with_reducible apply go_ld1 h)
 | ((with_reducible first | apply go_ldA h | apply go_rd h | apply go_rdN h | apply go_rlen h); rfl)
 | (with_reducible first | apply go_ldN h | apply go_lenL h)
 | ((with_reducible apply go_st h); intro _ h)
 | ((with_reducible apply go_stA h); rfl; rfl; (first | rfl | simp [OneV.o]); intro _ h)
 | ((with_reducible apply go_stN h); rfl; (first | rfl | simp [OneV.o]); intro _ h)
 | ((with_reducible apply go_box h); rfl; intro _ _ h)
 | ((with_reducible apply go_ix h); omega)
 | ((with_reducible first | apply go_elN h | apply go_f1 h | apply go_rf1 h | apply go_rel h); (case hi => omega); (try case hx => exact inferInstance); (try case hv => rfl))
 | ((with_reducible apply go_fa h); omega; omega)
))
    exact fin
end
end Go.Proofs.Gong

/- Dl4 -/
namespace Go.Proofs.Gong
open Go Go.Sx Go.Proofs
set_option maxRecDepth 100000
structure DAct where
  kind : Int
  name : List UInt8
  to : List UInt8
  data : List UInt8
  n : Int
  ka : Option Addr
  kn : Nat
  kc : Nat
@[reducible] def kvA (a : DAct) : Value := .slice a.ka a.kn a.kc
@[reducible] def cDA (a : DAct) : List Value := [.int .i64 a.kind, .string (bs a.name), .string (bs a.to), .string (bs a.data), .int .i64 a.n, kvA a]
abbrev dactV (a : DAct) : Value := .agg (cDA a).toArray
theorem CDA : Cod cDA 6 := ⟨fun _ => rfl, fun _ => rfl, by omega⟩
instance : CodC cDA 6 := ⟨CDA⟩
theorem stopD_len {d : Dk} {k : Int} : (stopD k d).2.fs.length ≤ d.fs.length + 1 := by
  unfold stopD
  split
  · exact Nat.le_succ _
  · exact Nat.le_succ _
theorem crashD_len {d : Dk} {keep : List Int} : (crashD keep d).fs.length ≤ d.fs.length + 1 := by
  show (crF keep 0 d.fs).length ≤ _
  rw [crF_len]; omega
attribute [local irreducible] fBuild fLook fZero eqv bEqv Cl MapH LsH SlH ld1 ldN st callP eBox eAlloc lenM lenL eMapSet eDelete eAppend eBuildSl eRange eNext
section
variable {w0 w : World} {L : List HP} {K : Value → World → Prop} {v rv : Value} {d : Dk} {n x : List UInt8} {a : DAct} {kl : List Int}
theorem does_spec25 [hk : RdIn w0 L (kvA a) Int cI 1 kl] (hkl : kl.length ≤ 100) (hda : a.data.length ≤ 500) (hn : a.n ≤ 9223372036854775807) (hc : d.fs.length ≤ 1073741000) (h : Sat w0 (DiskA v d :: RefD rv d :: L) w)
    (hK : ∀ d' w', d'.fs.length ≤ d.fs.length + 1 → Sat w0 (DiskA v d' :: RefD rv d' :: L) w' → K (.bool true) w') : callP G35 [v, rv, dactV a] w K := by
  have ok := diskA_ok h
  have hc1 : d.fs.length ≤ 1073741824 := by omega
  obtain ⟨p, s0, rfl, _⟩ := refD_iff.1 h.f1
  refine c35 ?_
  unfold F35 F35_1 F35_1b
  (repeat (first
 | (simp (disch := omega) only [evA, evB, evC, bAdd_i64, bSub_i64])
 | (with_reducible apply go_ld1 h)
 | ((with_reducible first | apply go_ldA h | apply go_rd h | apply go_rdN h | apply go_rlen h); rfl)
 | (with_reducible first | apply go_ldN h | apply go_lenL h)
 | ((with_reducible apply go_st h); intro _ h)
 | ((with_reducible apply go_stA h); rfl; rfl; (first | rfl | simp [OneV.o]); intro _ h)
 | ((with_reducible apply go_stN h); rfl; (first | rfl | simp [OneV.o]); intro _ h)
 | ((with_reducible apply go_box h); rfl; intro _ _ h)
 | ((with_reducible apply go_ix h); omega)
 | ((with_reducible first | apply go_elN h | apply go_f1 h | apply go_rf1 h | apply go_rel h); (case hi => omega); (try case hx => exact inferInstance); (try case hv => rfl))
 | ((with_reducible apply go_fa h); omega; omega)
))
  rename_i pa _
  refine Below_spec (by decide) (by decide) fun r h1 h2 _ => ?_
  unfold F35_2 F35_3 F35_3b
  have hr : r = 0 ∨ r = 1 ∨ r = 2 ∨ r = 3 ∨ r = 4 ∨ r = 5 ∨ r = 6 ∨ r = 7 ∨ r = 8 ∨ r = 9 := by omega
  have happ : ∀ (r : Int) (w : World), Sat w0 (Cl pa (cDA a).toArray 70 :: DiskA v d :: RefD (ptr p) d :: L) w → F35_7 v (ptr p) (ptr pa) (.int .i64 r) (.bool true) w K := by
    intro r w h
    unfold F35_7 F35_7b
    (repeat (first
 | (simp (disch := omega) only [evA, evB, evC, bAdd_i64, bSub_i64])
 | (with_reducible apply go_ld1 h)
 | ((with_reducible first | apply go_ldA h | apply go_rd h | apply go_rdN h | apply go_rlen h); rfl)
 | (with_reducible first | apply go_ldN h | apply go_lenL h)
 | ((with_reducible apply go_st h); intro _ h)
 | ((with_reducible apply go_stA h); rfl; rfl; (first | rfl | simp [OneV.o]); intro _ h)
 | ((with_reducible apply go_stN h); rfl; (first | rfl | simp [OneV.o]); intro _ h)
 | ((with_reducible apply go_box h); rfl; intro _ _ h)
 | ((with_reducible apply go_ix h); omega)
 | ((with_reducible first | apply go_elN h | apply go_f1 h | apply go_rf1 h | apply go_rel h); (case hi => omega); (try case hx => exact inferInstance); (try case hv => rfl))
 | ((with_reducible apply go_fa h); omega; omega)
))
    refine app_spec (v := v) (d := d) (n := a.name) (x := a.data) hc1 (by omega) (h.drew.frt (A := DiskA v d)) fun w h => ?_
    (repeat (first
 | (simp (disch := omega) only [evA, evB, evC, bAdd_i64, bSub_i64])
 | (with_reducible apply go_ld1 h)
 | ((with_reducible first | apply go_ldA h | apply go_rd h | apply go_rdN h | apply go_rlen h); rfl)
 | (with_reducible first | apply go_ldN h | apply go_lenL h)
 | ((with_reducible apply go_st h); intro _ h)
 | ((with_reducible apply go_stA h); rfl; rfl; (first | rfl | simp [OneV.o]); intro _ h)
 | ((with_reducible apply go_stN h); rfl; (first | rfl | simp [OneV.o]); intro _ h)
 | ((with_reducible apply go_box h); rfl; intro _ _ h)
 | ((with_reducible apply go_ix h); omega)
 | ((with_reducible first | apply go_elN h | apply go_f1 h | apply go_rf1 h | apply go_rel h); (case hi => omega); (try case hx => exact inferInstance); (try case hv => rfl))
 | ((with_reducible apply go_fa h); omega; omega)
))
    refine rfapp_spec (v := ptr p) (d := d) (n := a.name) (x := a.data) ok hc1 (by omega) (h.frt (A := RefD (ptr p) d)) fun w h => ?_
    (repeat (first
 | (simp (disch := omega) only [evA, evB, evC, bAdd_i64, bSub_i64])
 | (with_reducible apply go_ld1 h)
 | ((with_reducible first | apply go_ldA h | apply go_rd h | apply go_rdN h | apply go_rlen h); rfl)
 | (with_reducible first | apply go_ldN h | apply go_lenL h)
 | ((with_reducible apply go_st h); intro _ h)
 | ((with_reducible apply go_stA h); rfl; rfl; (first | rfl | simp [OneV.o]); intro _ h)
 | ((with_reducible apply go_stN h); rfl; (first | rfl | simp [OneV.o]); intro _ h)
 | ((with_reducible apply go_box h); rfl; intro _ _ h)
 | ((with_reducible apply go_ix h); omega)
 | ((with_reducible first | apply go_elN h | apply go_f1 h | apply go_rf1 h | apply go_rel h); (case hi => omega); (try case hx => exact inferInstance); (try case hv => rfl))
 | ((with_reducible apply go_fa h); omega; omega)
))
    exact hK _ _ appD_len (h.got)
  rcases hr with rfl | rfl | rfl | rfl | rfl | rfl | rfl | rfl | rfl | rfl
  · (repeat (first
 | (simp (disch := omega) only [evA, evB, evC, bAdd_i64, bSub_i64, Int.reduceEq])
 | (with_reducible apply go_ld1 h)
 | ((with_reducible first | apply go_ldA h | apply go_rd h | apply go_rdN h | apply go_rlen h); rfl)
 | (with_reducible first | apply go_ldN h | apply go_lenL h)
 | ((with_reducible apply go_st h); intro _ h)
 | ((with_reducible apply go_stA h); rfl; rfl; (first | rfl | simp [OneV.o]); intro _ h)
 | ((with_reducible apply go_stN h); rfl; (first | rfl | simp [OneV.o]); intro _ h)
 | ((with_reducible apply go_box h); rfl; intro _ _ h)
 | ((with_reducible apply go_ix h); omega)
 | ((with_reducible first | apply go_elN h | apply go_f1 h | apply go_rf1 h | apply go_rel h); (case hi => omega); (try case hx => exact inferInstance); (try case hv => rfl))
 | ((with_reducible apply go_fa h); omega; omega)
))
    unfold F35_4
    (repeat (first
 | (simp (disch := omega) only [evA, evB, evC, bAdd_i64, bSub_i64])
 | (with_reducible apply go_ld1 h)
 | ((with_reducible first | apply go_ldA h | apply go_rd h | apply go_rdN h | apply go_rlen h); rfl)
 | (with_reducible first | apply go_ldN h | apply go_lenL h)
 | ((with_reducible apply go_st h); intro _ h)
 | ((with_reducible apply go_stA h); rfl; rfl; (first | rfl | simp [OneV.o]); intro _ h)
 | ((with_reducible apply go_stN h); rfl; (first | rfl | simp [OneV.o]); intro _ h)
 | ((with_reducible apply go_box h); rfl; intro _ _ h)
 | ((with_reducible apply go_ix h); omega)
 | ((with_reducible first | apply go_elN h | apply go_f1 h | apply go_rf1 h | apply go_rel h); (case hi => omega); (try case hx => exact inferInstance); (try case hv => rfl))
 | ((with_reducible apply go_fa h); omega; omega)
))
    unfold F35_5 F35_5b
    (repeat (first
 | (simp (disch := omega) only [evA, evB, evC, bAdd_i64, bSub_i64])
 | (with_reducible apply go_ld1 h)
 | ((with_reducible first | apply go_ldA h | apply go_rd h | apply go_rdN h | apply go_rlen h); rfl)
 | (with_reducible first | apply go_ldN h | apply go_lenL h)
 | ((with_reducible apply go_st h); intro _ h)
 | ((with_reducible apply go_stA h); rfl; rfl; (first | rfl | simp [OneV.o]); intro _ h)
 | ((with_reducible apply go_stN h); rfl; (first | rfl | simp [OneV.o]); intro _ h)
 | ((with_reducible apply go_box h); rfl; intro _ _ h)
 | ((with_reducible apply go_ix h); omega)
 | ((with_reducible first | apply go_elN h | apply go_f1 h | apply go_rf1 h | apply go_rel h); (case hi => omega); (try case hx => exact inferInstance); (try case hv => rfl))
 | ((with_reducible apply go_fa h); omega; omega)
))
    refine dmake_spec (v := v) (d := d) (n := a.name) (h.drew.frt (A := DiskA v d)) fun w h => ?_
    (repeat (first
 | (simp (disch := omega) only [evA, evB, evC, bAdd_i64, bSub_i64])
 | (with_reducible apply go_ld1 h)
 | ((with_reducible first | apply go_ldA h | apply go_rd h | apply go_rdN h | apply go_rlen h); rfl)
 | (with_reducible first | apply go_ldN h | apply go_lenL h)
 | ((with_reducible apply go_st h); intro _ h)
 | ((with_reducible apply go_stA h); rfl; rfl; (first | rfl | simp [OneV.o]); intro _ h)
 | ((with_reducible apply go_stN h); rfl; (first | rfl | simp [OneV.o]); intro _ h)
 | ((with_reducible apply go_box h); rfl; intro _ _ h)
 | ((with_reducible apply go_ix h); omega)
 | ((with_reducible first | apply go_elN h | apply go_f1 h | apply go_rf1 h | apply go_rel h); (case hi => omega); (try case hx => exact inferInstance); (try case hv => rfl))
 | ((with_reducible apply go_fa h); omega; omega)
))
    refine rfmake_spec (v := ptr p) (d := d) (n := a.name) ok hc1 (h.frt (A := RefD (ptr p) d)) fun w h => ?_
    (repeat (first
 | (simp (disch := omega) only [evA, evB, evC, bAdd_i64, bSub_i64])
 | (with_reducible apply go_ld1 h)
 | ((with_reducible first | apply go_ldA h | apply go_rd h | apply go_rdN h | apply go_rlen h); rfl)
 | (with_reducible first | apply go_ldN h | apply go_lenL h)
 | ((with_reducible apply go_st h); intro _ h)
 | ((with_reducible apply go_stA h); rfl; rfl; (first | rfl | simp [OneV.o]); intro _ h)
 | ((with_reducible apply go_stN h); rfl; (first | rfl | simp [OneV.o]); intro _ h)
 | ((with_reducible apply go_box h); rfl; intro _ _ h)
 | ((with_reducible apply go_ix h); omega)
 | ((with_reducible first | apply go_elN h | apply go_f1 h | apply go_rf1 h | apply go_rel h); (case hi => omega); (try case hx => exact inferInstance); (try case hv => rfl))
 | ((with_reducible apply go_fa h); omega; omega)
))
    exact hK _ _ makeD_len (h.got)
  · (repeat (first
 | (simp (disch := omega) only [evA, evB, evC, bAdd_i64, bSub_i64, Int.reduceEq])
 | (with_reducible apply go_ld1 h)
 | ((with_reducible first | apply go_ldA h | apply go_rd h | apply go_rdN h | apply go_rlen h); rfl)
 | (with_reducible first | apply go_ldN h | apply go_lenL h)
 | ((with_reducible apply go_st h); intro _ h)
 | ((with_reducible apply go_stA h); rfl; rfl; (first | rfl | simp [OneV.o]); intro _ h)
 | ((with_reducible apply go_stN h); rfl; (first | rfl | simp [OneV.o]); intro _ h)
 | ((with_reducible apply go_box h); rfl; intro _ _ h)
 | ((with_reducible apply go_ix h); omega)
 | ((with_reducible first | apply go_elN h | apply go_f1 h | apply go_rf1 h | apply go_rel h); (case hi => omega); (try case hx => exact inferInstance); (try case hv => rfl))
 | ((with_reducible apply go_fa h); omega; omega)
))
    unfold F35_4
    (repeat (first
 | (simp (disch := omega) only [evA, evB, evC, bAdd_i64, bSub_i64])
 | (with_reducible apply go_ld1 h)
 | ((with_reducible first | apply go_ldA h | apply go_rd h | apply go_rdN h | apply go_rlen h); rfl)
 | (with_reducible first | apply go_ldN h | apply go_lenL h)
 | ((with_reducible apply go_st h); intro _ h)
 | ((with_reducible apply go_stA h); rfl; rfl; (first | rfl | simp [OneV.o]); intro _ h)
 | ((with_reducible apply go_stN h); rfl; (first | rfl | simp [OneV.o]); intro _ h)
 | ((with_reducible apply go_box h); rfl; intro _ _ h)
 | ((with_reducible apply go_ix h); omega)
 | ((with_reducible first | apply go_elN h | apply go_f1 h | apply go_rf1 h | apply go_rel h); (case hi => omega); (try case hx => exact inferInstance); (try case hv => rfl))
 | ((with_reducible apply go_fa h); omega; omega)
))
    unfold F35_6 F35_6b
    (repeat (first
 | (simp (disch := omega) only [evA, evB, evC, bAdd_i64, bSub_i64, Int.reduceEq])
 | (with_reducible apply go_ld1 h)
 | ((with_reducible first | apply go_ldA h | apply go_rd h | apply go_rdN h | apply go_rlen h); rfl)
 | (with_reducible first | apply go_ldN h | apply go_lenL h)
 | ((with_reducible apply go_st h); intro _ h)
 | ((with_reducible apply go_stA h); rfl; rfl; (first | rfl | simp [OneV.o]); intro _ h)
 | ((with_reducible apply go_stN h); rfl; (first | rfl | simp [OneV.o]); intro _ h)
 | ((with_reducible apply go_box h); rfl; intro _ _ h)
 | ((with_reducible apply go_ix h); omega)
 | ((with_reducible first | apply go_elN h | apply go_f1 h | apply go_rf1 h | apply go_rel h); (case hi => omega); (try case hx => exact inferInstance); (try case hv => rfl))
 | ((with_reducible apply go_fa h); omega; omega)
))
    exact happ 1 _ (h.got)
  · (repeat (first
 | (simp (disch := omega) only [evA, evB, evC, bAdd_i64, bSub_i64, Int.reduceEq])
 | (with_reducible apply go_ld1 h)
 | ((with_reducible first | apply go_ldA h | apply go_rd h | apply go_rdN h | apply go_rlen h); rfl)
 | (with_reducible first | apply go_ldN h | apply go_lenL h)
 | ((with_reducible apply go_st h); intro _ h)
 | ((with_reducible apply go_stA h); rfl; rfl; (first | rfl | simp [OneV.o]); intro _ h)
 | ((with_reducible apply go_stN h); rfl; (first | rfl | simp [OneV.o]); intro _ h)
 | ((with_reducible apply go_box h); rfl; intro _ _ h)
 | ((with_reducible apply go_ix h); omega)
 | ((with_reducible first | apply go_elN h | apply go_f1 h | apply go_rf1 h | apply go_rel h); (case hi => omega); (try case hx => exact inferInstance); (try case hv => rfl))
 | ((with_reducible apply go_fa h); omega; omega)
))
    unfold F35_4
    (repeat (first
 | (simp (disch := omega) only [evA, evB, evC, bAdd_i64, bSub_i64])
 | (with_reducible apply go_ld1 h)
 | ((with_reducible first | apply go_ldA h | apply go_rd h | apply go_rdN h | apply go_rlen h); rfl)
 | (with_reducible first | apply go_ldN h | apply go_lenL h)
 | ((with_reducible apply go_st h); intro _ h)
 | ((with_reducible apply go_stA h); rfl; rfl; (first | rfl | simp [OneV.o]); intro _ h)
 | ((with_reducible apply go_stN h); rfl; (first | rfl | simp [OneV.o]); intro _ h)
 | ((with_reducible apply go_box h); rfl; intro _ _ h)
 | ((with_reducible apply go_ix h); omega)
 | ((with_reducible first | apply go_elN h | apply go_f1 h | apply go_rf1 h | apply go_rel h); (case hi => omega); (try case hx => exact inferInstance); (try case hv => rfl))
 | ((with_reducible apply go_fa h); omega; omega)
))
    unfold F35_6 F35_6b
    (repeat (first
 | (simp (disch := omega) only [evA, evB, evC, bAdd_i64, bSub_i64, Int.reduceEq])
 | (with_reducible apply go_ld1 h)
 | ((with_reducible first | apply go_ldA h | apply go_rd h | apply go_rdN h | apply go_rlen h); rfl)
 | (with_reducible first | apply go_ldN h | apply go_lenL h)
 | ((with_reducible apply go_st h); intro _ h)
 | ((with_reducible apply go_stA h); rfl; rfl; (first | rfl | simp [OneV.o]); intro _ h)
 | ((with_reducible apply go_stN h); rfl; (first | rfl | simp [OneV.o]); intro _ h)
 | ((with_reducible apply go_box h); rfl; intro _ _ h)
 | ((with_reducible apply go_ix h); omega)
 | ((with_reducible first | apply go_elN h | apply go_f1 h | apply go_rf1 h | apply go_rel h); (case hi => omega); (try case hx => exact inferInstance); (try case hv => rfl))
 | ((with_reducible apply go_fa h); omega; omega)
))
    exact happ 2 _ (h.got)
  · (repeat (first
 | (simp (disch := omega) only [evA, evB, evC, bAdd_i64, bSub_i64, Int.reduceEq])
 | (with_reducible apply go_ld1 h)
 | ((with_reducible first | apply go_ldA h | apply go_rd h | apply go_rdN h | apply go_rlen h); rfl)
 | (with_reducible first | apply go_ldN h | apply go_lenL h)
 | ((with_reducible apply go_st h); intro _ h)
 | ((with_reducible apply go_stA h); rfl; rfl; (first | rfl | simp [OneV.o]); intro _ h)
 | ((with_reducible apply go_stN h); rfl; (first | rfl | simp [OneV.o]); intro _ h)
 | ((with_reducible apply go_box h); rfl; intro _ _ h)
 | ((with_reducible apply go_ix h); omega)
 | ((with_reducible first | apply go_elN h | apply go_f1 h | apply go_rf1 h | apply go_rel h); (case hi => omega); (try case hx => exact inferInstance); (try case hv => rfl))
 | ((with_reducible apply go_fa h); omega; omega)
))
    unfold F35_4
    (repeat (first
 | (simp (disch := omega) only [evA, evB, evC, bAdd_i64, bSub_i64])
 | (with_reducible apply go_ld1 h)
 | ((with_reducible first | apply go_ldA h | apply go_rd h | apply go_rdN h | apply go_rlen h); rfl)
 | (with_reducible first | apply go_ldN h | apply go_lenL h)
 | ((with_reducible apply go_st h); intro _ h)
 | ((with_reducible apply go_stA h); rfl; rfl; (first | rfl | simp [OneV.o]); intro _ h)
 | ((with_reducible apply go_stN h); rfl; (first | rfl | simp [OneV.o]); intro _ h)
 | ((with_reducible apply go_box h); rfl; intro _ _ h)
 | ((with_reducible apply go_ix h); omega)
 | ((with_reducible first | apply go_elN h | apply go_f1 h | apply go_rf1 h | apply go_rel h); (case hi => omega); (try case hx => exact inferInstance); (try case hv => rfl))
 | ((with_reducible apply go_fa h); omega; omega)
))
    unfold F35_6 F35_6b
    (repeat (first
 | (simp (disch := omega) only [evA, evB, evC, bAdd_i64, bSub_i64, Int.reduceEq])
 | (with_reducible apply go_ld1 h)
 | ((with_reducible first | apply go_ldA h | apply go_rd h | apply go_rdN h | apply go_rlen h); rfl)
 | (with_reducible first | apply go_ldN h | apply go_lenL h)
 | ((with_reducible apply go_st h); intro _ h)
 | ((with_reducible apply go_stA h); rfl; rfl; (first | rfl | simp [OneV.o]); intro _ h)
 | ((with_reducible apply go_stN h); rfl; (first | rfl | simp [OneV.o]); intro _ h)
 | ((with_reducible apply go_box h); rfl; intro _ _ h)
 | ((with_reducible apply go_ix h); omega)
 | ((with_reducible first | apply go_elN h | apply go_f1 h | apply go_rf1 h | apply go_rel h); (case hi => omega); (try case hx => exact inferInstance); (try case hv => rfl))
 | ((with_reducible apply go_fa h); omega; omega)
))
    unfold F35_7 F35_7b
    (repeat (first
 | (simp (disch := omega) only [evA, evB, evC, bAdd_i64, bSub_i64, Int.reduceEq])
 | (with_reducible apply go_ld1 h)
 | ((with_reducible first | apply go_ldA h | apply go_rd h | apply go_rdN h | apply go_rlen h); rfl)
 | (with_reducible first | apply go_ldN h | apply go_lenL h)
 | ((with_reducible apply go_st h); intro _ h)
 | ((with_reducible apply go_stA h); rfl; rfl; (first | rfl | simp [OneV.o]); intro _ h)
 | ((with_reducible apply go_stN h); rfl; (first | rfl | simp [OneV.o]); intro _ h)
 | ((with_reducible apply go_box h); rfl; intro _ _ h)
 | ((with_reducible apply go_ix h); omega)
 | ((with_reducible first | apply go_elN h | apply go_f1 h | apply go_rf1 h | apply go_rel h); (case hi => omega); (try case hx => exact inferInstance); (try case hv => rfl))
 | ((with_reducible apply go_fa h); omega; omega)
))
    refine dsync_spec (v := v) (d := d) (n := a.name) (h.drew.frt (A := DiskA v d)) fun w h => ?_
    (repeat (first
 | (simp (disch := omega) only [evA, evB, evC, bAdd_i64, bSub_i64])
 | (with_reducible apply go_ld1 h)
 | ((with_reducible first | apply go_ldA h | apply go_rd h | apply go_rdN h | apply go_rlen h); rfl)
 | (with_reducible first | apply go_ldN h | apply go_lenL h)
 | ((with_reducible apply go_st h); intro _ h)
 | ((with_reducible apply go_stA h); rfl; rfl; (first | rfl | simp [OneV.o]); intro _ h)
 | ((with_reducible apply go_stN h); rfl; (first | rfl | simp [OneV.o]); intro _ h)
 | ((with_reducible apply go_box h); rfl; intro _ _ h)
 | ((with_reducible apply go_ix h); omega)
 | ((with_reducible first | apply go_elN h | apply go_f1 h | apply go_rf1 h | apply go_rel h); (case hi => omega); (try case hx => exact inferInstance); (try case hv => rfl))
 | ((with_reducible apply go_fa h); omega; omega)
))
    refine rfsync_spec (v := ptr p) (d := d) (n := a.name) ok hc1 (h.frt (A := RefD (ptr p) d)) fun w h => ?_
    (repeat (first
 | (simp (disch := omega) only [evA, evB, evC, bAdd_i64, bSub_i64])
 | (with_reducible apply go_ld1 h)
 | ((with_reducible first | apply go_ldA h | apply go_rd h | apply go_rdN h | apply go_rlen h); rfl)
 | (with_reducible first | apply go_ldN h | apply go_lenL h)
 | ((with_reducible apply go_st h); intro _ h)
 | ((with_reducible apply go_stA h); rfl; rfl; (first | rfl | simp [OneV.o]); intro _ h)
 | ((with_reducible apply go_stN h); rfl; (first | rfl | simp [OneV.o]); intro _ h)
 | ((with_reducible apply go_box h); rfl; intro _ _ h)
 | ((with_reducible apply go_ix h); omega)
 | ((with_reducible first | apply go_elN h | apply go_f1 h | apply go_rf1 h | apply go_rel h); (case hi => omega); (try case hx => exact inferInstance); (try case hv => rfl))
 | ((with_reducible apply go_fa h); omega; omega)
))
    exact hK _ _ syncD_len (h.got)
  · (repeat (first
 | (simp (disch := omega) only [evA, evB, evC, bAdd_i64, bSub_i64, Int.reduceEq])
 | (with_reducible apply go_ld1 h)
 | ((with_reducible first | apply go_ldA h | apply go_rd h | apply go_rdN h | apply go_rlen h); rfl)
 | (with_reducible first | apply go_ldN h | apply go_lenL h)
 | ((with_reducible apply go_st h); intro _ h)
 | ((with_reducible apply go_stA h); rfl; rfl; (first | rfl | simp [OneV.o]); intro _ h)
 | ((with_reducible apply go_stN h); rfl; (first | rfl | simp [OneV.o]); intro _ h)
 | ((with_reducible apply go_box h); rfl; intro _ _ h)
 | ((with_reducible apply go_ix h); omega)
 | ((with_reducible first | apply go_elN h | apply go_f1 h | apply go_rf1 h | apply go_rel h); (case hi => omega); (try case hx => exact inferInstance); (try case hv => rfl))
 | ((with_reducible apply go_fa h); omega; omega)
))
    unfold F35_4
    (repeat (first
 | (simp (disch := omega) only [evA, evB, evC, bAdd_i64, bSub_i64])
 | (with_reducible apply go_ld1 h)
 | ((with_reducible first | apply go_ldA h | apply go_rd h | apply go_rdN h | apply go_rlen h); rfl)
 | (with_reducible first | apply go_ldN h | apply go_lenL h)
 | ((with_reducible apply go_st h); intro _ h)
 | ((with_reducible apply go_stA h); rfl; rfl; (first | rfl | simp [OneV.o]); intro _ h)
 | ((with_reducible apply go_stN h); rfl; (first | rfl | simp [OneV.o]); intro _ h)
 | ((with_reducible apply go_box h); rfl; intro _ _ h)
 | ((with_reducible apply go_ix h); omega)
 | ((with_reducible first | apply go_elN h | apply go_f1 h | apply go_rf1 h | apply go_rel h); (case hi => omega); (try case hx => exact inferInstance); (try case hv => rfl))
 | ((with_reducible apply go_fa h); omega; omega)
))
    unfold F35_6 F35_6b
    (repeat (first
 | (simp (disch := omega) only [evA, evB, evC, bAdd_i64, bSub_i64, Int.reduceEq])
 | (with_reducible apply go_ld1 h)
 | ((with_reducible first | apply go_ldA h | apply go_rd h | apply go_rdN h | apply go_rlen h); rfl)
 | (with_reducible first | apply go_ldN h | apply go_lenL h)
 | ((with_reducible apply go_st h); intro _ h)
 | ((with_reducible apply go_stA h); rfl; rfl; (first | rfl | simp [OneV.o]); intro _ h)
 | ((with_reducible apply go_stN h); rfl; (first | rfl | simp [OneV.o]); intro _ h)
 | ((with_reducible apply go_box h); rfl; intro _ _ h)
 | ((with_reducible apply go_ix h); omega)
 | ((with_reducible first | apply go_elN h | apply go_f1 h | apply go_rf1 h | apply go_rel h); (case hi => omega); (try case hx => exact inferInstance); (try case hv => rfl))
 | ((with_reducible apply go_fa h); omega; omega)
))
    unfold F35_7 F35_7b
    (repeat (first
 | (simp (disch := omega) only [evA, evB, evC, bAdd_i64, bSub_i64, Int.reduceEq])
 | (with_reducible apply go_ld1 h)
 | ((with_reducible first | apply go_ldA h | apply go_rd h | apply go_rdN h | apply go_rlen h); rfl)
 | (with_reducible first | apply go_ldN h | apply go_lenL h)
 | ((with_reducible apply go_st h); intro _ h)
 | ((with_reducible apply go_stA h); rfl; rfl; (first | rfl | simp [OneV.o]); intro _ h)
 | ((with_reducible apply go_stN h); rfl; (first | rfl | simp [OneV.o]); intro _ h)
 | ((with_reducible apply go_box h); rfl; intro _ _ h)
 | ((with_reducible apply go_ix h); omega)
 | ((with_reducible first | apply go_elN h | apply go_f1 h | apply go_rf1 h | apply go_rel h); (case hi => omega); (try case hx => exact inferInstance); (try case hv => rfl))
 | ((with_reducible apply go_fa h); omega; omega)
))
    refine dren_spec (v := v) (d := d) (n := a.name) (b := a.to) (h.drew.frt (A := DiskA v d)) fun w h => ?_
    (repeat (first
 | (simp (disch := omega) only [evA, evB, evC, bAdd_i64, bSub_i64])
 | (with_reducible apply go_ld1 h)
 | ((with_reducible first | apply go_ldA h | apply go_rd h | apply go_rdN h | apply go_rlen h); rfl)
 | (with_reducible first | apply go_ldN h | apply go_lenL h)
 | ((with_reducible apply go_st h); intro _ h)
 | ((with_reducible apply go_stA h); rfl; rfl; (first | rfl | simp [OneV.o]); intro _ h)
 | ((with_reducible apply go_stN h); rfl; (first | rfl | simp [OneV.o]); intro _ h)
 | ((with_reducible apply go_box h); rfl; intro _ _ h)
 | ((with_reducible apply go_ix h); omega)
 | ((with_reducible first | apply go_elN h | apply go_f1 h | apply go_rf1 h | apply go_rel h); (case hi => omega); (try case hx => exact inferInstance); (try case hv => rfl))
 | ((with_reducible apply go_fa h); omega; omega)
))
    refine rfren_spec (v := ptr p) (d := d) (n := a.name) (b := a.to) ok hc1 (h.frt (A := RefD (ptr p) d)) fun w h => ?_
    (repeat (first
 | (simp (disch := omega) only [evA, evB, evC, bAdd_i64, bSub_i64])
 | (with_reducible apply go_ld1 h)
 | ((with_reducible first | apply go_ldA h | apply go_rd h | apply go_rdN h | apply go_rlen h); rfl)
 | (with_reducible first | apply go_ldN h | apply go_lenL h)
 | ((with_reducible apply go_st h); intro _ h)
 | ((with_reducible apply go_stA h); rfl; rfl; (first | rfl | simp [OneV.o]); intro _ h)
 | ((with_reducible apply go_stN h); rfl; (first | rfl | simp [OneV.o]); intro _ h)
 | ((with_reducible apply go_box h); rfl; intro _ _ h)
 | ((with_reducible apply go_ix h); omega)
 | ((with_reducible first | apply go_elN h | apply go_f1 h | apply go_rf1 h | apply go_rel h); (case hi => omega); (try case hx => exact inferInstance); (try case hv => rfl))
 | ((with_reducible apply go_fa h); omega; omega)
))
    exact hK _ _ renD_len (h.got)
  · (repeat (first
 | (simp (disch := omega) only [evA, evB, evC, bAdd_i64, bSub_i64, Int.reduceEq])
 | (with_reducible apply go_ld1 h)
 | ((with_reducible first | apply go_ldA h | apply go_rd h | apply go_rdN h | apply go_rlen h); rfl)
 | (with_reducible first | apply go_ldN h | apply go_lenL h)
 | ((with_reducible apply go_st h); intro _ h)
 | ((with_reducible apply go_stA h); rfl; rfl; (first | rfl | simp [OneV.o]); intro _ h)
 | ((with_reducible apply go_stN h); rfl; (first | rfl | simp [OneV.o]); intro _ h)
 | ((with_reducible apply go_box h); rfl; intro _ _ h)
 | ((with_reducible apply go_ix h); omega)
 | ((with_reducible first | apply go_elN h | apply go_f1 h | apply go_rf1 h | apply go_rel h); (case hi => omega); (try case hx => exact inferInstance); (try case hv => rfl))
 | ((with_reducible apply go_fa h); omega; omega)
))
    unfold F35_4
    (repeat (first
 | (simp (disch := omega) only [evA, evB, evC, bAdd_i64, bSub_i64])
 | (with_reducible apply go_ld1 h)
 | ((with_reducible first | apply go_ldA h | apply go_rd h | apply go_rdN h | apply go_rlen h); rfl)
 | (with_reducible first | apply go_ldN h | apply go_lenL h)
 | ((with_reducible apply go_st h); intro _ h)
 | ((with_reducible apply go_stA h); rfl; rfl; (first | rfl | simp [OneV.o]); intro _ h)
 | ((with_reducible apply go_stN h); rfl; (first | rfl | simp [OneV.o]); intro _ h)
 | ((with_reducible apply go_box h); rfl; intro _ _ h)
 | ((with_reducible apply go_ix h); omega)
 | ((with_reducible first | apply go_elN h | apply go_f1 h | apply go_rf1 h | apply go_rel h); (case hi => omega); (try case hx => exact inferInstance); (try case hv => rfl))
 | ((with_reducible apply go_fa h); omega; omega)
))
    unfold F35_6 F35_6b
    (repeat (first
 | (simp (disch := omega) only [evA, evB, evC, bAdd_i64, bSub_i64, Int.reduceEq])
 | (with_reducible apply go_ld1 h)
 | ((with_reducible first | apply go_ldA h | apply go_rd h | apply go_rdN h | apply go_rlen h); rfl)
 | (with_reducible first | apply go_ldN h | apply go_lenL h)
 | ((with_reducible apply go_st h); intro _ h)
 | ((with_reducible apply go_stA h); rfl; rfl; (first | rfl | simp [OneV.o]); intro _ h)
 | ((with_reducible apply go_stN h); rfl; (first | rfl | simp [OneV.o]); intro _ h)
 | ((with_reducible apply go_box h); rfl; intro _ _ h)
 | ((with_reducible apply go_ix h); omega)
 | ((with_reducible first | apply go_elN h | apply go_f1 h | apply go_rf1 h | apply go_rel h); (case hi => omega); (try case hx => exact inferInstance); (try case hv => rfl))
 | ((with_reducible apply go_fa h); omega; omega)
))
    unfold F35_7 F35_7b
    (repeat (first
 | (simp (disch := omega) only [evA, evB, evC, bAdd_i64, bSub_i64, Int.reduceEq])
 | (with_reducible apply go_ld1 h)
 | ((with_reducible first | apply go_ldA h | apply go_rd h | apply go_rdN h | apply go_rlen h); rfl)
 | (with_reducible first | apply go_ldN h | apply go_lenL h)
 | ((with_reducible apply go_st h); intro _ h)
 | ((with_reducible apply go_stA h); rfl; rfl; (first | rfl | simp [OneV.o]); intro _ h)
 | ((with_reducible apply go_stN h); rfl; (first | rfl | simp [OneV.o]); intro _ h)
 | ((with_reducible apply go_box h); rfl; intro _ _ h)
 | ((with_reducible apply go_ix h); omega)
 | ((with_reducible first | apply go_elN h | apply go_f1 h | apply go_rf1 h | apply go_rel h); (case hi => omega); (try case hx => exact inferInstance); (try case hv => rfl))
 | ((with_reducible apply go_fa h); omega; omega)
))
    refine dcut_spec (v := v) (d := d) (n := a.name) (k := a.n) (h.drew.frt (A := DiskA v d)) fun w h => ?_
    (repeat (first
 | (simp (disch := omega) only [evA, evB, evC, bAdd_i64, bSub_i64])
 | (with_reducible apply go_ld1 h)
 | ((with_reducible first | apply go_ldA h | apply go_rd h | apply go_rdN h | apply go_rlen h); rfl)
 | (with_reducible first | apply go_ldN h | apply go_lenL h)
 | ((with_reducible apply go_st h); intro _ h)
 | ((with_reducible apply go_stA h); rfl; rfl; (first | rfl | simp [OneV.o]); intro _ h)
 | ((with_reducible apply go_stN h); rfl; (first | rfl | simp [OneV.o]); intro _ h)
 | ((with_reducible apply go_box h); rfl; intro _ _ h)
 | ((with_reducible apply go_ix h); omega)
 | ((with_reducible first | apply go_elN h | apply go_f1 h | apply go_rf1 h | apply go_rel h); (case hi => omega); (try case hx => exact inferInstance); (try case hv => rfl))
 | ((with_reducible apply go_fa h); omega; omega)
))
    refine rfcut_spec (v := ptr p) (d := d) (n := a.name) (k := a.n) ok hc1 (h.frt (A := RefD (ptr p) d)) fun w h => ?_
    (repeat (first
 | (simp (disch := omega) only [evA, evB, evC, bAdd_i64, bSub_i64])
 | (with_reducible apply go_ld1 h)
 | ((with_reducible first | apply go_ldA h | apply go_rd h | apply go_rdN h | apply go_rlen h); rfl)
 | (with_reducible first | apply go_ldN h | apply go_lenL h)
 | ((with_reducible apply go_st h); intro _ h)
 | ((with_reducible apply go_stA h); rfl; rfl; (first | rfl | simp [OneV.o]); intro _ h)
 | ((with_reducible apply go_stN h); rfl; (first | rfl | simp [OneV.o]); intro _ h)
 | ((with_reducible apply go_box h); rfl; intro _ _ h)
 | ((with_reducible apply go_ix h); omega)
 | ((with_reducible first | apply go_elN h | apply go_f1 h | apply go_rf1 h | apply go_rel h); (case hi => omega); (try case hx => exact inferInstance); (try case hv => rfl))
 | ((with_reducible apply go_fa h); omega; omega)
))
    exact hK _ _ cutD_len (h.got)
  · (repeat (first
 | (simp (disch := omega) only [evA, evB, evC, bAdd_i64, bSub_i64, Int.reduceEq])
 | (with_reducible apply go_ld1 h)
 | ((with_reducible first | apply go_ldA h | apply go_rd h | apply go_rdN h | apply go_rlen h); rfl)
 | (with_reducible first | apply go_ldN h | apply go_lenL h)
 | ((with_reducible apply go_st h); intro _ h)
 | ((with_reducible apply go_stA h); rfl; rfl; (first | rfl | simp [OneV.o]); intro _ h)
 | ((with_reducible apply go_stN h); rfl; (first | rfl | simp [OneV.o]); intro _ h)
 | ((with_reducible apply go_box h); rfl; intro _ _ h)
 | ((with_reducible apply go_ix h); omega)
 | ((with_reducible first | apply go_elN h | apply go_f1 h | apply go_rf1 h | apply go_rel h); (case hi => omega); (try case hx => exact inferInstance); (try case hv => rfl))
 | ((with_reducible apply go_fa h); omega; omega)
))
    unfold F35_4
    (repeat (first
 | (simp (disch := omega) only [evA, evB, evC, bAdd_i64, bSub_i64])
 | (with_reducible apply go_ld1 h)
 | ((with_reducible first | apply go_ldA h | apply go_rd h | apply go_rdN h | apply go_rlen h); rfl)
 | (with_reducible first | apply go_ldN h | apply go_lenL h)
 | ((with_reducible apply go_st h); intro _ h)
 | ((with_reducible apply go_stA h); rfl; rfl; (first | rfl | simp [OneV.o]); intro _ h)
 | ((with_reducible apply go_stN h); rfl; (first | rfl | simp [OneV.o]); intro _ h)
 | ((with_reducible apply go_box h); rfl; intro _ _ h)
 | ((with_reducible apply go_ix h); omega)
 | ((with_reducible first | apply go_elN h | apply go_f1 h | apply go_rf1 h | apply go_rel h); (case hi => omega); (try case hx => exact inferInstance); (try case hv => rfl))
 | ((with_reducible apply go_fa h); omega; omega)
))
    unfold F35_6 F35_6b
    (repeat (first
 | (simp (disch := omega) only [evA, evB, evC, bAdd_i64, bSub_i64, Int.reduceEq])
 | (with_reducible apply go_ld1 h)
 | ((with_reducible first | apply go_ldA h | apply go_rd h | apply go_rdN h | apply go_rlen h); rfl)
 | (with_reducible first | apply go_ldN h | apply go_lenL h)
 | ((with_reducible apply go_st h); intro _ h)
 | ((with_reducible apply go_stA h); rfl; rfl; (first | rfl | simp [OneV.o]); intro _ h)
 | ((with_reducible apply go_stN h); rfl; (first | rfl | simp [OneV.o]); intro _ h)
 | ((with_reducible apply go_box h); rfl; intro _ _ h)
 | ((with_reducible apply go_ix h); omega)
 | ((with_reducible first | apply go_elN h | apply go_f1 h | apply go_rf1 h | apply go_rel h); (case hi => omega); (try case hx => exact inferInstance); (try case hv => rfl))
 | ((with_reducible apply go_fa h); omega; omega)
))
    unfold F35_7 F35_7b
    (repeat (first
 | (simp (disch := omega) only [evA, evB, evC, bAdd_i64, bSub_i64, Int.reduceEq])
 | (with_reducible apply go_ld1 h)
 | ((with_reducible first | apply go_ldA h | apply go_rd h | apply go_rdN h | apply go_rlen h); rfl)
 | (with_reducible first | apply go_ldN h | apply go_lenL h)
 | ((with_reducible apply go_st h); intro _ h)
 | ((with_reducible apply go_stA h); rfl; rfl; (first | rfl | simp [OneV.o]); intro _ h)
 | ((with_reducible apply go_stN h); rfl; (first | rfl | simp [OneV.o]); intro _ h)
 | ((with_reducible apply go_box h); rfl; intro _ _ h)
 | ((with_reducible apply go_ix h); omega)
 | ((with_reducible first | apply go_elN h | apply go_f1 h | apply go_rf1 h | apply go_rel h); (case hi => omega); (try case hx => exact inferInstance); (try case hv => rfl))
 | ((with_reducible apply go_fa h); omega; omega)
))
    refine drem_spec (v := v) (d := d) (n := a.name) (h.drew.frt (A := DiskA v d)) fun w h => ?_
    (repeat (first
 | (simp (disch := omega) only [evA, evB, evC, bAdd_i64, bSub_i64])
 | (with_reducible apply go_ld1 h)
 | ((with_reducible first | apply go_ldA h | apply go_rd h | apply go_rdN h | apply go_rlen h); rfl)
 | (with_reducible first | apply go_ldN h | apply go_lenL h)
 | ((with_reducible apply go_st h); intro _ h)
 | ((with_reducible apply go_stA h); rfl; rfl; (first | rfl | simp [OneV.o]); intro _ h)
 | ((with_reducible apply go_stN h); rfl; (first | rfl | simp [OneV.o]); intro _ h)
 | ((with_reducible apply go_box h); rfl; intro _ _ h)
 | ((with_reducible apply go_ix h); omega)
 | ((with_reducible first | apply go_elN h | apply go_f1 h | apply go_rf1 h | apply go_rel h); (case hi => omega); (try case hx => exact inferInstance); (try case hv => rfl))
 | ((with_reducible apply go_fa h); omega; omega)
))
    refine rfrem_spec (v := ptr p) (d := d) (n := a.name) ok hc1 (h.frt (A := RefD (ptr p) d)) fun w h => ?_
    (repeat (first
 | (simp (disch := omega) only [evA, evB, evC, bAdd_i64, bSub_i64])
 | (with_reducible apply go_ld1 h)
 | ((with_reducible first | apply go_ldA h | apply go_rd h | apply go_rdN h | apply go_rlen h); rfl)
 | (with_reducible first | apply go_ldN h | apply go_lenL h)
 | ((with_reducible apply go_st h); intro _ h)
 | ((with_reducible apply go_stA h); rfl; rfl; (first | rfl | simp [OneV.o]); intro _ h)
 | ((with_reducible apply go_stN h); rfl; (first | rfl | simp [OneV.o]); intro _ h)
 | ((with_reducible apply go_box h); rfl; intro _ _ h)
 | ((with_reducible apply go_ix h); omega)
 | ((with_reducible first | apply go_elN h | apply go_f1 h | apply go_rf1 h | apply go_rel h); (case hi => omega); (try case hx => exact inferInstance); (try case hv => rfl))
 | ((with_reducible apply go_fa h); omega; omega)
))
    exact hK _ _ remD_len (h.got)
  · (repeat (first
 | (simp (disch := omega) only [evA, evB, evC, bAdd_i64, bSub_i64, Int.reduceEq])
 | (with_reducible apply go_ld1 h)
 | ((with_reducible first | apply go_ldA h | apply go_rd h | apply go_rdN h | apply go_rlen h); rfl)
 | (with_reducible first | apply go_ldN h | apply go_lenL h)
 | ((with_reducible apply go_st h); intro _ h)
 | ((with_reducible apply go_stA h); rfl; rfl; (first | rfl | simp [OneV.o]); intro _ h)
 | ((with_reducible apply go_stN h); rfl; (first | rfl | simp [OneV.o]); intro _ h)
 | ((with_reducible apply go_box h); rfl; intro _ _ h)
 | ((with_reducible apply go_ix h); omega)
 | ((with_reducible first | apply go_elN h | apply go_f1 h | apply go_rf1 h | apply go_rel h); (case hi => omega); (try case hx => exact inferInstance); (try case hv => rfl))
 | ((with_reducible apply go_fa h); omega; omega)
))
    unfold F35_4
    (repeat (first
 | (simp (disch := omega) only [evA, evB, evC, bAdd_i64, bSub_i64])
 | (with_reducible apply go_ld1 h)
 | ((with_reducible first | apply go_ldA h | apply go_rd h | apply go_rdN h | apply go_rlen h); rfl)
 | (with_reducible first | apply go_ldN h | apply go_lenL h)
 | ((with_reducible apply go_st h); intro _ h)
 | ((with_reducible apply go_stA h); rfl; rfl; (first | rfl | simp [OneV.o]); intro _ h)
 | ((with_reducible apply go_stN h); rfl; (first | rfl | simp [OneV.o]); intro _ h)
 | ((with_reducible apply go_box h); rfl; intro _ _ h)
 | ((with_reducible apply go_ix h); omega)
 | ((with_reducible first | apply go_elN h | apply go_f1 h | apply go_rf1 h | apply go_rel h); (case hi => omega); (try case hx => exact inferInstance); (try case hv => rfl))
 | ((with_reducible apply go_fa h); omega; omega)
))
    unfold F35_6 F35_6b
    (repeat (first
 | (simp (disch := omega) only [evA, evB, evC, bAdd_i64, bSub_i64, Int.reduceEq])
 | (with_reducible apply go_ld1 h)
 | ((with_reducible first | apply go_ldA h | apply go_rd h | apply go_rdN h | apply go_rlen h); rfl)
 | (with_reducible first | apply go_ldN h | apply go_lenL h)
 | ((with_reducible apply go_st h); intro _ h)
 | ((with_reducible apply go_stA h); rfl; rfl; (first | rfl | simp [OneV.o]); intro _ h)
 | ((with_reducible apply go_stN h); rfl; (first | rfl | simp [OneV.o]); intro _ h)
 | ((with_reducible apply go_box h); rfl; intro _ _ h)
 | ((with_reducible apply go_ix h); omega)
 | ((with_reducible first | apply go_elN h | apply go_f1 h | apply go_rf1 h | apply go_rel h); (case hi => omega); (try case hx => exact inferInstance); (try case hv => rfl))
 | ((with_reducible apply go_fa h); omega; omega)
))
    unfold F35_7 F35_7b
    (repeat (first
 | (simp (disch := omega) only [evA, evB, evC, bAdd_i64, bSub_i64, Int.reduceEq])
 | (with_reducible apply go_ld1 h)
 | ((with_reducible first | apply go_ldA h | apply go_rd h | apply go_rdN h | apply go_rlen h); rfl)
 | (with_reducible first | apply go_ldN h | apply go_lenL h)
 | ((with_reducible apply go_st h); intro _ h)
 | ((with_reducible apply go_stA h); rfl; rfl; (first | rfl | simp [OneV.o]); intro _ h)
 | ((with_reducible apply go_stN h); rfl; (first | rfl | simp [OneV.o]); intro _ h)
 | ((with_reducible apply go_box h); rfl; intro _ _ h)
 | ((with_reducible apply go_ix h); omega)
 | ((with_reducible first | apply go_elN h | apply go_f1 h | apply go_rf1 h | apply go_rel h); (case hi => omega); (try case hx => exact inferInstance); (try case hv => rfl))
 | ((with_reducible apply go_fa h); omega; omega)
))
    refine go_lit0 CI h u22 (by kernel_rfl) fun s2 w h => ?_
    (repeat (first
 | (simp (disch := omega) only [evA, evB, evC, bAdd_i64, bSub_i64])
 | (with_reducible apply go_ld1 h)
 | ((with_reducible first | apply go_ldA h | apply go_rd h | apply go_rdN h | apply go_rlen h); rfl)
 | (with_reducible first | apply go_ldN h | apply go_lenL h)
 | ((with_reducible apply go_st h); intro _ h)
 | ((with_reducible apply go_stA h); rfl; rfl; (first | rfl | simp [OneV.o]); intro _ h)
 | ((with_reducible apply go_stN h); rfl; (first | rfl | simp [OneV.o]); intro _ h)
 | ((with_reducible apply go_box h); rfl; intro _ _ h)
 | ((with_reducible apply go_ix h); omega)
 | ((with_reducible first | apply go_elN h | apply go_f1 h | apply go_rf1 h | apply go_rel h); (case hi => omega); (try case hx => exact inferInstance); (try case hv => rfl))
 | ((with_reducible apply go_fa h); omega; omega)
))
    refine go_appR (l := []) (m := kl) (C := ⟨CI⟩) h sl22 ss22 (by repeat (first | exact .here | apply Fnt.there)) (by simp; omega) fun s3 w _ h => ?_
    rw [List.nil_append] at h
    (repeat (first
 | (simp (disch := omega) only [evA, evB, evC, bAdd_i64, bSub_i64])
 | (with_reducible apply go_ld1 h)
 | ((with_reducible first | apply go_ldA h | apply go_rd h | apply go_rdN h | apply go_rlen h); rfl)
 | (with_reducible first | apply go_ldN h | apply go_lenL h)
 | ((with_reducible apply go_st h); intro _ h)
 | ((with_reducible apply go_stA h); rfl; rfl; (first | rfl | simp [OneV.o]); intro _ h)
 | ((with_reducible apply go_stN h); rfl; (first | rfl | simp [OneV.o]); intro _ h)
 | ((with_reducible apply go_box h); rfl; intro _ _ h)
 | ((with_reducible apply go_ix h); omega)
 | ((with_reducible first | apply go_elN h | apply go_f1 h | apply go_rf1 h | apply go_rel h); (case hi => omega); (try case hx => exact inferInstance); (try case hv => rfl))
 | ((with_reducible apply go_fa h); omega; omega)
))
    refine dcrash_spec (v := v) (d := d) (keep := kl) hc1 (h.frt (A := DiskA v d)) fun w h => ?_
    (repeat (first
 | (simp (disch := omega) only [evA, evB, evC, bAdd_i64, bSub_i64])
 | (with_reducible apply go_ld1 h)
 | ((with_reducible first | apply go_ldA h | apply go_rd h | apply go_rdN h | apply go_rlen h); rfl)
 | (with_reducible first | apply go_ldN h | apply go_lenL h)
 | ((with_reducible apply go_st h); intro _ h)
 | ((with_reducible apply go_stA h); rfl; rfl; (first | rfl | simp [OneV.o]); intro _ h)
 | ((with_reducible apply go_stN h); rfl; (first | rfl | simp [OneV.o]); intro _ h)
 | ((with_reducible apply go_box h); rfl; intro _ _ h)
 | ((with_reducible apply go_ix h); omega)
 | ((with_reducible first | apply go_elN h | apply go_f1 h | apply go_rf1 h | apply go_rel h); (case hi => omega); (try case hx => exact inferInstance); (try case hv => rfl))
 | ((with_reducible apply go_fa h); omega; omega)
))
    refine rfcrash_spec (v := ptr p) (d := d) (keep := kl) ok hc1 (h.frt (A := RefD (ptr p) d)) fun w h => ?_
    (repeat (first
 | (simp (disch := omega) only [evA, evB, evC, bAdd_i64, bSub_i64])
 | (with_reducible apply go_ld1 h)
 | ((with_reducible first | apply go_ldA h | apply go_rd h | apply go_rdN h | apply go_rlen h); rfl)
 | (with_reducible first | apply go_ldN h | apply go_lenL h)
 | ((with_reducible apply go_st h); intro _ h)
 | ((with_reducible apply go_stA h); rfl; rfl; (first | rfl | simp [OneV.o]); intro _ h)
 | ((with_reducible apply go_stN h); rfl; (first | rfl | simp [OneV.o]); intro _ h)
 | ((with_reducible apply go_box h); rfl; intro _ _ h)
 | ((with_reducible apply go_ix h); omega)
 | ((with_reducible first | apply go_elN h | apply go_f1 h | apply go_rf1 h | apply go_rel h); (case hi => omega); (try case hx => exact inferInstance); (try case hv => rfl))
 | ((with_reducible apply go_fa h); omega; omega)
))
    refine sameI_spec (l := kl) (by omega) h fun w h => ?_
    exact hK _ _ crashD_len (h.got)
  · (repeat (first
 | (simp (disch := omega) only [evA, evB, evC, bAdd_i64, bSub_i64, Int.reduceEq])
 | (with_reducible apply go_ld1 h)
 | ((with_reducible first | apply go_ldA h | apply go_rd h | apply go_rdN h | apply go_rlen h); rfl)
 | (with_reducible first | apply go_ldN h | apply go_lenL h)
 | ((with_reducible apply go_st h); intro _ h)
 | ((with_reducible apply go_stA h); rfl; rfl; (first | rfl | simp [OneV.o]); intro _ h)
 | ((with_reducible apply go_stN h); rfl; (first | rfl | simp [OneV.o]); intro _ h)
 | ((with_reducible apply go_box h); rfl; intro _ _ h)
 | ((with_reducible apply go_ix h); omega)
 | ((with_reducible first | apply go_elN h | apply go_f1 h | apply go_rf1 h | apply go_rel h); (case hi => omega); (try case hx => exact inferInstance); (try case hv => rfl))
 | ((with_reducible apply go_fa h); omega; omega)
))
    unfold F35_4
    (repeat (first
 | (simp (disch := omega) only [evA, evB, evC, bAdd_i64, bSub_i64])
 | (with_reducible apply go_ld1 h)
 | ((with_reducible first | apply go_ldA h | apply go_rd h | apply go_rdN h | apply go_rlen h); rfl)
 | (with_reducible first | apply go_ldN h | apply go_lenL h)
 | ((with_reducible apply go_st h); intro _ h)
 | ((with_reducible apply go_stA h); rfl; rfl; (first | rfl | simp [OneV.o]); intro _ h)
 | ((with_reducible apply go_stN h); rfl; (first | rfl | simp [OneV.o]); intro _ h)
 | ((with_reducible apply go_box h); rfl; intro _ _ h)
 | ((with_reducible apply go_ix h); omega)
 | ((with_reducible first | apply go_elN h | apply go_f1 h | apply go_rf1 h | apply go_rel h); (case hi => omega); (try case hx => exact inferInstance); (try case hv => rfl))
 | ((with_reducible apply go_fa h); omega; omega)
))
    unfold F35_6 F35_6b
    (repeat (first
 | (simp (disch := omega) only [evA, evB, evC, bAdd_i64, bSub_i64, Int.reduceEq])
 | (with_reducible apply go_ld1 h)
 | ((with_reducible first | apply go_ldA h | apply go_rd h | apply go_rdN h | apply go_rlen h); rfl)
 | (with_reducible first | apply go_ldN h | apply go_lenL h)
 | ((with_reducible apply go_st h); intro _ h)
 | ((with_reducible apply go_stA h); rfl; rfl; (first | rfl | simp [OneV.o]); intro _ h)
 | ((with_reducible apply go_stN h); rfl; (first | rfl | simp [OneV.o]); intro _ h)
 | ((with_reducible apply go_box h); rfl; intro _ _ h)
 | ((with_reducible apply go_ix h); omega)
 | ((with_reducible first | apply go_elN h | apply go_f1 h | apply go_rf1 h | apply go_rel h); (case hi => omega); (try case hx => exact inferInstance); (try case hv => rfl))
 | ((with_reducible apply go_fa h); omega; omega)
))
    unfold F35_7 F35_7b
    (repeat (first
 | (simp (disch := omega) only [evA, evB, evC, bAdd_i64, bSub_i64, Int.reduceEq])
 | (with_reducible apply go_ld1 h)
 | ((with_reducible first | apply go_ldA h | apply go_rd h | apply go_rdN h | apply go_rlen h); rfl)
 | (with_reducible first | apply go_ldN h | apply go_lenL h)
 | ((with_reducible apply go_st h); intro _ h)
 | ((with_reducible apply go_stA h); rfl; rfl; (first | rfl | simp [OneV.o]); intro _ h)
 | ((with_reducible apply go_stN h); rfl; (first | rfl | simp [OneV.o]); intro _ h)
 | ((with_reducible apply go_box h); rfl; intro _ _ h)
 | ((with_reducible apply go_ix h); omega)
 | ((with_reducible first | apply go_elN h | apply go_f1 h | apply go_rf1 h | apply go_rel h); (case hi => omega); (try case hx => exact inferInstance); (try case hv => rfl))
 | ((with_reducible apply go_fa h); omega; omega)
))
    refine dstop_spec (v := v) (d := d) (k := a.n) hn (h.drew.frt (A := DiskA v d)) fun w h => ?_
    (repeat (first
 | (simp (disch := omega) only [evA, evB, evC, bAdd_i64, bSub_i64])
 | (with_reducible apply go_ld1 h)
 | ((with_reducible first | apply go_ldA h | apply go_rd h | apply go_rdN h | apply go_rlen h); rfl)
 | (with_reducible first | apply go_ldN h | apply go_lenL h)
 | ((with_reducible apply go_st h); intro _ h)
 | ((with_reducible apply go_stA h); rfl; rfl; (first | rfl | simp [OneV.o]); intro _ h)
 | ((with_reducible apply go_stN h); rfl; (first | rfl | simp [OneV.o]); intro _ h)
 | ((with_reducible apply go_box h); rfl; intro _ _ h)
 | ((with_reducible apply go_ix h); omega)
 | ((with_reducible first | apply go_elN h | apply go_f1 h | apply go_rf1 h | apply go_rel h); (case hi => omega); (try case hx => exact inferInstance); (try case hv => rfl))
 | ((with_reducible apply go_fa h); omega; omega)
))
    refine rfstop_spec (v := ptr p) (d := d) (k := a.n) (h.frt (A := RefD (ptr p) d)) fun w h => ?_
    (repeat (first
 | (simp (disch := omega) only [evA, evB, evC, bAdd_i64, bSub_i64])
 | (with_reducible apply go_ld1 h)
 | ((with_reducible first | apply go_ldA h | apply go_rd h | apply go_rdN h | apply go_rlen h); rfl)
 | (with_reducible first | apply go_ldN h | apply go_lenL h)
 | ((with_reducible apply go_st h); intro _ h)
 | ((with_reducible apply go_stA h); rfl; rfl; (first | rfl | simp [OneV.o]); intro _ h)
 | ((with_reducible apply go_stN h); rfl; (first | rfl | simp [OneV.o]); intro _ h)
 | ((with_reducible apply go_box h); rfl; intro _ _ h)
 | ((with_reducible apply go_ix h); omega)
 | ((with_reducible first | apply go_elN h | apply go_f1 h | apply go_rf1 h | apply go_rel h); (case hi => omega); (try case hx => exact inferInstance); (try case hv => rfl))
 | ((with_reducible apply go_fa h); omega; omega)
))
    exact hK _ _ stopD_len (h.got)
  · (repeat (first
 | (simp (disch := omega) only [evA, evB, evC, bAdd_i64, bSub_i64, Int.reduceEq])
 | (with_reducible apply go_ld1 h)
 | ((with_reducible first | apply go_ldA h | apply go_rd h | apply go_rdN h | apply go_rlen h); rfl)
 | (with_reducible first | apply go_ldN h | apply go_lenL h)
 | ((with_reducible apply go_st h); intro _ h)
 | ((with_reducible apply go_stA h); rfl; rfl; (first | rfl | simp [OneV.o]); intro _ h)
 | ((with_reducible apply go_stN h); rfl; (first | rfl | simp [OneV.o]); intro _ h)
 | ((with_reducible apply go_box h); rfl; intro _ _ h)
 | ((with_reducible apply go_ix h); omega)
 | ((with_reducible first | apply go_elN h | apply go_f1 h | apply go_rf1 h | apply go_rel h); (case hi => omega); (try case hx => exact inferInstance); (try case hv => rfl))
 | ((with_reducible apply go_fa h); omega; omega)
))
    unfold F35_4
    (repeat (first
 | (simp (disch := omega) only [evA, evB, evC, bAdd_i64, bSub_i64])
 | (with_reducible apply go_ld1 h)
 | ((with_reducible first | apply go_ldA h | apply go_rd h | apply go_rdN h | apply go_rlen h); rfl)
 | (with_reducible first | apply go_ldN h | apply go_lenL h)
 | ((with_reducible apply go_st h); intro _ h)
 | ((with_reducible apply go_stA h); rfl; rfl; (first | rfl | simp [OneV.o]); intro _ h)
 | ((with_reducible apply go_stN h); rfl; (first | rfl | simp [OneV.o]); intro _ h)
 | ((with_reducible apply go_box h); rfl; intro _ _ h)
 | ((with_reducible apply go_ix h); omega)
 | ((with_reducible first | apply go_elN h | apply go_f1 h | apply go_rf1 h | apply go_rel h); (case hi => omega); (try case hx => exact inferInstance); (try case hv => rfl))
 | ((with_reducible apply go_fa h); omega; omega)
))
    unfold F35_6 F35_6b
    (repeat (first
 | (simp (disch := omega) only [evA, evB, evC, bAdd_i64, bSub_i64, Int.reduceEq])
 | (with_reducible apply go_ld1 h)
 | ((with_reducible first | apply go_ldA h | apply go_rd h | apply go_rdN h | apply go_rlen h); rfl)
 | (with_reducible first | apply go_ldN h | apply go_lenL h)
 | ((with_reducible apply go_st h); intro _ h)
 | ((with_reducible apply go_stA h); rfl; rfl; (first | rfl | simp [OneV.o]); intro _ h)
 | ((with_reducible apply go_stN h); rfl; (first | rfl | simp [OneV.o]); intro _ h)
 | ((with_reducible apply go_box h); rfl; intro _ _ h)
 | ((with_reducible apply go_ix h); omega)
 | ((with_reducible first | apply go_elN h | apply go_f1 h | apply go_rf1 h | apply go_rel h); (case hi => omega); (try case hx => exact inferInstance); (try case hv => rfl))
 | ((with_reducible apply go_fa h); omega; omega)
))
    unfold F35_7 F35_7b
    (repeat (first
 | (simp (disch := omega) only [evA, evB, evC, bAdd_i64, bSub_i64, Int.reduceEq])
 | (with_reducible apply go_ld1 h)
 | ((with_reducible first | apply go_ldA h | apply go_rd h | apply go_rdN h | apply go_rlen h); rfl)
 | (with_reducible first | apply go_ldN h | apply go_lenL h)
 | ((with_reducible apply go_st h); intro _ h)
 | ((with_reducible apply go_stA h); rfl; rfl; (first | rfl | simp [OneV.o]); intro _ h)
 | ((with_reducible apply go_stN h); rfl; (first | rfl | simp [OneV.o]); intro _ h)
 | ((with_reducible apply go_box h); rfl; intro _ _ h)
 | ((with_reducible apply go_ix h); omega)
 | ((with_reducible first | apply go_elN h | apply go_f1 h | apply go_rf1 h | apply go_rel h); (case hi => omega); (try case hx => exact inferInstance); (try case hv => rfl))
 | ((with_reducible apply go_fa h); omega; omega)
))
    refine dfork_spec (v := v) (d := d) (h.frt (A := DiskA v d)) fun q w h => ?_
    (repeat (first
 | (simp (disch := omega) only [evA, evB, evC, bAdd_i64, bSub_i64])
 | (refine go_some (bEq_nilp up23   ..) ?_)
 | (with_reducible apply go_ld1 h)
 | ((with_reducible first | apply go_ldA h | apply go_rd h | apply go_rdN h | apply go_rlen h); rfl)
 | (with_reducible first | apply go_ldN h | apply go_lenL h)
 | ((with_reducible apply go_st h); intro _ h)
 | ((with_reducible apply go_stA h); rfl; rfl; (first | rfl | simp [OneV.o]); intro _ h)
 | ((with_reducible apply go_stN h); rfl; (first | rfl | simp [OneV.o]); intro _ h)
 | ((with_reducible apply go_box h); rfl; intro _ _ h)
 | ((with_reducible apply go_ix h); omega)
 | ((with_reducible first | apply go_elN h | apply go_f1 h | apply go_rf1 h | apply go_rel h); (case hi => omega); (try case hx => exact inferInstance); (try case hv => rfl))
 | ((with_reducible apply go_fa h); omega; omega)
))
    refine dstands_spec (v := ptr q) (rv := ptr p) (d := d) (n := a.name) hc1 (L := DiskA v d :: Cl pa (cDA a).toArray 70 :: L) (h.got) fun w h => ?_
    (repeat (first
 | (simp (disch := omega) only [evA, evB, evC, bAdd_i64, bSub_i64])
 | (with_reducible apply go_ld1 h)
 | ((with_reducible first | apply go_ldA h | apply go_rd h | apply go_rdN h | apply go_rlen h); rfl)
 | (with_reducible first | apply go_ldN h | apply go_lenL h)
 | ((with_reducible apply go_st h); intro _ h)
 | ((with_reducible apply go_stA h); rfl; rfl; (first | rfl | simp [OneV.o]); intro _ h)
 | ((with_reducible apply go_stN h); rfl; (first | rfl | simp [OneV.o]); intro _ h)
 | ((with_reducible apply go_box h); rfl; intro _ _ h)
 | ((with_reducible apply go_ix h); omega)
 | ((with_reducible first | apply go_elN h | apply go_f1 h | apply go_rf1 h | apply go_rel h); (case hi => omega); (try case hx => exact inferInstance); (try case hv => rfl))
 | ((with_reducible apply go_fa h); omega; omega)
))
    refine app_spec (v := ptr q) (d := d) (n := a.name) (x := [111, 116, 104, 101, 114]) hc1 (by simp) h fun w h => ?_
    have e1 := appD_len (d := d) (n := a.name) (x := [111, 116, 104, 101, 114])
    have h := Sat.nilLs cI 1 3 h
    refine dcrash_spec (v := ptr q) (keep := []) (by omega) (h.frt (A := DiskA (ptr q) (appD a.name [111, 116, 104, 101, 114] d).2)) fun w h => ?_
    refine dmake_spec (v := ptr q) (n := [111, 116, 104, 101, 114]) h fun w h => ?_
    exact hK d _ (by omega) (h.got)
end
end Go.Proofs.Gong
