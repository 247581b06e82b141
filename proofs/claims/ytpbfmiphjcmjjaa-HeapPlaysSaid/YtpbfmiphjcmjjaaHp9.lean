/- A part of the proofs: what stands below it, told in lemmas. No condition. -/
import Derived.Test.YtpbfmiphjcmjjaaHp7
import Derived.Test.YtpbfmiphjcmjjaaBk0
set_option linter.all false
namespace Go.Proofs.Gong
open Go Go.Sx Go.Proofs
set_option maxRecDepth 100000
attribute [local irreducible] fBuild fLook fZero eqv bEqv Cl MapH LsH SlH ld1 ldN st callP eBox eAlloc lenM lenL eMapSet eDelete eAppend eBuildSl eRange eNext
section
variable {w0 w : World} {L : List HP} {K : Value → World → Prop} {v : Value} {n : Int} {M : List It}
theorem order_calls (W : World) (x y : It) : callP G81 [.agg (cIt x).toArray, .agg (cIt y).toArray] W fun v w' => v = .int .i64 (ordV x y) ∧ Gr W w' := by
  refine c81 ?_
  unfold F81
  refine eBox_ex (Sat.start W) (Gr.refl W) fun p w1 h1 g1 => ?_
  refine eBox_ex h1 g1 fun q w2 h2 g2 => ?_
  have hp := h2.f1.cl
  have hq := h2.cl
  simp only [cIt, cells_agg] at hp hq
  simp [ptr, cell_of hp, cell_of hq]
  refine cmp_spec ?_
  refine ⟨by simp [cell_of hp, cell_of hq], ?_⟩
  refine cmp_spec ?_
  generalize ha : (if x.2 < y.2 then (-1 : Int) else if y.2 < x.2 then 1 else 0) = a
  generalize hb : (if x.1 < y.1 then (-1 : Int) else if y.1 < x.1 then 1 else 0) = b
  have e : (([a, b] : List Int).find? (fun c => decide (c ≠ 0))).getD 0 = ordV x y := by
    rw [← ha, ← hb]; exact ord_find x y
  refine eBuildSl_ex (f := cI) (es := 1) (m := [a, b]) (c := #[.int .i64 a, .int .i64 b]) CI h2.drew g2.drew u22 (by kernel_rfl) rfl fun s w3 h3 g3 => ?_
  refine or_spec (ls_rd h3) (by simp) ?_
  rw [e]
  exact ⟨rfl, g3⟩
theorem all_spec (h : Sat w0 (HeapH v n M :: L) w) (hK : ∀ s w', Sat w0 (LsH cIt 2 55 s M :: HeapH v n M :: L) w' → K s w') : callP G30 [v] w K := by
  refine c30 ?_
  unfold F30
  obtain ⟨l, m, ⟨R, h1, h2⟩, hI⟩ := heap_iff.1 h
  clear h
  obtain ⟨p, sv, mv, rfl, h⟩ := heapI_iff.1 hI
  (repeat (first
 | (simp (disch := omega) only [evA, evB, bAdd_i64, bSub_i64, ptr, Nat.zero_add, Bool.not_true, Bool.not_false, Option.isNone_some, Option.isNone_none, Option.isSome_some, Option.isSome_none, decide_true, decide_false, eq_self, true_and])
 | ((with_reducible apply go_ld1 h))
 | ((with_reducible apply go_ldA h); (rfl))
 | ((with_reducible apply go_ldN h))
 | ((with_reducible apply go_st h); intro _ h)
 | ((with_reducible apply go_stA h); (rfl); (rfl); (first | rfl | simp); intro _ h)
 | ((with_reducible apply go_stN h); (rfl); (first | rfl | simp); intro _ h)
 | ((with_reducible apply go_box h); rfl; intro _ _ h)
 | ((with_reducible apply go_rd h); (rfl))
 | ((with_reducible apply go_rdN h); (rfl))
 | ((with_reducible apply go_lenL h))
 | ((with_reducible apply go_ix h); (omega))
 | ((with_reducible apply go_elN h); (omega))
 | ((with_reducible apply go_fa h); (omega); (omega))
 | ((with_reducible apply go_f1 h); (omega))
 | ((with_reducible apply go_rf1 h); (omega); (rfl))
 | ((with_reducible apply go_rel h); (omega); (rfl))
))
  refine cl_spec (l := l) (h.front (by repeat (first | exact .here | apply Fnt.there))) (by omega) fun s w h => ?_
  refine sortF_sat (lt := itLt) (cf := ordV) (l := l) h (by omega) CIt itSWO ordV_neg ok81 Try.call81 order_calls fun l' w h3 h4 h => ?_
  obtain rfl : l' = M := Asc.eq h4 R.s (h3.trans R.p)
  refine hK _ _ (Sat.f1 (heap_mk R h1 h2 (heapI_mk (p := p) (sv := sv) (mv := mv) ?_)))
  exact h.get (by (repeat (first | exact .done | (refine .pick (by repeat (first | exact .here | apply Fnt.there)) ?_) | refine .skip ?_)))
/-! HeapSame -/
/-- the deadlines that are set up to a place: a's, b's -/
def upA (f : Nat → Int) (i : Nat) : List It := (List.range i).map fun (k : Nat) => ((k : Int), f k)
def upB (f : Nat → Int) (n i : Nat) : List It := (List.range i).map fun (k : Nat) => (((n - 1 - k : Nat) : Int), f (n - 1 - k))
theorem upA_succ (f : Nat → Int) (i : Nat) : upA f (i + 1) = upA f i ++ [((i : Int), f i)] := by simp [upA, List.range_succ]
theorem upB_succ (f : Nat → Int) (n i : Nat) : upB f n (i + 1) = upB f n i ++ [(((n - 1 - i : Nat) : Int), f (n - 1 - i))] := by simp [upB, List.range_succ]
theorem setM_new {id t : Int} {M : List It} (h : ∀ t, (id, t) ∉ M) : (setM id t M).Perm ((id, t) :: M) := by
  unfold setM
  rw [drop_absent h]
  exact insM_perm _ _
theorem upA_fresh {f : Nat → Int} {i : Nat} {M : List It} (hp : M.Perm (upA f i)) (t : Int) : ((i : Int), t) ∉ M := by
  intro h
  have := hp.mem_iff.1 h
  simp only [upA, List.mem_map, List.mem_range, Prod.mk.injEq] at this
  obtain ⟨k, hk, h1, _⟩ := this
  omega
theorem upB_fresh {f : Nat → Int} {n i : Nat} {M : List It} (hi : i < n) (hp : M.Perm (upB f n i)) (t : Int) : (((n - 1 - i : Nat) : Int), t) ∉ M := by
  intro h
  have := hp.mem_iff.1 h
  simp only [upB, List.mem_map, List.mem_range, Prod.mk.injEq] at this
  obtain ⟨k, hk, h1, _⟩ := this
  omega
theorem upB_big {f : Nat → Int} {n i : Nat} {M : List It} {id : Int} (hn : n ≤ 60) (hi : 1000 ≤ id) (hp : M.Perm (upB f n i)) (t : Int) : (id, t) ∉ M := by
  intro h
  have := hp.mem_iff.1 h
  simp only [upB, List.mem_map, List.mem_range, Prod.mk.injEq] at this
  obtain ⟨k, hk, h1, _⟩ := this
  omega
theorem up_same (f : Nat → Int) (n : Nat) : (upA f n).Perm (upB f n n) := by
  have h1 : (List.range n).reverse.Perm (List.range n) := List.reverse_perm _
  have h2 : upB f n n = (List.range n).reverse.map fun (k : Nat) => ((k : Int), f k) := by
    apply List.ext_getElem
    · simp [upB]
    · intro i h3 h4; simp [upB]
  rw [h2]
  exact (h1.map _).symm
def atF (l : List It) (k : Nat) : Int := bel ((l[k]?.getD (0, 0)).2) 100
theorem atF_eq {l : List It} {k : Nat} (h : k < l.length) : atF l k = bel (l[k].2) 100 := by simp [atF, h]
theorem same_step {s0 s1 hv hw : Value} {l : List It} {tk : List Int} {i : Nat} {Ma Mb : List It} {R5 : Value → Value → Value → Value → Value → Value → World → Prop} (hl : l.length ≤ 60) (hi : i < l.length)
    (hrd : Rd w0 2 s0 l.length (l.flatMap cIt)) (hrt : Rd w0 1 s1 tk.length (tk.flatMap cI)) (ha : Ma.Perm (upA (atF l) i)) (hb : Mb.Perm (upB (atF l) l.length i)) (h : Sat w0 (HeapH hv 200 Ma :: HeapH hw 200 Mb :: L) w)
    (hR : ∀ Ma Mb w', Ma.Perm (upA (atF l) (i + 1)) → Mb.Perm (upB (atF l) l.length (i + 1)) → Sat w0 (HeapH hv 200 Ma :: HeapH hw 200 Mb :: L) w' → R5 s0 s1 hv hw (.int .i64 l.length) (.int .i64 ((i + 1 : Nat) : Int)) w') :
    F6_6 s0 s1 hv hw (.int .i64 l.length) (.int .i64 i) w K R5 := by
  have lenA : Ma.length = i := by rw [ha.length_eq]; simp [upA]
  have lenB : Mb.length = i := by rw [hb.length_eq]; simp [upB]
  have hx := ix_el hrd hi
  have hj : ((l.length : Int) - 1 - (i : Int)) = ((l.length - 1 - i : Nat) : Int) := by omega
  have hi' : l.length - 1 - i < l.length := by omega
  have hy := ix_el hrd hi'
  have ld0 : ∀ {w : World} {L' : List HP}, Sat w0 L' w → ldN 2 (elP 2 s0 i) w = some (.agg (cIt l[i]).toArray) := fun h => rd_ld CIt (hrd.sat h) hi
  have ld1' : ∀ {w : World} {L' : List HP}, Sat w0 L' w → ldN 2 (elP 2 s0 ((l.length - 1 - i : Nat) : Int)) w = some (.agg (cIt l[l.length - 1 - i]).toArray) := fun h => rd_ld CIt (hrd.sat h) hi'
  have hp1 : ∀ q : Nat, pIndexP 2 1 (.pointer (some ⟨q, 0, none⟩)) (.int .i64 1) = some (.pointer (some ⟨q, 1, none⟩)) := fun q => rfl
  have hlen := hrd.len
  have g0 : decide ((i : Int) < (l.length : Int)) = true := by simpa using hi
  unfold F6_6 F6_6b F6_7 F6_7b
  repeat' (first
    | (first
 | (simp (disch := omega) only [evA, evB, bAdd_i64, bSub_i64, ptr, Nat.zero_add, Bool.not_true, Bool.not_false, Option.isNone_some, Option.isNone_none, Option.isSome_some, Option.isSome_none, decide_true, decide_false, eq_self, true_and, g0, hj, hlen])
 | (refine go_some (hx ..) ?_)
 | (refine go_some (hy ..) ?_)
 | (refine go_some (hp1 ..) ?_)
 | ((with_reducible apply go_ld1 h))
 | ((with_reducible apply go_ldA h); (rfl))
 | ((with_reducible apply go_ldN h))
 | ((with_reducible apply go_st h); intro _ h)
 | ((with_reducible apply go_stA h); (rfl); (rfl); (first | rfl | simp); intro _ h)
 | ((with_reducible apply go_stN h); (rfl); (first | rfl | simp); intro _ h)
 | ((with_reducible apply go_box h); rfl; intro _ _ h)
 | ((with_reducible apply go_alloc h); (first | exact z49); rfl; intro _ _ h)
 | ((with_reducible apply go_rd h); (rfl))
 | ((with_reducible apply go_rdN h); (rfl))
 | ((with_reducible apply go_lenL h))
 | ((with_reducible apply go_ix h); (omega))
 | ((with_reducible apply go_elN h); (omega))
 | ((with_reducible apply go_fa h); (omega); (omega))
 | ((with_reducible apply go_f1 h); (omega))
 | ((with_reducible apply go_rf1 h); (omega); (rfl))
 | ((with_reducible apply go_rel h); (omega); (rfl))
)
    | (refine go_some (ld0 (h.to SameC.same)) ?_)
    | (refine go_some (ld1' (h.to SameC.same)) ?_)
    | (refine ⟨?_, ?_⟩)
    | (rw [fok_true]; done)
    | (rw [fok_true]; first | exact ld0 (h.to SameC.same) | exact ld1' (h.to SameC.same)))
  all_goals
    refine Below_spec (n := 100) (by omega) (by omega) fun r r0 r1 er => ?_
    have er' : r = atF l i := by rw [er, atF_eq hi]
    have fa := fun t => upA_fresh ha t
    have e1 : setR 200 (i : Int) r Ma = (0, setM (i : Int) r Ma) := by unfold setR; rw [if_neg (by omega), if_neg (by omega)]
    refine set_spec (M := Ma) (n := 200) (h.front (by repeat (first | exact .here | apply Fnt.there))) fun w h => ?_
    rw [e1] at h ⊢
    (repeat (first
 | (simp (disch := omega) only [evA, evB, bAdd_i64, bSub_i64, ptr, Nat.zero_add, Bool.not_true, Bool.not_false, Option.isNone_some, Option.isNone_none, Option.isSome_some, Option.isSome_none, decide_true, decide_false, eq_self, true_and, hj, hlen])
 | (refine go_some (hp1 ..) ?_)
 | ((with_reducible apply go_ld1 h))
 | ((with_reducible apply go_ldA h); (rfl))
 | ((with_reducible apply go_ldN h))
 | ((with_reducible apply go_st h); intro _ h)
 | ((with_reducible apply go_stA h); (rfl); (rfl); (first | rfl | simp); intro _ h)
 | ((with_reducible apply go_stN h); (rfl); (first | rfl | simp); intro _ h)
 | ((with_reducible apply go_box h); rfl; intro _ _ h)
 | ((with_reducible apply go_rd h); (rfl))
 | ((with_reducible apply go_rdN h); (rfl))
 | ((with_reducible apply go_lenL h))
 | ((with_reducible apply go_ix h); (omega))
 | ((with_reducible apply go_elN h); (omega))
 | ((with_reducible apply go_fa h); (omega); (omega))
 | ((with_reducible apply go_f1 h); (omega))
 | ((with_reducible apply go_rf1 h); (omega); (rfl))
 | ((with_reducible apply go_rel h); (omega); (rfl))
))
    refine Below_spec (n := 100) (by omega) (by omega) fun u u0 u1 eu => ?_
    have eu' : u = atF l (l.length - 1 - i) := by rw [eu, atF_eq hi']
    have fb := fun t => upB_fresh hi hb t
    have e2 : setR 200 ((l.length - 1 - i : Nat) : Int) u Mb = (0, setM ((l.length - 1 - i : Nat) : Int) u Mb) := by unfold setR; rw [if_neg (by omega), if_neg (by omega)]
    refine set_spec (M := Mb) (n := 200) (h.front (by repeat (first | exact .here | apply Fnt.there))) fun w h => ?_
    rw [e2] at h ⊢
    have hA : (setM (i : Int) r Ma).Perm (upA (atF l) (i + 1)) := by
      rw [upA_succ, ← er']
      exact (setM_new fa).trans ((ha.cons _).trans (List.perm_append_singleton _ _).symm)
    have hB : (setM ((l.length - 1 - i : Nat) : Int) u Mb).Perm (upB (atF l) l.length (i + 1)) := by
      rw [upB_succ, ← eu']
      exact (setM_new fb).trans ((hb.cons _).trans (List.perm_append_singleton _ _).symm)
    generalize setM (i : Int) r Ma = Ma' at h hA
    generalize setM ((l.length - 1 - i : Nat) : Int) u Mb = Mb' at h hB
    (repeat (first
 | (simp (disch := omega) only [evA, evB, bAdd_i64, bSub_i64, ptr, Nat.zero_add, Bool.not_true, Bool.not_false, Option.isNone_some, Option.isNone_none, Option.isSome_some, Option.isSome_none, decide_true, decide_false, eq_self, true_and, hrt.len])
 | ((with_reducible apply go_ld1 h))
 | ((with_reducible apply go_ldA h); (rfl))
 | ((with_reducible apply go_ldN h))
 | ((with_reducible apply go_st h); intro _ h)
 | ((with_reducible apply go_stA h); (rfl); (rfl); (first | rfl | simp); intro _ h)
 | ((with_reducible apply go_stN h); (rfl); (first | rfl | simp); intro _ h)
 | ((with_reducible apply go_box h); rfl; intro _ _ h)
 | ((with_reducible apply go_rd h); (rfl))
 | ((with_reducible apply go_rdN h); (rfl))
 | ((with_reducible apply go_lenL h))
 | ((with_reducible apply go_ix h); (omega))
 | ((with_reducible apply go_elN h); (omega))
 | ((with_reducible apply go_fa h); (omega); (omega))
 | ((with_reducible apply go_f1 h); (omega))
 | ((with_reducible apply go_rf1 h); (omega); (rfl))
 | ((with_reducible apply go_rel h); (omega); (rfl))
))
    by_cases g : (i : Int) < (tk.length : Int)
    · have g' : decide ((i : Int) < (tk.length : Int)) = true := by simpa using g
      have hi2 : i < tk.length := by omega
      (repeat (first
 | (simp (disch := omega) only [evA, evB, bAdd_i64, bSub_i64, ptr, Nat.zero_add, Bool.not_true, Bool.not_false, Option.isNone_some, Option.isNone_none, Option.isSome_some, Option.isSome_none, decide_true, decide_false, eq_self, true_and, g'])
 | (refine go_some (ix_el hrt hi2 ..) ?_)
 | ((with_reducible apply go_ld1 h))
 | ((with_reducible apply go_ldA h); (rfl))
 | ((with_reducible apply go_ldN h))
 | ((with_reducible apply go_st h); intro _ h)
 | ((with_reducible apply go_stA h); (rfl); (rfl); (first | rfl | simp); intro _ h)
 | ((with_reducible apply go_stN h); (rfl); (first | rfl | simp); intro _ h)
 | ((with_reducible apply go_box h); rfl; intro _ _ h)
 | ((with_reducible apply go_rd h); (rfl))
 | ((with_reducible apply go_rdN h); (rfl))
 | ((with_reducible apply go_lenL h))
 | ((with_reducible apply go_ix h); (omega))
 | ((with_reducible apply go_elN h); (omega))
 | ((with_reducible apply go_fa h); (omega); (omega))
 | ((with_reducible apply go_f1 h); (omega))
 | ((with_reducible apply go_rf1 h); (omega); (rfl))
 | ((with_reducible apply go_rel h); (omega); (rfl))
))
      refine go_some (rd_ld1 (g := Value.int .i64) (hrt.sat h) hi2) ?_
      refine Below_spec (n := 50) (by omega) (by omega) fun c c0 c1 _ => ?_
      (repeat (first
 | (simp (disch := omega) only [evA, evB, bAdd_i64, bSub_i64, ptr, Nat.zero_add, Bool.not_true, Bool.not_false, Option.isNone_some, Option.isNone_none, Option.isSome_some, Option.isSome_none, decide_true, decide_false, eq_self, true_and])
 | (refine go_some (ix_el hrt hi2 ..) ?_)
 | ((with_reducible apply go_ld1 h))
 | ((with_reducible apply go_ldA h); (rfl))
 | ((with_reducible apply go_ldN h))
 | ((with_reducible apply go_st h); intro _ h)
 | ((with_reducible apply go_stA h); (rfl); (rfl); (first | rfl | simp); intro _ h)
 | ((with_reducible apply go_stN h); (rfl); (first | rfl | simp); intro _ h)
 | ((with_reducible apply go_box h); rfl; intro _ _ h)
 | ((with_reducible apply go_rd h); (rfl))
 | ((with_reducible apply go_rdN h); (rfl))
 | ((with_reducible apply go_lenL h))
 | ((with_reducible apply go_ix h); (omega))
 | ((with_reducible apply go_elN h); (omega))
 | ((with_reducible apply go_fa h); (omega); (omega))
 | ((with_reducible apply go_f1 h); (omega))
 | ((with_reducible apply go_rf1 h); (omega); (rfl))
 | ((with_reducible apply go_rel h); (omega); (rfl))
))
      refine go_some (rd_ld1 (g := Value.int .i64) (hrt.sat h) hi2) ?_
      refine Below_spec (n := 100) (by omega) (by omega) fun d d0 d1 _ => ?_
      have lenB' : Mb'.length = i + 1 := by rw [hB.length_eq]; simp [upB]
      have fc := fun t => upB_big hl (show 1000 ≤ 1000 + c by omega) hB t
      have e3 : setR 200 (1000 + c) d Mb' = (0, setM (1000 + c) d Mb') := by unfold setR; rw [if_neg (by omega), if_neg (by omega)]
      refine set_spec (M := Mb') (n := 200) (h.front (by repeat (first | exact .here | apply Fnt.there))) fun w h => ?_
      rw [e3] at h
      have hids := heap_ids h
      have hperm := setM_new (t := d) fc
      have hmem : ((1000 + c : Int), d) ∈ setM (1000 + c) d Mb' := hperm.mem_iff.2 (by simp)
      refine drop_spec (M := setM (1000 + c) d Mb') (n := 200) (h.front (by repeat (first | exact .here | apply Fnt.there))) fun w h => ?_
      rw [find_of hids hmem]
      have hdp : (dropM (1000 + c) (setM (1000 + c) d Mb')).Perm Mb' := ((drop_perm hids hmem).trans hperm).cons_inv
      generalize dropM (1000 + c) (setM (1000 + c) d Mb') = Mc at h hdp
      have fd := fun t => upB_big hl (show 1000 ≤ 1000 + c by omega) (hdp.trans hB) t
      (repeat (first
 | (simp (disch := omega) only [evA, evB, bAdd_i64, bSub_i64, ptr, Nat.zero_add, Bool.not_true, Bool.not_false, Option.isNone_some, Option.isNone_none, Option.isSome_some, Option.isSome_none, decide_true, decide_false, eq_self, true_and])
 | ((with_reducible apply go_ld1 h))
 | ((with_reducible apply go_ldA h); (rfl))
 | ((with_reducible apply go_ldN h))
 | ((with_reducible apply go_st h); intro _ h)
 | ((with_reducible apply go_stA h); (rfl); (rfl); (first | rfl | simp); intro _ h)
 | ((with_reducible apply go_stN h); (rfl); (first | rfl | simp); intro _ h)
 | ((with_reducible apply go_box h); rfl; intro _ _ h)
 | ((with_reducible apply go_rd h); (rfl))
 | ((with_reducible apply go_rdN h); (rfl))
 | ((with_reducible apply go_lenL h))
 | ((with_reducible apply go_ix h); (omega))
 | ((with_reducible apply go_elN h); (omega))
 | ((with_reducible apply go_fa h); (omega); (omega))
 | ((with_reducible apply go_f1 h); (omega))
 | ((with_reducible apply go_rf1 h); (omega); (rfl))
 | ((with_reducible apply go_rel h); (omega); (rfl))
))
      refine drop_spec (M := Mc) (n := 200) (h.front (by repeat (first | exact .here | apply Fnt.there))) fun w h => ?_
      rw [find_none fd]
      rw [drop_absent fd] at h
      (repeat (first
 | (simp (disch := omega) only [evA, evB, bAdd_i64, bSub_i64, ptr, Nat.zero_add, Bool.not_true, Bool.not_false, Option.isNone_some, Option.isNone_none, Option.isSome_some, Option.isSome_none, decide_true, decide_false, eq_self, true_and])
 | ((with_reducible apply go_ld1 h))
 | ((with_reducible apply go_ldA h); (rfl))
 | ((with_reducible apply go_ldN h))
 | ((with_reducible apply go_st h); intro _ h)
 | ((with_reducible apply go_stA h); (rfl); (rfl); (first | rfl | simp); intro _ h)
 | ((with_reducible apply go_stN h); (rfl); (first | rfl | simp); intro _ h)
 | ((with_reducible apply go_box h); rfl; intro _ _ h)
 | ((with_reducible apply go_rd h); (rfl))
 | ((with_reducible apply go_rdN h); (rfl))
 | ((with_reducible apply go_lenL h))
 | ((with_reducible apply go_ix h); (omega))
 | ((with_reducible apply go_elN h); (omega))
 | ((with_reducible apply go_fa h); (omega); (omega))
 | ((with_reducible apply go_f1 h); (omega))
 | ((with_reducible apply go_rf1 h); (omega); (rfl))
 | ((with_reducible apply go_rel h); (omega); (rfl))
))
      exact hR Ma' Mc _ hA (hdp.trans hB) (h.get (by (repeat (first | exact .done | (refine .pick (by repeat (first | exact .here | apply Fnt.there)) ?_) | refine .skip ?_))))
    · have g' : decide ((i : Int) < (tk.length : Int)) = false := by simpa using g
      (repeat (first
 | (simp (disch := omega) only [evA, evB, bAdd_i64, bSub_i64, ptr, Nat.zero_add, Bool.not_true, Bool.not_false, Option.isNone_some, Option.isNone_none, Option.isSome_some, Option.isSome_none, decide_true, decide_false, eq_self, true_and, g'])
 | ((with_reducible apply go_ld1 h))
 | ((with_reducible apply go_ldA h); (rfl))
 | ((with_reducible apply go_ldN h))
 | ((with_reducible apply go_st h); intro _ h)
 | ((with_reducible apply go_stA h); (rfl); (rfl); (first | rfl | simp); intro _ h)
 | ((with_reducible apply go_stN h); (rfl); (first | rfl | simp); intro _ h)
 | ((with_reducible apply go_box h); rfl; intro _ _ h)
 | ((with_reducible apply go_rd h); (rfl))
 | ((with_reducible apply go_rdN h); (rfl))
 | ((with_reducible apply go_lenL h))
 | ((with_reducible apply go_ix h); (omega))
 | ((with_reducible apply go_elN h); (omega))
 | ((with_reducible apply go_fa h); (omega); (omega))
 | ((with_reducible apply go_f1 h); (omega))
 | ((with_reducible apply go_rf1 h); (omega); (rfl))
 | ((with_reducible apply go_rel h); (omega); (rfl))
))
      exact hR Ma' Mb' _ hA hB (h.get (by (repeat (first | exact .done | (refine .pick (by repeat (first | exact .here | apply Fnt.there)) ?_) | refine .skip ?_))))
theorem neIt (x y : Operand) (a b : It) : bNe Try.prog 55 x y (.agg (cIt a).toArray) (.agg (cIt b).toArray) = some (.bool (!decide (a = b))) := by
  obtain ⟨i, t⟩ := a
  obtain ⟨i', t'⟩ := b
  rw [ne55]
  simp only [Option.some.injEq, Value.bool.injEq]
  rw [Bool.eq_iff_iff]
  simp
theorem same_cmp {x y : Value} {M : List It} (hM : M.length ≤ 60) (hK : ∀ w', Sat w0 L w' → K (.bool true) w') : ∀ (d i : Nat) (w : World), M.length - i < d → i ≤ M.length → Sat w0 (LsH cIt 2 55 x M :: LsH cIt 2 55 y M :: L) w →
    F6_4L d x y (.int .i64 M.length) (.int .i64 i) w K := by
  intro d
  induction d with
  | zero => intro i w hd; omega
  | succ d ih =>
    intro i w hd hi h
    rw [F6_4L]
    unfold F6_4b F6_5 F6_5b
    by_cases g : i < M.length
    · have g' : decide ((i : Int) < (M.length : Int)) = true := by simpa using g
      (repeat (first
 | (simp (disch := omega) only [evA, evB, bAdd_i64, bSub_i64, ptr, Nat.zero_add, Bool.not_true, Bool.not_false, Option.isNone_some, Option.isNone_none, Option.isSome_some, Option.isSome_none, decide_true, decide_false, eq_self, true_and, g'])
 | (refine go_some (ls_ix h g ..) ?_)
 | ((with_reducible apply go_ld1 h))
 | ((with_reducible apply go_ldA h); (rfl))
 | ((with_reducible apply go_ldN h))
 | ((with_reducible apply go_st h); intro _ h)
 | ((with_reducible apply go_stA h); (rfl); (rfl); (first | rfl | simp); intro _ h)
 | ((with_reducible apply go_stN h); (rfl); (first | rfl | simp); intro _ h)
 | ((with_reducible apply go_box h); rfl; intro _ _ h)
 | ((with_reducible apply go_rd h); (rfl))
 | ((with_reducible apply go_rdN h); (rfl))
 | ((with_reducible apply go_lenL h))
 | ((with_reducible apply go_ix h); (omega))
 | ((with_reducible apply go_elN h); (omega))
 | ((with_reducible apply go_fa h); (omega); (omega))
 | ((with_reducible apply go_f1 h); (omega))
 | ((with_reducible apply go_rf1 h); (omega); (rfl))
 | ((with_reducible apply go_rel h); (omega); (rfl))
))
      refine go_some (ls_ld CIt h g) ?_
      (repeat (first
 | (simp (disch := omega) only [evA, evB, bAdd_i64, bSub_i64, ptr, Nat.zero_add, Bool.not_true, Bool.not_false, Option.isNone_some, Option.isNone_none, Option.isSome_some, Option.isSome_none, decide_true, decide_false, eq_self, true_and])
 | (refine go_some (ls_ix h.f1 g ..) ?_)
 | ((with_reducible apply go_ld1 h))
 | ((with_reducible apply go_ldA h); (rfl))
 | ((with_reducible apply go_ldN h))
 | ((with_reducible apply go_st h); intro _ h)
 | ((with_reducible apply go_stA h); (rfl); (rfl); (first | rfl | simp); intro _ h)
 | ((with_reducible apply go_stN h); (rfl); (first | rfl | simp); intro _ h)
 | ((with_reducible apply go_box h); rfl; intro _ _ h)
 | ((with_reducible apply go_rd h); (rfl))
 | ((with_reducible apply go_rdN h); (rfl))
 | ((with_reducible apply go_lenL h))
 | ((with_reducible apply go_ix h); (omega))
 | ((with_reducible apply go_elN h); (omega))
 | ((with_reducible apply go_fa h); (omega); (omega))
 | ((with_reducible apply go_f1 h); (omega))
 | ((with_reducible apply go_rf1 h); (omega); (rfl))
 | ((with_reducible apply go_rel h); (omega); (rfl))
))
      refine go_some (ls_ld CIt h.f1 g) ?_
      refine go_some (neIt _ _ M[i] M[i]) ?_
      (repeat (first
 | (simp (disch := omega) only [evA, evB, bAdd_i64, bSub_i64, ptr, Nat.zero_add, Bool.not_true, Bool.not_false, Option.isNone_some, Option.isNone_none, Option.isSome_some, Option.isSome_none, decide_true, decide_false, eq_self, true_and])
 | ((with_reducible apply go_ld1 h))
 | ((with_reducible apply go_ldA h); (rfl))
 | ((with_reducible apply go_ldN h))
 | ((with_reducible apply go_st h); intro _ h)
 | ((with_reducible apply go_stA h); (rfl); (rfl); (first | rfl | simp); intro _ h)
 | ((with_reducible apply go_stN h); (rfl); (first | rfl | simp); intro _ h)
 | ((with_reducible apply go_box h); rfl; intro _ _ h)
 | ((with_reducible apply go_rd h); (rfl))
 | ((with_reducible apply go_rdN h); (rfl))
 | ((with_reducible apply go_lenL h))
 | ((with_reducible apply go_ix h); (omega))
 | ((with_reducible apply go_elN h); (omega))
 | ((with_reducible apply go_fa h); (omega); (omega))
 | ((with_reducible apply go_f1 h); (omega))
 | ((with_reducible apply go_rf1 h); (omega); (rfl))
 | ((with_reducible apply go_rel h); (omega); (rfl))
))
      exact ih (i + 1) _ (by omega) (by omega) h.drew
    · have g' : decide ((i : Int) < (M.length : Int)) = false := by simpa using g
      (repeat (first
 | (simp (disch := omega) only [evA, evB, bAdd_i64, bSub_i64, ptr, Nat.zero_add, Bool.not_true, Bool.not_false, Option.isNone_some, Option.isNone_none, Option.isSome_some, Option.isSome_none, decide_true, decide_false, eq_self, true_and, g'])
 | ((with_reducible apply go_ld1 h))
 | ((with_reducible apply go_ldA h); (rfl))
 | ((with_reducible apply go_ldN h))
 | ((with_reducible apply go_st h); intro _ h)
 | ((with_reducible apply go_stA h); (rfl); (rfl); (first | rfl | simp); intro _ h)
 | ((with_reducible apply go_stN h); (rfl); (first | rfl | simp); intro _ h)
 | ((with_reducible apply go_box h); rfl; intro _ _ h)
 | ((with_reducible apply go_rd h); (rfl))
 | ((with_reducible apply go_rdN h); (rfl))
 | ((with_reducible apply go_lenL h))
 | ((with_reducible apply go_ix h); (omega))
 | ((with_reducible apply go_elN h); (omega))
 | ((with_reducible apply go_fa h); (omega); (omega))
 | ((with_reducible apply go_f1 h); (omega))
 | ((with_reducible apply go_rf1 h); (omega); (rfl))
 | ((with_reducible apply go_rel h); (omega); (rfl))
))
      exact hK _ h.drop.drop
theorem same_end {s0 hv hw : Value} {n : Nat} {M : List It} (hl : lenL s0 = some (.int .i64 (n : Nat))) (hM : M.length ≤ 60) (hn : M.length = n) (h : Sat w0 (HeapH hv 200 M :: HeapH hw 200 M :: L) w) (hK : ∀ w', Sat w0 L w' → K (.bool true) w') : F6_3 s0 hv hw w K := by
  subst hn
  unfold F6_3 F6_3b F6_4
  refine all_spec (M := M) (n := 200) h fun x w h => ?_
  refine all_spec (M := M) (n := 200) (h.front (by repeat (first | exact .here | apply Fnt.there))) fun y w h => ?_
  (repeat (first
 | (simp (disch := omega) only [evA, evB, bAdd_i64, bSub_i64, ptr, Nat.zero_add, Bool.not_true, Bool.not_false, Option.isNone_some, Option.isNone_none, Option.isSome_some, Option.isSome_none, decide_true, decide_false, eq_self, true_and, hl, ls_len h, ls_len (h.front (by exact .there (.there .here)))])
 | ((with_reducible apply go_ld1 h))
 | ((with_reducible apply go_ldA h); (rfl))
 | ((with_reducible apply go_ldN h))
 | ((with_reducible apply go_st h); intro _ h)
 | ((with_reducible apply go_stA h); (rfl); (rfl); (first | rfl | simp); intro _ h)
 | ((with_reducible apply go_stN h); (rfl); (first | rfl | simp); intro _ h)
 | ((with_reducible apply go_box h); rfl; intro _ _ h)
 | ((with_reducible apply go_rd h); (rfl))
 | ((with_reducible apply go_rdN h); (rfl))
 | ((with_reducible apply go_lenL h))
 | ((with_reducible apply go_ix h); (omega))
 | ((with_reducible apply go_elN h); (omega))
 | ((with_reducible apply go_fa h); (omega); (omega))
 | ((with_reducible apply go_f1 h); (omega))
 | ((with_reducible apply go_rf1 h); (omega); (rfl))
 | ((with_reducible apply go_rel h); (omega); (rfl))
))
  exact same_cmp hM hK fuel 0 w (by unfold fuel; omega) (by omega) (h.get (by (repeat (first | exact .done | (refine .pick (by repeat (first | exact .here | apply Fnt.there)) ?_) | refine .skip ?_))))
theorem same_loop {s0 s1 hv hw : Value} {l : List It} {tk : List Int} (hl : l.length ≤ 60) (hrd : Rd w0 2 s0 l.length (l.flatMap cIt)) (hrt : Rd w0 1 s1 tk.length (tk.flatMap cI)) (hK : ∀ w', Sat w0 L w' → K (.bool true) w') :
    ∀ (d i : Nat) (Ma Mb : List It) (w : World), l.length - i < d → i ≤ l.length → Ma.Perm (upA (atF l) i) → Mb.Perm (upB (atF l) l.length i) → Sat w0 (HeapH hv 200 Ma :: HeapH hw 200 Mb :: L) w →
      F6_2L d s0 s1 hv hw (.int .i64 l.length) (.int .i64 i) w K := by
  intro d
  induction d with
  | zero => intro i Ma Mb w hd; omega
  | succ d ih =>
    intro i Ma Mb w hd hi ha hb h
    rw [F6_2L]
    by_cases g : i < l.length
    · exact same_step hl g hrd hrt ha hb h fun Ma Mb w ha hb h => ih (i + 1) Ma Mb w (by omega) (by omega) ha hb h
    · obtain rfl : i = l.length := by omega
      have g' : decide ((l.length : Int) < (l.length : Int)) = false := by simp
      unfold F6_6 F6_6b
      (repeat (first
 | (simp (disch := omega) only [evA, evB, bAdd_i64, bSub_i64, ptr, Nat.zero_add, Bool.not_true, Bool.not_false, Option.isNone_some, Option.isNone_none, Option.isSome_some, Option.isSome_none, decide_true, decide_false, eq_self, true_and, g'])
 | ((with_reducible apply go_ld1 h))
 | ((with_reducible apply go_ldA h); (rfl))
 | ((with_reducible apply go_ldN h))
 | ((with_reducible apply go_st h); intro _ h)
 | ((with_reducible apply go_stA h); (rfl); (rfl); (first | rfl | simp); intro _ h)
 | ((with_reducible apply go_stN h); (rfl); (first | rfl | simp); intro _ h)
 | ((with_reducible apply go_box h); rfl; intro _ _ h)
 | ((with_reducible apply go_rd h); (rfl))
 | ((with_reducible apply go_rdN h); (rfl))
 | ((with_reducible apply go_lenL h))
 | ((with_reducible apply go_ix h); (omega))
 | ((with_reducible apply go_elN h); (omega))
 | ((with_reducible apply go_fa h); (omega); (omega))
 | ((with_reducible apply go_f1 h); (omega))
 | ((with_reducible apply go_rf1 h); (omega); (rfl))
 | ((with_reducible apply go_rel h); (omega); (rfl))
))
      obtain rfl : Ma = Mb := Asc.eq (heap_asc h) (heap_asc h.f1) (ha.trans ((up_same _ _).trans hb.symm))
      have lenA : Ma.length = l.length := by rw [ha.length_eq]; simp [upA]
      exact same_end hrd.len (by omega) lenA h hK
theorem heapSame_spec {s0 s1 : Value} {l : List It} {tk : List Int} (hrd : Rd w0 2 s0 l.length (l.flatMap cIt)) (hrt : Rd w0 1 s1 tk.length (tk.flatMap cI)) (h : Sat w0 L w) (hK : ∀ w', Sat w0 L w' → K (.bool true) w') : callP G6 [s0, s1] w K := by
  refine c6 ?_
  unfold F6 F6_1 F6_1b F6_2
  refine new_spec h (fun h => by omega) fun p w _ _ h => ?_
  (repeat (first
 | (simp (disch := omega) only [evA, evB, bAdd_i64, bSub_i64, ptr, Nat.zero_add, Bool.not_true, Bool.not_false, Option.isNone_some, Option.isNone_none, Option.isSome_some, Option.isSome_none, decide_true, decide_false, eq_self, true_and])
 | ((with_reducible apply go_ld1 h))
 | ((with_reducible apply go_ldA h); (rfl))
 | ((with_reducible apply go_ldN h))
 | ((with_reducible apply go_st h); intro _ h)
 | ((with_reducible apply go_stA h); (rfl); (rfl); (first | rfl | simp); intro _ h)
 | ((with_reducible apply go_stN h); (rfl); (first | rfl | simp); intro _ h)
 | ((with_reducible apply go_box h); rfl; intro _ _ h)
 | ((with_reducible apply go_rd h); (rfl))
 | ((with_reducible apply go_rdN h); (rfl))
 | ((with_reducible apply go_lenL h))
 | ((with_reducible apply go_ix h); (omega))
 | ((with_reducible apply go_elN h); (omega))
 | ((with_reducible apply go_fa h); (omega); (omega))
 | ((with_reducible apply go_f1 h); (omega))
 | ((with_reducible apply go_rf1 h); (omega); (rfl))
 | ((with_reducible apply go_rel h); (omega); (rfl))
))
  refine new_spec h (fun h => by omega) fun q w _ _ h => ?_
  (repeat (first
 | (simp (disch := omega) only [evA, evB, bAdd_i64, bSub_i64, ptr, Nat.zero_add, Bool.not_true, Bool.not_false, Option.isNone_some, Option.isNone_none, Option.isSome_some, Option.isSome_none, decide_true, decide_false, eq_self, true_and])
 | (refine go_some (bEq_nilp up46 ..) ?_)
 | ((with_reducible apply go_ld1 h))
 | ((with_reducible apply go_ldA h); (rfl))
 | ((with_reducible apply go_ldN h))
 | ((with_reducible apply go_st h); intro _ h)
 | ((with_reducible apply go_stA h); (rfl); (rfl); (first | rfl | simp); intro _ h)
 | ((with_reducible apply go_stN h); (rfl); (first | rfl | simp); intro _ h)
 | ((with_reducible apply go_box h); rfl; intro _ _ h)
 | ((with_reducible apply go_rd h); (rfl))
 | ((with_reducible apply go_rdN h); (rfl))
 | ((with_reducible apply go_lenL h))
 | ((with_reducible apply go_ix h); (omega))
 | ((with_reducible apply go_elN h); (omega))
 | ((with_reducible apply go_fa h); (omega); (omega))
 | ((with_reducible apply go_f1 h); (omega))
 | ((with_reducible apply go_rf1 h); (omega); (rfl))
 | ((with_reducible apply go_rel h); (omega); (rfl))
))
  refine works_spec h fun w h => ?_
  (repeat (first
 | (simp (disch := omega) only [evA, evB, bAdd_i64, bSub_i64, ptr, Nat.zero_add, Bool.not_true, Bool.not_false, Option.isNone_some, Option.isNone_none, Option.isSome_some, Option.isSome_none, decide_true, decide_false, eq_self, true_and, hrd.len])
 | ((with_reducible apply go_ld1 h))
 | ((with_reducible apply go_ldA h); (rfl))
 | ((with_reducible apply go_ldN h))
 | ((with_reducible apply go_st h); intro _ h)
 | ((with_reducible apply go_stA h); (rfl); (rfl); (first | rfl | simp); intro _ h)
 | ((with_reducible apply go_stN h); (rfl); (first | rfl | simp); intro _ h)
 | ((with_reducible apply go_box h); rfl; intro _ _ h)
 | ((with_reducible apply go_rd h); (rfl))
 | ((with_reducible apply go_rdN h); (rfl))
 | ((with_reducible apply go_lenL h))
 | ((with_reducible apply go_ix h); (omega))
 | ((with_reducible apply go_elN h); (omega))
 | ((with_reducible apply go_fa h); (omega); (omega))
 | ((with_reducible apply go_f1 h); (omega))
 | ((with_reducible apply go_rf1 h); (omega); (rfl))
 | ((with_reducible apply go_rel h); (omega); (rfl))
))
  have hmin : min (l.length : Int) 60 = ((min l.length 60 : Nat) : Int) := by omega
  rw [hmin]
  obtain ⟨v', e, _⟩ := hrd.sub (L := none) (H := some (.int .i64 ((min l.length 60 : Nat) : Int))) (M := none) (lo := 0) (hi := min l.length 60) .none (.some _ _) (.none _) (by omega) (by omega)
  have hrd' := rd_sub CIt hrd e (lo := 0) (hi := min l.length 60) .none (.some _ _) (.none _) (by omega) (by omega)
  rw [List.drop_zero] at hrd'
  refine go_some e ?_
  (repeat (first
 | (simp (disch := omega) only [evA, evB, bAdd_i64, bSub_i64, ptr, Nat.zero_add, Bool.not_true, Bool.not_false, Option.isNone_some, Option.isNone_none, Option.isSome_some, Option.isSome_none, decide_true, decide_false, eq_self, true_and, hrd'.len])
 | ((with_reducible apply go_ld1 h))
 | ((with_reducible apply go_ldA h); (rfl))
 | ((with_reducible apply go_ldN h))
 | ((with_reducible apply go_st h); intro _ h)
 | ((with_reducible apply go_stA h); (rfl); (rfl); (first | rfl | simp); intro _ h)
 | ((with_reducible apply go_stN h); (rfl); (first | rfl | simp); intro _ h)
 | ((with_reducible apply go_box h); rfl; intro _ _ h)
 | ((with_reducible apply go_rd h); (rfl))
 | ((with_reducible apply go_rdN h); (rfl))
 | ((with_reducible apply go_lenL h))
 | ((with_reducible apply go_ix h); (omega))
 | ((with_reducible apply go_elN h); (omega))
 | ((with_reducible apply go_fa h); (omega); (omega))
 | ((with_reducible apply go_f1 h); (omega))
 | ((with_reducible apply go_rf1 h); (omega); (rfl))
 | ((with_reducible apply go_rel h); (omega); (rfl))
))
  have hl' : (l.take (min l.length 60)).length ≤ 60 := by simp; omega
  generalize l.take (min l.length 60) = l' at hrd' hl'
  exact same_loop hl' hrd' hrt hK fuel 0 [] [] w (by unfold fuel; omega) (by omega) (.refl _) (.refl _) h.f1
end
theorem fit_pair {W : World} {B : Nat} {c : List Value} (h : FitL2 W B [.int .i64, .int .i64] c) : ∃ x : It, c = cIt x ∧ True := by
  obtain ⟨a, vs, rfl, _, h1⟩ := fitL2_int h
  obtain ⟨b, vs, rfl, _, h2⟩ := fitL2_int h1
  rw [fitL2_nil h2]; exact ⟨(a, b), rfl, trivial⟩
theorem fit_int' {W : World} {B : Nat} {c : List Value} (h : FitL2 W B [.int .i64] c) : ∃ n : Int, c = cI n ∧ True := by
  obtain ⟨n, vs, rfl, _, h2⟩ := fitL2_int h
  rw [fitL2_nil h2]; exact ⟨n, rfl, trivial⟩
theorem lawHeapSame {W : World} {v : Value} {n : Nat} {cs : List Value} (rd : Rd W 2 v n cs) (_ : n ≤ 140737488351232) (ft : ∀ i, i < n → FitL2 W 140737488351232 [.int .i64, .int .i64] ((cs.drop (i * 2)).take 2))
    {v' : Value} {n' : Nat} {cs' : List Value} (rd' : Rd W 1 v' n' cs') (_ : n' ≤ 140737488351232) (ft' : ∀ i, i < n' → FitL2 W 140737488351232 [.int .i64] ((cs'.drop (i * 1)).take 1)) :
    callP G6 [v, v'] W fun v w' => v = .bool true ∧ Sat W [] w' := by
  obtain ⟨l, rfl, rfl, _⟩ := fit_list2 (fun c h => fit_pair h) n cs rd.length ft
  obtain ⟨l', rfl, rfl, _⟩ := fit_list2 (fun c h => fit_int' h) n' cs' rd'.length ft'
  exact heapSame_spec rd rd' (Sat.start W) fun w' h => ⟨rfl, h⟩
end Go.Proofs.Gong
