/- A part of the proofs: what stands below it, told in lemmas. No condition. -/
import Derived.Test.YtpbfmiphjcmjjaaHp5
set_option linter.all false
namespace Go.Proofs.Gong
open Go Go.Sx Go.Proofs
set_option maxRecDepth 100000
section
variable {w0 w : World} {L : List HP} {K : Value → World → Prop} {v : Value} {n : Int} {l : List It} {m : Pl} {M : List It}
theorem drop_spec {id : Int} (h : Sat w0 (HeapH v n M :: L) w) (hK : ∀ w', Sat w0 (HeapH v n (dropM id M) :: L) w' → K (.bool (getM id M).isSome) w') : callP G29 [v, .int .i64 id] w K := by
  refine c29 ?_
  unfold F29 F29_1 F29_1b
  have h0 := h
  obtain ⟨l, m, ⟨R, hn⟩, h⟩ := heap_iff.1 h
  obtain ⟨p, sv, mv, rfl, hs⟩ := heapI_iff.1 h
  have hnd := map_nd hs.f2
  have lk := look2 (k := id) hs.f2 Kint um124 z3
  simp only [ekI] at lk
  simp [ptr, cell_of hs.cl, lk]
  rcases R.get id with ⟨k, t, h1, h2, h3⟩ | ⟨h1, h2, h3⟩
  · have hk : k < l.length := (List.getElem?_eq_some_iff.1 h2).1
    simp [h3] at hK
    simp only [h1, Option.elim, Option.isSome_some, evI, Bool.not_true, ifB_false]
    have hl := hs.f1
    obtain ⟨last, hlast⟩ : ∃ last, last = l.length - 1 := ⟨_, rfl⟩
    have e1 : IntKind.i64.wrap ((l.length : Int) - 1) = (last : Int) := by rw [wrap_id (by omega)]; omega
    have hll : last < l.length := by omega
    have hx : l[l.length - 1]? = some l[last] := by rw [← hlast]; exact List.getElem?_eq_getElem hll
    simp [ls_len hl, e1, ls_ix hl hll, ls_ld CIt hl hll]
    refine eAlloc_sat hs z55 fun q w1 g1 => ?_
    refine bindW_stN g1 (by simp [cIt]) (by simp [cIt]) (by simp) fun w2 g2 => ?_
    have e : wr (Value.agg #[(.int .i64 0), (.int .i64 0)]).cells 0 (Value.agg (cIt l[last]).toArray).cells.toList = (cIt l[last]).toArray := by simp [wr, cIt]
    rw [e] at g2
    obtain ⟨s', es, g3⟩ := ls_sub (lo := 0) (hi := last) (A := none) (H := some (.int .i64 last)) (M := none) CIt g2.f2 .none (.some _ _) (.none _) (by omega) (by omega)
    simp [ptr, cell_of g2.f1.cl, es]
    have := ls_one g3
    refine bindW_st g3.f2 (by simp) fun w3 g4 => ?_
    simp [cell_of g4.cl]
    refine eDelete_sat g4.f3 Kint um124 id fun w4 g5 => ?_
    have g6 := g5.pick [1, 2, 0, 3] [] 4 (by decide) (by simp)
    have etl : l.take last = l.dropLast := by rw [hlast, List.dropLast_eq_take]
    simp only [List.drop_zero, etl] at g6
    have g6 : Sat w0 (Cl p #[.int .i64 n, s', mv] 126 :: LsH cIt 2 55 s' l.dropLast :: MapH ekI evI mv (aDel id m) :: Cl q (cIt l[last]).toArray 55 :: L) w4 := g6
    have g7 : Sat w0 (HeapI (ptr p) n l.dropLast (aDel id m) :: Cl q (cIt l[last]).toArray 55 :: L) w4 := heapI_mk g6
    by_cases hlt : k < last
    · simp [hlt]
      obtain ⟨u1, u2, u3⟩ := R.dropAt hnd h2 hx (by omega)
      have hkd : k < l.dropLast.length := by simp; omega
      rw [ldx g7.f1.cl]
      simp only [bindP_some]
      refine put_spec g7 hkd fun w5 g8 => ?_
      have hxx : (l.dropLast.set k l[last])[k]? = some l[last] := by rw [get_set _ _ _ _ hkd, if_pos rfl]
      refine up_spec g8 hxx (by simp; omega) fun w6 g9 => ?_
      obtain ⟨pp, hpl, hg, hgx, f1, f2, f3⟩ := fix_ok hxx u1 u2
      obtain ⟨p', sv', mv', he, hs9⟩ := heapI_iff.1 g9.drew
      obtain rfl : p = p' := by simpa [ptr] using he
      have lk := look1 (k := l[last].1) hs9.f2 Kint um124 z3
      simp only [ekI, hg] at lk
      have hq := g9.f1.cl
      simp only [cell_drew, cell_of hs9.cl, cell_of hq]
      simp [cell_of (show w6.heap[p]? = _ from hs9.cl), cell_of hq, cIt, lk, evI]
      refine down_spec g9.drew hgx (by rw [upL_len]; simp; omega) fun w7 g10 => ?_
      unfold F29_2 F29_2b
      refine hK _ (heap_mk ⟨f2, f1, f3.trans u3, R.s.drop id⟩ ?_ hn.2 g10.f1.drop)
      have := f3.length_eq
      simp at this; omega
    · simp [hlt]
      have hkl : k = l.length - 1 := by omega
      unfold F29_2 F29_2b
      exact hK _ (heap_mk (R.dropLast hnd (by rw [← hkl]; exact h2)) (by simp; omega) hn.2 g7.f1.drop)
  · simp [h1]
    simp [h2, drop_absent h3] at hK
    exact hK _ h0
def takeM (now : Int) (M : List It) : List It := M.takeWhile fun x => decide (x.2 ≤ now)
def leaveM (now : Int) (M : List It) : List It := M.dropWhile fun x => decide (x.2 ≤ now)
theorem heap_ids (h : Sat w0 (HeapH v n M :: L) w) : (M.map (·.1)).Nodup := by
  obtain ⟨l, m, ⟨R, hn⟩, h⟩ := heap_iff.1 h
  exact R.ids
theorem heap_asc (h : Sat w0 (HeapH v n M :: L) w) : Asc M := by
  obtain ⟨l, m, ⟨R, hn⟩, h⟩ := heap_iff.1 h
  exact R.s
theorem heap_bd (h : Sat w0 (HeapH v n M :: L) w) : (M.length : Int) ≤ n ∧ n ≤ 65536 := by
  obtain ⟨l, m, ⟨R, hn⟩, h⟩ := heap_iff.1 h
  have := R.p.length_eq
  omega
theorem heap_ptr (h : Sat w0 (HeapH v n M :: L) w) : ∃ p, v = ptr p := by
  obtain ⟨l, m, ⟨R, hn⟩, h⟩ := heap_iff.1 h
  obtain ⟨p, _, _, rfl, _⟩ := heapI_iff.1 h
  exact ⟨p, rfl⟩
theorem due_loop {now : Int} {hv : Value} : ∀ (d : Nat) (M out : List It) (w : World) (q : Nat) (s : Value), M.length < d → M.length + out.length ≤ 65536 →
    Sat w0 (HeapH hv n M :: LsH cIt 2 55 s out :: Cl q (cIt (M.head?.getD (0, 0))).toArray 55 :: L) w →
    (∀ w' s', Sat w0 (HeapH hv n (leaveM now M) :: LsH cIt 2 55 s' (out ++ takeM now M) :: L) w' → K s' w') → F35_2L d hv (.int .i64 now) s (ptr q) (.bool M.head?.isSome) w K := by
  intro d
  induction d with
  | zero => intro M out w q s hd; omega
  | succ d ih =>
    intro M out w q s hd hb h hK
    rw [F35_2L]
    unfold F35_2b
    cases M with
    | nil =>
      simp [F35_3, F35_3b]
      refine hK _ _ ?_
      simp [leaveM, takeM]
      exact h.f2.drop
    | cons x M =>
      have hq := h.f2.cl
      simp only [List.head?_cons, Option.getD_some] at hq h
      have hc1 : w.cell? ⟨q, 1, none⟩ = some (.int .i64 x.2) := by rw [cell_of hq]; rfl
      have hc0 : w.cell? ⟨q, 0, none⟩ = some (.int .i64 x.1) := by rw [cell_of hq]; rfl
      by_cases hx : x.2 ≤ now
      · have hids := heap_ids h
        have hd1 : dropM x.1 (x :: M) = M := by
          simp only [List.map_cons, List.nodup_cons] at hids
          have e : dropM x.1 (x :: M) = dropM x.1 M := by simp [dropM]
          rw [e]
          exact drop_absent fun t ht => hids.1 (List.mem_map_of_mem (f := (·.1)) ht)
        simp [ptr, hc1, hc0, hx]
        refine drop_spec h fun w1 h1 => ?_
        rw [hd1] at h1
        rw [ldx h1.f2.cl]
        simp only [bindP_some]
        refine ls_lit (f := cIt) (es := 2) (m := [x]) (c := (cIt x).toArray) CIt h1 u52 (by kernel_rfl) (by simp) fun s1 w2 h2 => ?_
        simp only [List.length_cons] at hb hd
        refine ls_app (m := [x]) CIt h2.f2 sl52 ss52 (ls_rd h2.f1.f1) (by simp; omega) fun s2 w3 h3 => ?_
        have hq3 := h3.f3.cl
        rw [ldx hq3]
        simp only [bindP_some]
        refine eAlloc_sat h3 z55 fun q2 w4 h4 => ?_
        refine bindW_stN h4 (by simp [cIt]) (by simp [cIt]) (by simp) fun w5 h5 => ?_
        have h6 := h5.pick [3, 1, 0] [2, 4] 5 (by decide) (by simp)
        refine first_spec h6 fun w6 h7 => ?_
        simp only [firstR]
        simp [pTuple]
        refine bindW_stN (o := 0) h7.f2 (by simp [cIt]) (by simp [cIt]) (by simp [wr, cIt]) fun w7 h8 => ?_
        have e2 : wr (wr (Value.agg #[(.int .i64 0), (.int .i64 0)]).cells 0 (Value.agg (cIt x).toArray).cells.toList) 0 (Value.agg (cIt (M.head?.getD (0, 0))).toArray).cells.toList = (cIt (M.head?.getD (0, 0))).toArray := by simp [wr, cIt]
        have h9 := h8
        have key := ih M (out ++ [x]) w7 q2 s2 (by omega) (by simp; omega) (by
          have := h9.pick [1, 2, 0] [] 3 (by decide) (by simp)
          rw [← e2]; exact this) fun w' s' h' => hK w' s' (by
          simp only [leaveM, takeM, List.takeWhile_cons, List.dropWhile_cons, hx, decide_true, if_true]
          simpa [leaveM, takeM] using h')
        simpa [ptr] using key
      · simp [ptr, hc1, hx, F35_3, F35_3b]
        refine hK _ _ ?_
        simp [leaveM, takeM, hx]
        exact h.f2.drop
theorem due_spec {now : Int} (h : Sat w0 (HeapH v n M :: L) w) (hK : ∀ s w', Sat w0 (LsH cIt 2 55 s (takeM now M) :: HeapH v n (leaveM now M) :: L) w' → K s w') : callP G35 [v, .int .i64 now] w K := by
  refine c35 ?_
  unfold F35 F35_1 F35_1b
  have hb := heap_bd h
  refine first_spec h fun w1 h1 => ?_
  simp only [firstR]
  simp [pTuple]
  refine eAlloc_sat h1 z55 fun q w2 h2 => ?_
  refine bindW_stN h2 (by simp [cIt]) (by simp [cIt]) (by simp) fun w3 h3 => ?_
  have e : wr (Value.agg #[(.int .i64 0), (.int .i64 0)]).cells 0 (Value.agg (cIt (M.head?.getD (0, 0))).toArray).cells.toList = (cIt (M.head?.getD (0, 0))).toArray := by simp [wr, cIt]
  rw [e] at h3
  refine due_loop fuel M [] w3 q _ (by unfold fuel; omega) (by simp; omega) (ls_nil h3).f2 fun w' s' h' => ?_
  exact hK _ _ (by simpa using h'.f1)
end
end Go.Proofs.Gong
