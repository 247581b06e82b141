/- A part of the proofs: what stands below it, told in lemmas. No condition. -/
import Derived.Test.YtpbfmiphjcmjjaaHp4
set_option linter.all false
namespace Go.Proofs.Gong
open Go Go.Sx Go.Proofs
set_option maxRecDepth 100000
def HeapH (v : Value) (n : Int) (M : List It) : HP := HEx fun l => HEx fun m => HPr (HRep l m M ∧ (l.length : Int) ≤ n ∧ n ≤ 65536) (HeapI v n l m)
section
variable {w0 w : World} {L : List HP} {K : Value → World → Prop} {v : Value} {n : Int} {l : List It} {m : Pl} {M : List It}
theorem heap_iff : Sat w0 (HeapH v n M :: L) w ↔ ∃ l m, (HRep l m M ∧ (l.length : Int) ≤ n ∧ n ≤ 65536) ∧ Sat w0 (HeapI v n l m :: L) w := by
  simp only [HeapH, Sat.ex_iff, Sat.pr_iff]
theorem heap_mk (R : HRep l m M) (h1 : (l.length : Int) ≤ n) (h2 : n ≤ 65536) (h : Sat w0 (HeapI v n l m :: L) w) : Sat w0 (HeapH v n M :: L) w := heap_iff.2 ⟨l, m, ⟨R, h1, h2⟩, h⟩
theorem heapI_nd (h : Sat w0 (HeapI v n l m :: L) w) : (m.map Prod.fst).Nodup := by
  obtain ⟨p, sv, mv, _, hs⟩ := heapI_iff.1 h
  exact map_nd hs.f2
theorem len_spec (h : Sat w0 (HeapH v n M :: L) w) (hK : K (.int .i64 M.length) w) : callP G75 [v] w K := by
  refine c75 ?_
  unfold F75
  obtain ⟨l, m, ⟨R, _⟩, h⟩ := heap_iff.1 h
  obtain ⟨p, sv, mv, rfl, hs⟩ := heapI_iff.1 h
  simp [ptr, cell_of hs.cl, ls_len hs.f1]
  rw [R.p.length_eq]; exact hK
def getR (id : Int) (M : List It) : Value := .tuple #[.int .i64 ((getM id M).getD 0), .bool (getM id M).isSome]
theorem get_spec {id : Int} (h : Sat w0 (HeapH v n M :: L) w) (hK : K (getR id M) w) : callP G85 [v, .int .i64 id] w K := by
  refine c85 ?_
  unfold F85
  obtain ⟨l, m, ⟨R, _⟩, h⟩ := heap_iff.1 h
  obtain ⟨p, sv, mv, rfl, hs⟩ := heapI_iff.1 h
  have lk := look2 (k := id) hs.f2 Kint um124 z3
  simp only [ekI] at lk
  simp [ptr, cell_of hs.cl, lk]
  rcases R.get id with ⟨k, t, h1, h2, h3⟩ | ⟨h1, h2, _⟩
  · have hk : k < l.length := (List.getElem?_eq_some_iff.1 h2).1
    obtain ⟨b, o, e1, _, e3⟩ := (ls_rd hs.f1).elem CIt.len rfl hk (j := .i64)
    have hlk : l[k] = (id, t) := (List.getElem?_eq_some_iff.1 h2).2
    have c1 : w.cell? ⟨b, o + 1, none⟩ = some (.int .i64 t) := by
      rcases e3 1 with h | h
      · rw [h, hlk]; rfl
      · omega
    simp [h1, evI, e1, c1]
    simp [getR, h3] at hK
    exact hK
  · simp [h1]
    simp [getR, h2] at hK
    exact hK
def firstR (M : List It) : Value := .tuple #[.agg (cIt (M.head?.getD (0, 0))).toArray, .bool M.head?.isSome]
theorem first_spec (h : Sat w0 (HeapH v n M :: L) w) (hK : ∀ w', Sat w0 (HeapH v n M :: L) w' → K (firstR M) w') : callP G83 [v] w K := by
  refine c83 ?_
  unfold F83
  obtain ⟨l, m, ⟨R, hn⟩, h⟩ := heap_iff.1 h
  have hf := R.first
  refine eAlloc_sat h z55 fun q w1 h1 => ?_
  obtain ⟨p, sv, mv, rfl, hs⟩ := heapI_iff.1 h1.f1
  have hl := hs.f1
  simp [ptr, cell_of hs.cl, ls_len hl]
  have fin : ∀ (x : It) (k : World → Prop), (∀ w2, ldN 2 (.pointer (some ⟨q, 0, none⟩)) w2 = some (.agg (cIt x).toArray) → Sat w0 (HeapH (ptr p) n M :: L) w2 → k w2) → bindW (st 2 (.pointer (some ⟨q, 0, none⟩)) (.agg (cIt x).toArray) w1) k := by
    intro x k hk
    refine bindW_stN h1 (by simp [cIt]) (by simp [cIt]) (by simp) fun w2 h2 => ?_
    have e : wr (Value.agg #[(.int .i64 0), (.int .i64 0)]).cells 0 (Value.agg (cIt x).toArray).cells.toList = (cIt x).toArray := by simp [wr, cIt]
    rw [e] at h2
    exact hk w2 (ldx h2.cl) (heap_mk R hn.1 hn.2 h2.drop)
  cases l with
  | nil =>
    have e : fBuild Try.prog 55 [] = some (.agg (cIt (0, 0)).toArray) := by kernel_rfl
    simp at hf
    simp [e]
    refine fin (0, 0) _ fun w2 hw h2 => ?_
    rw [hw]
    simp [firstR, ← hf] at hK
    exact hK _ h2
  | cons x l =>
    have e0 := ls_ix hl (i := 0) (by simp)
    have e1 := ls_ld CIt hl (i := 0) (by simp)
    simp at hf e0 e1
    have : ¬ ((l.length : Int) + 1 = 0) := by omega
    simp [this, e0, e1]
    refine fin x _ fun w2 hw h2 => ?_
    rw [hw]
    simp [firstR, ← hf] at hK
    exact hK _ h2
def setR (n id t : Int) (M : List It) : Int × List It :=
  if t < 0 ∨ 2305843009213693952 < t then (1, M) else if getM id M = none ∧ n ≤ M.length then (200, M) else (0, setM id t M)
theorem set2_spec {p i : Nat} {id t : Int} {l0 : List It} (h : Sat w0 (HeapI (ptr p) n l0 m :: L) w) (hi : i < l0.length) (hU : Up (l0.set i (id, t)) i (id, t)) (hI : Idx (l0.set i (id, t)) (aSet id i m)) (hp : (l0.set i (id, t)).Perm (setM id t M)) (hM : Asc M)
    (hn : (l0.length : Int) ≤ n ∧ n ≤ 65536) (hK : ∀ w', Sat w0 (HeapH (ptr p) n (setM id t M) :: L) w' → K (.int .i64 0) w') : F28_2 (ptr p) (.int .i64 id) (.int .i64 t) (.int .i64 i) w K := by
  unfold F28_2 F28_2b
  have e : fBuild Try.prog 55 [(0, .int .i64 id), (1, .int .i64 t)] = some (.agg (cIt (id, t)).toArray) := by kernel_rfl
  rw [e]
  simp only [bindP_some]
  refine put_spec h hi fun w1 h1 => ?_
  have hx : (l0.set i (id, t))[i]? = some (id, t) := by simp [hi]
  refine up_spec h1 hx (by simp; omega) fun w2 h2 => ?_
  obtain ⟨pp, hpl, hg, hgx, f1, f2, f3⟩ := fix_ok hx hU hI
  obtain ⟨p', sv, mv, he, hs⟩ := heapI_iff.1 h2
  obtain rfl : p = p' := by simpa [ptr] using he
  have lk := look1 (k := id) hs.f2 Kint um124 z3
  simp only at hg
  simp only [ekI, hg] at lk
  simp [ptr, cell_of hs.cl, lk, evI]
  refine down_spec h2 hgx (by rw [upL_len]; simp; omega) fun w3 h3 => ?_
  refine hK _ (heap_mk ⟨f2, f1, f3.trans hp, (hM.drop id).ins _⟩ ?_ hn.2 h3)
  have := f3.length_eq
  simp at this; omega
theorem set_spec {id t : Int} (h : Sat w0 (HeapH v n M :: L) w) (hK : ∀ w', Sat w0 (HeapH v n (setR n id t M).2 :: L) w' → K (.int .i64 (setR n id t M).1) w') : callP G28 [v, .int .i64 id, .int .i64 t] w K := by
  refine c28 ?_
  unfold F28 F28_1 F28_1b
  have h0 := h
  obtain ⟨l, m, ⟨R, hn⟩, h⟩ := heap_iff.1 h
  by_cases hr : t < 0 ∨ 2305843009213693952 < t
  · simp only [setR, hr, if_true] at hK
    rcases hr with hr | hr
    · simp [hr]; exact hK _ h0
    · have : ¬ t < 0 := by omega
      simp [this, hr]; exact hK _ h0
  have r1 : ¬ t < 0 := by omega
  have r2 : ¬ 2305843009213693952 < t := by omega
  simp only [setR, hr, if_false] at hK
  obtain ⟨p, sv, mv, rfl, hs⟩ := heapI_iff.1 h
  have lk := look2 (k := id) hs.f2 Kint um124 z3
  simp only [ekI] at lk
  simp [r1, r2, ptr, cell_of hs.cl, lk]
  have hlen := R.p.length_eq
  rcases R.get id with ⟨k, t', h1, h2, h3⟩ | ⟨h1, h2, h3⟩
  · have hk : k < l.length := (List.getElem?_eq_some_iff.1 h2).1
    obtain ⟨u1, u2, u3⟩ := R.put (t' := t) h2
    simp [h3] at hK
    simp [h1, evI]
    exact set2_spec h hk u1 u2 u3 R.s hn hK
  · obtain ⟨u1, u2, u3⟩ := R.add (t' := t) h1
    simp [h1, h2, ls_len hs.f1] at hK ⊢
    by_cases hfull : n ≤ l.length
    · simp [hfull]
      have : n ≤ M.length := by omega
      simp [this] at hK
      exact hK _ h0.drew
    · have : ¬ n ≤ M.length := by omega
      simp [this] at hK
      simp [hfull]
      have e : fBuild Try.prog 55 [] = some (.agg (cIt (0, 0)).toArray) := by kernel_rfl
      rw [e]
      simp only [bindP_some]
      refine ls_lit (f := cIt) (es := 2) (m := [(0, 0)]) (c := (cIt (0, 0)).toArray) CIt hs.drew u52 (by kernel_rfl) (by simp) fun s1 w1 g1 => ?_
      refine ls_app (m := [(0, 0)]) CIt g1.f2 sl52 ss52 (ls_rd g1) (by simp; omega) fun s2 w2 g2 => ?_
      have := ls_one g2
      refine bindW_st g2.f2 (by simp) fun w3 g3 => ?_
      have g4 := g3.pick [0, 1, 3] [2] 4 (by decide) (by simp)
      have g5 : Sat w0 (HeapI (ptr p) n (l ++ [(0, 0)]) m :: L) w3 := heapI_mk (p := p) (sv := s2) (mv := mv) g4
      have es : (l ++ [((0, 0) : It)]).set l.length (id, t) = l ++ [(id, t)] := by simp
      refine set2_spec (M := M) g5 (by simp) (by rw [es]; exact u1) (by rw [es]; exact u2) (by rw [es]; exact u3) R.s ⟨by simp; omega, hn.2⟩ hK
end
end Go.Proofs.Gong
