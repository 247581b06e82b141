/- A part of the proofs: what stands below it, told in lemmas. No condition. -/
import Derived.Test.YtpbfmiphjcmjjaaHp6
set_option linter.all false
namespace Go.Proofs.Gong
open Go Go.Sx Go.Proofs
set_option maxRecDepth 100000
section
variable {w0 w : World} {L : List HP} {K : Value → World → Prop} {v : Value} {n : Int} {l : List It} {m : Pl} {M : List It}
theorem new_spec {n : Int} (h : Sat w0 L w) (hK0 : (n < 1 ∨ 65536 < n) → K (.tuple #[.pointer none, .int .i64 1]) w)
    (hK : ∀ p w', 1 ≤ n → n ≤ 65536 → Sat w0 (HeapH (ptr p) n [] :: L) w' → K (.tuple #[ptr p, .int .i64 0]) w') : callP G26 [.int .i64 n] w K := by
  refine c26 ?_
  unfold F26
  by_cases h1 : n < 1
  · simp [h1]; exact hK0 (.inl h1)
  by_cases h2 : 65536 < n
  · simp [h1, h2]; exact hK0 (.inr h2)
  simp [h1, h2]
  refine eMakeMap_sat ekI evI h fun mv w1 g1 => ?_
  have := map_one g1
  obtain ⟨r, es, c, ⟨rfl, _⟩, _⟩ := map_iff.1 g1
  have e : fBuild Try.prog 126 [(0, .int .i64 n), (2, .map (some r))] = some (.agg #[.int .i64 n, .slice none 0 0, .map (some r)]) := by kernel_rfl
  rw [e]
  simp only [bindP_some]
  refine eBox_sat g1 fun p w2 g2 => ?_
  refine hK p w2 (by omega) (by omega) (heap_mk (l := []) (m := []) ⟨⟨by simp [aGet], by simp⟩, fun k h x y hx => by simp at hx, .refl _, by simp [Asc]⟩ (by simp; omega) (by omega) (heapI_mk (p := p) (sv := .slice none 0 0) (mv := .map (some r)) ?_))
  exact (ls_nil g2).f1
theorem cl_spec {s : Value} (h : Sat w0 (LsH cIt 2 55 s l :: L) w) (hlen : l.length ≤ 65536) (hK : ∀ s' w', Sat w0 (LsH cIt 2 55 s' l :: LsH cIt 2 55 s l :: L) w' → K s' w') : callP G79 [s] w K := by
  refine c79 ?_
  unfold F79
  obtain ⟨a, c, rfl, _⟩ := (ls_rd h).cap
  rw [bEq_nils u52]
  simp only [bindP_some]
  cases a with
  | none =>
    simp
    have : l = [] := by
      have hr := ls_rd h
      generalize hcs : l.flatMap cIt = cs at hr
      generalize hn : l.length = k at hr
      cases hr with
      | emp => exact List.eq_nil_of_length_eq_zero hn
    subst this
    exact hK _ _ (ls_nil h)
  | some a =>
    simp
    refine ls_lit (f := cIt) (es := 2) (m := []) (c := #[]) CIt h u52 (by kernel_rfl) (by simp) fun s1 w1 h1 => ?_
    refine ls_app (m := l) CIt h1 sl52 ss52 (ls_rd h1.f1) (by simp; omega) fun s2 w2 h2 => ?_
    exact hK _ _ (by simpa using h2)
theorem mcl_spec {mv : Value} (h : Sat w0 (MapH ekI evI mv m :: L) w) (hK : ∀ v' w', Sat w0 (MapH ekI evI v' m :: MapH ekI evI mv m :: L) w' → K v' w') : callP G84 [mv] w K := by
  refine c84 ?_
  unfold F84
  obtain ⟨r, es, c, ⟨rfl, _⟩, _⟩ := map_iff.1 h
  rw [bEq_nilm um124, fMkI_of um124 (by intro _ h; cases h)]
  simp
  refine gClone_sat h fun v' w1 h1 => ?_
  rw [fAssert_of um124 (by intro _ h; cases h)]
  exact hK _ _ h1
theorem fork_spec (h : Sat w0 (HeapH v n M :: L) w) (hK : ∀ p w', Sat w0 (HeapH (ptr p) n M :: HeapH v n M :: L) w' → K (ptr p) w') : callP G37 [v] w K := by
  refine c37 ?_
  unfold F37
  obtain ⟨l, m, ⟨R, hn⟩, h⟩ := heap_iff.1 h
  obtain ⟨p, sv, mv, rfl, hs⟩ := heapI_iff.1 h
  simp [ptr, cell_of hs.cl]
  refine cl_spec hs.drew.f1 (by omega) fun s1 w1 h1 => ?_
  refine ⟨by simp [cell_of h1.f2.cl], ?_⟩
  refine mcl_spec h1.f3 fun m1 w2 h2 => ?_
  refine ⟨by simp [cell_of h2.f4.cl], ?_⟩
  have o1 := map_one h2
  obtain ⟨r, es, c, ⟨rfl, _⟩, _⟩ := map_iff.1 h2
  obtain ⟨a, cc, rfl, _⟩ := (ls_rd h2.f2).cap
  have e : fBuild Try.prog 126 [(0, .int .i64 n), (1, .slice a l.length cc), (2, .map (some r))] = some (.agg #[.int .i64 n, .slice a l.length cc, .map (some r)]) := by kernel_rfl
  rw [e]
  simp only [bindP_some]
  refine eBox_sat h2 fun q w3 h3 => ?_
  refine hK q w3 (heap_mk R hn.1 hn.2 (heapI_mk (p := q) (sv := .slice a l.length cc) (mv := .map (some r)) ?_))
  have h4 : Sat w0 (Cl p #[.int .i64 n, sv, mv] 126 :: LsH cIt 2 55 sv l :: MapH ekI evI mv m :: Cl q #[.int .i64 n, .slice a l.length cc, .map (some r)] 126 :: LsH cIt 2 55 (.slice a l.length cc) l :: MapH ekI evI (.map (some r)) m :: L) w3 :=
    h3.pick [5, 4, 2, 0, 3, 1] [] 6 (by decide) (by simp)
  have h5 := heap_mk R hn.1 hn.2 (heapI_mk h4)
  have h6 := h5.f3.f3.f3
  exact h6
theorem below_spec {x n : Int} (hn : 0 < n) (hn2 : n < 1000000) (hK : ∀ r : Int, 0 ≤ r → r < n → r = (x.tmod n + n).tmod n → K (.int .i64 r) w) : callP G15 [.int .i64 x, .int .i64 n] w K := by
  refine c15 ?_
  unfold F15
  have h1 := Int.tmod_lt_of_pos x hn
  have h2 : -n < x.tmod n := by
    have := Int.lt_tmod_of_pos x hn
    omega
  have h3 := Int.tmod_nonneg n (show (0 : Int) ≤ x.tmod n + n by omega)
  have h4 := Int.tmod_lt_of_pos (x.tmod n + n) hn
  simp [bRem_int _ _ _ (show n ≠ 0 by omega), wrap_id (show -9223372036854775808 ≤ x.tmod n + n ∧ x.tmod n + n ≤ 9223372036854775807 by omega)]
  exact hK _ h3 h4 rfl
theorem works_spec (h : Sat w0 L w) (hK : ∀ w', Sat w0 L w' → K (.bool true) w') : callP G27 [] w K := by
  refine c27 ?_
  unfold F27
  refine new_spec h (fun h => by omega) fun p w1 _ _ h1 => ?_
  simp [bEq_nilp up46, ptr] at h1 ⊢
  refine set_spec h1 fun w2 h2 => ?_
  have e1 : setR 9 7 20 [] = (0, [(7, 20)]) := by decide
  rw [e1] at h2 ⊢
  simp
  refine set_spec h2 fun w3 h3 => ?_
  have e2 : setR 9 3 10 [(7, 20)] = (0, [(3, 10), (7, 20)]) := by decide
  rw [e2] at h3 ⊢
  simp
  refine set_spec h3 fun w4 h4 => ?_
  have e3 : setR 9 9 20 [(3, 10), (7, 20)] = (0, [(3, 10), (7, 20), (9, 20)]) := by decide
  rw [e3] at h4 ⊢
  simp
  refine due_spec h4 fun s w5 h5 => ?_
  have e4 : takeM 20 [(3, 10), (7, 20), (9, 20)] = [(3, 10), (7, 20), (9, 20)] := by decide
  have e5 : leaveM 20 [(3, 10), (7, 20), (9, 20)] = [] := by decide
  rw [e4, e5] at h5
  have f : ∀ i : Nat, i < 3 → ∃ a, pIndexL 2 s (.int .i64 i) = some (.pointer (some a)) ∧ pFieldAddr 0 (.pointer (some a)) = some (.pointer (some a)) ∧ w5.cell? a = some (.int .i64 ([3, 7, 9].getD i 0)) := by
    intro i hi
    obtain ⟨b, o, e1, _, e3⟩ := (ls_rd h5).elem CIt.len rfl (i := i) (by simpa using hi) (j := .i64)
    refine ⟨⟨b, o, none⟩, e1, by simp, ?_⟩
    rcases e3 0 with h | h
    · rw [Nat.add_zero] at h; rw [h]
      have : i = 0 ∨ i = 1 ∨ i = 2 := by omega
      rcases this with rfl | rfl | rfl <;> rfl
    · omega
  obtain ⟨a0, b0, c0, d0⟩ := f 0 (by omega)
  obtain ⟨a1, b1, c1, d1⟩ := f 1 (by omega)
  obtain ⟨a2, b2, c2, d2⟩ := f 2 (by omega)
  simp at b0 b1 b2 d0 d1 d2
  simp [ls_len h5, b0, c0, d0, b1, c1, d1, b2, c2, d2]
  refine len_spec h5.f1 ?_
  simp
  exact hK _ h5.drop.drop
end
end Go.Proofs.Gong
