/- A part of the proofs: what stands below it, told in lemmas. No condition. -/
import Derived.Test.YtkbflbmgilgolaaHp7
namespace Go.Proofs.Gong
open Go Go.Sx Go.Proofs
set_option maxRecDepth 100000
/-! plain: the same deadlines, in order and in a table -/
theorem aSet_perm {id t : Int} : ∀ {s : List It}, (s.map (·.1)).Nodup → (aSet id t s).Perm ((id, t) :: dropM id s)
  | [], _ => by simp [aSet, dropM]
  | y :: s, h => by
    simp only [List.map_cons, List.nodup_cons] at h
    by_cases e : id = y.1
    · have : dropM id (y :: s) = dropM id s := by simp [dropM, e]
      rw [this, drop_absent fun t' ht => h.1 (by rw [← e]; exact List.mem_map_of_mem (f := (·.1)) ht)]
      simp [aSet, e]
    · have : dropM id (y :: s) = y :: dropM id s := by simp [dropM, Ne.symm e]
      rw [this]
      simp only [aSet, e, if_false]
      exact ((aSet_perm h.2).cons y).trans (List.Perm.swap _ _ _)
theorem set_aSet {id t : Int} {M s : List It} (hp : M.Perm s) (hn : (s.map (·.1)).Nodup) : (setM id t M).Perm (aSet id t s) := by
  refine (insM_perm _ _).trans (List.Perm.trans ?_ (aSet_perm hn).symm)
  exact (hp.filter _).cons _
theorem setM_mem {id t : Int} {M : List It} {x : It} (h : x ∈ setM id t M) : x = (id, t) ∨ x ∈ M := by
  rcases List.mem_cons.1 ((insM_perm _ _).subset h) with h | h
  · exact .inl h
  · exact .inr (List.mem_filter.1 h).1
theorem setM_len {id t : Int} {M : List It} : (setM id t M).length ≤ M.length + 1 := by
  have := (insM_perm (id, t) (dropM id M)).length_eq
  have h2 : (dropM id M).length ≤ M.length := List.length_filter_le _ _
  unfold setM
  simp at this; omega
theorem take_all {now : Int} : ∀ {N : List It}, (∀ x ∈ N, x.2 ≤ now) → takeM now N = N ∧ leaveM now N = []
  | [], _ => by simp [takeM, leaveM]
  | x :: N, h => by
    have h1 := h x (by simp)
    obtain ⟨e1, e2⟩ := take_all (N := N) fun y hy => h y (by simp [hy])
    unfold takeM leaveM at *
    simp [h1, e1, e2]
theorem take_leave (now : Int) (M : List It) : takeM now M ++ leaveM now M = M := List.takeWhile_append_dropWhile
section
variable {w0 w : World} {L : List HP} {K : Value → World → Prop}
theorem once1 {hv mv lv tv : Value} {l : List It} (hrd : Rd w0 2 lv l.length (l.flatMap cIt))
    (hK : ∀ w' M s, Sat w0 (HeapH hv 1000 M :: MapH ekI evI mv s :: L) w' → M.Perm s → M.length ≤ 100 → (∀ x ∈ M, 0 ≤ x.2 ∧ x.2 < 1000) → F4_3 tv hv mv w' K) :
    ∀ (d i : Nat) (w : World) (M s : List It), 100 - i < d → i ≤ 100 → Sat w0 (HeapH hv 1000 M :: MapH ekI evI mv s :: L) w → M.Perm s → M.length ≤ i → (∀ x ∈ M, 0 ≤ x.2 ∧ x.2 < 1000) → F4_2L d lv tv hv mv (.int .i64 i) w K := by
  intro d
  induction d with
  | zero => intro i w M s hd; omega
  | succ d ih =>
    intro i w M s hd hi h hp hlen ht
    rw [F4_2L]
    unfold F4_2b
    simp only [hrd.len, bindP_some]
    by_cases h1 : i < l.length ∧ i < 100
    · obtain ⟨h1, h2⟩ := h1
      obtain ⟨b, o, e1, _, e3⟩ := (hrd.sat h).elem CIt.len rfl h1 (j := .i64)
      have c0 : w.cell? ⟨b, o, none⟩ = some (.int .i64 l[i].1) := by
        rcases e3 0 with h | h
        · exact h
        · omega
      have c1 : w.cell? ⟨b, o + 1, none⟩ = some (.int .i64 l[i].2) := by
        rcases e3 1 with h | h
        · exact h
        · omega
      have i2 : (i : Int) < 100 := by omega
      simp [h1, i2, e1, pIndexP, c0, c1]
      refine below_spec (by omega) (by omega) fun a ha0 ha1 _ => ⟨by simpa using c1, ?_⟩
      refine below_spec (by omega) (by omega) fun t ht0 ht1 _ => ?_
      have hset : setR 1000 a t M = (0, setM a t M) := by
        unfold setR
        rw [if_neg (by omega), if_neg (by omega)]
      refine set_spec h.drew fun w1 g1 => ?_
      rw [hset] at g1 ⊢
      simp
      refine eMapSet_sat g1.f1 Kint um42 a t fun w2 g2 => ?_
      simp [wrap_id (show -9223372036854775808 ≤ (i : Int) + 1 ∧ (i : Int) + 1 ≤ 9223372036854775807 by omega)]
      refine ih (i + 1) w2 _ _ (by omega) (by omega) g2.f1 (set_aSet hp ?_) ?_ ?_
      · exact map_nd h.f1
      · have := setM_len (id := a) (t := t) (M := M)
        show (setM a t M).length ≤ i + 1
        omega
      · intro x hx
        rcases setM_mem hx with rfl | hx
        · exact ⟨ht0, ht1⟩
        · exact ht x hx
    · have fin := hK w M s h hp (by omega) ht
      by_cases h2 : i < l.length
      · have : ¬ ((i : Int) < 100) := by omega
        simp [h2, this]; exact fin
      · simp [h2]; exact fin
theorem once2 {hv mv xv tv : Value} {tk : List Int} {M0 s : List It} (hrd : Rd w0 1 tv tk.length (tk.flatMap cI)) (hM : M0.length ≤ 100)
    (hK : ∀ w' g M gv, Sat w0 (LsH cIt 2 49 gv g :: HeapH hv 1000 M :: HeapH xv 1000 M0 :: MapH ekI evI mv s :: L) w' → g ++ M = M0 → F4_5 hv mv xv gv w' K) :
    ∀ (d i : Nat) (w : World) (g M : List It) (now : Int) (gv : Value), 50 - i < d → i ≤ 50 → 0 ≤ now → now ≤ 100 * i → g ++ M = M0 →
      Sat w0 (LsH cIt 2 49 gv g :: HeapH hv 1000 M :: HeapH xv 1000 M0 :: MapH ekI evI mv s :: L) w → F4_4L d tv hv mv xv gv (.int .i64 now) (.int .i64 i) w K := by
  intro d
  induction d with
  | zero => intro i w g M now gv hd; omega
  | succ d ih =>
    intro i w g M now gv hd hi hn0 hn1 hg h
    rw [F4_4L]
    unfold F4_4b
    simp only [hrd.len, bindP_some]
    by_cases h1 : i < tk.length ∧ i < 50
    · obtain ⟨h1, h2⟩ := h1
      have i2 : (i : Int) < 50 := by omega
      have e1 := rd_ld1 (g := fun c => .int .i64 c) (hrd.sat h) h1
      simp [h1, i2, ix_el (hrd.sat h) h1, e1]
      refine below_spec (by omega) (by omega) fun a ha0 ha1 _ => ?_
      simp [wrap_id (show -9223372036854775808 ≤ now + a ∧ now + a ≤ 9223372036854775807 by omega)]
      refine due_spec h.f1 fun s1 w1 g1 => ?_
      have hlg : g.length + M.length ≤ 100 := by rw [← hg] at hM; simpa using hM
      have hlt : (takeM (now + a) M).length ≤ M.length := by
        have := congrArg List.length (take_leave (now + a) M)
        simp at this; omega
      refine ls_app (m := takeM (now + a) M) CIt g1.f2 sl46 ss46 (ls_rd g1) (by omega) fun s2 w2 g2 => ?_
      simp [wrap_id (show -9223372036854775808 ≤ (i : Int) + 1 ∧ (i : Int) + 1 ≤ 9223372036854775807 by omega)]
      refine ih (i + 1) w2 _ (leaveM (now + a) M) _ s2 (by omega) (by omega) (by omega) (by omega) ?_ g2.f1.drop
      rw [List.append_assoc, take_leave]; exact hg
    · have fin := hK w g M gv h hg
      by_cases h2 : i < tk.length
      · have : ¬ ((i : Int) < 50) := by omega
        simp [h2, this]; exact fin
      · simp [h2]; exact fin
theorem once3 {mv gv av : Value} {M s : List It} (hp : M.Perm s) (hA : Asc M) (hn : (M.map (·.1)).Nodup) (hlen : M.length ≤ 100) (hK : ∀ w', Sat w0 L w' → K (.bool true) w') :
    ∀ (d i : Nat) (w : World), M.length - i < d → i ≤ M.length → Sat w0 (LsH cIt 2 49 av M :: LsH cIt 2 49 gv M :: MapH ekI evI mv s :: L) w →
      F4_6L d mv gv av av (.int .i64 M.length) (.int .i64 i) w K := by
  intro d
  induction d with
  | zero => intro i w hd; omega
  | succ d ih =>
    intro i w hd hi h
    rw [F4_6L]
    unfold F4_6b
    by_cases h1 : i < M.length
    · simp [h1, ls_ix h h1, ls_ld CIt h h1]
      refine eAlloc_sat h z49 fun q w1 g1 => ?_
      refine bindW_stN g1 (by simp [cIt]) (by simp [cIt]) (by simp) fun w2 g2 => ?_
      have e : wr (Value.agg #[(.int .i64 0), (.int .i64 0)]).cells 0 (Value.agg (cIt M[i]).toArray).cells.toList = (cIt M[i]).toArray := by simp [wr, cIt]
      rw [e] at g2
      have hq := g2.cl
      have hc0 : w2.cell? ⟨q, 0, none⟩ = some (.int .i64 M[i].1) := by rw [cell_of hq]; rfl
      have hc1 : w2.cell? ⟨q, 1, none⟩ = some (.int .i64 M[i].2) := by rw [cell_of hq]; rfl
      have lk := look2 (k := M[i].1) g2.f3 Kint um42 z3
      have hget : aGet M[i].1 s = some M[i].2 := mem_aGet (map_nd g2.f3) (hp.subset (List.getElem_mem h1))
      simp only [ekI, hget] at lk
      have hl2 := g2.f2.f2.f2
      have ix2 := ls_ix g2.f2 h1
      have ld2 := ls_ld CIt g2.drew.f2 h1
      simp [ptr, hc0, hc1, lk, evI, ldx g2.drew.cl, ix2, ld2]
      simp only [cIt, ne49]
      simp
      have nx : IntKind.i64.wrap ((i : Int) + 1) = (i : Int) + 1 := wrap_id (by omega)
      by_cases h0 : 0 < i
      · have e1 : IntKind.i64.wrap ((i : Int) - 1) = ((i - 1 : Nat) : Int) := by rw [wrap_id (by omega)]; omega
        obtain ⟨b, o, f1, _, f3⟩ := (ls_rd g2.drew.drew.f1).elem CIt.len rfl (i := i - 1) (show i - 1 < M.length by omega) (j := .i64)
        have d0 : w2.drew.drew.cell? ⟨b, o, none⟩ = some (.int .i64 M[i - 1].1) := by
          rcases f3 0 with h | h
          · exact h
          · omega
        have d1 : w2.drew.drew.cell? ⟨b, o + 1, none⟩ = some (.int .i64 M[i - 1].2) := by
          rcases f3 1 with h | h
          · exact h
          · omega
        have hle := (List.pairwise_iff_getElem.1 hA) (i - 1) i (by omega) h1 (by omega)
        have hne : M[i - 1].1 ≠ M[i].1 := by
          intro e
          have := (List.pairwise_iff_getElem.1 (List.nodup_iff_pairwise_ne.1 hn)) (i - 1) i (by simp; omega) (by simpa using h1) (by omega)
          simp at this; exact this e
        simp only [itLt, Bool.or_eq_false_iff, decide_eq_false_iff_not, Bool.and_eq_false_iff] at hle
        simp only [cell_drew] at d0 d1
        have n1 : ¬ (M[i].2 < M[i - 1].2) := by omega
        simp [h0, e1, f1, d0, d1, hc0, hc1, n1]
        by_cases e2 : M[i - 1].2 = M[i].2
        · have n2 : ¬ (M[i].1 ≤ M[i - 1].1) := by omega
          simp [e1, f1, d0, d1, hc0, hc1, e2, n2, nx]
          exact ih (i + 1) _ (by omega) (by omega) g2.drew.drew.drop
        · simp [e1, f1, d0, d1, hc0, hc1, e2, nx]
          exact ih (i + 1) _ (by omega) (by omega) g2.drew.drew.drop
      · have : i = 0 := by omega
        subst this
        simp at nx ⊢
        exact ih 1 _ (by omega) (by omega) g2.drew.drew.drop
    · simp [h1, F4_7, F4_7b]
      exact hK _ h.drop.drop.drop
theorem onceLaw {lv tv : Value} {l : List It} {tk : List Int} (hrd : Rd w0 2 lv l.length (l.flatMap cIt)) (hrt : Rd w0 1 tv tk.length (tk.flatMap cI)) (h : Sat w0 [] w) (hK : ∀ w', Sat w0 [] w' → K (.bool true) w') : callP G4 [lv, tv] w K := by
  refine c4 ?_
  unfold F4 F4_1 F4_1b
  refine new_spec h (fun h => by omega) fun p w1 _ _ h1 => ?_
  simp [bEq_nilp up39, ptr]
  refine works_spec h1 fun w2 h2 => ?_
  simp
  refine eMakeMap_sat ekI evI h2 fun mv w3 h3 => ?_
  refine once1 hrd (fun w4 M s h4 hp hlen ht => ?_) fuel 0 w3 [] [] (by unfold fuel; omega) (by omega) h3.f1 (.refl _) (by simp) (by simp)
  unfold F4_3 F4_3b
  have hids := heap_ids h4
  have hasc := heap_asc h4
  refine fork_spec h4 fun q w5 h5 => ?_
  simp [bEq_nilp up39, ptr]
  refine len_spec h5.f1 ?_
  have hl := hp.length_eq
  simp [lenM_map h5.f2, hl]
  refine once2 hrt hlen (fun w6 g M' gv h6 hg => ?_) fuel 0 w5 [] M 0 _ (by unfold fuel; omega) (by omega) (by omega) (by omega) rfl (ls_nil h5.f1)
  unfold F4_5 F4_5b
  have htk : ∀ N : List It, (∀ x ∈ N, x ∈ M) → takeM 1000 N = N ∧ leaveM 1000 N = [] := by
    intro N hN
    exact take_all fun x hx => by have := ht x (hN x hx); omega
  obtain ⟨a1, a2⟩ := htk M' (fun x hx => by rw [← hg]; simp [hx])
  obtain ⟨b1, b2⟩ := htk M (fun x hx => hx)
  have hlg : g.length + M'.length ≤ 100 := by rw [← hg] at hlen; simpa using hlen
  refine due_spec h6.f1 fun s1 w7 h7 => ?_
  rw [a1, a2] at h7
  refine ls_app (m := M') CIt h7.f2 sl46 ss46 (ls_rd h7) (by omega) fun s2 w8 h8 => ?_
  rw [hg] at h8
  refine due_spec h8.f3 fun s3 w9 h9 => ?_
  rw [b1, b2] at h9
  have hml := lenM_map (h9.pick [5, 0, 1, 2, 3, 4] [] 6 (by decide) (by simp))
  simp [ls_len h9, ls_len h9.f2, hml, hl]
  refine len_spec h9.f4 ?_
  simp
  refine len_spec h9.f1 ?_
  simp
  rw [← hl]
  refine once3 hp hasc hids hlen hK fuel 0 w9 (by unfold fuel; omega) (by omega) ?_
  have := h9.pick [0, 2, 5] [1, 3, 4] 6 (by decide) (by simp)
  exact this
end
theorem pair_fit (c : List Value) (h : FitL [.int .i64, .int .i64] c) : ∃ x : It, c = cIt x ∧ True := by
  rcases c with _ | ⟨a, _ | ⟨b, _ | ⟨_, _⟩⟩⟩
  all_goals first | exact h.elim | exact h.2.elim | exact h.2.2.elim | skip
  obtain ⟨⟨n, h1, _⟩, ⟨m, h2, _⟩, _⟩ := h
  exact ⟨(n, m), by rw [h1, h2]; rfl, trivial⟩
theorem int_fit (c : List Value) (h : FitL [.int .i64] c) : ∃ x : Int, c = cI x ∧ True := by
  rcases c with _ | ⟨a, _ | ⟨_, _⟩⟩
  all_goals first | exact h.elim | exact h.2.elim | skip
  obtain ⟨⟨n, h1, _⟩, _⟩ := h
  exact ⟨n, by rw [h1]; rfl, trivial⟩
theorem lawHeapOnce {W : World} {v : Value} {n : Nat} {cs : List Value} (rd : Rd W 2 v n cs) (_ : n ≤ maxLen) (ft : ∀ i, i < n → FitL [.int .i64, .int .i64] ((cs.drop (i * 2)).take 2))
    {v' : Value} {n' : Nat} {cs' : List Value} (rd' : Rd W 1 v' n' cs') (_ : n' ≤ maxLen) (ft' : ∀ i, i < n' → FitL [.int .i64] ((cs'.drop (i * 1)).take 1)) :
    callP G4 [v, v'] W fun v w' => v = .bool true ∧ Sat W [] w' := by
  obtain ⟨l, rfl, rfl, _⟩ := fit_list pair_fit n cs rd.length ft
  obtain ⟨l', rfl, rfl, _⟩ := fit_list int_fit n' cs' rd'.length ft'
  exact onceLaw rd rd' (.start W) fun _ h => ⟨rfl, h⟩
end Go.Proofs.Gong
