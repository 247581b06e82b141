/- A part of the proofs: what stands below it, told in lemmas. No condition. -/
import Derived.Test.YtoddcinhpmbncaaLk6
import Derived.Test.YtoddcinhpmbncaaSz5
namespace Go.Proofs.Gong
open Go Go.Sx Go.Proofs
set_option maxRecDepth 100000
def ekS (s : ByteArray) : Value := .string s
def evI (n : Int) : Value := .int .i64 n
theorem Kstr : KeyT Try.prog 9 ekS := .str (by kernel_rfl)
abbrev Sent := List (ByteArray × Int)
structure Inv (l : LinkM) (m : Sent) (i : Nat) : Prop where
  p0 : 0 ≤ l.passed
  p1 : l.passed ≤ i
  s0 : 0 ≤ l.sent
  c0 : 0 ≤ l.came
  l0 : 0 ≤ l.lost
  d0 : 0 ≤ l.doubled
  e : l.sent + l.doubled = l.came + l.lost + l.letters.length
  b : l.sent + l.doubled ≤ i
  k : ∀ s ∈ l.letters, ∃ c, aGet s m = some c ∧ 1 ≤ c
  v : ∀ s c, aGet s m = some c → 1 ≤ c ∧ c ≤ i
theorem inc_id {n : Int} (h0 : 0 ≤ n) (h : n ≤ 1000) : inc n = n + 1 := by unfold inc; exact wrap_id (by omega)
theorem Inv.up {l : LinkM} {m : Sent} {i : Nat} (h : Inv l m i) : Inv l m (i + 1) :=
  { h with p1 := by have := h.p1; omega, b := by have := h.b; omega, v := fun s c hs => by have := h.v s c hs; omega }
theorem Inv.send {l : LinkM} {m : Sent} {i : Nat} {s : ByteArray} (h : Inv l m i) (hi : i < 100) (hok : (l.send s).1 = 0) : Inv (l.send s).2 (aSet s (((aGet s m).getD 0) + 1) m) (i + 1) := by
  unfold LinkM.send at hok ⊢
  by_cases hf : (l.letters.length : Int) ≥ l.most
  · simp [hf] at hok
  · simp [hf]
    obtain ⟨p0, p1, s0, c0, l0, d0, e, b, k, v⟩ := h
    have hc : 0 ≤ (aGet s m).getD 0 ∧ (aGet s m).getD 0 ≤ i := by
      cases hx : aGet s m with
      | none => simp
      | some c => have := v s c hx; simp; omega
    refine ⟨p0, by simp; omega, ?_, c0, l0, d0, ?_, ?_, ?_, ?_⟩
    · simp [inc_id s0 (by omega)]; omega
    · simp [inc_id s0 (by omega)]; omega
    · simp [inc_id s0 (by omega)]; omega
    · intro t ht
      rw [aGet_set]
      by_cases ht' : t = s
      · simp [ht']; omega
      · simp only [ht', if_false]
        exact k t (by simpa [ht'] using ht)
    · intro t c ht
      rw [aGet_set] at ht
      by_cases ht' : t = s
      · simp [ht'] at ht; omega
      · simp only [ht', if_false] at ht; have := v t c ht; omega
theorem Inv.same {l : LinkM} {m : Sent} {i : Nat} {s : ByteArray} (h : Inv l m i) (hok : (l.send s).1 ≠ 0) : (l.send s).2 = l := by
  unfold LinkM.send at hok ⊢
  by_cases hf : (l.letters.length : Int) ≥ l.most
  · simp [hf]
  · simp [hf] at hok
theorem mem_cut {l : List ByteArray} {k : Nat} {s : ByteArray} (h : s ∈ l.take k ++ l.drop (k + 1)) : s ∈ l := by
  rcases List.mem_append.1 h with h | h
  · exact List.mem_of_mem_take h
  · exact List.mem_of_mem_drop h
theorem len_cut {l : List ByteArray} {k : Nat} (h : k < l.length) : (l.take k ++ l.drop (k + 1)).length = l.length - 1 := by simp; omega
theorem Inv.take {l : LinkM} {m : Sent} {i : Nat} {a : Int} (h : Inv l m i) (hi : i < 100) : Inv (l.take a).2 m i ∧ ((l.take a).1.2 = 0 → ∃ c, aGet (l.take a).1.1 m = some c ∧ 1 ≤ c) := by
  by_cases ha : l.at a = true
  · obtain ⟨k, rfl, hk⟩ := at_lt ha
    simp only [LinkM.take, ha, if_true, Int.toNat_natCast]
    obtain ⟨p0, p1, s0, c0, l0, d0, e, b, kk, v⟩ := h
    have hl := len_cut hk
    refine ⟨⟨p0, p1, s0, ?_, l0, d0, ?_, b, fun s hs => kk s (mem_cut hs), v⟩, fun _ => ?_⟩
    · simp only [inc_id c0 (by omega)]; omega
    · simp only [inc_id c0 (by omega), hl]; omega
    · have := kk l.letters[k] (List.getElem_mem hk)
      simpa [hk] using this
  · simp only [LinkM.take, ha]
    exact ⟨h, fun h => by simp at h⟩
theorem Inv.lose {l : LinkM} {m : Sent} {i : Nat} {a : Int} (h : Inv l m i) (hi : i < 100) : Inv (l.lose a).2 m i := by
  by_cases ha : l.at a = true
  · obtain ⟨k, rfl, hk⟩ := at_lt ha
    simp only [LinkM.lose, ha, if_true, Int.toNat_natCast]
    obtain ⟨p0, p1, s0, c0, l0, d0, e, b, kk, v⟩ := h
    have hl := len_cut hk
    refine ⟨p0, p1, s0, c0, ?_, d0, ?_, b, fun s hs => kk s (mem_cut hs), v⟩
    · simp only [inc_id l0 (by omega)]; omega
    · simp only [inc_id l0 (by omega), hl]; omega
  · simp only [LinkM.lose, ha]; exact h
theorem Inv.double {l : LinkM} {m : Sent} {i : Nat} {a : Int} (h : Inv l m i) (hi : i < 100) : Inv (l.double a).2 m (i + 1) := by
  by_cases ha : l.at a = true
  · obtain ⟨k, rfl, hk⟩ := at_lt ha
    simp only [LinkM.double, ha, if_true, Int.toNat_natCast]
    by_cases hf : (l.letters.length : Int) ≥ l.most
    · simp only [hf, if_true]; exact h.up
    · simp only [hf, if_false]
      obtain ⟨p0, p1, s0, c0, l0, d0, e, b, kk, v⟩ := h.up
      refine ⟨p0, p1, s0, c0, l0, ?_, ?_, ?_, ?_, v⟩
      · simp only [inc_id d0 (by omega)]; omega
      · simp only [inc_id d0 (by omega), List.length_append, List.length_cons, List.length_nil]; omega
      · simp only [inc_id d0 (by omega)]; have := h.b; omega
      · intro s hs
        rcases List.mem_append.1 hs with hs | hs
        · exact kk s hs
        · have : s = l.letters[k] := by simpa [hk] using hs
          subst this; exact kk _ (List.getElem_mem hk)
  · simp only [LinkM.double, ha]; exact h.up
theorem Inv.pass {l : LinkM} {m : Sent} {i : Nat} {a : Int} (h : Inv l m i) (hi : i < 100) : Inv (l.pass a).2 m (i + 1) := by
  have hb := h.b
  have hp := h.p1
  obtain ⟨p0, p1, s0, c0, l0, d0, e, b, kk, v⟩ := h.up
  unfold LinkM.pass
  by_cases ha : a < 1
  · simp only [ha, if_true]; exact h.up
  simp only [ha, if_false, inc_id p0 (show l.passed ≤ 1000 by omega), inc_id s0 (show l.sent ≤ 1000 by omega), inc_id l0 (show l.lost ≤ 1000 by omega), inc_id c0 (show l.came ≤ 1000 by omega)]
  split
  · exact ⟨by simp; omega, by simp; omega, by simp; omega, c0, by simp; omega, d0, by simp; omega, by simp; omega, kk, v⟩
  · exact ⟨by simp, by simp; omega, by simp; omega, by simp; omega, l0, d0, by simp; omega, by simp; omega, kk, v⟩
theorem Inv.clear {l : LinkM} {m : Sent} {i : Nat} (h : Inv l m i) (hi : i < 100) : Inv l.clear m i := by
  obtain ⟨p0, p1, s0, c0, l0, d0, e, b, kk, v⟩ := h
  have : IntKind.i64.wrap (l.lost + l.letters.length) = l.lost + l.letters.length := wrap_id (by omega)
  simp only [LinkM.clear, this]
  exact ⟨p0, p1, s0, c0, by simp; omega, d0, by simp; omega, b, by simp, v⟩
theorem most_send (l : LinkM) (s : ByteArray) : (l.send s).2.most = l.most := by unfold LinkM.send; split <;> rfl
theorem most_take (l : LinkM) (s : Int) : (l.take s).2.most = l.most := by unfold LinkM.take; split <;> rfl
theorem most_lose (l : LinkM) (s : Int) : (l.lose s).2.most = l.most := by unfold LinkM.lose; split <;> rfl
theorem most_double (l : LinkM) (s : Int) : (l.double s).2.most = l.most := by unfold LinkM.double; repeat (first | rfl | split)
theorem most_pass (l : LinkM) (s : Int) : (l.pass s).2.most = l.most := by unfold LinkM.pass; repeat (first | rfl | split)
section
variable {w0 w : World} {L : List HP} {K : Value → World → Prop}
theorem each_tail {v mv av : Value} {l : LinkM} {m : Sent} {i : Nat} {R3 : Value → Value → Value → Value → Value → World → Prop} (h : Sat w0 (LinkH v l :: MapH ekS evI mv m :: L) w) (hI : Inv l m (i + 1)) (hi : i < 90)
    (hK : ∀ w', Sat w0 (LinkH v l :: MapH ekS evI mv m :: L) w' → R3 (.int .i64 l.most) av v mv (.int .i64 (i + 1 : Nat)) w') : F4_8 (.int .i64 l.most) av v mv (.int .i64 i) w K R3 := by
  have hf : (l.letters.length : Int) ≤ l.most := by obtain ⟨p, sv, ⟨_, h1, h2⟩, _⟩ := link_iff.1 h; exact h1
  obtain ⟨p0, p1, s0, c0, l0, d0, e, b, kk, vv⟩ := hI
  unfold F4_8 F4_8b
  refine tally_spec h fun w1 h1 => ?_
  refine eAlloc_sat h1 z31 fun q w2 h2 => ?_
  refine bindW_stN h2 rfl rfl (by simp) fun w3 h3 => ?_
  have hq := h3.drew.cl
  simp only [wr, LinkM.tallyV, cells_agg] at hq
  simp at hq
  simp [ptr, cell_of hq]
  refine len_spec h3.drew.f1 ?_
  simp [cell_of hq]
  have a1 : IntKind.i64.wrap (l.sent + l.doubled) = l.sent + l.doubled := wrap_id (by omega)
  have a2 : IntKind.i64.wrap (l.came + l.lost) = l.came + l.lost := wrap_id (by omega)
  have a3 : IntKind.i64.wrap (l.came + l.lost + l.letters.length) = l.came + l.lost + l.letters.length := wrap_id (by omega)
  simp [a1, a2, a3, e]
  refine len_spec h3.drew.f1 ?_
  have : ¬ (l.most < l.letters.length) := by omega
  simp [this, F4_6, F4_6b, wrap_id (show -9223372036854775808 ≤ (i : Int) + 1 ∧ (i : Int) + 1 ≤ 9223372036854775807 by omega)]
  have := hK _ h3.drew.drop
  simpa using this
theorem each_loop {v mv av : Value} {l : List ActL} {M : Int} (hrd : Rd w0 3 av l.length (l.flatMap actC)) (hK : ∀ w', Sat w0 L w' → K (.bool true) w') :
    ∀ (d i : Nat) (w : World) (m : LinkM) (s : Sent), 80 - i < d → i ≤ 80 → m.most = M → Inv m s i → Sat w0 (LinkH v m :: MapH ekS evI mv s :: L) w → F4_2L d (.int .i64 M) av v mv (.int .i64 i) w K := by
  intro d
  induction d with
  | zero => intro i w m s hd; omega
  | succ d ih =>
    intro i w m s hd hi hM hI h
    rw [F4_2L]
    unfold F4_4 F4_4b
    have hlen := hrd.len
    simp only [hlen, bindP_some]
    by_cases h1 : i < l.length ∧ i < 80
    · obtain ⟨h1, h2⟩ := h1
      obtain ⟨b, o, e1, e2, e3⟩ := (hrd.sat h).elem actC_len rfl h1 (j := .i64)
      have i2 : (i : Int) < 80 := by omega
      simp [h1, i2]
      unfold F4_5 F4_7 F4_7b
      simp [e1, e2]
      refine eAlloc_sat h z37 fun q w1 g1 => ?_
      refine bindW_stN g1 rfl rfl (by simp) fun w2 g2 => ?_
      have hq := g2.cl
      generalize l[i] = a at *
      obtain ⟨kd, pl, str⟩ := a
      simp [wr, actC] at hq
      simp [ptr, cell_of hq]
      -- what stands behind the switch
      have go : ∀ (w' : World) (m' : LinkM) (s' : Sent) (M' : List HP), m'.most = M → Inv m' s' (i + 1) → Sat w0 (LinkH v m' :: MapH ekS evI mv s' :: M') w' → (∀ w', Sat w0 (LinkH v m' :: MapH ekS evI mv s' :: M') w' → Sat w0 (LinkH v m' :: MapH ekS evI mv s' :: L) w') →
          F4_8 (.int .i64 M) av v mv (.int .i64 i) w' K (fun a0 a1 a5 a7 a8 w => F4_2L d a0 a1 a5 a7 a8 w K) := by
        intro w' m' s' M' hm hi' hs hdrop
        subst hm
        refine each_tail (hdrop _ hs) hi' (by omega) fun w3 h3 => ?_
        exact ih (i + 1) w3 m' s' (by omega) (by omega) rfl hi' h3
      have dr : ∀ (c : Array Value) (m' : LinkM) (s' : Sent) (w' : World), Sat w0 (LinkH v m' :: MapH ekS evI mv s' :: Cl q c 37 :: L) w' → Sat w0 (LinkH v m' :: MapH ekS evI mv s' :: L) w' := fun c m' s' w' h => h.f2.drop
      by_cases hs : (100 : Int) < str.size
      · simp [hs, F4_6, F4_6b, wrap_id (show -9223372036854775808 ≤ (i : Int) + 1 ∧ (i : Int) + 1 ≤ 9223372036854775807 by omega)]
        have := ih (i + 1) w2 m s (by omega) (by omega) hM hI.up g2.drop
        simpa using this
      simp [hs]
      refine below_spec (by omega) (by omega) fun k hk0 hk6 _ => ?_
      by_cases k0 : k = 0
      · subst k0; simp [cell_of hq]
        refine send_spec g2.f1 fun w3 g3 => ?_
        by_cases hok : (m.send str).1 = 0
        · have hq3 := g3.f1.cl
          simp [hok, cell_of hq3, wr, actC]
          have lk := look1 (k := str) g3.f2 Kstr um35 z3
          simp only [ekS] at lk
          simp only [lk, bindP_some]
          have ev1 : (aGet str s).elim (Value.int .i64 0) evI = .int .i64 ((aGet str s).getD 0) := by cases aGet str s <;> rfl
          have hb : 0 ≤ (aGet str s).getD 0 ∧ (aGet str s).getD 0 ≤ i := by
            cases hx : aGet str s with
            | none => simp
            | some c => have := hI.v str c hx; simp; omega
          simp [ev1, wrap_id (show -9223372036854775808 ≤ (aGet str s).getD 0 + 1 ∧ (aGet str s).getD 0 + 1 ≤ 9223372036854775807 by omega)]
          refine eMapSet_sat g3.f2 Kstr um35 str ((aGet str s).getD 0 + 1) fun w4 g4 => ?_
          exact go w4 _ _ _ (by rw [most_send]; exact hM) (hI.send (by omega) hok) g4.f1 (fun w' => dr _ _ _ w')
        · have e := hI.same (s := str) hok
          simp [hok]
          rw [e] at g3
          exact go w3 m s _ hM hI.up g3.f2.f1 (fun w' h => h.f2.drop)
      by_cases k1 : k = 1
      · subst k1; simp [cell_of hq]
        refine take_spec g2.f1 fun w3 g3 => ?_
        obtain ⟨hI', hc⟩ := hI.take (a := pl) (by omega)
        by_cases hok : (m.take pl).1.2 = 0
        · obtain ⟨c, c1, c2⟩ := hc hok
          have lk := look1 (k := (m.take pl).1.1) g3.f2 Kstr um35 z3
          simp only [ekS, c1] at lk
          simp [hok, lk, evI]
          have : ¬ (c = 0) := by omega
          simp [this]
          exact go w3 _ s _ (by rw [most_take]; exact hM) hI'.up g3.f2.f1 (fun w' h => h.f2.drop)
        · simp [hok]
          exact go w3 _ s _ (by rw [most_take]; exact hM) hI'.up g3.f2.f1 (fun w' h => h.f2.drop)
      by_cases k2 : k = 2
      · subst k2; simp [cell_of hq]
        refine lose_spec g2.f1 fun w3 g3 => ?_
        exact go w3 _ s _ (by rw [most_lose]; exact hM) (hI.lose (by omega)).up g3.f2.f1 (fun w' h => h.f2.drop)
      by_cases k3 : k = 3
      · subst k3; simp [cell_of hq]
        refine double_spec g2.f1 fun w3 g3 => ?_
        exact go w3 _ s _ (by rw [most_double]; exact hM) (hI.double (by omega)) g3.f2.f1 (fun w' h => h.f2.drop)
      by_cases k4 : k = 4
      · subst k4; simp [cell_of hq]
        refine below_spec (by omega) (by omega) fun r hr0 hr5 _ => ?_
        simp [cell_of hq]
        refine pass_spec g2.drew.f1 fun w3 g3 => ?_
        exact go w3 _ s _ (by rw [most_pass]; exact hM) (hI.pass (by omega)) g3.f2.f1 (fun w' h => h.f2.drop)
      · simp [k0, k1, k2, k3, k4]
        refine clear_spec g2.f1 fun w3 g3 => ?_
        exact go w3 m.clear s _ hM (hI.clear (by omega)).up g3.f2.f1 (fun w' h => h.f2.drop)
    · have fin := hK _ h.drop.drop
      by_cases h2 : i < l.length
      · have : ¬ ((i : Int) < 80) := by omega
        simp [h2, this, F4_3, F4_3b]
        exact fin
      · simp [h2, F4_3, F4_3b]
        exact fin
theorem eachLaw {most : Int} {av : Value} {l : List ActL} (hrd : Rd w0 3 av l.length (l.flatMap actC)) (h : Sat w0 [] w) (hK : ∀ w', Sat w0 [] w' → K (.bool true) w') : callP G4 [.int .i64 most, av] w K := by
  refine c4 ?_
  unfold F4 F4_1 F4_1b
  refine below_spec (by omega) (by omega) fun a ha0 ha1 _ => ?_
  have e : IntKind.i64.wrap (1 + a) = 1 + a := wrap_id (by omega)
  simp [e]
  refine new_spec h (fun h => by omega) fun v w1 _ _ h1 => ?_
  obtain ⟨p, sv, ⟨hv, _⟩, _⟩ := link_iff.1 h1
  subst hv
  simp [bEq_nilp up23, ptr]
  refine works_spec h1 fun w2 h2 => ?_
  simp
  refine eMakeMap_sat ekS evI h2 fun mv w3 h3 => ?_
  exact each_loop hrd hK fuel 0 w3 _ _ (by unfold fuel; omega) (by omega) rfl ⟨by simp, by simp, by simp, by simp, by simp, by simp, by simp, by simp, by simp, by simp [aGet]⟩ h3.f1
end
theorem lawLinkEach {W : World} (a : Int) (_ : (Lit.int .i64 a).wf = true) {v : Value} {n : Nat} {cs : List Value} (rd : Rd W 3 v n cs) (_ : n ≤ maxLen) (ft : ∀ i, i < n → FitL [.int .i64, .int .i64, .str] ((cs.drop (i * 3)).take 3)) :
    callP G4 [.int .i64 a, v] W fun v w' => v = .bool true ∧ Sat W [] w' := by
  obtain ⟨l, rfl, rfl, _⟩ := fit_list act_fit n cs rd.length ft
  exact eachLaw rd (.start W) fun _ h => ⟨rfl, h⟩
end Go.Proofs.Gong
