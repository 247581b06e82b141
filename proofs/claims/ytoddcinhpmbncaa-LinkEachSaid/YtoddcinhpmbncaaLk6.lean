/- A part of the proofs: what stands below it, told in lemmas. No condition. -/
import Derived.Test.YtoddcinhpmbncaaLk4
import Derived.Test.YtoddcinhpmbncaaSz4
namespace Go.Proofs.Gong
open Go Go.Sx Go.Proofs
set_option maxRecDepth 100000
abbrev ActL := Int × Int × ByteArray
def actC (x : ActL) : List Value := [.int .i64 x.1, .int .i64 x.2.1, .string x.2.2]
theorem actC_len (x : ActL) : (actC x).length = 3 := rfl
theorem act_fit (c : List Value) (h : FitL [.int .i64, .int .i64, .str] c) : ∃ x, c = actC x ∧ x.2.2.size ≤ maxLen := by
  rcases c with _ | ⟨a, _ | ⟨b, _ | ⟨s, _ | ⟨_, _⟩⟩⟩⟩
  all_goals first | exact h.elim | exact h.2.elim | exact h.2.2.elim | exact h.2.2.2.elim | skip
  obtain ⟨⟨n, h1, _⟩, ⟨m, h2, _⟩, ⟨t, h3, h4⟩, _⟩ := h
  exact ⟨(n, m, t), by rw [h1, h2, h3]; rfl, h4⟩
section
variable {w0 w : World} {L : List HP} {K : Value → World → Prop}
theorem plays_loop {v r av : Value} {l : List ActL} (hr : ∃ q, r = ptr q) (hrd : Rd w0 3 av l.length (l.flatMap actC)) (hK : ∀ w', Sat w0 L w' → K (.bool true) w') :
    ∀ (d i : Nat) (w : World) (m : LinkM), 80 - i < d → i ≤ 80 → Sat w0 (LinkH v m :: RefH r m :: L) w → F5_2L d av v r (.int .i64 i) w K := by
  intro d
  induction d with
  | zero => intro i w m hd; omega
  | succ d ih =>
    intro i w m hd hi h
    rw [F5_2L]
    unfold F5_2b
    obtain ⟨q, rfl⟩ := hr
    have hlen := hrd.len
    simp [bNe_nilp up44, ptr, hlen]
    by_cases h1 : i < l.length ∧ i < 80
    · obtain ⟨h1, h2⟩ := h1
      obtain ⟨b, o, e1, e2, e3⟩ := (hrd.sat h).elem actC_len rfl h1 (j := .i64)
      have c2 : w.cell? ⟨b, o + 2, none⟩ = some (.string l[i].2.2) := by
        rcases e3 2 with h | h
        · exact h
        · omega
      have i2 : (i : Int) < 80 := by omega
      simp [h1, i2, e1, c2, e2]
      by_cases hs : (l[i].2.2.size : Int) ≤ 1000
      · simp [hs, e1, e2]
        refine does_spec h fun m' w1 hw1 => ?_
        simp
        refine stands_spec hw1 fun w2 hw2 => ?_
        simp [wrap_id (show -9223372036854775808 ≤ (i : Int) + 1 ∧ (i : Int) + 1 ≤ 9223372036854775807 by omega)]
        exact ih (i + 1) w2 m' (by omega) (by omega) hw2
      · simp [hs, wrap_id (show -9223372036854775808 ≤ (i : Int) + 1 ∧ (i : Int) + 1 ≤ 9223372036854775807 by omega)]
        exact ih (i + 1) w m (by omega) (by omega) h
    · have fin := hK _ h.drop.drop
      by_cases h2 : i < l.length
      · have : ¬ ((i : Int) < 80) := by omega
        simp [h2, this]
        exact fin
      · simp [h2]
        exact fin
theorem playsLaw {most : Int} {av : Value} {l : List ActL} (hrd : Rd w0 3 av l.length (l.flatMap actC)) (h : Sat w0 [] w) (hK : ∀ w', Sat w0 [] w' → K (.bool true) w') : callP G5 [.int .i64 most, av] w K := by
  refine c5 ?_
  unfold F5 F5_1 F5_1b
  have fin0 : ∀ (v r : Value) (w : World), v = .pointer none → r = .pointer none → Sat w0 [] w → F5_2 av v r (.int .i64 0) w K := by
    intro v r w1 e1 e2 h1
    subst e1; subst e2
    unfold F5_2 fuel
    rw [F5_2L]
    unfold F5_2b
    simp [bNe_nilp up44]
    exact hK _ h1
  by_cases hb : most < 1 ∨ 65536 < most
  · refine new_spec h (fun _ => ?_) fun v w1 h1 h2 _ => by omega
    simp
    refine rnew_spec h (fun _ => ?_) fun v w1 h1 h2 _ => by omega
    simp [bEq_nilp up23, bEq_nilp up44, bNe_bool ub4]
    refine works_spec h fun w1 h1 => ?_
    simp
    exact fin0 _ _ _ rfl rfl h1
  · refine new_spec h (fun h => by omega) fun v w1 b1 b2 h1 => ?_
    simp
    refine rnew_spec h1 (fun h => by omega) fun r w2 _ _ h2 => ?_
    obtain ⟨p, sv, ⟨hv, _⟩, _⟩ := link_iff.1 h1
    obtain ⟨q, sq, ⟨hr, _⟩, _⟩ := ref_iff.1 h2
    subst hv; subst hr
    simp [bEq_nilp up23, bEq_nilp up44, bNe_bool ub4, ptr]
    refine works_spec h2 fun w3 h3 => ?_
    simp
    exact plays_loop ⟨_, rfl⟩ hrd hK fuel 0 w3 _ (by unfold fuel; omega) (by omega) h3.f1
end
theorem lawLinkPlays {W : World} (a : Int) (_ : (Lit.int .i64 a).wf = true) {v : Value} {n : Nat} {cs : List Value} (rd : Rd W 3 v n cs) (_ : n ≤ maxLen) (ft : ∀ i, i < n → FitL [.int .i64, .int .i64, .str] ((cs.drop (i * 3)).take 3)) :
    callP G5 [.int .i64 a, v] W fun v w' => v = .bool true ∧ Sat W [] w' := by
  obtain ⟨l, rfl, rfl, _⟩ := fit_list act_fit n cs rd.length ft
  exact playsLaw rd (.start W) fun _ h => ⟨rfl, h⟩
end Go.Proofs.Gong
