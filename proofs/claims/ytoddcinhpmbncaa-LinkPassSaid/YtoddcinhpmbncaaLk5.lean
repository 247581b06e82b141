/- A part of the proofs: what stands below it, told in lemmas. No condition. -/
import Derived.Test.YtoddcinhpmbncaaLk4
import Derived.Test.YtoddcinhpmbncaaSz4
namespace Go.Proofs.Gong
open Go Go.Sx Go.Proofs
set_option maxRecDepth 100000
section
variable {w0 w : World} {L : List HP} {K : Value → World → Prop}
/-- a link through which i letters were passed with k -/
def passM (k i : Nat) : LinkM := ⟨1, [], (i % k : Nat), i, (i / k : Nat), ((i - i / k : Nat) : Int), 0⟩
theorem inc_nat {n : Nat} (h : n < 1000) : inc (n : Int) = ((n + 1 : Nat) : Int) := by
  unfold inc; rw [wrap_id (by omega)]; omega
theorem passM_step {k i : Nat} (hk : 1 ≤ k) (hi : i < 100) : (passM k i).pass k = ((decide ((i + 1) % k = 0), 0), passM k (i + 1)) := by
  have h1 := Nat.mod_lt i hk
  have h2 : i % k ≤ i := Nat.mod_le _ _
  have h3 : i / k ≤ i := Nat.div_le_self _ _
  have e1 : inc ((i % k : Nat) : Int) = ((i % k + 1 : Nat) : Int) := inc_nat (by omega)
  have hk' : ¬ ((k : Int) < 1) := by omega
  simp only [LinkM.pass, passM, hk', if_false, e1]
  by_cases hlt : i % k + 1 < k
  · have e2 : (i + 1) % k = i % k + 1 := by rw [Nat.add_mod, Nat.mod_eq_of_lt (show 1 < k by omega), Nat.mod_eq_of_lt hlt]
    have e3 : (i + 1) / k = i / k := by
      have a := Nat.div_add_mod i k
      have b := Nat.div_add_mod (i + 1) k
      rw [e2] at b
      exact Nat.eq_of_mul_eq_mul_left (show 0 < k by omega) (by omega)
    have : ((i % k + 1 : Nat) : Int) < (k : Int) := by omega
    rw [if_pos this, e2, e3, inc_nat (show i < 1000 by omega), inc_nat (show i - i / k < 1000 from Nat.lt_of_le_of_lt (Nat.sub_le _ _) (by omega))]
    generalize i / k = q at *
    simp
    omega
  · have e0 : i % k + 1 = k := by omega
    have e2 : (i + 1) % k = 0 := by
      have a := Nat.div_add_mod i k
      have : i + 1 = k * (i / k + 1) := by rw [Nat.mul_add]; omega
      rw [this]; simp
    have e3 : (i + 1) / k = i / k + 1 := by
      have a := Nat.div_add_mod i k
      have b := Nat.div_add_mod (i + 1) k
      rw [e2] at b
      refine Nat.eq_of_mul_eq_mul_left (show 0 < k by omega) ?_
      rw [Nat.mul_add]; omega
    have : ¬ ((i % k + 1 : Nat) : Int) < (k : Int) := by omega
    rw [if_neg this, e2, e3, inc_nat (show i < 1000 by omega), inc_nat (show i / k < 1000 from Nat.lt_of_le_of_lt h3 (by omega))]
    simp
theorem pass_loop {v : Value} {k m : Nat} (hk : 1 ≤ k) (hm : m < 100) (hK : ∀ w', Sat w0 L w' → K (.bool true) w') :
    ∀ (d i : Nat) (w : World), m - i < d → i ≤ m → Sat w0 (LinkH v (passM k i) :: L) w → F3_2L d (.int .i64 k) (.int .i64 m) v (.int .i64 (i + 1 : Nat)) w K := by
  intro d
  induction d with
  | zero => intro i w hd; omega
  | succ d ih =>
    intro i w hd hi h
    rw [F3_2L]
    unfold F3_2b
    by_cases hlt : i < m
    · have : (i : Int) + 1 ≤ m := by omega
      simp [this]
      refine pass_spec h fun w1 h1 => ?_
      rw [passM_step hk (by omega)] at h1 ⊢
      have e : (decide (((i : Int) + 1).tmod k = 0)) = decide ((i + 1) % k = 0) := by
        rw [Bool.eq_iff_iff]; simp
        have : ((i : Int) + 1).tmod k = (((i + 1) % k : Nat) : Int) := by
          rw [Int.tmod_eq_emod_of_nonneg (by omega)]; simp
        rw [this]; omega
      simp [bRem_int _ _ _ (show (k : Int) ≠ 0 by omega), e, bNe_bool ub4, wrap_id (show -9223372036854775808 ≤ (i : Int) + 1 + 1 ∧ (i : Int) + 1 + 1 ≤ 9223372036854775807 by omega)]
      have := ih (i + 1) w1 (by omega) (by omega) h1
      simpa using this
    · have : ¬ ((i : Int) + 1 ≤ m) := by omega
      obtain rfl : i = m := by omega
      simp [this, F3_3, F3_3b, bQuo_int _ _ _ (show (k : Int) ≠ 0 by omega)]
      have hd := Nat.div_le_self i k
      have e0 : (i : Int) / (k : Int) = ((i / k : Nat) : Int) := rfl
      rw [e0]
      have e1 : IntKind.i64.wrap ((i / k : Nat) : Int) = ((i / k : Nat) : Int) := by
        generalize i / k = q at *
        rw [wrap_id (by omega)]
      have e2 : IntKind.i64.wrap ((i : Int) - ((i / k : Nat) : Int)) = ((i - i / k : Nat) : Int) := by
        generalize i / k = q at *
        rw [wrap_id (by omega)]; omega
      rw [e1, e2]
      have e3 : fBuild Try.prog 31 [(0, .int .i64 i), (1, .int .i64 ((i / k : Nat) : Int)), (2, .int .i64 ((i - i / k : Nat) : Int))] = some (.agg #[.int .i64 i, .int .i64 ((i / k : Nat) : Int), .int .i64 ((i - i / k : Nat) : Int), .int .i64 0]) := by kernel_rfl
      rw [e3]
      simp only [bindP_some]
      refine tally_spec h.drew fun w1 h1 => ?_
      simp only [LinkM.tallyV, passM]
      rw [eq31]
      simp
      exact hK _ h1.drop
theorem passLaw {k many : Int} (h : Sat w0 L w) (hK : ∀ w', Sat w0 L w' → K (.bool true) w') : callP G3 [.int .i64 k, .int .i64 many] w K := by
  refine c3 ?_
  unfold F3 F3_1 F3_1b
  refine below_spec (by omega) (by omega) fun a ha0 ha1 _ => ?_
  obtain ⟨a, rfl⟩ := Int.eq_ofNat_of_zero_le ha0
  simp
  refine below_spec (by omega) (by omega) fun b hb0 hb1 _ => ?_
  obtain ⟨b, rfl⟩ := Int.eq_ofNat_of_zero_le hb0
  refine new_spec h (fun h => by omega) fun v w1 _ _ h1 => ?_
  obtain ⟨p, sv, ⟨hv, _⟩, _⟩ := link_iff.1 h1
  subst hv
  simp [bEq_nilp up23, ptr]
  refine works_spec h1 fun w2 h2 => ?_
  have e : IntKind.i64.wrap (1 + (a : Int)) = ((1 + a : Nat) : Int) := by rw [wrap_id (by omega)]; omega
  simp [F3_2, e]
  have := pass_loop (k := 1 + a) (m := b) (by omega) (by omega) hK fuel 0 w2 (by unfold fuel; omega) (by omega) (by
    have : passM (1 + a) 0 = ⟨1, [], 0, 0, 0, 0, 0⟩ := by simp [passM]
    rw [this]; exact h2)
  simpa [ptr] using this
end
theorem lawLinkPass {W : World} (a : Int) (_ : (Lit.int .i64 a).wf = true) (b : Int) (_ : (Lit.int .i64 b).wf = true) : callP G3 [.int .i64 a, .int .i64 b] W fun v w' => v = .bool true ∧ Sat W [] w' :=
  passLaw (.start W) fun _ h => ⟨rfl, h⟩
end Go.Proofs.Gong
