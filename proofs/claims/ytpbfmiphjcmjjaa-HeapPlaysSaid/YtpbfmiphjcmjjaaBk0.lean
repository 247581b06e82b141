/- A part of the proofs: what stands below it, told in lemmas. No condition. -/
import Derived.Test.YtpbfmiphjcmjjaaBook
import Derived.Test.YtpbfmiphjcmjjaaSz11
set_option linter.all false
namespace Go.Proofs.Gong
open Go Go.Sx Go.Proofs
/-- gongbook.Below -/
def bel (x n : Int) : Int := (x.tmod n + n).tmod n
section
variable {w : World} {K : Value → World → Prop}
theorem Below_spec {x n : Int} (hn : 0 < n) (hn2 : n ≤ 4611686018427387904) (hK : ∀ r : Int, 0 ≤ r → r < n → r = bel x n → K (.int .i64 r) w) : callP G15 [.int .i64 x, .int .i64 n] w K := by
  refine c15 ?_
  unfold F15
  have h1 := Int.tmod_lt_of_pos x hn
  have h2 : -n < x.tmod n := by
    have := Int.lt_tmod_of_pos x hn
    omega
  have h3 := Int.tmod_nonneg n (show (0 : Int) ≤ x.tmod n + n by omega)
  have h4 := Int.tmod_lt_of_pos (x.tmod n + n) hn
  simp [bRem_int _ _ _ (show n ≠ 0 by omega), wrap_id (show -9223372036854775808 ≤ x.tmod n + n ∧ x.tmod n + n ≤ 9223372036854775807 by omega)]
  exact hK _ h3 h4 rfl
end
theorem bs_sEq (a b : List UInt8) : sEq (bs a) (bs b) = decide (a = b) := by rw [sEq_eq, bs_beq]; simp
end Go.Proofs.Gong
