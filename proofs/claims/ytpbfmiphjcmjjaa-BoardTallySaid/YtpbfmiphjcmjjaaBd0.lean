/- A part of the proofs: what stands below it, told in lemmas. No condition. -/
import Derived.Test.YtpbfmiphjcmjjaaNm5
import Derived.Test.YtpbfmiphjcmjjaaBoard1
set_option linter.all false
namespace Go.Proofs.Gong
open Go Go.Sx Go.Proofs
set_option maxRecDepth 100000
def timeP (t : Int) : Bool := decide (0 ≤ t) && decide (t ≤ 2305843009213693952)
def whoP (s : List UInt8) : Bool := !decide (s = []) && plainP s 64
theorem chk_who (s c : List UInt8) (hc : c ≠ []) (hp : plainP c 64 = true) : chkE ⟨s, c, [], 0, []⟩ = if whoP s = true then 0 else 180 := by
  have h1 : plainP [] 128 = true := by decide
  have h2 : plainP [] 1024 = true := by decide
  unfold chkE okE whoP
  simp [hc, hp, h1, h2]
section
variable {w0 w : World} {L : List HP} {K : Value → World → Prop}
theorem bistime_spec {t : Int} (hK : K (.bool (timeP t)) w) : callP G62 [.int .i64 t] w K := by
  refine c62 ?_
  unfold F62
  unfold timeP at hK
  by_cases g1 : 0 ≤ t <;> simp [g1] at hK ⊢ <;> exact hK
theorem fbistime_spec {t : Int} (hK : K (.bool (timeP t)) w) : callP G69 [.int .i64 t] w K := by
  refine c69 ?_
  unfold F69
  unfold timeP at hK
  by_cases g1 : 0 ≤ t <;> simp [g1] at hK ⊢ <;> exact hK
theorem iswho_spec {s : List UInt8} (hs : s.length < 1000000) (h : Sat w0 L w) (hK : ∀ w', Sat w0 L w' → K (.bool (whoP s)) w') : callP G67 [.string (bs s)] w K := by
  refine c67 ?_
  unfold F67
  have eb : fBuild Try.prog 31 [(0, .string (bs s)), (1, .string ⟨#[99]⟩)] = some (evV ⟨s, [99], [], 0, []⟩) := by kernel_rfl
  rw [eb]
  simp only [bindP_some]
  refine ncheck_spec ⟨hs, by simp, by simp, by simp⟩ h fun w1 h1 => ?_
  rw [chk_who s [99] (by simp) (by decide)]
  have hk := hK _ h1
  by_cases hw : whoP s = true
  · rw [hw] at hk; rw [if_pos hw]; simpa using hk
  · rw [if_neg hw]
    have : whoP s = false := by simpa using hw
    rw [this] at hk; simpa using hk
theorem fiswho_spec {s : List UInt8} (hs : s.length < 1000000) (h : Sat w0 L w) (hK : ∀ w', Sat w0 L w' → K (.bool (whoP s)) w') : callP G70 [.string (bs s)] w K := by
  refine c70 ?_
  unfold F70
  have eb : fBuild Try.prog 31 [(0, .string (bs s)), (1, .string ⟨#[120]⟩)] = some (evV ⟨s, [120], [], 0, []⟩) := by kernel_rfl
  rw [eb]
  simp only [bindP_some]
  refine nfcheck_spec ⟨hs, by simp, by simp, by simp⟩ h fun w1 h1 => ?_
  rw [chk_who s [120] (by simp) (by decide)]
  have hk := hK _ h1
  by_cases hw : whoP s = true
  · rw [hw] at hk; rw [if_pos hw]; simpa using hk
  · rw [if_neg hw]
    have : whoP s = false := by simpa using hw
    rw [this] at hk; simpa using hk
end
structure Row where
  id : Int
  e : Evt
  tally : Int
  first : Int
  last : Int
  acked : Bool
  who : List UInt8
  deriving DecidableEq
@[reducible] def cRow (r : Row) : List Value := [.int .i64 r.id, .string (bs r.e.node), .string (bs r.e.cls), .string (bs r.e.key), .int .i64 r.e.level, .string (bs r.e.text), .int .i64 r.tally, .int .i64 r.first, .int .i64 r.last, .bool r.acked, .string (bs r.who)]
abbrev rowV (r : Row) : Value := .agg (cRow r).toArray
def timesR (r : Row) : Bool := timeP r.first && timeP r.last && decide (r.first ≤ r.last)
def whoR (r : Row) : Bool := if r.acked = true then whoP r.who else decide (r.who = [])
def okR (r : Row) : Bool := decide (1 ≤ r.id) && decide (1 ≤ r.e.level) && decide (1 ≤ r.tally) && decide (r.tally ≤ 1099511627776) && timesR r && whoR r && okE r.e
def chkR (r : Row) : Int := if okR r = true then 0 else 4
end Go.Proofs.Gong
