/- A part of the proofs: what stands below it, told in lemmas. No condition. -/
import Derived.Test.YtoddcinhpmbncaaLk3
namespace Go.Proofs.Gong
open Go Go.Sx Go.Proofs
set_option maxRecDepth 100000
section
variable {w0 w : World} {L : List HP} {K : Value → World → Prop}
theorem works_spec (h : Sat w0 L w) (hK : ∀ w', Sat w0 L w' → K (.bool true) w') : callP G8 [] w K := by
  refine c8 ?_
  unfold F8
  refine new_spec h (fun h => by omega) fun v w1 _ _ h1 => ?_
  obtain ⟨p, sv, ⟨rfl, _⟩, _⟩ := link_iff.1 h1
  simp [bEq_nilp up23, ptr] at h1 ⊢
  refine send_spec h1 fun w2 h2 => ?_
  simp [LinkM.send] at h2 ⊢
  refine send_spec h2 fun w3 h3 => ?_
  simp [LinkM.send] at h3 ⊢
  refine double_spec h3 fun w4 h4 => ?_
  simp [LinkM.double, LinkM.at] at h4 ⊢
  refine take_spec h4 fun w5 h5 => ?_
  simp [LinkM.take, LinkM.at] at h5 ⊢
  refine all_spec h5 fun r w6 h6 => ?_
  refine eBuildSl_sat (c := #[.string ⟨#[97]⟩, .string ⟨#[97]⟩]) (len := 2) (es := 1) h6 u49 (by kernel_rfl) rfl fun s2 w7 h7 => ?_
  refine same_spec (l := [⟨#[97]⟩, ⟨#[97]⟩]) (k := [⟨#[97]⟩, ⟨#[97]⟩]) h7.f1.rd h7.rd (by simp) (by omega) fun w8 e8 => ?_
  simp
  exact hK _ (h7.to e8).drop.drop.drop
theorem stands_spec {v r : Value} {l : LinkM} (h : Sat w0 (LinkH v l :: RefH r l :: L) w) (hK : ∀ w', Sat w0 (LinkH v l :: RefH r l :: L) w' → K (.bool true) w') : callP G19 [v, r] w K := by
  refine c19 ?_
  unfold F19
  have hlen : l.letters.length ≤ 65536 := by obtain ⟨p, sv, ⟨_, h1, h2⟩, _⟩ := link_iff.1 h; omega
  refine tally_spec h fun w1 h1 => ?_
  refine eAlloc_sat h1 z31 fun q w2 h2 => ?_
  refine bindW_stN h2 rfl rfl (by simp) fun w3 h3 => ?_
  refine all_spec h3.f1 fun k w4 h4 => ?_
  obtain ⟨p, sv, ⟨hv, hf, hm⟩, hs⟩ := ref_iff.1 h4.f3
  subst hv
  simp [ptr, cell_of hs.cl, LinkM.rcells]
  refine same_spec (l := l.letters) (k := l.letters) hs.f2.rd hs.f1.rd (by omega) (by omega) fun w5 e5 => ?_
  have h5 := (hs.to e5).f2
  refine spoil_spec h5 (by omega) fun cs6 w6 h6 => ?_
  simp [cell_of h6.f1.cl, LinkM.rcells]
  refine all_spec h6.drew.f3 fun k2 w7 h7 => ?_
  have h7 := h7.pick [3, 4, 0, 1, 5] [2] 6 (by decide) (by simp)
  simp at h7
  refine ⟨by simp [cell_of h7.cl, LinkM.rcells], ?_⟩
  refine same_spec (l := l.letters) (k := l.letters) h7.f2.rd h7.f1.rd (by omega) (by omega) fun w8 e8 => ?_
  have h8 := h7.to e8
  simp [cell_of h8.cl, LinkM.rcells, h8.f1.rd.len]
  refine len_spec h8.f3 ?_
  simp [cell_of h8.cl, LinkM.rcells, cell_of h8.f4.cl, wr, LinkM.tallyV]
  exact hK _ (by
    have := h8.pick [3, 0, 1] [2, 4] 5 (by decide) (by simp)
    simp at this
    exact Sat.f1 (ref_mk this.b2 hf hm))
theorem does_spec {v r : Value} {l : LinkM} {kd at' : Int} {s : ByteArray} (h : Sat w0 (LinkH v l :: RefH r l :: L) w) (hK : ∀ l' w', Sat w0 (LinkH v l' :: RefH r l' :: L) w' → K (.bool true) w') :
    callP G18 [v, r, .agg #[.int .i64 kd, .int .i64 at', .string s]] w K := by
  refine c18 ?_
  unfold F18
  refine eBox_sat h fun q w1 h1 => ?_
  simp [ptr, cell_of h1.cl]
  refine below_spec (by omega) (by omega) fun m hm0 hm7 _ => ?_
  have h1 := h1.b2
  have hq := h1.f2.cl
  by_cases m0 : m = 0
  · subst m0; simp [cell_of hq]
    refine send_spec h1.drew fun w2 h2 => ?_
    refine ⟨cell_of h2.f2.cl, ?_⟩
    refine rsend_spec h2.f1 fun w3 h3 => ?_
    simp
    exact hK _ _ h3.f2.drop.f1
  by_cases m1 : m = 1
  · subst m1; simp [cell_of hq]
    refine take_spec h1 fun w2 h2 => ?_
    simp [cell_of h2.f2.cl]
    refine rTake_spec h2.f1 fun w3 h3 => ?_
    simp
    exact hK _ _ h3.f2.drop.f1
  by_cases m2 : m = 2
  · subst m2; simp [cell_of hq]
    refine lose_spec h1.drew fun w2 h2 => ?_
    refine ⟨cell_of h2.f2.cl, ?_⟩
    refine rlose_spec h2.f1 fun w3 h3 => ?_
    simp
    exact hK _ _ h3.f2.drop.f1
  by_cases m3 : m = 3
  · subst m3; simp [cell_of hq]
    refine double_spec h1.drew fun w2 h2 => ?_
    refine ⟨cell_of h2.f2.cl, ?_⟩
    refine rdouble_spec h2.f1 fun w3 h3 => ?_
    simp
    exact hK _ _ h3.f2.drop.f1
  by_cases m4 : m = 4
  · subst m4; simp [cell_of hq]
    refine pass_spec h1 fun w2 h2 => ?_
    simp [cell_of h2.f2.cl]
    refine rpass_spec h2.f1 fun w3 h3 => ?_
    simp [bEq_bool ub4]
    exact hK _ _ h3.f2.drop.f1
  by_cases m5 : m = 5
  · subst m5; simp [cell_of hq]
    refine clear_spec h1 fun w2 h2 => ?_
    refine rclear_spec h2.f1 fun w3 h3 => ?_
    exact hK _ _ h3.f2.drop.f1
  · simp [m0, m1, m2, m3, m4, m5]
    refine fork_spec h1 fun x w2 h2 => ?_
    obtain ⟨p, sv, ⟨hv, hf, hm⟩, hs⟩ := link_iff.1 h2
    subst hv
    simp [bEq_nilp up23, ptr]
    have h2 := h2.f2.f1
    refine stands_spec h2 fun w3 h3 => ?_
    simp
    refine send_spec h3 fun w4 h4 => ?_
    refine lose_spec h4 fun w5 h5 => ?_
    refine pass_spec h5 fun w6 h6 => ?_
    exact hK l _ h6.drop.f2.drop.f1
end
end Go.Proofs.Gong
