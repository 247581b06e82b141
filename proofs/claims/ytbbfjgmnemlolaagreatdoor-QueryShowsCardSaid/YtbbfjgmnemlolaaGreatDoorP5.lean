/- A part of the proofs: what stands below it, told in lemmas. No condition. -/
import Derived.Test.YtbbfjgmnemlolaaGreatDoorP4
import Derived.Test.YtbbfjgmnemlolaaGreatDoorP1
import Derived.Test.YtbbfjgmnemlolaaGreatDoorP2
import Derived.Test.YtbbfjgmnemlolaaGreatDoorP3
set_option linter.all false

/- Qs7 -/
namespace Go.Proofs.Gong
open Go Go.Sx Go.Proofs
set_option maxRecDepth 100000
theorem CRq : Cod cRow 11 := ⟨fun _ => rfl, fun _ => rfl, by omega⟩
theorem pick_take {l : List Row} {f : Row → Bool} {i : Nat} (hi : i < l.length) : ((l.take (i + 1)).filter f) = (l.take i).filter f ++ if f l[i] = true then [l[i]] else [] := by
  rw [List.take_succ_eq_append_getElem hi, List.filter_append]
  congr 1
  by_cases h : f l[i] = true <;> simp [h]
def passes (ps : List (Row → Bool)) (r : Row) : Bool := ps.all fun p => p r
theorem passes_iff {ps : List (Row → Bool)} {r : Row} : passes ps r = false ↔ ∃ p ∈ ps, p r = false := by
  unfold passes
  rw [Bool.eq_false_iff, Ne, List.all_eq_true]
  constructor
  · intro h
    refine Classical.byContradiction fun hn => h fun p hp => ?_
    cases hv : p r with
    | true => rfl
    | false => exact absurd ⟨p, hp, hv⟩ hn
  · rintro ⟨p, h1, h2⟩ h
    rw [h p h1] at h2; cases h2
attribute [local irreducible] fBuild fLook fZero eqv bEqv Cl MapH LsH SlH ld1 ldN st callP eBox eAlloc lenM lenL eMapSet eDelete eAppend eBuildSl eRange eNext
section
variable {w0 w : World} {L : List HP} {K : Value → World → Prop} {TP : HP} {r : Row} {sv rv ord : Value} {fvs : List Value} {ps : List (Row → Bool)} {l : List Row} {lim : Int} {q b : Nat}
theorem tcont_spec (hlen : fvs.length = ps.length) (hl : fvs.length ≤ 1000000) (hT : ∀ i (h1 : i < fvs.length) (h2 : i < ps.length), TestAt w0 TP fvs[i] ps[i]) (hrd : ∀ w', Sat w0 (TP :: Cl b (cRow r).toArray 45 :: L) w' → Rd w' 1 sv fvs.length (fvs.flatMap fun x => [x])) (h : Sat w0 (TP :: Cl b (cRow r).toArray 45 :: L) w)
    (hK : ∀ w', Sat w0 (TP :: Cl b (cRow r).toArray 45 :: L) w' → K (.bool (!passes ps r)) w') : callP G138 [sv, .func (.func 139) #[] #[.pointer (some ⟨b, 0, none⟩)]] w K := by
  refine c138 ?_
  unfold F138
  refine c186 ?_
  unfold F186 F186_1 F186_1b
  have hlv := (hrd w h).len
  (repeat simp(disch:=omega)only[evA,evB,evC,bAdd_i64,bSub_i64,hlv])
  unfold F186_2
  refine idx_loop rfl hlen hl hT hrd (fun v w' hv h1 h2 h' => ?_) fvs.length 0 fuel w (by omega) (by unfold fuel; omega) (by simp) h
  have e : decide (v ≥ 0) = !passes ps r := by
    cases hp : passes ps r with
    | true =>
      simp only [Bool.not_true, decide_eq_false_iff_not]
      intro hge
      have := passes_iff.2 (hv.1 hge)
      rw [hp] at this; cases this
    | false =>
      simp only [Bool.not_false, decide_eq_true_eq]
      exact hv.2 (passes_iff.1 hp)
  (repeat simp(disch:=omega)only[evA,evB,evC,bAdd_i64,bSub_i64])
  rw [e]
  exact hK w' h'
theorem rows_loop (hlen : fvs.length = ps.length) (hfl : fvs.length ≤ 1000000) (hl : l.length ≤ 1000000) (hT : ∀ i (h1 : i < fvs.length) (h2 : i < ps.length), TestAt w0 TP fvs[i] ps[i]) (hrd : ∀ (L' : List HP) w', Sat w0 (TP :: L') w' → Rd w' 1 sv fvs.length (fvs.flatMap fun x => [x])) (o1 : OneV sv)
    (hK : ∀ ov w', Sat w0 (TP :: LsH cRow 11 45 ov (l.filter (passes ps)) :: LsH cRow 11 45 rv l :: Cl q #[sv, ord, .int .i64 lim] 142 :: L) w' → F86_3 (.pointer (some ⟨q, 0, none⟩)) ov w' K) : ∀ (k i n : Nat) (ov : Value) (w : World), i + k = l.length → k < n →
    Sat w0 (TP :: LsH cRow 11 45 ov ((l.take i).filter (passes ps)) :: LsH cRow 11 45 rv l :: Cl q #[sv, ord, .int .i64 lim] 142 :: L) w → F86_2L n (.pointer (some ⟨q, 0, none⟩)) ov rv (.int .i64 l.length) (.int .i64 (i : Nat)) w K
  | 0, i, n, ov, w, hi, hn, h => by
    obtain ⟨n, rfl⟩ : ∃ q, n = q + 1 := ⟨n - 1, by omega⟩
    have him : i = l.length := by omega
    subst him
    have g' : decide ((l.length : Int) < (l.length : Int)) = false := by simp
    rw [F86_2L]
    unfold F86_5 F86_5b
    (repeat simp(disch:=omega)only[evA,evB,evC,bAdd_i64,bSub_i64,g'])
    rw [List.take_length] at h
    exact hK ov w h
  | k + 1, i, n, ov, w, hi, hn, h => by
    obtain ⟨n, rfl⟩ : ∃ q, n = q + 1 := ⟨n - 1, by omega⟩
    have hil : i < l.length := by omega
    have g' : decide ((i : Int) < (l.length : Int)) = true := by simpa using hil
    have hr : Rd w 11 rv l.length (l.flatMap cRow) := ls_rd (h.frt (A := LsH cRow 11 45 rv l))
    have f1 := ix_el hr hil
    have f2 : ldN 11 (elP 11 rv i) w = some (rowV l[i]) := rd_ld CRq hr hil
    have e2 : (i : Int) + 1 = ((i + 1 : Nat) : Int) := by omega
    have hpk := pick_take (f := passes ps) hil
    rw [F86_2L]
    unfold F86_5 F86_5b
    (repeat(first
|simp(disch:=omega)only[evA,evB,evC,bAdd_i64,bSub_i64,g']
|refine go_some (f1 ..) ?_))
    rw [f2]
    simp only [bindP_some]
    refine go_alloc h z45 rfl fun p w h => ?_
    (repeat(first
|with_reducible refine go_s h ?_
|((with_reducible apply go_stA h);rfl;rfl;(first|rfl|simp[OneV.o]);intro _ h)))
    refine tcont_spec (TP := TP) (fvs := fvs) (ps := ps) (r := l[i]) (b := p) (L := LsH cRow 11 45 ov ((l.take i).filter (passes ps)) :: LsH cRow 11 45 rv l :: Cl q #[sv, ord, .int .i64 lim] 142 :: L) hlen hfl hT (fun w' h' => hrd _ w' h') (h.got) fun w h => ?_
    have hfl2 : ((l.take i).filter (passes ps)).length ≤ 1000000 := by
      have h1 := List.length_filter_le (passes ps) (l.take i)
      rw [List.length_take] at h1
      omega
    cases hp : passes ps l[i]
    · rw [hp] at hpk
      simp only [Bool.false_eq_true, if_false, List.append_nil] at hpk
      (repeat simp(disch:=omega)only[evA,evB,evC,bAdd_i64,bSub_i64])
      unfold F86_6 F86_6b
      (repeat simp(disch:=omega)only[evA,evB,evC,bAdd_i64,bSub_i64])
      rw [e2]
      exact rows_loop hlen hfl hl hT hrd o1 hK k (i + 1) n ov w (by omega) (by omega) (by rw [hpk]; exact h.got)
    · rw [hp] at hpk
      simp only [if_true] at hpk
      (repeat(first
|simp(disch:=omega)only[evA,evB,evC,bAdd_i64,bSub_i64]
|with_reducible refine go_s h ?_))
      have hb : fBuildSl Tryz.prog 45 1 [(0, rowV l[i])] = some (cRow l[i]).toArray := by kernel_rfl
      refine ls_lit (m := [l[i]]) (f := cRow) (es := 11) CRq h u22 hb (by simp) fun tv w h => ?_
      have hrt := ls_rd h
      refine ls_app (f := cRow) (es := 11) (m := [l[i]]) (L := LsH cRow 11 45 tv [l[i]] :: TP :: LsH cRow 11 45 rv l :: Cl q #[sv, ord, .int .i64 lim] 142 :: L) CRq (h.got) sl22 (by kernel_rfl) hrt (by simp only [List.length_singleton]; omega) fun ov2 w h => ?_
      unfold F86_6 F86_6b
      (repeat simp(disch:=omega)only[evA,evB,evC,bAdd_i64,bSub_i64])
      rw [e2]
      exact rows_loop hlen hfl hl hT hrd o1 hK k (i + 1) n ov2 w (by omega) (by omega) (by rw [hpk]; exact h.got)
theorem rows_spec {lt : Row → Row → Bool} (hlen : fvs.length = ps.length) (hfl : fvs.length ≤ 1000000) (hl : l.length ≤ 1000000) (hT : ∀ i (h1 : i < fvs.length) (h2 : i < ps.length), TestAt w0 TP fvs[i] ps[i]) (hrd : ∀ (L' : List HP) w', Sat w0 (TP :: L') w' → Rd w' 1 sv fvs.length (fvs.flatMap fun x => [x])) (o1 : OneV sv) (o2 : OneV ord)
    (hS : ∀ (L' : List HP) (ov : Value) (m : List Row) (w : World) (K : Value → World → Prop), m.length ≤ 1000000 → Sat w0 (LsH cRow 11 45 ov m :: TP :: L') w → (∀ m' w', m'.Perm m → m'.Pairwise (fun x y => lt y x = false) → Sat w0 (LsH cRow 11 45 ov m' :: TP :: L') w' → K (.tuple #[]) w') → callP G45 [ov, ord] w K)
    (hlim : -1 ≤ lim) (h : Sat w0 (TP :: LsH cRow 11 45 rv l :: L) w)
    (hK : ∀ v m w', m.Perm (l.filter (passes ps)) → m.Pairwise (fun x y => lt y x = false) → Sat w0 (TP :: LsH cRow 11 45 v (if 0 ≤ lim then m.take lim.toNat else m) :: LsH cRow 11 45 rv l :: L) w' → K v w') :
    callP G86 [.agg #[sv, ord, .int .i64 lim], rv] w K := by
  refine c86 ?_
  unfold F86 F86_1 F86_1b
  refine go_box h (l := [sv, ord, .int .i64 lim]) rfl fun q w h => ?_
  have hr : Rd w 11 rv l.length (l.flatMap cRow) := ls_rd (h.frt (A := LsH cRow 11 45 rv l))
  have hlv := hr.len
  (repeat simp(disch:=omega)only[evA,evB,evC,bAdd_i64,bSub_i64,hlv])
  unfold F86_2
  have h0 : Sat w0 (TP :: LsH cRow 11 45 (.slice none 0 0) ((l.take 0).filter (passes ps)) :: LsH cRow 11 45 rv l :: Cl q #[sv, ord, .int .i64 lim] 142 :: L) w := (Sat.nilLs cRow 11 45 h).got
  refine rows_loop hlen hfl hl hT hrd o1 (fun ov w h => ?_) l.length 0 fuel _ w (by omega) (by unfold fuel; omega) h0
  unfold F86_3 F86_3b
  (repeat(first
|simp(disch:=omega)only[evA,evB,evC,bAdd_i64,bSub_i64]
|with_reducible refine go_s h ?_))
  have hml : (l.filter (passes ps)).length ≤ 1000000 := by
    have h1 := List.length_filter_le (passes ps) l
    omega
  refine hS (LsH cRow 11 45 rv l :: Cl q #[sv, ord, .int .i64 lim] 142 :: L) ov _ w _ hml (h.got) fun m w hp hs h => ?_
  have hmm : m.length ≤ 1000000 := by rw [hp.length_eq]; exact hml
  have hml2 : lenL ov = some (.int .i64 (m.length : Nat)) := (ls_rd h).len
  by_cases g : 0 ≤ lim
  · have d1 : decide (lim ≥ 0) = true := by simpa using g
    by_cases g2 : lim < (m.length : Int)
    · have d2 : decide (lim < (m.length : Int)) = true := by simpa using g2
      (repeat(first
|simp(disch:=omega)only[evA,evB,evC,bAdd_i64,bSub_i64,d1,hml2,d2]
|with_reducible refine go_s h ?_))
      obtain ⟨n, rfl⟩ : ∃ n : Nat, lim = n := ⟨lim.toNat, by omega⟩
      have hn : n ≤ m.length := by omega
      obtain ⟨v', e, h'⟩ := ls_sub (f := cRow) (es := 11) CRq h (A := none) (H := some (.int .i64 (n : Nat))) (M := none) (lo := 0) (hi := n) .none (.some _ _) (.none _) (Nat.zero_le _) hn
      refine go_some e ?_
      unfold F86_4 F86_4b
      refine hK v' m w hp hs ?_
      rw [if_pos g]
      rw [List.drop_zero] at h'
      exact h'.got
    · have d2 : decide (lim < (m.length : Int)) = false := by simpa using g2
      (repeat(first
|simp(disch:=omega)only[evA,evB,evC,bAdd_i64,bSub_i64,d1,hml2,d2]
|with_reducible refine go_s h ?_))
      unfold F86_4 F86_4b
      refine hK ov m w hp hs ?_
      rw [if_pos g, List.take_of_length_le (by omega)]
      exact h.got
  · have d1 : decide (lim ≥ 0) = false := by simpa using g
    (repeat(first
|simp(disch:=omega)only[evA,evB,evC,bAdd_i64,bSub_i64,d1]
|with_reducible refine go_s h ?_))
    unfold F86_4 F86_4b
    refine hK ov m w hp hs ?_
    rw [if_neg g]
    exact h.got
end
end Go.Proofs.Gong

/- Qs8 -/
namespace Go.Proofs.Gong
open Go Go.Sx Go.Proofs
set_option maxRecDepth 100000
def cmpI (a b : Int) : Int := if a < b then -1 else if b < a then 1 else 0
def cfQ (key : Row → Int) (x y : Row) : Int := (([cmpI (key y) (key x), cmpI x.id y.id] : List Int).find? (fun c => decide (c ≠ 0))).getD 0
def ltQ (key : Row → Int) (x y : Row) : Bool := decide (key y < key x) || (decide (key y = key x) && decide (x.id < y.id))
theorem cfQ_neg (key : Row → Int) (x y : Row) : cfQ key x y < 0 ↔ ltQ key x y = true := by
  unfold cfQ ltQ cmpI
  rcases Int.lt_trichotomy (key y) (key x) with h | h | h
  · simp [h]
  · rcases Int.lt_trichotomy x.id y.id with g | g | g
    · simp [h, g]
    · simp [h, g]
    · have g2 : ¬ x.id < y.id := by omega
      simp [h, g, g2]
  · have h2 : ¬ key y < key x := by omega
    have h3 : ¬ key y = key x := by omega
    simp [h, h2, h3]
theorem ltQ_swo (key : Row → Int) : SWO (ltQ key) := by
  have e : ∀ a b, ltQ key a b = true ↔ key b < key a ∨ (key b = key a ∧ a.id < b.id) := fun a b => by simp [ltQ]
  have e2 : ∀ a b, ltQ key a b = false ↔ ¬ (key b < key a ∨ (key b = key a ∧ a.id < b.id)) := fun a b => by rw [← e]; simp
  refine ⟨fun a b h => ?_, fun a b c h1 h2 => ?_⟩
  · rw [e] at h; rw [e2]; omega
  · rw [e2] at *; omega
def KeyAt (fv : Value) (key : Row → Int) : Prop := ∀ (w0 : World) (L : List HP) (w W : World) (r : Row) (K : Value → World → Prop), Sat w0 L w → Gr W w → (∀ w', Sat w0 L w' → Gr W w' → K (.int .i64 (key r)) w') → eCallV (tabOf T131) fv [rowV r] w K
attribute [local irreducible] fBuild fLook fZero eqv bEqv Cl MapH LsH SlH ld1 ldN st callP eBox eAlloc lenM lenL eMapSet eDelete eAppend eBuildSl eRange eNext
theorem key_id : KeyAt (.func (.func 127) #[] #[]) (fun _ => 0) := by
  intro w0 L w W r K h g hK
  show callP G127 [rowV r] w K
  refine c127 ?_
  unfold F127
  refine eBox_ex h g fun p w' h' g' => ?_
  exact hK _ h'.drop g'
theorem key_last : KeyAt (.func (.func 128) #[] #[]) (fun r => r.last) := by
  intro w0 L w W r K h g hK
  show callP G128 [rowV r] w K
  refine c128 ?_
  unfold F128
  refine eBox_ex h g fun p w' h' g' => ?_
  simp only [cells_agg] at h'
  have h := h'
  (repeat(first
|simp(disch:=omega)only[evA,evB,evC,bAdd_i64,bSub_i64]
|with_reducible refine go_s h ?_))
  exact hK _ h'.drop g'
theorem key_level : KeyAt (.func (.func 129) #[] #[]) (fun r => r.e.level) := by
  intro w0 L w W r K h g hK
  show callP G129 [rowV r] w K
  refine c129 ?_
  unfold F129
  refine eBox_ex h g fun p w' h' g' => ?_
  simp only [cells_agg] at h'
  have h := h'
  (repeat(first
|simp(disch:=omega)only[evA,evB,evC,bAdd_i64,bSub_i64,Nat.reduceAdd]
|with_reducible refine go_s h ?_))
  exact hK _ h'.drop g'
theorem key_tally : KeyAt (.func (.func 130) #[] #[]) (fun r => r.tally) := by
  intro w0 L w W r K h g hK
  show callP G130 [rowV r] w K
  refine c130 ?_
  unfold F130
  refine eBox_ex h g fun p w' h' g' => ?_
  simp only [cells_agg] at h'
  have h := h'
  (repeat(first
|simp(disch:=omega)only[evA,evB,evC,bAdd_i64,bSub_i64,Nat.reduceAdd]
|with_reducible refine go_s h ?_))
  exact hK _ h'.drop g'
section
variable {w0 w : World} {L : List HP} {K : Value → World → Prop} {fv : Value} {key : Row → Int} {ob : Nat}
theorem by1_calls (hk : KeyAt fv key) (o1 : OneV fv) (h : Sat w0 (Cl ob #[fv] 183 :: L) w) (x y : Row) : callP G131 [rowV x, rowV y, .pointer (some ⟨ob, 0, none⟩)] w fun v w' => v = .int .i64 (cfQ key x y) ∧ Gr w w' := by
  refine c131 ?_
  unfold F131
  refine eBox_ex h (Gr.refl w) fun p w1 h1 g1 => ?_
  refine eBox_ex h1 g1 fun q w2 h2 g2 => ?_
  simp only [cells_agg] at h2
  have h := h2
  (repeat(first
|simp(disch:=omega)only[evA,evB,evC,bAdd_i64,bSub_i64]
|with_reducible refine go_s h ?_))
  have h := h2.drew
  refine hk _ _ _ _ y _ h2.drew g2.drew fun w3 h3 g3 => ?_
  have h := h3
  (repeat with_reducible refine go_s h ?_)
  refine hk _ _ _ _ x _ h3 g3 fun w4 h4 g4 => ?_
  have h := h4
  (repeat with_reducible refine go_s h ?_)
  refine cmp_spec ?_
  (repeat with_reducible refine go_s h ?_)
  refine cmp_spec ?_
  refine eBuildSl_ex (f := cI) (es := 1) (m := [cmpI (key y) (key x), cmpI x.id y.id]) (c := #[.int .i64 (cmpI (key y) (key x)), .int .i64 (cmpI x.id y.id)]) CI h4 g4 u269 (by kernel_rfl) rfl fun s w5 h5 g5 => ?_
  refine or_spec (ls_rd h5) (by simp) ?_
  exact ⟨rfl, g5⟩
theorem sort_by {TP : HP} (hk : KeyAt fv key) (o1 : OneV fv) (L' : List HP) (ov : Value) (m : List Row) (w : World) (K : Value → World → Prop) (hm : m.length ≤ 1000000) (h : Sat w0 (LsH cRow 11 45 ov m :: HSt (Cl ob #[fv] 183) TP :: L') w)
    (hK : ∀ m' w', m'.Perm m → m'.Pairwise (fun x y => ltQ key y x = false) → Sat w0 (LsH cRow 11 45 ov m' :: HSt (Cl ob #[fv] 183) TP :: L') w' → K (.tuple #[]) w') : callP G45 [ov, .func (.func 131) #[] #[.pointer (some ⟨ob, 0, none⟩)]] w K := by
  haveI : Inhabited Row := ⟨⟨0, ⟨[], [], [], 0, []⟩, 0, 0, 0, false, []⟩⟩
  refine sortC_sat (cf := cfQ key) (lt := ltQ key) (cb := [.pointer (some ⟨ob, 0, none⟩)]) h (by omega) CRq (ltQ_swo key) (cfQ_neg key) ok131 Tryz.call131 (fun W l2 hl2 h2 x y => ?_) hK
  have h3 : Sat w0 (HSt (Cl ob #[fv] 183) TP :: LsH cRow 11 45 ov l2 :: L') W := h2.f1
  exact by1_calls hk o1 (Sat.star_iff.1 h3) x y
end
end Go.Proofs.Gong

/- Qs9 -/
namespace Go.Proofs.Gong
open Go Go.Sx Go.Proofs
set_option maxRecDepth 100000
instance {f : _} {a : _} {b : _} : OneV (.func f a b) := ⟨rfl, rfl⟩
instance : OneV .nilFunc := ⟨rfl, rfl⟩
abbrev OV := { v : Value // OneV v }
abbrev cOV (x : OV) : List Value := [x.1]
theorem COV : Cod cOV 1 := ⟨fun _ => rfl, fun x => by simp [cOV, x.2.o], by omega⟩
def FiltAt (w0 : World) (FP : HP) (fv : Value) (ps : List (Row → Bool)) (lt : Row → Row → Bool) (lim : Int) : Prop :=
  (∃ a b, fv = .agg #[a, b, .int .i64 lim] ∧ OneV a ∧ OneV b) ∧ ∀ (l : List Row) (rv : Value) (L : List HP) (w : World) (K : Value → World → Prop), l.length ≤ 1000000 → Sat w0 (FP :: LsH cRow 11 45 rv l :: L) w →
    (∀ v m w', m.Perm (l.filter (passes ps)) → m.Pairwise (fun x y => lt y x = false) → Sat w0 (FP :: LsH cRow 11 45 v (if 0 ≤ lim then m.take lim.toNat else m) :: LsH cRow 11 45 rv l :: L) w' → K v w') → callP G86 [fv, rv] w K
attribute [local irreducible] fBuild fLook fZero eqv bEqv Cl MapH LsH SlH ld1 ldN st callP eBox eAlloc lenM lenL eMapSet eDelete eAppend eBuildSl eRange eNext
section
variable {w0 w : World} {L : List HP} {K : Value → World → Prop} {TP : HP} {key : Row → Int} {fv sv wv : Value} {ob : Nat} {fvs : List OV} {ps : List (Row → Bool)} {lim : Int}
theorem filt_mk (hk : KeyAt fv key) (o1 : OneV fv) (hlen : fvs.length = ps.length) (hfl : fvs.length ≤ 1000000) (hlim : -1 ≤ lim) (os : OneV sv)
    (hT : ∀ i (h1 : i < fvs.length) (h2 : i < ps.length), TestAt w0 (HSt (Cl ob #[fv] 183) (HSt (LsH cOV 1 187 sv fvs) TP)) fvs[i].1 ps[i]) :
    FiltAt w0 (HSt (Cl ob #[fv] 183) (HSt (LsH cOV 1 187 sv fvs) TP)) (.agg #[sv, .func (.func 131) #[] #[.pointer (some ⟨ob, 0, none⟩)], .int .i64 lim]) ps (ltQ key) lim := by
  refine ⟨⟨_, _, rfl, os, inferInstance⟩, fun l rv L w K hl h hK => ?_⟩
  refine rows_spec (TP := HSt (Cl ob #[fv] 183) (HSt (LsH cOV 1 187 sv fvs) TP)) (fvs := fvs.map (·.1)) (ps := ps) (lt := ltQ key) (by simpa using hlen) (by simpa using hfl) hl (fun i h1 h2 => by simpa using hT i (by simpa using h1) h2) (fun L' w' h' => ?_) os inferInstance (fun L' ov m w K hm h hK => sort_by hk o1 L' ov m w K hm h hK) hlim h hK
  have h2 := Sat.star_iff.1 (Sat.star_iff.1 h').drop
  have h3 := ls_rd h2
  have e : (fvs.map (·.1)).flatMap (fun x => [x]) = fvs.flatMap cOV := by rw [List.flatMap_map]
  rw [e, List.length_map]; exact h3
theorem level_spec {u : Nat} (T : PowIs Tryz.prog w0) (hu : u ≤ 5) (h : Sat w0 L w) (hK : ∀ nb w', Sat w0 (Cl nb #[.int .i64 u] 3 :: L) w' → K (.tuple #[.func (.func 183) #[] #[.pointer (some ⟨nb, 0, none⟩)], .bool true]) w') : callP G135 [.string (bs (Lib.itoa (u : Int)))] w K := by
  refine c135 ?_
  unfold F135
  refine number_spec T (by omega) h fun w h => ?_
  have g : decide ((u : Int) ≤ 5) = true := by simp only [decide_eq_true_eq]; omega
  (repeat(first
|simp(disch:=omega)only[evA,evB,evC,bAdd_i64,bSub_i64,g]
|with_reducible refine go_s h ?_
|((with_reducible refine go_w h ?_);intro _ h)
|((with_reducible apply go_alloc h);(first|exact z3);rfl;intro _ _ h)))
  exact hK _ _ h.drew
end
end Go.Proofs.Gong

/- Qt0 -/
namespace Go.Proofs.Gong
open Go Go.Sx Go.Proofs
set_option maxRecDepth 100000
structure QSt where
  ps : List (Row → Bool)
  ord : Option (Row → Int)
  lim : Int
def firstL (s : List UInt8) : Option (Row → Int) :=
  if s = [105, 100] then some fun _ => 0 else if s = [108, 97, 115, 116] then some fun r => r.last else if s = [108, 101, 118, 101, 108] then some fun r => r.e.level else if s = [116, 97, 108, 108, 121] then some fun r => r.tally else none
def kOrder : List UInt8 := [111, 114, 100, 101, 114]
def kLimit : List UInt8 := [108, 105, 109, 105, 116]
section
variable (ofL : List UInt8 → List UInt8 → Option (Row → Bool)) (numL : List UInt8 → Option Nat)
def stepQ (s : QSt) (key word : List UInt8) : Option QSt :=
  if key = kOrder ∧ s.ord.isNone = true ∧ (firstL word).isSome = true then some { s with ord := firstL word }
  else if key = kLimit ∧ s.lim < 0 then (numL word).map fun n => { s with lim := (n : Nat) }
  else (ofL key word).map fun p => { s with ps := s.ps ++ [p] }
def readQ : List (List UInt8) → QSt → Option QSt
  | k :: v :: r, s => match stepQ ofL numL s k v with
    | none => none
    | some s' => readQ r s'
  | [], s => some s
  | [_], _ => none
end
def OfAt (w0 : World) (ofL : List UInt8 → List UInt8 → Option (Row → Bool)) (k v : List UInt8) : Prop := ∀ (L : List HP) (w : World) (K : Value → World → Prop), Sat w0 L w → (ofL k v = none → ∀ fv w', Sat w0 L w' → K (.tuple #[fv, .bool false]) w') →
  (∀ p, ofL k v = some p → ∀ TP g c w', TestAt w0 TP (.func (.func g) #[] c) p → Sat w0 (TP :: L) w' → K (.tuple #[.func (.func g) #[] c, .bool true]) w') → callP G85 [.string (bs k), .string (bs v)] w K
def NumAt (w0 : World) (numL : List UInt8 → Option Nat) (s : List UInt8) : Prop := ∀ (L : List HP) (w : World) (K : Value → World → Prop), Sat w0 L w → (numL s = none → ∀ u w', Sat w0 L w' → K (.tuple #[.int .i64 u, .bool false]) w') →
  (∀ u : Nat, numL s = some u → ∀ w', Sat w0 L w' → K (.tuple #[.int .i64 u, .bool true]) w') → callP G84 [.string (bs s)] w K
def Agg3 (fv : Value) : Prop := ∃ a b c, fv = .agg #[a, b, c] ∧ OneV a ∧ OneV b ∧ OneV c
def FirstIs (s : List UInt8) (fv : Value) : Prop := (firstL s = none ∧ fv = .nilFunc) ∨ ∃ key n, firstL s = some key ∧ fv = .func (.func n) #[] #[] ∧ KeyAt fv key
attribute [local irreducible] fBuild fLook fZero eqv bEqv Cl MapH LsH SlH ld1 ldN st callP eBox eAlloc lenM lenL eMapSet eDelete eAppend eBuildSl eRange eNext
theorem ord_nil (a : Operand) : bEq Tryz.prog 95 a (.const .nilFunc) .nilFunc .nilFunc = some (.bool true) := by cases a <;> kernel_rfl
theorem ord_fn (a : Operand) (f : Fn) (c : _) : bEq Tryz.prog 95 a (.const .nilFunc) (.func f #[] c) .nilFunc = some (.bool false) := by cases a <;> kernel_rfl
theorem fn_nil (a : Operand) : bNe Tryz.prog 183 a (.const .nilFunc) .nilFunc .nilFunc = some (.bool false) := by cases a <;> kernel_rfl
theorem fn_fn (a : Operand) (f : Fn) (c : _) : bNe Tryz.prog 183 a (.const .nilFunc) (.func f #[] c) .nilFunc = some (.bool true) := by cases a <;> kernel_rfl
theorem TestAt.left {w0 : World} {A TP : HP} {fv : Value} {p : Row → Bool} (h : TestAt w0 TP fv p) : TestAt w0 (HSt A TP) fv p := fun L w r K hs hK =>
  h (A :: L) w r K (Sat.star_iff.1 hs).f1 fun w' h' => hK w' (Sat.star_iff.2 h'.f1)
theorem TestAt.right {w0 : World} {A TP : HP} {fv : Value} {p : Row → Bool} (h : TestAt w0 TP fv p) : TestAt w0 (HSt TP A) fv p := fun L w r K hs hK =>
  h (A :: L) w r K (Sat.star_iff.1 hs) fun w' h' => hK w' (Sat.star_iff.2 h')
theorem first_spec {s : List UInt8} {w : World} {K : Value → World → Prop} (hK : ∀ fv, FirstIs s fv → K fv w) : callP G82 [.string (bs s)] w K := by
  refine c82 ?_
  unfold F82
  by_cases g1 : s = [105, 100]
  · have d1 : decide (s = [105, 100]) = true := by simpa using g1
    (repeat simp(disch:=omega)only[evA,evB,evC,bAdd_i64,bSub_i64,d1])
    exact hK _ (.inr ⟨_, _, by unfold firstL; rw [if_pos g1], rfl, key_id⟩)
  have d1 : decide (s = [105, 100]) = false := by simpa using g1
  by_cases g2 : s = [108, 97, 115, 116]
  · have d2 : decide (s = [108, 97, 115, 116]) = true := by simpa using g2
    (repeat simp(disch:=omega)only[evA,evB,evC,bAdd_i64,bSub_i64,d1,d2])
    exact hK _ (.inr ⟨_, _, by unfold firstL; rw [if_neg g1, if_pos g2], rfl, key_last⟩)
  have d2 : decide (s = [108, 97, 115, 116]) = false := by simpa using g2
  by_cases g3 : s = [108, 101, 118, 101, 108]
  · have d3 : decide (s = [108, 101, 118, 101, 108]) = true := by simpa using g3
    (repeat simp(disch:=omega)only[evA,evB,evC,bAdd_i64,bSub_i64,d1,d2,d3])
    exact hK _ (.inr ⟨_, _, by unfold firstL; rw [if_neg g1, if_neg g2, if_pos g3], rfl, key_level⟩)
  have d3 : decide (s = [108, 101, 118, 101, 108]) = false := by simpa using g3
  by_cases g4 : s = [116, 97, 108, 108, 121]
  · have d4 : decide (s = [116, 97, 108, 108, 121]) = true := by simpa using g4
    (repeat simp(disch:=omega)only[evA,evB,evC,bAdd_i64,bSub_i64,d1,d2,d3,d4])
    exact hK _ (.inr ⟨_, _, by unfold firstL; rw [if_neg g1, if_neg g2, if_neg g3, if_pos g4], rfl, key_tally⟩)
  have d4 : decide (s = [116, 97, 108, 108, 121]) = false := by simpa using g4
  (repeat simp(disch:=omega)only[evA,evB,evC,bAdd_i64,bSub_i64,d1,d2,d3,d4])
  exact hK _ (.inl ⟨by unfold firstL; rw [if_neg g1, if_neg g2, if_neg g3, if_neg g4], rfl⟩)
section
variable {w0 w : World} {L : List HP} {K : Value → World → Prop}
theorem by_spec {s : List UInt8} (h : Sat w0 L w) (hK : ∀ fv ob w', FirstIs s fv → Sat w0 (Cl ob #[fv] 183 :: L) w' → K (.func (.func 131) #[] #[.pointer (some ⟨ob, 0, none⟩)]) w') : callP G83 [.string (bs s)] w K := by
  refine c83 ?_
  unfold F83
  refine first_spec fun fv hf => ?_
  have o1 : OneV fv := by
    rcases hf with ⟨_, rfl⟩ | ⟨_, _, _, rfl, _⟩ <;> infer_instance
  have zf : fZero Tryz.prog 183 = some .nilFunc := by kernel_rfl
  refine go_alloc h zf rfl fun p w h => ?_
  (repeat(first
|simp(disch:=omega)only[evA,evB,evC,bAdd_i64,bSub_i64]
|((with_reducible refine go_w h ?_);intro _ h)))
  exact hK _ _ _ hf h
end
end Go.Proofs.Gong

/- Qt1 -/
namespace Go.Proofs.Gong
open Go Go.Sx Go.Proofs
set_option maxRecDepth 100000
def OrdIs (o : Option (Row → Int)) (ov : Value) (OP : HP) : Prop := (o = none ∧ ov = .nilFunc) ∨ ∃ key fv ob, o = some key ∧ ov = .func (.func 131) #[] #[.pointer (some ⟨ob, 0, none⟩)] ∧ KeyAt fv key ∧ OneV fv ∧ OP = Cl ob #[fv] 183
theorem OrdIs.one {o : Option (Row → Int)} {ov : Value} {OP : HP} (h : OrdIs o ov OP) : OneV ov := by
  rcases h with ⟨_, rfl⟩ | ⟨_, _, _, _, rfl, _⟩ <;> infer_instance
attribute [local irreducible] fBuild fLook fZero eqv bEqv Cl MapH LsH SlH ld1 ldN st callP eBox eAlloc lenM lenL eMapSet eDelete eAppend eBuildSl eRange eNext
section
variable {w0 w : World} {L : List HP} {K : Value → World → Prop} {ofL : List UInt8 → List UInt8 → Option (Row → Bool)} {numL : List UInt8 → Option Nat} {ws : List (List UInt8)} {R : Option QSt} {wv : Value} {p f : Nat}
abbrev ReadH (w0 : World) (L : List HP) (ws : List (List UInt8)) (wv : Value) (p f : Nat) (s : QSt) (fvs : List OV) (sv ov : Value) (OP TP : HP) (w : World) : Prop :=
  Sat w0 (LsH cOV 1 187 sv fvs :: OP :: TP :: Cl f #[sv, ov, .int .i64 s.lim] 142 :: Cl p #[.slice none 0 0, .nilFunc, .int .i64 0] 142 :: LsH cSt 1 9 wv ws :: L) w
theorem read_end {s : QSt} {fvs : List OV} {sv ov : Value} {TP OP : HP} (hps : s.ps.length = fvs.length) (hpl : s.ps.length ≤ 1000000) (hlm : -1 ≤ s.lim) (hT : ∀ j (h1 : j < fvs.length) (h2 : j < s.ps.length), TestAt w0 TP fvs[j].1 s.ps[j]) (hO : OrdIs s.ord ov OP)
    (hK : ∀ FP fv w', Agg3 fv → FiltAt w0 FP fv s.ps (ltQ (s.ord.getD fun _ => 0)) s.lim → Sat w0 (FP :: L) w' → K (.tuple #[fv, .bool true]) w') (h : ReadH w0 L ws wv p f s fvs sv ov OP TP w) : F49_3 (.pointer (some ⟨p, 0, none⟩)) (.pointer (some ⟨f, 0, none⟩)) w K := by
  have os : OneV sv := ls_one h
  have fin : ∀ (key : Row → Int) (fv : Value) (ob : Nat) (w : World), s.ord.getD (fun _ => 0) = key → KeyAt fv key → OneV fv →
      Sat w0 (LsH cOV 1 187 sv fvs :: Cl ob #[fv] 183 :: TP :: Cl f #[sv, .func (.func 131) #[] #[.pointer (some ⟨ob, 0, none⟩)], .int .i64 s.lim] 142 :: Cl p #[.slice none 0 0, .nilFunc, .int .i64 0] 142 :: LsH cSt 1 9 wv ws :: L) w →
      F49_4 (.pointer (some ⟨p, 0, none⟩)) (.pointer (some ⟨f, 0, none⟩)) w K := by
    intro key fv ob w hk1 hk2 of1 h
    unfold F49_4 F49_4b
    (repeat(first
|with_reducible refine go_s h ?_
|((with_reducible apply go_stA h);rfl;rfl;(first|rfl|simp[OneV.o]);intro _ h)))
    refine hK (HSt (Cl ob #[fv] 183) (HSt (LsH cOV 1 187 sv fvs) TP)) _ _ ⟨_, _, _, rfl, os, inferInstance, inferInstance⟩ (by rw [hk1]; exact filt_mk (key := key) hk2 of1 hps.symm (by omega) hlm os fun j h1 h2 => ((hT j h1 h2).left).left) ?_
    refine Sat.star_iff.2 (Sat.f1 (Sat.star_iff.2 ?_))
    exact h.got
  unfold F49_3 F49_3b
  rcases hO with ⟨ho, rfl⟩ | ⟨key, fv, ob, ho, rfl, hk2, of1, rfl⟩
  · (repeat(first
|simp(disch:=omega)only[evA,evB,evC,bAdd_i64,bSub_i64,ord_nil]
|with_reducible refine go_s h ?_))
    refine by_spec (s := [105, 100]) h fun fv ob w hf h => ?_
    obtain ⟨hf, _⟩ | ⟨key, n, hf, rfl, hk2⟩ := hf
    · exact absurd hf (by simp [firstL])
    have ek : key = fun _ => 0 := by
      have : firstL [105, 100] = some fun _ => 0 := rfl
      rw [this] at hf; exact (Option.some.inj hf).symm
    subst ek
    (repeat ((with_reducible refine go_w h ?_);intro _ h))
    exact fin _ _ ob _ (by rw [ho]; rfl) hk2 inferInstance (h.got)
  · (repeat(first
|simp(disch:=omega)only[evA,evB,evC,bAdd_i64,bSub_i64,ord_fn]
|with_reducible refine go_s h ?_))
    exact fin key fv ob _ (by rw [ho]; rfl) hk2 of1 h
end
end Go.Proofs.Gong

/- Qt2 -/
namespace Go.Proofs.Gong
open Go Go.Sx Go.Proofs
set_option maxRecDepth 100000
attribute [local irreducible] fBuild fLook fZero eqv bEqv Cl MapH LsH SlH ld1 ldN st callP eBox eAlloc lenM lenL eMapSet eDelete eAppend eBuildSl eRange eNext
section
variable {w0 w : World} {L : List HP} {K : Value → World → Prop} {ofL : List UInt8 → List UInt8 → Option (Row → Bool)} {numL : List UInt8 → Option Nat} {ws : List (List UInt8)} {R : Option QSt} {wv : Value} {p f : Nat}
theorem read_rest {s : QSt} {fvs : List OV} {sv ov : Value} {TP OP : HP} {a b : List UInt8} {s0 s5 : Value} {R4 : Value → Value → Value → Value → World → Prop} (C : OfAt w0 ofL a b) (N : a = kLimit → NumAt w0 numL b) (hno : ¬ (a = kOrder ∧ s.ord.isNone = true ∧ (firstL b).isSome = true)) (hps : s.ps.length = fvs.length) (hpl : s.ps.length ≤ 1000000) (hlm : -1 ≤ s.lim)
    (hT : ∀ j (h1 : j < fvs.length) (h2 : j < s.ps.length), TestAt w0 TP fvs[j].1 s.ps[j]) (hO : OrdIs s.ord ov OP)
    (hF : stepQ ofL numL s a b = none → ∀ fv w', Agg3 fv → Sat w0 L w' → K (.tuple #[fv, .bool false]) w')
    (next : ∀ (s' : QSt) (fvs' : List OV) (sv' ov' : Value) (TP' OP' : HP) (w' : World), stepQ ofL numL s a b = some s' → s'.ps.length = fvs'.length → s'.ps.length ≤ s.ps.length + 1 → -1 ≤ s'.lim →
        (∀ j (h1 : j < fvs'.length) (h2 : j < s'.ps.length), TestAt w0 TP' fvs'[j].1 s'.ps[j]) → OrdIs s'.ord ov' OP' → ReadH w0 L ws wv p f s' fvs' sv' ov' OP' TP' w' → F49_6 s0 (.pointer (some ⟨p, 0, none⟩)) (.pointer (some ⟨f, 0, none⟩)) s5 w' K R4)
    (h : ReadH w0 L ws wv p f s fvs sv ov OP TP w) :
    (bindP (bEq Tryz.prog 9 (.tmp 65) (.const (.string ⟨#[108, 105, 109, 105, 116]⟩)) (.string (bs a)) (.string ⟨#[108, 105, 109, 105, 116]⟩)) fun v39 =>
Sx.stepG (gd true v39) (pFieldAddr 2 (.pointer (some ⟨f, 0, none⟩))) fun v40 =>
Sx.stepG (gd true v39) (ld1 v40 w) fun v41 =>
Sx.stepG (gd true v39) (bLt v41 (.int .i64 0)) fun v42 =>
bindP (pPick v39 v42 (.bool false)) fun v43 =>
ifB v43 (
callP G84 [(.string (bs b))] w fun v45 w44 =>
bindP (pTuple v45 0) fun v46 =>
bindP (pTuple v45 1) fun v47 =>
bindP (uNot v47) fun v48 =>
ifB v48 (
bindP (ldN 3 (.pointer (some ⟨f, 0, none⟩)) w44) fun v49 =>
bindW (st 3 (.pointer (some ⟨p, 0, none⟩)) v49 w44) fun w50 =>
bindP (ldN 3 (.pointer (some ⟨p, 0, none⟩)) w50) fun v52 =>
K (.tuple #[v52, (.bool false)]) w50) (
bindP (pFieldAddr 2 (.pointer (some ⟨f, 0, none⟩))) fun v53 =>
bindW (st 1 v53 v46 w44) fun w54 =>
F49_6 s0 (.pointer (some ⟨p, 0, none⟩)) (.pointer (some ⟨f, 0, none⟩)) s5 w54 K R4)) (
callP G85 [(.string (bs a)), (.string (bs b))] w fun v57 w56 =>
bindP (pTuple v57 0) fun v58 =>
bindP (pTuple v57 1) fun v59 =>
bindP (uNot v59) fun v60 =>
ifB v60 (
bindP (ldN 3 (.pointer (some ⟨f, 0, none⟩)) w56) fun v61 =>
bindW (st 3 (.pointer (some ⟨p, 0, none⟩)) v61 w56) fun w62 =>
bindP (ldN 3 (.pointer (some ⟨p, 0, none⟩)) w62) fun v64 =>
K (.tuple #[v64, (.bool false)]) w62) (
bindP (pFieldAddr 0 (.pointer (some ⟨f, 0, none⟩))) fun v65 =>
bindP (ld1 v65 w56) fun v66 =>
eBuildSl Tryz.prog 140 1 [(0, v58)] w56 fun v68 w67 =>
eAppend Tryz.prog 140 140 v66 v68 w67 fun v70 w69 =>
bindP (pFieldAddr 0 (.pointer (some ⟨f, 0, none⟩))) fun v71 =>
bindW (st 1 v71 v70 w69) fun w72 =>
F49_6 s0 (.pointer (some ⟨p, 0, none⟩)) (.pointer (some ⟨f, 0, none⟩)) s5 w72 K R4))) := by
  have os : OneV sv := ls_one h
  have oo : OneV ov := hO.one
  have test : ¬ (a = kLimit ∧ s.lim < 0) → ∀ w, ReadH w0 L ws wv p f s fvs sv ov OP TP w → (callP G85 [(.string (bs a)), (.string (bs b))] w fun v57 w56 =>
bindP (pTuple v57 0) fun v58 =>
bindP (pTuple v57 1) fun v59 =>
bindP (uNot v59) fun v60 =>
ifB v60 (
bindP (ldN 3 (.pointer (some ⟨f, 0, none⟩)) w56) fun v61 =>
bindW (st 3 (.pointer (some ⟨p, 0, none⟩)) v61 w56) fun w62 =>
bindP (ldN 3 (.pointer (some ⟨p, 0, none⟩)) w62) fun v64 =>
K (.tuple #[v64, (.bool false)]) w62) (
bindP (pFieldAddr 0 (.pointer (some ⟨f, 0, none⟩))) fun v65 =>
bindP (ld1 v65 w56) fun v66 =>
eBuildSl Tryz.prog 140 1 [(0, v58)] w56 fun v68 w67 =>
eAppend Tryz.prog 140 140 v66 v68 w67 fun v70 w69 =>
bindP (pFieldAddr 0 (.pointer (some ⟨f, 0, none⟩))) fun v71 =>
bindW (st 1 v71 v70 w69) fun w72 =>
F49_6 s0 (.pointer (some ⟨p, 0, none⟩)) (.pointer (some ⟨f, 0, none⟩)) s5 w72 K R4)) := by
    intro hnl w h
    have hst : stepQ ofL numL s a b = (ofL a b).map fun p => { s with ps := s.ps ++ [p] } := by unfold stepQ; rw [if_neg hno, if_neg hnl]
    refine C _ w _ h (fun hn fv w h => ?_) fun q hq TN g c w hTN h => ?_
    · (repeat(first
|simp(disch:=omega)only[evA,evB,evC,bAdd_i64,bSub_i64]
|with_reducible refine go_s h ?_
|((with_reducible apply go_stA h);rfl;rfl;(first|rfl|simp[OneV.o]);intro _ h)))
      exact hF (by rw [hst, hn]; rfl) _ _ ⟨_, _, _, rfl, os, oo, inferInstance⟩ (h.got)
    · (repeat(first
|simp(disch:=omega)only[evA,evB,evC,bAdd_i64,bSub_i64]
|with_reducible refine go_s h ?_))
      have hb : fBuildSl Tryz.prog 187 1 [(0, .func (.func g) #[] c)] = some #[.func (.func g) #[] c] := by kernel_rfl
      have o1 : OneV (.func (.func g) #[] c) := inferInstance
      refine ls_lit (m := [(⟨.func (.func g) #[] c, o1⟩ : OV)]) (f := cOV) (es := 1) COV h u140 hb (by simp) fun tv w h => ?_
      have hrt := ls_rd h
      refine ls_app (f := cOV) (es := 1) (m := [(⟨.func (.func g) #[] c, o1⟩ : OV)]) (L := LsH cOV 1 187 tv [(⟨.func (.func g) #[] c, o1⟩ : OV)] :: TN :: OP :: TP :: Cl f #[sv, ov, .int .i64 s.lim] 142 :: Cl p #[.slice none 0 0, .nilFunc, .int .i64 0] 142 :: LsH cSt 1 9 wv ws :: L) COV (h.got) sl140 (by kernel_rfl) hrt (by simp only [List.length_singleton]; omega) fun sv2 w h => ?_
      have os2 := ls_one h
      (repeat ((with_reducible refine go_w h ?_);intro _ h))
      refine next { s with ps := s.ps ++ [q] } (fvs ++ [⟨.func (.func g) #[] c, o1⟩]) sv2 ov (HSt TN TP) OP _ (by rw [hst, hq]; rfl) (by simp [hps]) (by simp) hlm (fun j h1 h2 => ?_) hO ?_
      · by_cases hj : j < fvs.length
        · have e1 : (fvs ++ [(⟨.func (.func g) #[] c, o1⟩ : OV)])[j] = fvs[j] := List.getElem_append_left hj
          have e2 : (s.ps ++ [q])[j] = s.ps[j]'(by omega) := List.getElem_append_left (by omega)
          show TestAt w0 (HSt TN TP) (fvs ++ [(⟨.func (.func g) #[] c, o1⟩ : OV)])[j].1 (s.ps ++ [q])[j]
          rw [e1, e2]
          exact (hT j hj (by omega)).left
        · have hj2 : j = fvs.length := by simp at h1; omega
          subst hj2
          show TestAt w0 (HSt TN TP) (fvs ++ [(⟨.func (.func g) #[] c, o1⟩ : OV)])[fvs.length].1 (s.ps ++ [q])[fvs.length]
          have e1 : (fvs ++ [(⟨.func (.func g) #[] c, o1⟩ : OV)])[fvs.length] = ⟨.func (.func g) #[] c, o1⟩ := by simp
          have e2 : (s.ps ++ [q])[fvs.length]'(by simp [hps]) = q := by simp [← hps]
          rw [e1, e2]
          exact hTN.right
      · refine Sat.f2 (Sat.f2 (Sat.star_iff.2 ?_))
        exact h.got
  by_cases g1 : a = kLimit
  · have d1 : decide (a = [108, 105, 109, 105, 116]) = true := by simpa [kLimit] using g1
    by_cases g2 : s.lim < 0
    · have d2 : decide (s.lim < 0) = true := by simpa using g2
      (repeat(first
|simp(disch:=omega)only[evA,evB,evC,bAdd_i64,bSub_i64,d1,d2]
|with_reducible refine go_s h ?_))
      have hst : stepQ ofL numL s a b = (numL b).map fun n => { s with lim := (n : Nat) } := by unfold stepQ; rw [if_neg hno, if_pos ⟨g1, g2⟩]
      refine N g1 _ w _ h (fun hn u w h => ?_) fun u hu w h => ?_
      · (repeat(first
|simp(disch:=omega)only[evA,evB,evC,bAdd_i64,bSub_i64]
|with_reducible refine go_s h ?_
|((with_reducible apply go_stA h);rfl;rfl;(first|rfl|simp[OneV.o]);intro _ h)))
        exact hF (by rw [hst, hn]; rfl) _ _ ⟨_, _, _, rfl, os, oo, inferInstance⟩ (h.got)
      · (repeat(first
|simp(disch:=omega)only[evA,evB,evC,bAdd_i64,bSub_i64]
|((with_reducible refine go_w h ?_);intro _ h)))
        exact next { s with lim := (u : Nat) } fvs sv ov TP OP _ (by rw [hst, hu]; rfl) hps (Nat.le_succ _) (by simp only; omega) hT hO (h.got)
    · have d2 : decide (s.lim < 0) = false := by simpa using g2
      (repeat(first
|simp(disch:=omega)only[evA,evB,evC,bAdd_i64,bSub_i64,d1,d2]
|with_reducible refine go_s h ?_))
      exact test (fun g => g2 g.2) _ h
  · have d1 : decide (a = [108, 105, 109, 105, 116]) = false := by simpa [kLimit] using g1
    (repeat simp(disch:=omega)only[evA,evB,evC,bAdd_i64,bSub_i64,d1])
    exact test (fun g => g1 g.1) _ h
theorem read_loop (hl : ws.length ≤ 1000000) (hpar : ws.length % 2 = 0) (C : ∀ i (h : i + 1 < ws.length), i % 2 = 0 → OfAt w0 ofL ws[i] ws[i + 1]) (N : ∀ i (h : i + 1 < ws.length), ws[i] = kLimit → NumAt w0 numL ws[i + 1])
    (hF : R = none → ∀ fv w', Agg3 fv → Sat w0 L w' → K (.tuple #[fv, .bool false]) w')
    (hK : ∀ s, R = some s → ∀ FP fv w', Agg3 fv → FiltAt w0 FP fv s.ps (ltQ (s.ord.getD fun _ => 0)) s.lim → Sat w0 (FP :: L) w' → K (.tuple #[fv, .bool true]) w') :
    ∀ (k i n : Nat) (s : QSt) (fvs : List OV) (sv ov : Value) (TP OP : HP) (w : World), i + 2 * k = ws.length → k < n → readQ ofL numL (ws.drop i) s = R → s.ps.length = fvs.length → s.ps.length ≤ i → -1 ≤ s.lim →
      (∀ j (h1 : j < fvs.length) (h2 : j < s.ps.length), TestAt w0 TP fvs[j].1 s.ps[j]) → OrdIs s.ord ov OP → ReadH w0 L ws wv p f s fvs sv ov OP TP w →
      F49_2L n wv (.pointer (some ⟨p, 0, none⟩)) (.pointer (some ⟨f, 0, none⟩)) (.int .i64 (i : Nat)) w K
  | 0, i, n, s, fvs, sv, ov, TP, OP, w, hi, hn, hR, hps, hpl, hlm, hT, hO, h => by
    obtain ⟨n, rfl⟩ : ∃ q, n = q + 1 := ⟨n - 1, by omega⟩
    have him : i = ws.length := by omega
    subst him
    have g' : decide ((ws.length : Int) < (ws.length : Int)) = false := by simp
    rw [F49_2L]
    unfold F49_5 F49_5b
    (repeat(first
|simp(disch:=omega)only[evA,evB,evC,bAdd_i64,bSub_i64,g']
|with_reducible refine go_s h ?_))
    rw [List.drop_length] at hR
    exact read_end hps (by omega) hlm hT hO (hK s hR.symm) h
  | k + 1, i, n, s, fvs, sv, ov, TP, OP, w, hi, hn, hR, hps, hpl, hlm, hT, hO, h => by
    obtain ⟨n, rfl⟩ : ∃ q, n = q + 1 := ⟨n - 1, by omega⟩
    have h1 : i < ws.length := by omega
    have h2 : i + 1 < ws.length := by omega
    have os : OneV sv := ls_one h
    have oo : OneV ov := hO.one
    have hd : ws.drop i = ws[i] :: ws[i + 1] :: ws.drop (i + 2) := by
      rw [List.drop_eq_getElem_cons h1, List.drop_eq_getElem_cons h2]
    rw [hd, readQ] at hR
    have g' : decide ((i : Int) < (ws.length : Int)) = true := by simpa using h1
    have hrd : Rd w 1 wv ws.length (ws.flatMap cSt) := ls_rd (h.frt (A := LsH cSt 1 9 wv ws))
    have f1 := ix_el hrd h1
    have f2 : ld1 (elP 1 wv i) w = some (.string (bs ws[i])) := rd_ld1 (g := fun x : List UInt8 => .string (bs x)) hrd h1
    have f3 : pIndexL 1 wv (.int .i64 ((i : Int) + 1)) = some (elP 1 wv (i + 1)) := by
      have := ix_el hrd h2
      rw [show ((i + 1 : Nat) : Int) = (i : Int) + 1 by omega] at this; exact this
    have f4 : ld1 (elP 1 wv (i + 1)) w = some (.string (bs ws[i + 1])) := rd_ld1 (g := fun x : List UInt8 => .string (bs x)) hrd h2
    have e2 : (i : Int) + 2 = ((i + 2 : Nat) : Int) := by omega
    have next : ∀ (s' : QSt) (fvs' : List OV) (sv' ov' : Value) (TP' OP' : HP) (w' : World), readQ ofL numL (ws.drop (i + 2)) s' = R → s'.ps.length = fvs'.length → s'.ps.length ≤ i + 2 → -1 ≤ s'.lim →
        (∀ j (h1 : j < fvs'.length) (h2 : j < s'.ps.length), TestAt w0 TP' fvs'[j].1 s'.ps[j]) → OrdIs s'.ord ov' OP' → ReadH w0 L ws wv p f s' fvs' sv' ov' OP' TP' w' →
        F49_6 wv (.pointer (some ⟨p, 0, none⟩)) (.pointer (some ⟨f, 0, none⟩)) (.int .i64 (i : Nat)) w' K (fun a0 a2 a4 a5 w => F49_2L n a0 a2 a4 a5 w K) := by
      intro s' fvs' sv' ov' TP' OP' w' a1 a2 a3 a4 a5 a6 a7
      unfold F49_6 F49_6b
      (repeat simp(disch:=omega)only[evA,evB,evC,bAdd_i64,bSub_i64])
      rw [e2]
      exact read_loop hl hpar C N hF hK k (i + 2) n s' fvs' sv' ov' TP' OP' w' (by omega) (by omega) a1 a2 a3 a4 a5 a6 a7
    rw [F49_2L]
    unfold F49_5 F49_5b
    (repeat(first
|simp(disch:=omega)only[evA,evB,evC,bAdd_i64,bSub_i64,g']
|refine go_some (f1 ..) ?_
|with_reducible refine go_s h ?_))
    rw [f2]
    (repeat(first
|simp(disch:=omega)only[evA,evB,evC,bAdd_i64,bSub_i64]
|refine go_some (f3 ..) ?_))
    rw [f4]
    have rest : ∀ w, ReadH w0 L ws wv p f s fvs sv ov OP TP w → ¬ (ws[i] = kOrder ∧ s.ord.isNone = true ∧ (firstL ws[i + 1]).isSome = true) → _ := fun w h hno =>
      read_rest (w := w) (s0 := wv) (s5 := .int .i64 (i : Nat)) (R4 := fun a0 a2 a4 a5 w => F49_2L n a0 a2 a4 a5 w K) (C i h2 (by omega)) (N i h2) hno hps (by omega) hlm hT hO (fun hn => hF (by rw [← hR, hn])) (fun s' fvs' sv' ov' TP' OP' w' hs a2 a3 a4 a5 a6 a7 => next s' fvs' sv' ov' TP' OP' w' (by rw [← hR, hs]) a2 (by omega) a4 a5 a6 a7) h
    by_cases g1 : ws[i] = kOrder
    · have d1 : decide (ws[i] = [111, 114, 100, 101, 114]) = true := by simpa [kOrder] using g1
      rcases hO with ⟨ho, rfl⟩ | ⟨key, fv, ob, ho, rfl, hk2, of1, rfl⟩
      · (repeat(first
|simp(disch:=omega)only[evA,evB,evC,bAdd_i64,bSub_i64,d1,ord_nil]
|with_reducible refine go_s h ?_))
        refine first_spec fun fv hf => ?_
        rcases hf with ⟨hf, rfl⟩ | ⟨key, m, hf, rfl, hk2⟩
        · (repeat simp(disch:=omega)only[evA,evB,evC,bAdd_i64,bSub_i64,fn_nil])
          have q := rest _ h.drew (fun g => by rw [hf] at g; exact absurd g.2.2 (by simp))
          (simp (disch := omega) only [evA, evB, evC, bAdd_i64, bSub_i64] at q)
          exact q
        · (repeat simp(disch:=omega)only[evA,evB,evC,bAdd_i64,bSub_i64,fn_fn])
          have hst : stepQ ofL numL s ws[i] ws[i + 1] = some { s with ord := firstL ws[i + 1] } := by unfold stepQ; rw [if_pos ⟨g1, by rw [ho]; rfl, by rw [hf]; rfl⟩]
          refine by_spec (s := ws[i + 1]) h.drew fun fv ob w hf2 h => ?_
          rcases hf2 with ⟨hf2, _⟩ | ⟨key, m, hf2, rfl, hk3⟩
          · rw [hf] at hf2; cases hf2
          (repeat ((with_reducible refine go_w h ?_);intro _ h))
          exact next { s with ord := firstL ws[i + 1] } fvs sv _ TP (Cl ob #[.func (.func m) #[] #[]] 183) _ (by rw [← hR, hst]) hps (by show s.ps.length ≤ i + 2; omega) hlm hT (.inr ⟨key, _, ob, hf2, rfl, hk3, inferInstance, rfl⟩) (h.got)
      · (repeat(first
|simp(disch:=omega)only[evA,evB,evC,bAdd_i64,bSub_i64,d1,ord_fn]
|with_reducible refine go_s h ?_))
        have q := rest _ h.drew (fun g => by rw [ho] at g; exact absurd g.2.1 (by simp))
        (simp (disch := omega) only [evA, evB, evC, bAdd_i64, bSub_i64] at q)
        exact q
    · have d1 : decide (ws[i] = [111, 114, 100, 101, 114]) = false := by simpa [kOrder] using g1
      (repeat simp(disch:=omega)only[evA,evB,evC,bAdd_i64,bSub_i64,d1])
      have q := rest _ h.drew (fun g => g1 g.1)
      (simp (disch := omega) only [evA, evB, evC, bAdd_i64, bSub_i64] at q)
      exact q
theorem read_spec (hl : ws.length ≤ 1000000) (C : ∀ i (h : i + 1 < ws.length), i % 2 = 0 → OfAt w0 ofL ws[i] ws[i + 1]) (N : ∀ i (h : i + 1 < ws.length), ws[i] = kLimit → NumAt w0 numL ws[i + 1]) (hR : (if ws.length % 2 = 0 then readQ ofL numL ws ⟨[], none, -1⟩ else none) = R)
    (hF : R = none → ∀ fv w', Agg3 fv → Sat w0 L w' → K (.tuple #[fv, .bool false]) w')
    (hK : ∀ s, R = some s → ∀ FP fv w', Agg3 fv → FiltAt w0 FP fv s.ps (ltQ (s.ord.getD fun _ => 0)) s.lim → Sat w0 (FP :: L) w' → K (.tuple #[fv, .bool true]) w')
    (h : Sat w0 (LsH cSt 1 9 wv ws :: L) w) : callP G49 [wv] w K := by
  refine c49 ?_
  unfold F49 F49_1 F49_1b
  have q0 : bRem (.int .i64 (ws.length : Nat)) (.int .i64 2) = some (.int .i64 ((ws.length % 2 : Nat) : Int)) := by
    rw [bRem_int _ _ _ (by decide)]; rfl
  by_cases g : ws.length % 2 = 0
  · rw [if_pos g] at hR
    have d : decide (((ws.length % 2 : Nat) : Int) = 0) = true := by simp [g]
    (repeat(first
|simp(disch:=omega)only[evA,evB,evC,bAdd_i64,bSub_i64,fb142_2,d]
|refine go_some (q0 ..) ?_
|with_reducible refine go_s h ?_
|((with_reducible apply go_stA h);rfl;rfl;(first|rfl|simp[OneV.o]);intro _ h)
|((with_reducible apply go_alloc h);(first|exact z142);rfl;intro _ _ h)))
    unfold F49_2
    have h2 := Sat.nilLs (α := OV) cOV 1 187 (Sat.nilLs (α := OV) cOV 1 187 (Sat.nilLs (α := OV) cOV 1 187 h))
    refine read_loop (R := R) hl g C N hF hK (ws.length / 2) 0 fuel ⟨[], none, -1⟩ [] (.slice none 0 0) .nilFunc (LsH cOV 1 187 (.slice none 0 0) ([] : List OV)) (LsH cOV 1 187 (.slice none 0 0) ([] : List OV)) _ (by omega) (by unfold fuel; omega) hR rfl (Nat.le_refl _) (Int.le_refl _) (fun j h1 => absurd h1 (by simp)) (.inl ⟨rfl, rfl⟩) ?_
    exact h2.got
  · rw [if_neg g] at hR
    have d : decide (((ws.length % 2 : Nat) : Int) = 0) = false := by simp only [decide_eq_false_iff_not]; omega
    (repeat(first
|simp(disch:=omega)only[evA,evB,evC,bAdd_i64,bSub_i64,fb142_2,d]
|refine go_some (q0 ..) ?_
|with_reducible refine go_s h ?_
|((with_reducible apply go_stA h);rfl;rfl;(first|rfl|simp[OneV.o]);intro _ h)
|((with_reducible apply go_alloc h);(first|exact z142);rfl;intro _ _ h)))
    exact hF hR.symm _ _ ⟨_, _, _, rfl, inferInstance, inferInstance, inferInstance⟩ (h.got)
end
end Go.Proofs.Gong

/- Qt3 -/
namespace Go.Proofs.Gong
open Go Go.Sx Go.Proofs
set_option maxRecDepth 100000
structure N7 where
  a : Int
  b : Int
  c : Int
  d : Int
  e : Int
  f : Int
  g : Int
def I64 (n : Int) : Prop := -9223372036854775808 ≤ n ∧ n ≤ 9223372036854775807
structure N7.Fit (n : N7) : Prop where
  a : I64 n.a
  b : I64 n.b
  c : I64 n.c
  d : I64 n.d
  e : I64 n.e
  f : I64 n.f
  g : I64 n.g
structure SP where
  x : Nat
  e : Nat
  b : Nat
  h : Nat
  o : Nat
  wv : Value
structure SD where
  keep : Int
  now : Int
  c : N7
  t : N7
  bn : Int
  next : Int
  rs : List Row
  hn : Int
  hnx : Int
  cs : List Ctx
  o : Ob
abbrev pt (n : Nat) : Value := .pointer (some ⟨n, 0, none⟩)
abbrev StS (w0 : World) (P : SP) (D : SD) (L : List HP) (w : World) : Prop :=
  Sat w0 (Cl P.x #[pt P.e, pt P.o, .int .i64 D.c.a, .int .i64 D.c.b, .int .i64 D.c.c, .int .i64 D.c.d, .int .i64 D.c.e, .int .i64 D.c.f, .int .i64 D.c.g] 35 ::
    Cl P.e #[P.wv, pt P.b, pt P.h, .int .i64 D.keep, .int .i64 D.now, .int .i64 D.t.a, .int .i64 D.t.b, .int .i64 D.t.c, .int .i64 D.t.d, .int .i64 D.t.e, .int .i64 D.t.f, .int .i64 D.t.g] 86 ::
    BoardA (pt P.b) D.bn D.next D.rs :: HoldA (pt P.h) D.hn D.hnx D.cs :: OutA (pt P.o) D.o :: L) w
def sayL (word : List UInt8) (n : Int) : List UInt8 := word ++ 32 :: Lib.itoa n
attribute [local irreducible] fBuild fLook fZero eqv bEqv Cl MapH LsH SlH ld1 ldN st callP eBox eAlloc lenM lenL eMapSet eDelete eAppend eBuildSl eRange eNext
section
variable {w0 w : World} {L : List HP} {K : Value → World → Prop} {P : SP} {D : SD}
def N7.agg (n : N7) : Value := .agg #[.int .i64 n.a, .int .i64 n.b, .int .i64 n.c, .int .i64 n.d, .int .i64 n.e, .int .i64 n.f, .int .i64 n.g]
abbrev EngC (P : SP) (D : SD) : HP := Cl P.e #[P.wv, pt P.b, pt P.h, .int .i64 D.keep, .int .i64 D.now, .int .i64 D.t.a, .int .i64 D.t.b, .int .i64 D.t.c, .int .i64 D.t.d, .int .i64 D.t.e, .int .i64 D.t.f, .int .i64 D.t.g] 86
theorem etally_spec (h : Sat w0 (EngC P D :: L) w) (hK : ∀ w', Sat w0 (EngC P D :: L) w' → K (.agg #[.int .i64 D.t.a, .int .i64 D.t.b, .int .i64 D.t.c, .int .i64 D.t.d, .int .i64 D.t.e, .int .i64 D.t.f, .int .i64 D.t.g]) w') : callP G89 [pt P.e] w K := by
  refine c89 ?_
  unfold F89
  (repeat(first
|simp(disch:=omega)only[evA,evB,evC,bAdd_i64,bSub_i64,Nat.reduceAdd]
|with_reducible refine go_s h ?_
|((with_reducible apply go_stA h);rfl;rfl;(first|rfl|simp[OneV.o]);intro _ h)
|((with_reducible apply go_alloc h);(first|exact z84);rfl;intro _ _ h)))
  exact hK _ (h.got)
theorem say_spec {m : List (List UInt8)} {sv : Value} {o : Nat} {word : List UInt8} {n : Int} (T : PowIs Tryz.prog w0) (hn : I64 n) (hw : word.length ≤ 100) (hm : m.length ≤ 1000) (h : Sat w0 (LsH cSt 1 9 sv m :: Cl o #[sv] 38 :: L) w)
    (hK : ∀ sv' w', Sat w0 (LsH cSt 1 9 sv' (m ++ [sayL word n]) :: Cl o #[sv'] 38 :: L) w' → K (.tuple #[]) w') : callP G88 [.string (bs word), .int .i64 n, pt o] w K := by
  refine c88 ?_
  unfold F88
  have hi := Lib.itoa_length_le n hn.1 hn.2
  have a1 : bAdd (.string (bs word)) (.string (bs [32])) = some (.string (bs (word ++ [32]))) := add_txt (by simp; omega)
  have a2 : bAdd (.string (bs (word ++ [32]))) (.string (bs (Lib.itoa n))) = some (.string (bs (sayL word n))) := by
    rw [add_txt (by simp; omega)]; simp [sayL]
  (repeat(first
|simp(disch:=omega)only[evA,evB,evC,bAdd_i64,bSub_i64]
|refine go_some (a1 ..) ?_
|with_reducible refine go_s h ?_))
  refine itoa_sat T h.drew hn.1 hn.2 fun w h => ?_
  (repeat(first
|refine go_some (a2 ..) ?_
|with_reducible refine go_s h ?_))
  refine ls_lit (m := [sayL word n]) (f := cSt) (es := 1) CSt h u38 (c := #[.string (bs (sayL word n))]) (by kernel_rfl) rfl fun tv w h => ?_
  have hrt := ls_rd h
  (repeat with_reducible refine go_s h ?_)
  refine ls_app (f := cSt) (es := 1) (m := [sayL word n]) (L := LsH cSt 1 9 tv [sayL word n] :: Cl o #[sv] 38 :: L) CSt (h.got) sl38 (by kernel_rfl) hrt (by simp only [List.length_singleton]; omega) fun sv2 w h => ?_
  have o2 := ls_one h
  (repeat ((with_reducible refine go_w h ?_);intro _ h))
  exact hK _ _ (h.got)
end
end Go.Proofs.Gong

/- Qt4 -/
namespace Go.Proofs.Gong
open Go Go.Sx Go.Proofs
set_option maxRecDepth 100000
structure SFit (D : SD) : Prop where
  now : I64 D.now
  c : D.c.Fit
  t : D.t.Fit
  rs : I64 (D.rs.length : Nat)
  cs : I64 (D.cs.length : Nat)
  ols : I64 (D.o.ls.length : Nat)
  last : I64 D.o.last
  refused : I64 D.o.refused
def statsL (D : SD) : List (List UInt8) := [sayL [110, 111, 119] D.now, sayL [105, 110, 112, 117, 116, 115] D.c.a, sayL [101, 118, 101, 110, 116, 115] D.c.b, sayL [100, 114, 111, 112, 115] D.c.c, sayL [110, 111, 110, 101, 115] D.c.d, sayL [98, 97, 100, 115] D.c.e, sayL [99, 111, 109, 109, 97, 110, 100, 115] D.c.f, sayL [97, 99, 107, 115] D.c.g, sayL [115, 117, 112, 112, 114, 101, 115, 115, 101, 100] D.t.a, sayL [112, 97, 105, 114, 101, 100] D.t.b, sayL [104, 101, 108, 100] D.t.c, sayL [102, 105, 114, 101, 100] D.t.d, sayL [115, 116, 114, 97, 121] D.t.e, sayL [108, 111, 115, 116] D.t.f, sayL [101, 120, 112, 105, 114, 101, 100] D.t.g, sayL [114, 111, 119, 115] (D.rs.length : Nat), sayL [99, 111, 110, 116, 101, 120, 116, 115] (D.cs.length : Nat), sayL [116, 105, 99, 107, 101, 116, 115] (D.o.ls.length : Nat), sayL [116, 111, 108, 100] D.o.last, sayL [114, 101, 102, 117, 115, 101, 100] D.o.refused]
attribute [local irreducible] fBuild fLook fZero eqv bEqv Cl MapH LsH SlH ld1 ldN st callP eBox eAlloc lenM lenL eMapSet eDelete eAppend eBuildSl eRange eNext
section
variable {w0 w : World} {L : List HP} {K : Value → World → Prop} {P : SP} {D : SD}
theorem say_call {sv : Value} {o k : Nat} {word : List UInt8} {n : Int} (hk : (statsL D)[k]? = some (sayL word n)) (T : PowIs Tryz.prog w0) (hn : I64 n) (hw : word.length ≤ 100) (h : Sat w0 (LsH cSt 1 9 sv ((statsL D).take k) :: Cl o #[sv] 38 :: L) w)
    (hK : ∀ sv' w', Sat w0 (LsH cSt 1 9 sv' ((statsL D).take (k + 1)) :: Cl o #[sv'] 38 :: L) w' → K (.tuple #[]) w') : eCallV (tabOf T54) (.func (.func 88) #[] #[pt o]) [.string (bs word), .int .i64 n] w K := by
  show callP G88 [.string (bs word), .int .i64 n, pt o] w K
  rw [List.take_succ, hk] at hK
  have : ((statsL D).take k).length ≤ 20 := by rw [List.length_take]; exact Nat.le_trans (Nat.min_le_right _ _) (by simp [statsL])
  exact say_spec T hn hw (by omega) h hK
set_option maxHeartbeats 0 in
theorem stats_spec (T : PowIs Tryz.prog w0) (F : SFit D) (h : StS w0 P D L w) (hK : ∀ v w', StS w0 P D (LsH cSt 1 9 v (statsL D) :: L) w' → K v w') : callP G54 [pt P.x] w K := by
  refine c54 ?_
  unfold F54
  refine go_alloc h z38 rfl fun out w h => ?_
  refine go_some (v := .func (.func 88) #[] #[pt out]) rfl ?_
  refine go_some (v := pt P.x) rfl ?_
  refine go_some (v := .pointer (some ⟨P.x, 2, none⟩)) rfl ?_
  refine go_ldN h ?_
  refine go_some (v := pt P.x) rfl ?_
  refine go_some (v := pt P.x) rfl ?_
  refine go_ld1 h ?_
  have h := h.drew
  refine ⟨?_, ?_, ?_⟩
  · refine etally_spec (h.frt (A := EngC P D)) fun w h => ?_
    refine go_rdN h rfl ?_
    refine ⟨?_, ?_⟩
    · refine go_alloc h z33 rfl fun cn w h => ?_
      refine ⟨⟨(go_rdN h rfl trivial).1, (go_rd h rfl trivial).1⟩, ?_⟩
      refine go_alloc h z84 rfl fun tn w h => ?_
      refine ⟨⟨(go_rdN h rfl trivial).1, (go_rd h rfl trivial).1⟩, ?_⟩
      (repeat(first
|simp(disch:=omega)only[evA,evB,evC,bAdd_i64,bSub_i64,Nat.reduceAdd]
|with_reducible refine go_s h ?_
|((with_reducible apply go_stA h);rfl;rfl;(first|rfl|simp[OneV.o]);intro _ h)))
      have h := Sat.nilLs cSt 1 9 (h.frt (A := Cl out #[.slice none 0 0] 38))
      rw [show ([] : List (List UInt8)) = (statsL D).take 0 from rfl] at h
      refine c90 ?_
      unfold F90
      (repeat(first
|simp(disch:=omega)only[evA,evB,evC,bAdd_i64,bSub_i64,Nat.reduceAdd]
|with_reducible refine go_s h ?_))
      refine say_call (D := D) (k := 0) (word := [110, 111, 119]) (n := D.now) rfl T F.now (by simp) h fun sv w h => ?_
      (repeat with_reducible refine go_s h ?_)
      refine say_call (D := D) (k := 1) (word := [105, 110, 112, 117, 116, 115]) (n := D.c.a) rfl T F.c.a (by simp) h fun sv w h => ?_
      (repeat with_reducible refine go_s h ?_)
      refine say_call (D := D) (k := 2) (word := [101, 118, 101, 110, 116, 115]) (n := D.c.b) rfl T F.c.b (by simp) h fun sv w h => ?_
      (repeat with_reducible refine go_s h ?_)
      refine say_call (D := D) (k := 3) (word := [100, 114, 111, 112, 115]) (n := D.c.c) rfl T F.c.c (by simp) h fun sv w h => ?_
      (repeat with_reducible refine go_s h ?_)
      refine say_call (D := D) (k := 4) (word := [110, 111, 110, 101, 115]) (n := D.c.d) rfl T F.c.d (by simp) h fun sv w h => ?_
      (repeat with_reducible refine go_s h ?_)
      refine say_call (D := D) (k := 5) (word := [98, 97, 100, 115]) (n := D.c.e) rfl T F.c.e (by simp) h fun sv w h => ?_
      (repeat with_reducible refine go_s h ?_)
      refine say_call (D := D) (k := 6) (word := [99, 111, 109, 109, 97, 110, 100, 115]) (n := D.c.f) rfl T F.c.f (by simp) h fun sv w h => ?_
      (repeat with_reducible refine go_s h ?_)
      refine say_call (D := D) (k := 7) (word := [97, 99, 107, 115]) (n := D.c.g) rfl T F.c.g (by simp) h fun sv w h => ?_
      (repeat with_reducible refine go_s h ?_)
      refine say_call (D := D) (k := 8) (word := [115, 117, 112, 112, 114, 101, 115, 115, 101, 100]) (n := D.t.a) rfl T F.t.a (by simp) h fun sv w h => ?_
      (repeat with_reducible refine go_s h ?_)
      refine say_call (D := D) (k := 9) (word := [112, 97, 105, 114, 101, 100]) (n := D.t.b) rfl T F.t.b (by simp) h fun sv w h => ?_
      (repeat with_reducible refine go_s h ?_)
      refine say_call (D := D) (k := 10) (word := [104, 101, 108, 100]) (n := D.t.c) rfl T F.t.c (by simp) h fun sv w h => ?_
      (repeat with_reducible refine go_s h ?_)
      refine say_call (D := D) (k := 11) (word := [102, 105, 114, 101, 100]) (n := D.t.d) rfl T F.t.d (by simp) h fun sv w h => ?_
      (repeat with_reducible refine go_s h ?_)
      refine say_call (D := D) (k := 12) (word := [115, 116, 114, 97, 121]) (n := D.t.e) rfl T F.t.e (by simp) h fun sv w h => ?_
      (repeat with_reducible refine go_s h ?_)
      refine say_call (D := D) (k := 13) (word := [108, 111, 115, 116]) (n := D.t.f) rfl T F.t.f (by simp) h fun sv w h => ?_
      (repeat with_reducible refine go_s h ?_)
      refine say_call (D := D) (k := 14) (word := [101, 120, 112, 105, 114, 101, 100]) (n := D.t.g) rfl T F.t.g (by simp) h fun sv w h => ?_
      (repeat with_reducible refine go_s h ?_)
      refine c7 ?_
      unfold F7
      (repeat(first
|simp(disch:=omega)only[evA,evB,evC,bAdd_i64,bSub_i64,Nat.reduceAdd]
|with_reducible refine go_s h ?_))
      refine balen_spec (h.frt (A := BoardA (pt P.b) D.bn D.next D.rs)) ?_
      refine say_call (D := D) (k := 15) (word := [114, 111, 119, 115]) (n := (D.rs.length : Nat)) rfl T F.rs (by simp) h fun sv w h => ?_
      (repeat with_reducible refine go_s h ?_)
      refine c92 ?_
      unfold F92
      (repeat(first
|simp(disch:=omega)only[evA,evB,evC,bAdd_i64,bSub_i64,Nat.reduceAdd]
|with_reducible refine go_s h ?_))
      refine alen_spec (h.frt (A := HoldA (pt P.h) D.hn D.hnx D.cs)) ?_
      refine say_call (D := D) (k := 16) (word := [99, 111, 110, 116, 101, 120, 116, 115]) (n := (D.cs.length : Nat)) rfl T F.cs (by simp) h fun sv w h => ?_
      (repeat with_reducible refine go_s h ?_)
      refine olen_spec (h.frt (A := OutA (pt P.o) D.o)) ?_
      refine say_call (D := D) (k := 17) (word := [116, 105, 99, 107, 101, 116, 115]) (n := (D.o.ls.length : Nat)) rfl T F.ols (by simp) h fun sv w h => ?_
      (repeat with_reducible refine go_s h ?_)
      refine olast_spec (h.frt (A := OutA (pt P.o) D.o)) ?_
      refine say_call (D := D) (k := 18) (word := [116, 111, 108, 100]) (n := D.o.last) rfl T F.last (by simp) h fun sv w h => ?_
      (repeat with_reducible refine go_s h ?_)
      refine orefused_spec (h.frt (A := OutA (pt P.o) D.o)) ?_
      refine say_call (D := D) (k := 19) (word := [114, 101, 102, 117, 115, 101, 100]) (n := D.o.refused) rfl T F.refused (by simp) h fun sv w h => ?_
      (repeat with_reducible refine go_s h ?_)
      rw [show (statsL D).take (19 + 1) = statsL D from rfl] at h
      exact hK _ _ (h.got)
    · refine go_alloc h z84 rfl fun tn w h => ?_
      refine ⟨⟨(go_rdN h rfl trivial).1, (go_rd h rfl trivial).1⟩, ?_⟩
      refine go_alloc h z33 rfl fun cn w h => ?_
      refine ⟨⟨(go_rdN h rfl trivial).1, (go_rd h rfl trivial).1⟩, ?_⟩
      (repeat(first
|simp(disch:=omega)only[evA,evB,evC,bAdd_i64,bSub_i64,Nat.reduceAdd]
|with_reducible refine go_s h ?_
|((with_reducible apply go_stA h);rfl;rfl;(first|rfl|simp[OneV.o]);intro _ h)))
      have h := Sat.nilLs cSt 1 9 (h.frt (A := Cl out #[.slice none 0 0] 38))
      rw [show ([] : List (List UInt8)) = (statsL D).take 0 from rfl] at h
      refine c90 ?_
      unfold F90
      (repeat(first
|simp(disch:=omega)only[evA,evB,evC,bAdd_i64,bSub_i64,Nat.reduceAdd]
|with_reducible refine go_s h ?_))
      refine say_call (D := D) (k := 0) (word := [110, 111, 119]) (n := D.now) rfl T F.now (by simp) h fun sv w h => ?_
      (repeat with_reducible refine go_s h ?_)
      refine say_call (D := D) (k := 1) (word := [105, 110, 112, 117, 116, 115]) (n := D.c.a) rfl T F.c.a (by simp) h fun sv w h => ?_
      (repeat with_reducible refine go_s h ?_)
      refine say_call (D := D) (k := 2) (word := [101, 118, 101, 110, 116, 115]) (n := D.c.b) rfl T F.c.b (by simp) h fun sv w h => ?_
      (repeat with_reducible refine go_s h ?_)
      refine say_call (D := D) (k := 3) (word := [100, 114, 111, 112, 115]) (n := D.c.c) rfl T F.c.c (by simp) h fun sv w h => ?_
      (repeat with_reducible refine go_s h ?_)
      refine say_call (D := D) (k := 4) (word := [110, 111, 110, 101, 115]) (n := D.c.d) rfl T F.c.d (by simp) h fun sv w h => ?_
      (repeat with_reducible refine go_s h ?_)
      refine say_call (D := D) (k := 5) (word := [98, 97, 100, 115]) (n := D.c.e) rfl T F.c.e (by simp) h fun sv w h => ?_
      (repeat with_reducible refine go_s h ?_)
      refine say_call (D := D) (k := 6) (word := [99, 111, 109, 109, 97, 110, 100, 115]) (n := D.c.f) rfl T F.c.f (by simp) h fun sv w h => ?_
      (repeat with_reducible refine go_s h ?_)
      refine say_call (D := D) (k := 7) (word := [97, 99, 107, 115]) (n := D.c.g) rfl T F.c.g (by simp) h fun sv w h => ?_
      (repeat with_reducible refine go_s h ?_)
      refine say_call (D := D) (k := 8) (word := [115, 117, 112, 112, 114, 101, 115, 115, 101, 100]) (n := D.t.a) rfl T F.t.a (by simp) h fun sv w h => ?_
      (repeat with_reducible refine go_s h ?_)
      refine say_call (D := D) (k := 9) (word := [112, 97, 105, 114, 101, 100]) (n := D.t.b) rfl T F.t.b (by simp) h fun sv w h => ?_
      (repeat with_reducible refine go_s h ?_)
      refine say_call (D := D) (k := 10) (word := [104, 101, 108, 100]) (n := D.t.c) rfl T F.t.c (by simp) h fun sv w h => ?_
      (repeat with_reducible refine go_s h ?_)
      refine say_call (D := D) (k := 11) (word := [102, 105, 114, 101, 100]) (n := D.t.d) rfl T F.t.d (by simp) h fun sv w h => ?_
      (repeat with_reducible refine go_s h ?_)
      refine say_call (D := D) (k := 12) (word := [115, 116, 114, 97, 121]) (n := D.t.e) rfl T F.t.e (by simp) h fun sv w h => ?_
      (repeat with_reducible refine go_s h ?_)
      refine say_call (D := D) (k := 13) (word := [108, 111, 115, 116]) (n := D.t.f) rfl T F.t.f (by simp) h fun sv w h => ?_
      (repeat with_reducible refine go_s h ?_)
      refine say_call (D := D) (k := 14) (word := [101, 120, 112, 105, 114, 101, 100]) (n := D.t.g) rfl T F.t.g (by simp) h fun sv w h => ?_
      (repeat with_reducible refine go_s h ?_)
      refine c7 ?_
      unfold F7
      (repeat(first
|simp(disch:=omega)only[evA,evB,evC,bAdd_i64,bSub_i64,Nat.reduceAdd]
|with_reducible refine go_s h ?_))
      refine balen_spec (h.frt (A := BoardA (pt P.b) D.bn D.next D.rs)) ?_
      refine say_call (D := D) (k := 15) (word := [114, 111, 119, 115]) (n := (D.rs.length : Nat)) rfl T F.rs (by simp) h fun sv w h => ?_
      (repeat with_reducible refine go_s h ?_)
      refine c92 ?_
      unfold F92
      (repeat(first
|simp(disch:=omega)only[evA,evB,evC,bAdd_i64,bSub_i64,Nat.reduceAdd]
|with_reducible refine go_s h ?_))
      refine alen_spec (h.frt (A := HoldA (pt P.h) D.hn D.hnx D.cs)) ?_
      refine say_call (D := D) (k := 16) (word := [99, 111, 110, 116, 101, 120, 116, 115]) (n := (D.cs.length : Nat)) rfl T F.cs (by simp) h fun sv w h => ?_
      (repeat with_reducible refine go_s h ?_)
      refine olen_spec (h.frt (A := OutA (pt P.o) D.o)) ?_
      refine say_call (D := D) (k := 17) (word := [116, 105, 99, 107, 101, 116, 115]) (n := (D.o.ls.length : Nat)) rfl T F.ols (by simp) h fun sv w h => ?_
      (repeat with_reducible refine go_s h ?_)
      refine olast_spec (h.frt (A := OutA (pt P.o) D.o)) ?_
      refine say_call (D := D) (k := 18) (word := [116, 111, 108, 100]) (n := D.o.last) rfl T F.last (by simp) h fun sv w h => ?_
      (repeat with_reducible refine go_s h ?_)
      refine orefused_spec (h.frt (A := OutA (pt P.o) D.o)) ?_
      refine say_call (D := D) (k := 19) (word := [114, 101, 102, 117, 115, 101, 100]) (n := D.o.refused) rfl T F.refused (by simp) h fun sv w h => ?_
      (repeat with_reducible refine go_s h ?_)
      rw [show (statsL D).take (19 + 1) = statsL D from rfl] at h
      exact hK _ _ (h.got)
  · refine go_alloc h z33 rfl fun cn w h => ?_
    refine ⟨⟨(go_rdN h rfl trivial).1, (go_rd h rfl trivial).1⟩, ?_⟩
    refine ⟨?_, ?_⟩
    · refine etally_spec (h.frt (A := EngC P D)) fun w h => ?_
      refine go_rdN h rfl ?_
      refine go_alloc h z84 rfl fun tn w h => ?_
      refine ⟨⟨(go_rdN h rfl trivial).1, (go_rd h rfl trivial).1⟩, ?_⟩
      (repeat(first
|simp(disch:=omega)only[evA,evB,evC,bAdd_i64,bSub_i64,Nat.reduceAdd]
|with_reducible refine go_s h ?_
|((with_reducible apply go_stA h);rfl;rfl;(first|rfl|simp[OneV.o]);intro _ h)))
      have h := Sat.nilLs cSt 1 9 (h.frt (A := Cl out #[.slice none 0 0] 38))
      rw [show ([] : List (List UInt8)) = (statsL D).take 0 from rfl] at h
      refine c90 ?_
      unfold F90
      (repeat(first
|simp(disch:=omega)only[evA,evB,evC,bAdd_i64,bSub_i64,Nat.reduceAdd]
|with_reducible refine go_s h ?_))
      refine say_call (D := D) (k := 0) (word := [110, 111, 119]) (n := D.now) rfl T F.now (by simp) h fun sv w h => ?_
      (repeat with_reducible refine go_s h ?_)
      refine say_call (D := D) (k := 1) (word := [105, 110, 112, 117, 116, 115]) (n := D.c.a) rfl T F.c.a (by simp) h fun sv w h => ?_
      (repeat with_reducible refine go_s h ?_)
      refine say_call (D := D) (k := 2) (word := [101, 118, 101, 110, 116, 115]) (n := D.c.b) rfl T F.c.b (by simp) h fun sv w h => ?_
      (repeat with_reducible refine go_s h ?_)
      refine say_call (D := D) (k := 3) (word := [100, 114, 111, 112, 115]) (n := D.c.c) rfl T F.c.c (by simp) h fun sv w h => ?_
      (repeat with_reducible refine go_s h ?_)
      refine say_call (D := D) (k := 4) (word := [110, 111, 110, 101, 115]) (n := D.c.d) rfl T F.c.d (by simp) h fun sv w h => ?_
      (repeat with_reducible refine go_s h ?_)
      refine say_call (D := D) (k := 5) (word := [98, 97, 100, 115]) (n := D.c.e) rfl T F.c.e (by simp) h fun sv w h => ?_
      (repeat with_reducible refine go_s h ?_)
      refine say_call (D := D) (k := 6) (word := [99, 111, 109, 109, 97, 110, 100, 115]) (n := D.c.f) rfl T F.c.f (by simp) h fun sv w h => ?_
      (repeat with_reducible refine go_s h ?_)
      refine say_call (D := D) (k := 7) (word := [97, 99, 107, 115]) (n := D.c.g) rfl T F.c.g (by simp) h fun sv w h => ?_
      (repeat with_reducible refine go_s h ?_)
      refine say_call (D := D) (k := 8) (word := [115, 117, 112, 112, 114, 101, 115, 115, 101, 100]) (n := D.t.a) rfl T F.t.a (by simp) h fun sv w h => ?_
      (repeat with_reducible refine go_s h ?_)
      refine say_call (D := D) (k := 9) (word := [112, 97, 105, 114, 101, 100]) (n := D.t.b) rfl T F.t.b (by simp) h fun sv w h => ?_
      (repeat with_reducible refine go_s h ?_)
      refine say_call (D := D) (k := 10) (word := [104, 101, 108, 100]) (n := D.t.c) rfl T F.t.c (by simp) h fun sv w h => ?_
      (repeat with_reducible refine go_s h ?_)
      refine say_call (D := D) (k := 11) (word := [102, 105, 114, 101, 100]) (n := D.t.d) rfl T F.t.d (by simp) h fun sv w h => ?_
      (repeat with_reducible refine go_s h ?_)
      refine say_call (D := D) (k := 12) (word := [115, 116, 114, 97, 121]) (n := D.t.e) rfl T F.t.e (by simp) h fun sv w h => ?_
      (repeat with_reducible refine go_s h ?_)
      refine say_call (D := D) (k := 13) (word := [108, 111, 115, 116]) (n := D.t.f) rfl T F.t.f (by simp) h fun sv w h => ?_
      (repeat with_reducible refine go_s h ?_)
      refine say_call (D := D) (k := 14) (word := [101, 120, 112, 105, 114, 101, 100]) (n := D.t.g) rfl T F.t.g (by simp) h fun sv w h => ?_
      (repeat with_reducible refine go_s h ?_)
      refine c7 ?_
      unfold F7
      (repeat(first
|simp(disch:=omega)only[evA,evB,evC,bAdd_i64,bSub_i64,Nat.reduceAdd]
|with_reducible refine go_s h ?_))
      refine balen_spec (h.frt (A := BoardA (pt P.b) D.bn D.next D.rs)) ?_
      refine say_call (D := D) (k := 15) (word := [114, 111, 119, 115]) (n := (D.rs.length : Nat)) rfl T F.rs (by simp) h fun sv w h => ?_
      (repeat with_reducible refine go_s h ?_)
      refine c92 ?_
      unfold F92
      (repeat(first
|simp(disch:=omega)only[evA,evB,evC,bAdd_i64,bSub_i64,Nat.reduceAdd]
|with_reducible refine go_s h ?_))
      refine alen_spec (h.frt (A := HoldA (pt P.h) D.hn D.hnx D.cs)) ?_
      refine say_call (D := D) (k := 16) (word := [99, 111, 110, 116, 101, 120, 116, 115]) (n := (D.cs.length : Nat)) rfl T F.cs (by simp) h fun sv w h => ?_
      (repeat with_reducible refine go_s h ?_)
      refine olen_spec (h.frt (A := OutA (pt P.o) D.o)) ?_
      refine say_call (D := D) (k := 17) (word := [116, 105, 99, 107, 101, 116, 115]) (n := (D.o.ls.length : Nat)) rfl T F.ols (by simp) h fun sv w h => ?_
      (repeat with_reducible refine go_s h ?_)
      refine olast_spec (h.frt (A := OutA (pt P.o) D.o)) ?_
      refine say_call (D := D) (k := 18) (word := [116, 111, 108, 100]) (n := D.o.last) rfl T F.last (by simp) h fun sv w h => ?_
      (repeat with_reducible refine go_s h ?_)
      refine orefused_spec (h.frt (A := OutA (pt P.o) D.o)) ?_
      refine say_call (D := D) (k := 19) (word := [114, 101, 102, 117, 115, 101, 100]) (n := D.o.refused) rfl T F.refused (by simp) h fun sv w h => ?_
      (repeat with_reducible refine go_s h ?_)
      rw [show (statsL D).take (19 + 1) = statsL D from rfl] at h
      exact hK _ _ (h.got)
    · refine go_alloc h z84 rfl fun tn w h => ?_
      refine ⟨⟨(go_rdN h rfl trivial).1, (go_rd h rfl trivial).1⟩, ?_⟩
      refine etally_spec (h.frt (A := EngC P D)) fun w h => ?_
      refine go_rdN h rfl ?_
      (repeat(first
|simp(disch:=omega)only[evA,evB,evC,bAdd_i64,bSub_i64,Nat.reduceAdd]
|with_reducible refine go_s h ?_
|((with_reducible apply go_stA h);rfl;rfl;(first|rfl|simp[OneV.o]);intro _ h)))
      have h := Sat.nilLs cSt 1 9 (h.frt (A := Cl out #[.slice none 0 0] 38))
      rw [show ([] : List (List UInt8)) = (statsL D).take 0 from rfl] at h
      refine c90 ?_
      unfold F90
      (repeat(first
|simp(disch:=omega)only[evA,evB,evC,bAdd_i64,bSub_i64,Nat.reduceAdd]
|with_reducible refine go_s h ?_))
      refine say_call (D := D) (k := 0) (word := [110, 111, 119]) (n := D.now) rfl T F.now (by simp) h fun sv w h => ?_
      (repeat with_reducible refine go_s h ?_)
      refine say_call (D := D) (k := 1) (word := [105, 110, 112, 117, 116, 115]) (n := D.c.a) rfl T F.c.a (by simp) h fun sv w h => ?_
      (repeat with_reducible refine go_s h ?_)
      refine say_call (D := D) (k := 2) (word := [101, 118, 101, 110, 116, 115]) (n := D.c.b) rfl T F.c.b (by simp) h fun sv w h => ?_
      (repeat with_reducible refine go_s h ?_)
      refine say_call (D := D) (k := 3) (word := [100, 114, 111, 112, 115]) (n := D.c.c) rfl T F.c.c (by simp) h fun sv w h => ?_
      (repeat with_reducible refine go_s h ?_)
      refine say_call (D := D) (k := 4) (word := [110, 111, 110, 101, 115]) (n := D.c.d) rfl T F.c.d (by simp) h fun sv w h => ?_
      (repeat with_reducible refine go_s h ?_)
      refine say_call (D := D) (k := 5) (word := [98, 97, 100, 115]) (n := D.c.e) rfl T F.c.e (by simp) h fun sv w h => ?_
      (repeat with_reducible refine go_s h ?_)
      refine say_call (D := D) (k := 6) (word := [99, 111, 109, 109, 97, 110, 100, 115]) (n := D.c.f) rfl T F.c.f (by simp) h fun sv w h => ?_
      (repeat with_reducible refine go_s h ?_)
      refine say_call (D := D) (k := 7) (word := [97, 99, 107, 115]) (n := D.c.g) rfl T F.c.g (by simp) h fun sv w h => ?_
      (repeat with_reducible refine go_s h ?_)
      refine say_call (D := D) (k := 8) (word := [115, 117, 112, 112, 114, 101, 115, 115, 101, 100]) (n := D.t.a) rfl T F.t.a (by simp) h fun sv w h => ?_
      (repeat with_reducible refine go_s h ?_)
      refine say_call (D := D) (k := 9) (word := [112, 97, 105, 114, 101, 100]) (n := D.t.b) rfl T F.t.b (by simp) h fun sv w h => ?_
      (repeat with_reducible refine go_s h ?_)
      refine say_call (D := D) (k := 10) (word := [104, 101, 108, 100]) (n := D.t.c) rfl T F.t.c (by simp) h fun sv w h => ?_
      (repeat with_reducible refine go_s h ?_)
      refine say_call (D := D) (k := 11) (word := [102, 105, 114, 101, 100]) (n := D.t.d) rfl T F.t.d (by simp) h fun sv w h => ?_
      (repeat with_reducible refine go_s h ?_)
      refine say_call (D := D) (k := 12) (word := [115, 116, 114, 97, 121]) (n := D.t.e) rfl T F.t.e (by simp) h fun sv w h => ?_
      (repeat with_reducible refine go_s h ?_)
      refine say_call (D := D) (k := 13) (word := [108, 111, 115, 116]) (n := D.t.f) rfl T F.t.f (by simp) h fun sv w h => ?_
      (repeat with_reducible refine go_s h ?_)
      refine say_call (D := D) (k := 14) (word := [101, 120, 112, 105, 114, 101, 100]) (n := D.t.g) rfl T F.t.g (by simp) h fun sv w h => ?_
      (repeat with_reducible refine go_s h ?_)
      refine c7 ?_
      unfold F7
      (repeat(first
|simp(disch:=omega)only[evA,evB,evC,bAdd_i64,bSub_i64,Nat.reduceAdd]
|with_reducible refine go_s h ?_))
      refine balen_spec (h.frt (A := BoardA (pt P.b) D.bn D.next D.rs)) ?_
      refine say_call (D := D) (k := 15) (word := [114, 111, 119, 115]) (n := (D.rs.length : Nat)) rfl T F.rs (by simp) h fun sv w h => ?_
      (repeat with_reducible refine go_s h ?_)
      refine c92 ?_
      unfold F92
      (repeat(first
|simp(disch:=omega)only[evA,evB,evC,bAdd_i64,bSub_i64,Nat.reduceAdd]
|with_reducible refine go_s h ?_))
      refine alen_spec (h.frt (A := HoldA (pt P.h) D.hn D.hnx D.cs)) ?_
      refine say_call (D := D) (k := 16) (word := [99, 111, 110, 116, 101, 120, 116, 115]) (n := (D.cs.length : Nat)) rfl T F.cs (by simp) h fun sv w h => ?_
      (repeat with_reducible refine go_s h ?_)
      refine olen_spec (h.frt (A := OutA (pt P.o) D.o)) ?_
      refine say_call (D := D) (k := 17) (word := [116, 105, 99, 107, 101, 116, 115]) (n := (D.o.ls.length : Nat)) rfl T F.ols (by simp) h fun sv w h => ?_
      (repeat with_reducible refine go_s h ?_)
      refine olast_spec (h.frt (A := OutA (pt P.o) D.o)) ?_
      refine say_call (D := D) (k := 18) (word := [116, 111, 108, 100]) (n := D.o.last) rfl T F.last (by simp) h fun sv w h => ?_
      (repeat with_reducible refine go_s h ?_)
      refine orefused_spec (h.frt (A := OutA (pt P.o) D.o)) ?_
      refine say_call (D := D) (k := 19) (word := [114, 101, 102, 117, 115, 101, 100]) (n := D.o.refused) rfl T F.refused (by simp) h fun sv w h => ?_
      (repeat with_reducible refine go_s h ?_)
      rw [show (statsL D).take (19 + 1) = statsL D from rfl] at h
      exact hK _ _ (h.got)
  · refine go_alloc h z84 rfl fun tn w h => ?_
    refine ⟨⟨(go_rdN h rfl trivial).1, (go_rd h rfl trivial).1⟩, ?_⟩
    refine ⟨?_, ?_⟩
    · refine etally_spec (h.frt (A := EngC P D)) fun w h => ?_
      refine go_rdN h rfl ?_
      refine go_alloc h z33 rfl fun cn w h => ?_
      refine ⟨⟨(go_rdN h rfl trivial).1, (go_rd h rfl trivial).1⟩, ?_⟩
      (repeat(first
|simp(disch:=omega)only[evA,evB,evC,bAdd_i64,bSub_i64,Nat.reduceAdd]
|with_reducible refine go_s h ?_
|((with_reducible apply go_stA h);rfl;rfl;(first|rfl|simp[OneV.o]);intro _ h)))
      have h := Sat.nilLs cSt 1 9 (h.frt (A := Cl out #[.slice none 0 0] 38))
      rw [show ([] : List (List UInt8)) = (statsL D).take 0 from rfl] at h
      refine c90 ?_
      unfold F90
      (repeat(first
|simp(disch:=omega)only[evA,evB,evC,bAdd_i64,bSub_i64,Nat.reduceAdd]
|with_reducible refine go_s h ?_))
      refine say_call (D := D) (k := 0) (word := [110, 111, 119]) (n := D.now) rfl T F.now (by simp) h fun sv w h => ?_
      (repeat with_reducible refine go_s h ?_)
      refine say_call (D := D) (k := 1) (word := [105, 110, 112, 117, 116, 115]) (n := D.c.a) rfl T F.c.a (by simp) h fun sv w h => ?_
      (repeat with_reducible refine go_s h ?_)
      refine say_call (D := D) (k := 2) (word := [101, 118, 101, 110, 116, 115]) (n := D.c.b) rfl T F.c.b (by simp) h fun sv w h => ?_
      (repeat with_reducible refine go_s h ?_)
      refine say_call (D := D) (k := 3) (word := [100, 114, 111, 112, 115]) (n := D.c.c) rfl T F.c.c (by simp) h fun sv w h => ?_
      (repeat with_reducible refine go_s h ?_)
      refine say_call (D := D) (k := 4) (word := [110, 111, 110, 101, 115]) (n := D.c.d) rfl T F.c.d (by simp) h fun sv w h => ?_
      (repeat with_reducible refine go_s h ?_)
      refine say_call (D := D) (k := 5) (word := [98, 97, 100, 115]) (n := D.c.e) rfl T F.c.e (by simp) h fun sv w h => ?_
      (repeat with_reducible refine go_s h ?_)
      refine say_call (D := D) (k := 6) (word := [99, 111, 109, 109, 97, 110, 100, 115]) (n := D.c.f) rfl T F.c.f (by simp) h fun sv w h => ?_
      (repeat with_reducible refine go_s h ?_)
      refine say_call (D := D) (k := 7) (word := [97, 99, 107, 115]) (n := D.c.g) rfl T F.c.g (by simp) h fun sv w h => ?_
      (repeat with_reducible refine go_s h ?_)
      refine say_call (D := D) (k := 8) (word := [115, 117, 112, 112, 114, 101, 115, 115, 101, 100]) (n := D.t.a) rfl T F.t.a (by simp) h fun sv w h => ?_
      (repeat with_reducible refine go_s h ?_)
      refine say_call (D := D) (k := 9) (word := [112, 97, 105, 114, 101, 100]) (n := D.t.b) rfl T F.t.b (by simp) h fun sv w h => ?_
      (repeat with_reducible refine go_s h ?_)
      refine say_call (D := D) (k := 10) (word := [104, 101, 108, 100]) (n := D.t.c) rfl T F.t.c (by simp) h fun sv w h => ?_
      (repeat with_reducible refine go_s h ?_)
      refine say_call (D := D) (k := 11) (word := [102, 105, 114, 101, 100]) (n := D.t.d) rfl T F.t.d (by simp) h fun sv w h => ?_
      (repeat with_reducible refine go_s h ?_)
      refine say_call (D := D) (k := 12) (word := [115, 116, 114, 97, 121]) (n := D.t.e) rfl T F.t.e (by simp) h fun sv w h => ?_
      (repeat with_reducible refine go_s h ?_)
      refine say_call (D := D) (k := 13) (word := [108, 111, 115, 116]) (n := D.t.f) rfl T F.t.f (by simp) h fun sv w h => ?_
      (repeat with_reducible refine go_s h ?_)
      refine say_call (D := D) (k := 14) (word := [101, 120, 112, 105, 114, 101, 100]) (n := D.t.g) rfl T F.t.g (by simp) h fun sv w h => ?_
      (repeat with_reducible refine go_s h ?_)
      refine c7 ?_
      unfold F7
      (repeat(first
|simp(disch:=omega)only[evA,evB,evC,bAdd_i64,bSub_i64,Nat.reduceAdd]
|with_reducible refine go_s h ?_))
      refine balen_spec (h.frt (A := BoardA (pt P.b) D.bn D.next D.rs)) ?_
      refine say_call (D := D) (k := 15) (word := [114, 111, 119, 115]) (n := (D.rs.length : Nat)) rfl T F.rs (by simp) h fun sv w h => ?_
      (repeat with_reducible refine go_s h ?_)
      refine c92 ?_
      unfold F92
      (repeat(first
|simp(disch:=omega)only[evA,evB,evC,bAdd_i64,bSub_i64,Nat.reduceAdd]
|with_reducible refine go_s h ?_))
      refine alen_spec (h.frt (A := HoldA (pt P.h) D.hn D.hnx D.cs)) ?_
      refine say_call (D := D) (k := 16) (word := [99, 111, 110, 116, 101, 120, 116, 115]) (n := (D.cs.length : Nat)) rfl T F.cs (by simp) h fun sv w h => ?_
      (repeat with_reducible refine go_s h ?_)
      refine olen_spec (h.frt (A := OutA (pt P.o) D.o)) ?_
      refine say_call (D := D) (k := 17) (word := [116, 105, 99, 107, 101, 116, 115]) (n := (D.o.ls.length : Nat)) rfl T F.ols (by simp) h fun sv w h => ?_
      (repeat with_reducible refine go_s h ?_)
      refine olast_spec (h.frt (A := OutA (pt P.o) D.o)) ?_
      refine say_call (D := D) (k := 18) (word := [116, 111, 108, 100]) (n := D.o.last) rfl T F.last (by simp) h fun sv w h => ?_
      (repeat with_reducible refine go_s h ?_)
      refine orefused_spec (h.frt (A := OutA (pt P.o) D.o)) ?_
      refine say_call (D := D) (k := 19) (word := [114, 101, 102, 117, 115, 101, 100]) (n := D.o.refused) rfl T F.refused (by simp) h fun sv w h => ?_
      (repeat with_reducible refine go_s h ?_)
      rw [show (statsL D).take (19 + 1) = statsL D from rfl] at h
      exact hK _ _ (h.got)
    · refine go_alloc h z33 rfl fun cn w h => ?_
      refine ⟨⟨(go_rdN h rfl trivial).1, (go_rd h rfl trivial).1⟩, ?_⟩
      refine etally_spec (h.frt (A := EngC P D)) fun w h => ?_
      refine go_rdN h rfl ?_
      (repeat(first
|simp(disch:=omega)only[evA,evB,evC,bAdd_i64,bSub_i64,Nat.reduceAdd]
|with_reducible refine go_s h ?_
|((with_reducible apply go_stA h);rfl;rfl;(first|rfl|simp[OneV.o]);intro _ h)))
      have h := Sat.nilLs cSt 1 9 (h.frt (A := Cl out #[.slice none 0 0] 38))
      rw [show ([] : List (List UInt8)) = (statsL D).take 0 from rfl] at h
      refine c90 ?_
      unfold F90
      (repeat(first
|simp(disch:=omega)only[evA,evB,evC,bAdd_i64,bSub_i64,Nat.reduceAdd]
|with_reducible refine go_s h ?_))
      refine say_call (D := D) (k := 0) (word := [110, 111, 119]) (n := D.now) rfl T F.now (by simp) h fun sv w h => ?_
      (repeat with_reducible refine go_s h ?_)
      refine say_call (D := D) (k := 1) (word := [105, 110, 112, 117, 116, 115]) (n := D.c.a) rfl T F.c.a (by simp) h fun sv w h => ?_
      (repeat with_reducible refine go_s h ?_)
      refine say_call (D := D) (k := 2) (word := [101, 118, 101, 110, 116, 115]) (n := D.c.b) rfl T F.c.b (by simp) h fun sv w h => ?_
      (repeat with_reducible refine go_s h ?_)
      refine say_call (D := D) (k := 3) (word := [100, 114, 111, 112, 115]) (n := D.c.c) rfl T F.c.c (by simp) h fun sv w h => ?_
      (repeat with_reducible refine go_s h ?_)
      refine say_call (D := D) (k := 4) (word := [110, 111, 110, 101, 115]) (n := D.c.d) rfl T F.c.d (by simp) h fun sv w h => ?_
      (repeat with_reducible refine go_s h ?_)
      refine say_call (D := D) (k := 5) (word := [98, 97, 100, 115]) (n := D.c.e) rfl T F.c.e (by simp) h fun sv w h => ?_
      (repeat with_reducible refine go_s h ?_)
      refine say_call (D := D) (k := 6) (word := [99, 111, 109, 109, 97, 110, 100, 115]) (n := D.c.f) rfl T F.c.f (by simp) h fun sv w h => ?_
      (repeat with_reducible refine go_s h ?_)
      refine say_call (D := D) (k := 7) (word := [97, 99, 107, 115]) (n := D.c.g) rfl T F.c.g (by simp) h fun sv w h => ?_
      (repeat with_reducible refine go_s h ?_)
      refine say_call (D := D) (k := 8) (word := [115, 117, 112, 112, 114, 101, 115, 115, 101, 100]) (n := D.t.a) rfl T F.t.a (by simp) h fun sv w h => ?_
      (repeat with_reducible refine go_s h ?_)
      refine say_call (D := D) (k := 9) (word := [112, 97, 105, 114, 101, 100]) (n := D.t.b) rfl T F.t.b (by simp) h fun sv w h => ?_
      (repeat with_reducible refine go_s h ?_)
      refine say_call (D := D) (k := 10) (word := [104, 101, 108, 100]) (n := D.t.c) rfl T F.t.c (by simp) h fun sv w h => ?_
      (repeat with_reducible refine go_s h ?_)
      refine say_call (D := D) (k := 11) (word := [102, 105, 114, 101, 100]) (n := D.t.d) rfl T F.t.d (by simp) h fun sv w h => ?_
      (repeat with_reducible refine go_s h ?_)
      refine say_call (D := D) (k := 12) (word := [115, 116, 114, 97, 121]) (n := D.t.e) rfl T F.t.e (by simp) h fun sv w h => ?_
      (repeat with_reducible refine go_s h ?_)
      refine say_call (D := D) (k := 13) (word := [108, 111, 115, 116]) (n := D.t.f) rfl T F.t.f (by simp) h fun sv w h => ?_
      (repeat with_reducible refine go_s h ?_)
      refine say_call (D := D) (k := 14) (word := [101, 120, 112, 105, 114, 101, 100]) (n := D.t.g) rfl T F.t.g (by simp) h fun sv w h => ?_
      (repeat with_reducible refine go_s h ?_)
      refine c7 ?_
      unfold F7
      (repeat(first
|simp(disch:=omega)only[evA,evB,evC,bAdd_i64,bSub_i64,Nat.reduceAdd]
|with_reducible refine go_s h ?_))
      refine balen_spec (h.frt (A := BoardA (pt P.b) D.bn D.next D.rs)) ?_
      refine say_call (D := D) (k := 15) (word := [114, 111, 119, 115]) (n := (D.rs.length : Nat)) rfl T F.rs (by simp) h fun sv w h => ?_
      (repeat with_reducible refine go_s h ?_)
      refine c92 ?_
      unfold F92
      (repeat(first
|simp(disch:=omega)only[evA,evB,evC,bAdd_i64,bSub_i64,Nat.reduceAdd]
|with_reducible refine go_s h ?_))
      refine alen_spec (h.frt (A := HoldA (pt P.h) D.hn D.hnx D.cs)) ?_
      refine say_call (D := D) (k := 16) (word := [99, 111, 110, 116, 101, 120, 116, 115]) (n := (D.cs.length : Nat)) rfl T F.cs (by simp) h fun sv w h => ?_
      (repeat with_reducible refine go_s h ?_)
      refine olen_spec (h.frt (A := OutA (pt P.o) D.o)) ?_
      refine say_call (D := D) (k := 17) (word := [116, 105, 99, 107, 101, 116, 115]) (n := (D.o.ls.length : Nat)) rfl T F.ols (by simp) h fun sv w h => ?_
      (repeat with_reducible refine go_s h ?_)
      refine olast_spec (h.frt (A := OutA (pt P.o) D.o)) ?_
      refine say_call (D := D) (k := 18) (word := [116, 111, 108, 100]) (n := D.o.last) rfl T F.last (by simp) h fun sv w h => ?_
      (repeat with_reducible refine go_s h ?_)
      refine orefused_spec (h.frt (A := OutA (pt P.o) D.o)) ?_
      refine say_call (D := D) (k := 19) (word := [114, 101, 102, 117, 115, 101, 100]) (n := D.o.refused) rfl T F.refused (by simp) h fun sv w h => ?_
      (repeat with_reducible refine go_s h ?_)
      rw [show (statsL D).take (19 + 1) = statsL D from rfl] at h
      exact hK _ _ (h.got)
end
end Go.Proofs.Gong

/- Qt5 -/
namespace Go.Proofs.Gong
open Go Go.Sx Go.Proofs
set_option maxRecDepth 100000
def limL (lim : Int) (m : List Row) : List Row := if 0 ≤ lim then m.take lim.toNat else m
theorem limL_mem {lim : Int} {m : List Row} {r : Row} (h : r ∈ limL lim m) : r ∈ m := by
  unfold limL at h
  split at h
  · exact List.mem_of_mem_take h
  · exact h
theorem limL_len {lim : Int} {m : List Row} : (limL lim m).length ≤ m.length := by
  unfold limL
  split
  · rw [List.length_take]; omega
  · omega
attribute [local irreducible] fBuild fLook fZero eqv bEqv Cl MapH LsH SlH ld1 ldN st callP eBox eAlloc lenM lenL eMapSet eDelete eAppend eBuildSl eRange eNext
section
variable {w0 w : World} {L : List HP} {K : Value → World → Prop} {P : SP} {D : SD} {FP : HP} {fv : Value} {ps : List (Row → Bool)} {lt : Row → Row → Bool} {lim : Int}
theorem lines_loop {q : List Row} {rv : Value} (hl : q.length ≤ 1000000) (A : AheadIs w0) (T : PowIs Tryz.prog w0) (hq : ∀ r ∈ q, LFit r) (hK : ∀ v w', Sat w0 (LsH cSt 1 9 v (q.map lineL) :: LsH cRow 11 45 rv q :: L) w' → K (.tuple #[v, .int .i64 0]) w') : ∀ (k i n : Nat) (ov : Value) (w : World), i + k = q.length → k < n →
    Sat w0 (LsH cSt 1 9 ov ((q.take i).map lineL) :: LsH cRow 11 45 rv q :: L) w → F50_2L n ov rv (.int .i64 q.length) (.int .i64 (i : Nat)) w K
  | 0, i, n, ov, w, hi, hn, h => by
    obtain ⟨n, rfl⟩ : ∃ q, n = q + 1 := ⟨n - 1, by omega⟩
    have him : i = q.length := by omega
    subst him
    have g' : decide ((q.length : Int) < (q.length : Int)) = false := by simp
    rw [F50_2L]
    unfold F50_2b
    (repeat simp(disch:=omega)only[evA,evB,evC,bAdd_i64,bSub_i64,g'])
    unfold F50_3 F50_3b
    rw [List.take_length] at h
    exact hK ov w h
  | k + 1, i, n, ov, w, hi, hn, h => by
    obtain ⟨n, rfl⟩ : ∃ q, n = q + 1 := ⟨n - 1, by omega⟩
    have hil : i < q.length := by omega
    have g' : decide ((i : Int) < (q.length : Int)) = true := by simpa using hil
    have hr : Rd w 11 rv q.length (q.flatMap cRow) := ls_rd (h.frt (A := LsH cRow 11 45 rv q))
    have f1 := ix_el hr hil
    have f2 : ldN 11 (elP 11 rv i) w = some (rowV q[i]) := rd_ld CRq hr hil
    have e2 : (i : Int) + 1 = ((i + 1 : Nat) : Int) := by omega
    have et : (q.take (i + 1)).map lineL = (q.take i).map lineL ++ [lineL q[i]] := by rw [List.take_succ_eq_append_getElem hil, List.map_append]; rfl
    have hmt : ((q.take i).map lineL).length ≤ 1000000 := by rw [List.length_map, List.length_take]; omega
    rw [F50_2L]
    unfold F50_2b
    (repeat(first
|simp(disch:=omega)only[evA,evB,evC,bAdd_i64,bSub_i64,g']
|refine go_some (f1 ..) ?_
|((with_reducible first|apply go_elN h|apply go_f1 h|apply go_rf1 h|apply go_rel h);(case hi=>omega);(try case hx=>exact inferInstance);(try case hv=>rfl))))
    refine go_alloc h z45 rfl fun p w h => ?_
    (repeat(first
|with_reducible refine go_s h ?_
|((with_reducible apply go_stA h);rfl;rfl;(first|rfl|simp[OneV.o]);intro _ h)))
    refine line_spec (r := q[i]) (hq _ (List.getElem_mem hil)) A T h fun w h => ?_
    skip
    refine ls_lit (m := [lineL q[i]]) (f := cSt) (es := 1) CSt h u38 (c := #[.string (bs (lineL q[i]))]) (by kernel_rfl) rfl fun tv w h => ?_
    have hrt := ls_rd h
    refine ls_app (f := cSt) (es := 1) (m := [lineL q[i]]) (L := LsH cSt 1 9 tv [lineL q[i]] :: LsH cRow 11 45 rv q :: L) CSt (h.got) sl38 (by kernel_rfl) hrt (by simp only [List.length_singleton]; omega) fun ov2 w h => ?_
    skip
    rw [e2]
    exact lines_loop hl A T hq hK k (i + 1) n ov2 w (by omega) (by omega) (by rw [et]; exact h.got)
theorem lines_spec (A : AheadIs w0) (T : PowIs Tryz.prog w0) (hF : FiltAt w0 FP fv ps lt lim) (hL : ∀ r ∈ D.rs, LFit r) (hl : D.rs.length ≤ 1000000) (h : StS w0 P D (FP :: L) w)
    (hK : ∀ m v w', m.Perm (D.rs.filter (passes ps)) → m.Pairwise (fun x y => lt y x = false) → StS w0 P D (LsH cSt 1 9 v ((limL lim m).map lineL) :: L) w' → K (.tuple #[v, .int .i64 0]) w') : callP G50 [fv, pt P.x] w K := by
  refine c50 ?_
  unfold F50 F50_1 F50_1b
  obtain ⟨⟨a, b, rfl, oa, ob⟩, hF2⟩ := hF
  refine go_box h (l := [a, b, .int .i64 lim]) rfl fun q w h => ?_
  (repeat(first
|simp(disch:=omega)only[evA,evB,evC,bAdd_i64,bSub_i64]
|with_reducible refine go_s h ?_))
  refine c7 ?_
  unfold F7
  (repeat(first
|simp(disch:=omega)only[evA,evB,evC,bAdd_i64,bSub_i64]
|with_reducible refine go_s h ?_))
  refine baall_spec (h.drew.frt (A := BoardA (pt P.b) D.bn D.next D.rs)) fun rv w h => ?_
  (repeat with_reducible refine go_s h ?_)
  have h2 := (h.frt (A := FP))
  refine hF2 D.rs rv _ w _ hl h2 fun v m w hp hs h => ?_
  change Sat w0 (FP :: LsH cRow 11 45 v (limL lim m) :: _) w at h
  have hml : m.length ≤ 1000000 := by
    have h1 := List.length_filter_le (passes ps) D.rs
    rw [hp.length_eq]; omega
  have hll := limL_len (lim := lim) (m := m)
  have hlen : lenL v = some (.int .i64 ((limL lim m).length : Nat)) := (ls_rd h.f1).len
  (repeat simp(disch:=omega)only[evA,evB,evC,bAdd_i64,bSub_i64,hlen])
  unfold F50_2
  have hq : ∀ r ∈ limL lim m, LFit r := fun r hr => hL r ((List.mem_filter.1 (hp.subset (limL_mem hr))).1)
  have h3 := (Sat.nilLs cSt 1 9 h).f2.f1
  refine lines_loop (q := limL lim m) (by omega) A T hq (fun v w h => ?_) (limL lim m).length 0 fuel _ w (by omega) (by unfold fuel; omega) h3
  exact hK m v w hp hs (h.got)
end
end Go.Proofs.Gong

/- Qt6 -/
namespace Go.Proofs.Gong
open Go Go.Sx Go.Proofs
set_option maxRecDepth 100000
attribute [local irreducible] fBuild fLook fZero eqv bEqv Cl MapH LsH SlH ld1 ldN st callP eBox eAlloc lenM lenL eMapSet eDelete eAppend eBuildSl eRange eNext
section
variable {w0 w : World} {L : List HP} {K : Value → World → Prop} {P : SP} {D : SD} {numL : List UInt8 → Option Nat} {ws : List (List UInt8)} {wv : Value}
theorem ask_fn (f : Fn) (c : _) : fBuild Tryz.prog 98 [(0, .func f #[] c)] = some (.agg #[.func f #[] c]) := by kernel_rfl
theorem qshow_spec (N : ∀ s, ws = [s] → NumAt w0 numL s) (hF : (∀ s, ws = [s] → numL s = none) → ∀ av w', OneV av → Sat w0 L w' → K (.tuple #[.agg #[av], .bool false]) w')
    (hK : ∀ s (u : Nat), ws = [s] → numL s = some u → ∀ ib w', Sat w0 (Cl ib #[.int .i64 u] 3 :: L) w' → K (.tuple #[.agg #[.func (.func 87) #[] #[pt ib]], .bool true]) w') (h : Sat w0 (LsH cSt 1 9 wv ws :: L) w) : callP G52 [wv] w K := by
  refine c52 ?_
  unfold F52
  by_cases g : ws.length = 1
  · obtain ⟨s, rfl⟩ : ∃ s, ws = [s] := by
      match ws, g with
      | [s], _ => exact ⟨s, rfl⟩
    have hrd : Rd w 1 wv [s].length ([s].flatMap cSt) := ls_rd h
    have f1 : pIndexL 1 wv (.int .i64 0) = some (elP 1 wv 0) := ix_el (i := 0) hrd (by simp)
    have d1 : decide ((([s] : List (List UInt8)).length : Int) = 1) = true := by simp
    (repeat(first
|simp(disch:=omega)only[evA,evB,evC,bAdd_i64,bSub_i64,d1]
|refine go_some (f1 ..) ?_
|with_reducible refine go_s h ?_
|((with_reducible apply go_alloc h);(first|exact z98);rfl;intro _ _ h)))
    have f2 : ld1 (elP 1 wv 0) _ = some (.string (bs s)) := rd_ld1 (i := 0) (l := [s]) (g := fun x : List UInt8 => .string (bs x)) (ls_rd (h.frt (A := LsH cSt 1 9 wv [s]))) (by simp)
    rw [f2]
    (repeat simp(disch:=omega)only[evA,evB,evC,bAdd_i64,bSub_i64])
    refine N s rfl _ _ _ h (fun hn u w h => ?_) fun u hu w h => ?_
    · (repeat(first
|simp(disch:=omega)only[evA,evB,evC,bAdd_i64,bSub_i64]
|((with_reducible refine go_w h ?_);intro _ h)
|((with_reducible apply go_alloc h);(first|exact z3);rfl;intro _ _ h)))
      refine go_some (ask_fn _ _) ?_
      refine go_stA h rfl rfl rfl fun w h => ?_
      (repeat with_reducible refine go_s h ?_)
      exact hF (fun s' e => by cases e; exact hn) _ _ inferInstance (h.got)
    · (repeat(first
|simp(disch:=omega)only[evA,evB,evC,bAdd_i64,bSub_i64]
|((with_reducible refine go_w h ?_);intro _ h)
|((with_reducible apply go_alloc h);(first|exact z3);rfl;intro _ _ h)))
      refine go_some (ask_fn _ _) ?_
      refine go_stA h rfl rfl rfl fun w h => ?_
      (repeat with_reducible refine go_s h ?_)
      exact hK s u rfl hu _ _ (h.got)
  · have d1 : decide ((ws.length : Int) = 1) = false := by simp only [decide_eq_false_iff_not]; omega
    (repeat(first
|simp(disch:=omega)only[evA,evB,evC,bAdd_i64,bSub_i64,d1]
|with_reducible refine go_s h ?_
|((with_reducible apply go_alloc h);(first|exact z98);rfl;intro _ _ h)))
    refine go_some fb98 ?_
    refine go_stA h rfl rfl rfl fun w h => ?_
    (repeat with_reducible refine go_s h ?_)
    exact hF (fun s e => absurd (by rw [e]; rfl) g) _ _ inferInstance (h.got)
theorem rowAt_mem {rs : List Row} {id : Int} {r : Row} (h : rowAt rs id = some r) : r ∈ rs := by
  unfold rowAt at h
  exact List.mem_of_find?_eq_some h
theorem show1_spec {ib : Nat} {u : Nat} (A : AheadIs w0) (T : PowIs Tryz.prog w0) (hL : ∀ r ∈ D.rs, LFit r) (h : StS w0 P D (Cl ib #[.int .i64 u] 3 :: L) w)
    (hN : rowAt D.rs u = none → ∀ w', StS w0 P D L w' → K (.tuple #[.slice none 0 0, .int .i64 5]) w') (hK : ∀ r, rowAt D.rs u = some r → ∀ v w', StS w0 P D (LsH cSt 1 9 v [lineL r] :: L) w' → K (.tuple #[v, .int .i64 0]) w') :
    callP G87 [pt P.x, pt ib] w K := by
  refine c87 ?_
  unfold F87
  (repeat(first
|simp(disch:=omega)only[evA,evB,evC,bAdd_i64,bSub_i64]
|with_reducible refine go_s h ?_))
  refine ⟨?_, ?_⟩
  · refine c7 ?_
    unfold F7
    (repeat(first
|simp(disch:=omega)only[evA,evB,evC,bAdd_i64,bSub_i64]
|with_reducible refine go_s h ?_))
    refine ⟨?_, ?_⟩
    · refine baget_spec (h.drew.frt (A := BoardA (pt P.b) D.bn D.next D.rs)) fun w h => ?_
      (repeat simp(disch:=omega)only[evA,evB,evC,bAdd_i64,bSub_i64])
      refine go_alloc h zR rfl fun rp w h => ?_
      (repeat(first
|with_reducible refine go_s h ?_
|((with_reducible apply go_stA h);rfl;rfl;(first|rfl|simp[OneV.o]);intro _ h)))
      cases hr : rowAt D.rs u with
      | none =>
        rw [hr] at h
        (repeat simp(disch:=omega)only[evA,evB,evC,bAdd_i64,bSub_i64,hr,Option.isSome_none,Option.getD_none])
        exact hN hr _ (h.got)
      | some r =>
        rw [hr] at h
        (repeat(first
|simp(disch:=omega)only[evA,evB,evC,bAdd_i64,bSub_i64,hr,Option.isSome_some,Option.getD_some]
|with_reducible refine go_s h ?_))
        refine line_spec (r := r) (hL r (rowAt_mem hr)) A T h fun w h => ?_
        skip
        refine ls_lit (m := [lineL r]) (f := cSt) (es := 1) CSt h u38 (c := #[.string (bs (lineL r))]) (by kernel_rfl) rfl fun tv w h => ?_
        exact hK r hr tv _ (h.got)
    · refine go_alloc h zR rfl fun rp w h => ?_
      (repeat with_reducible refine go_s h ?_)
      refine baget_spec (h.frt (A := BoardA (pt P.b) D.bn D.next D.rs)) fun w h => ?_
      (repeat(first
|simp(disch:=omega)only[evA,evB,evC,bAdd_i64,bSub_i64]
|((with_reducible apply go_stA h);rfl;rfl;(first|rfl|simp[OneV.o]);intro _ h)))
      cases hr : rowAt D.rs u with
      | none =>
        rw [hr] at h
        (repeat simp(disch:=omega)only[evA,evB,evC,bAdd_i64,bSub_i64,hr,Option.isSome_none,Option.getD_none])
        exact hN hr _ (h.got)
      | some r =>
        rw [hr] at h
        (repeat(first
|simp(disch:=omega)only[evA,evB,evC,bAdd_i64,bSub_i64,hr,Option.isSome_some,Option.getD_some]
|with_reducible refine go_s h ?_))
        refine line_spec (r := r) (hL r (rowAt_mem hr)) A T h fun w h => ?_
        skip
        refine ls_lit (m := [lineL r]) (f := cSt) (es := 1) CSt h u38 (c := #[.string (bs (lineL r))]) (by kernel_rfl) rfl fun tv w h => ?_
        exact hK r hr tv _ (h.got)
  · refine go_alloc h zR rfl fun rp w h => ?_
    (repeat with_reducible refine go_s h ?_)
    refine c7 ?_
    unfold F7
    (repeat(first
|simp(disch:=omega)only[evA,evB,evC,bAdd_i64,bSub_i64]
|with_reducible refine go_s h ?_))
    refine baget_spec (h.frt (A := BoardA (pt P.b) D.bn D.next D.rs)) fun w h => ?_
    (repeat(first
|simp(disch:=omega)only[evA,evB,evC,bAdd_i64,bSub_i64]
|((with_reducible apply go_stA h);rfl;rfl;(first|rfl|simp[OneV.o]);intro _ h)))
    cases hr : rowAt D.rs u with
    | none =>
      rw [hr] at h
      (repeat simp(disch:=omega)only[evA,evB,evC,bAdd_i64,bSub_i64,hr,Option.isSome_none,Option.getD_none])
      exact hN hr _ (h.got)
    | some r =>
      rw [hr] at h
      (repeat(first
|simp(disch:=omega)only[evA,evB,evC,bAdd_i64,bSub_i64,hr,Option.isSome_some,Option.getD_some]
|with_reducible refine go_s h ?_))
      refine line_spec (r := r) (hL r (rowAt_mem hr)) A T h fun w h => ?_
      skip
      refine ls_lit (m := [lineL r]) (f := cSt) (es := 1) CSt h u38 (c := #[.string (bs (lineL r))]) (by kernel_rfl) rfl fun tv w h => ?_
      exact hK r hr tv _ (h.got)
end
end Go.Proofs.Gong

/- Qt7 -/
namespace Go.Proofs.Gong
open Go Go.Sx Go.Proofs
set_option maxRecDepth 100000
def kList : List UInt8 := [108, 105, 115, 116]
def kShow : List UInt8 := [115, 104, 111, 119]
def kStats : List UInt8 := [115, 116, 97, 116, 115]
attribute [local irreducible] fBuild fLook fZero eqv bEqv Cl MapH LsH SlH ld1 ldN st callP eBox eAlloc lenM lenL eMapSet eDelete eAppend eBuildSl eRange eNext
section
variable {w0 w : World} {L : List HP} {K : Value → World → Prop} {P : SP} {D : SD} {ofL : List UInt8 → List UInt8 → Option (Row → Bool)} {numL : List UInt8 → Option Nat} {q : List UInt8} {ws : List (List UInt8)} {wv : Value} {R : Option QSt}
theorem tail_words {k : List UInt8} (h : Sat w0 (LsH cSt 1 9 wv (k :: ws) :: L) w) : ∃ v', pSliceL 1 wv (some (.int .i64 1)) none none = some v' ∧ Sat w0 (LsH cSt 1 9 v' ws :: L) w := by
  obtain ⟨v', e, h'⟩ := ls_sub (f := cSt) (es := 1) CSt h (A := some (.int .i64 (1 : Nat))) (H := none) (M := none) (lo := 1) (hi := (k :: ws).length) (.some _ _) .none (.none _) (by simp) (Nat.le_refl _)
  refine ⟨v', e, ?_⟩
  rw [List.take_length] at h'
  exact h'
theorem head_word {k : List UInt8} (h : Sat w0 (LsH cSt 1 9 wv (k :: ws) :: L) w) : pIndexL 1 wv (.int .i64 0) = some (elP 1 wv 0) ∧ ld1 (elP 1 wv 0) w = some (.string (bs k)) ∧ lenL wv = some (.int .i64 ((ws.length + 1 : Nat) : Int)) := by
  have hrd : Rd w 1 wv (k :: ws).length ((k :: ws).flatMap cSt) := ls_rd h
  exact ⟨ix_el (i := 0) hrd (by simp), rd_ld1 (i := 0) (l := k :: ws) (g := fun x : List UInt8 => .string (bs x)) hrd (by simp), hrd.len⟩
theorem call_lines {fv x : Value} (h : callP G50 [fv, x] w K) : eCallV (tabOf T9) (.func (.func 50) #[fv] #[]) [x] w K := h
theorem call_show {iv x : Value} (h : callP G87 [x, iv] w K) : eCallV (tabOf T9) (.func (.func 87) #[] #[iv]) [x] w K := h
theorem call_stats {x : Value} (h : callP G53 [x] w K) : eCallV (tabOf T9) (.func (.func 53) #[] #[]) [x] w K := h
theorem ask_list (A : AheadIs w0) (T : PowIs Tryz.prog w0) (M : MaxIs w0) (hs : q.length ≤ 10000) (hw : wordsL q = kList :: ws) (hl : ws.length ≤ 1000000) (C : ∀ i (h : i + 1 < ws.length), i % 2 = 0 → OfAt w0 ofL ws[i] ws[i + 1]) (N : ∀ i (h : i + 1 < ws.length), ws[i] = kLimit → NumAt w0 numL ws[i + 1]) (hR : (if ws.length % 2 = 0 then readQ ofL numL ws ⟨[], none, -1⟩ else none) = R)
    (hL : ∀ r ∈ D.rs, LFit r) (hrl : D.rs.length ≤ 1000000) (h : StS w0 P D L w)
    (hF : R = none → ∀ w', StS w0 P D L w' → K (.tuple #[.slice none 0 0, .int .i64 300]) w')
    (hK : ∀ s, R = some s → ∀ m v w', m.Perm (D.rs.filter (passes s.ps)) → m.Pairwise (fun x y => ltQ (s.ord.getD fun _ => 0) y x = false) → StS w0 P D (LsH cSt 1 9 v ((limL s.lim m).map lineL) :: L) w' → K (.tuple #[v, .int .i64 0]) w') :
    callP G9 [pt P.x, .string (bs q)] w K := by
  refine c9 ?_
  unfold F9
  refine c26 ?_
  unfold F26
  refine go_alloc h z98 rfl fun ap w h => ?_
  refine words_spec M hs h fun wv w h => ?_
  rw [hw] at h
  obtain ⟨h1, h2, h3⟩ := head_word h
  have d0 : decide (((ws.length + 1 : Nat) : Int) = 0) = false := by simp only [decide_eq_false_iff_not]; omega
  have d1 : decide (kList = [108, 105, 115, 116]) = true := by decide
  (repeat(first
|simp(disch:=omega)only[evA,evB,evC,bAdd_i64,bSub_i64,h3,d0]
|refine go_some (h1 ..) ?_))
  rw [h2]
  (repeat simp(disch:=omega)only[evA,evB,evC,bAdd_i64,bSub_i64,d1])
  obtain ⟨v', e, h⟩ := tail_words h
  refine go_some e ?_
  refine read_spec (ofL := ofL) (numL := numL) (R := R) hl C N hR (fun hn fv w hg h => ?_) (fun s hs FP fv w hg hf h => ?_) h
  · obtain ⟨a, b, c, rfl, oa, ob, oc⟩ := hg
    (repeat(first
|simp(disch:=omega)only[evA,evB,evC,bAdd_i64,bSub_i64]
|with_reducible refine go_s h ?_
|((with_reducible apply go_stA h);rfl;rfl;(first|rfl|simp[OneV.o]);intro _ h)
|((with_reducible apply go_alloc h);(first|exact z142);rfl;intro _ _ h)))
    refine go_some (v := .agg #[.func (.func 50) #[.agg #[a, b, c]] #[]]) (by kernel_rfl) ?_
    (repeat(first
|with_reducible refine go_s h ?_
|((with_reducible apply go_stA h);rfl;rfl;(first|rfl|simp[OneV.o]);intro _ h)
|((with_reducible apply go_alloc h);(first|exact z98);rfl;intro _ _ h)))
    exact hF hn _ (h.got)
  · have hg2 := hg
    obtain ⟨a, b, c, rfl, oa, ob, oc⟩ := hg
    (repeat(first
|simp(disch:=omega)only[evA,evB,evC,bAdd_i64,bSub_i64]
|with_reducible refine go_s h ?_
|((with_reducible apply go_stA h);rfl;rfl;(first|rfl|simp[OneV.o]);intro _ h)
|((with_reducible apply go_alloc h);(first|exact z142);rfl;intro _ _ h)))
    refine go_some (v := .agg #[.func (.func 50) #[.agg #[a, b, c]] #[]]) (by kernel_rfl) ?_
    (repeat(first
|simp(disch:=omega)only[evA,evB,evC,bAdd_i64,bSub_i64]
|with_reducible refine go_s h ?_
|((with_reducible apply go_stA h);rfl;rfl;(first|rfl|simp[OneV.o]);intro _ h)
|((with_reducible apply go_alloc h);(first|exact z98);rfl;intro _ _ h)))
    refine call_lines ?_
    refine lines_spec (L := L) A T hf hL hrl (h.got) fun m v w hp hps h => ?_
    (repeat simp(disch:=omega)only[evA,evB,evC,bAdd_i64,bSub_i64])
    exact hK s hs m v w hp hps h
theorem ask_show (A : AheadIs w0) (T : PowIs Tryz.prog w0) (M : MaxIs w0) (hs : q.length ≤ 10000) (hw : wordsL q = kShow :: ws) (N : ∀ s, ws = [s] → NumAt w0 numL s) (hL : ∀ r ∈ D.rs, LFit r) (h : StS w0 P D L w)
    (hF : (∀ s, ws = [s] → numL s = none) → ∀ w', StS w0 P D L w' → K (.tuple #[.slice none 0 0, .int .i64 300]) w')
    (hN : ∀ s (u : Nat), ws = [s] → numL s = some u → rowAt D.rs u = none → ∀ w', StS w0 P D L w' → K (.tuple #[.slice none 0 0, .int .i64 5]) w')
    (hK : ∀ s (u : Nat) r, ws = [s] → numL s = some u → rowAt D.rs u = some r → ∀ v w', StS w0 P D (LsH cSt 1 9 v [lineL r] :: L) w' → K (.tuple #[v, .int .i64 0]) w') :
    callP G9 [pt P.x, .string (bs q)] w K := by
  refine c9 ?_
  unfold F9
  refine c26 ?_
  unfold F26
  refine go_alloc h z98 rfl fun ap w h => ?_
  refine words_spec M hs h fun wv w h => ?_
  rw [hw] at h
  obtain ⟨h1, h2, h3⟩ := head_word h
  have d0 : decide (((ws.length + 1 : Nat) : Int) = 0) = false := by simp only [decide_eq_false_iff_not]; omega
  have d1 : decide (kShow = [108, 105, 115, 116]) = false := by decide
  have d2 : decide (kShow = [99, 111, 117, 110, 116]) = false := by decide
  have d3 : decide (kShow = [115, 104, 111, 119]) = true := by decide
  (repeat(first
|simp(disch:=omega)only[evA,evB,evC,bAdd_i64,bSub_i64,h3,d0]
|refine go_some (h1 ..) ?_))
  rw [h2]
  (repeat simp(disch:=omega)only[evA,evB,evC,bAdd_i64,bSub_i64,d1,d2,d3])
  obtain ⟨v', e, h⟩ := tail_words h
  refine go_some e ?_
  refine qshow_spec (numL := numL) N (fun hn av w oa h => ?_) (fun s u he hu ib w h => ?_) h
  · (repeat(first
|simp(disch:=omega)only[evA,evB,evC,bAdd_i64,bSub_i64]
|with_reducible refine go_s h ?_
|((with_reducible apply go_stA h);rfl;rfl;(first|rfl|simp[OneV.o]);intro _ h)
|((with_reducible apply go_alloc h);(first|exact z98);rfl;intro _ _ h)))
    exact hF hn _ (h.got)
  · (repeat(first
|simp(disch:=omega)only[evA,evB,evC,bAdd_i64,bSub_i64]
|with_reducible refine go_s h ?_
|((with_reducible apply go_stA h);rfl;rfl;(first|rfl|simp[OneV.o]);intro _ h)
|((with_reducible apply go_alloc h);(first|exact z98);rfl;intro _ _ h)))
    refine call_show ?_
    refine show1_spec (L := L) A T hL (h.got) (fun hr w h => ?_) fun r hr v w h => ?_
    · (repeat simp(disch:=omega)only[evA,evB,evC,bAdd_i64,bSub_i64])
      exact hN s u he hu hr w h
    · (repeat simp(disch:=omega)only[evA,evB,evC,bAdd_i64,bSub_i64])
      exact hK s u r he hu hr v w h
theorem ask_stats (T : PowIs Tryz.prog w0) (M : MaxIs w0) (hs : q.length ≤ 10000) (hw : wordsL q = [kStats]) (F : SFit D) (h : StS w0 P D L w)
    (hK : ∀ v w', StS w0 P D (LsH cSt 1 9 v (statsL D) :: L) w' → K (.tuple #[v, .int .i64 0]) w') :
    callP G9 [pt P.x, .string (bs q)] w K := by
  refine c9 ?_
  unfold F9
  refine c26 ?_
  unfold F26
  refine go_alloc h z98 rfl fun ap w h => ?_
  refine words_spec M hs h fun wv w h => ?_
  rw [hw] at h
  obtain ⟨h1, h2, h3⟩ := head_word h
  have d0 : decide (((([] : List (List UInt8)).length + 1 : Nat) : Int) = 0) = false := by decide
  have d1 : decide (kStats = [108, 105, 115, 116]) = false := by decide
  have d2 : decide (kStats = [99, 111, 117, 110, 116]) = false := by decide
  have d3 : decide (kStats = [115, 104, 111, 119]) = false := by decide
  have d4 : decide (kStats = [115, 116, 97, 116, 115]) = true := by decide
  have d5 : decide (((([] : List (List UInt8)).length + 1 : Nat) : Int) = 1) = true := by decide
  (repeat(first
|simp(disch:=omega)only[evA,evB,evC,bAdd_i64,bSub_i64,h3,d0]
|refine go_some (h1 ..) ?_))
  rw [h2]
  (repeat simp(disch:=omega)only[evA,evB,evC,bAdd_i64,bSub_i64,d1,d2,d3,d4])
  refine go_some (v := .agg #[.func (.func 53) #[] #[]]) (by kernel_rfl) ?_
  (repeat(first
|simp(disch:=omega)only[evA,evB,evC,bAdd_i64,bSub_i64,h3,d5]
|with_reducible refine go_s h ?_
|((with_reducible apply go_stA h);rfl;rfl;(first|rfl|simp[OneV.o]);intro _ h)
|((with_reducible apply go_alloc h);(first|exact z98);rfl;intro _ _ h)))
  refine call_stats ?_
  refine c53 ?_
  unfold F53
  refine stats_spec (L := L) T F (h.got) fun v w h => ?_
  (repeat simp(disch:=omega)only[evA,evB,evC,bAdd_i64,bSub_i64])
  exact hK v w h
end
end Go.Proofs.Gong

/- Qv0 -/
namespace Go.Proofs.Gong
open Go Go.Sx Go.Proofs
set_option maxRecDepth 100000
abbrev bk0 : Value := .agg #[.slice none 0 0, .slice none 0 0, .slice none 0 0]
theorem lt00 : decide ((0 : Int) < 0) = false := by decide
theorem gt064 : decide ((0 : Int) > 64) = false := by decide
theorem gt0256 : decide ((0 : Int) > 256) = false := by decide
theorem ltN0 : decide ((0 : Int) < ((0 : Nat) : Int)) = false := by decide
theorem gtN64 : decide (((0 : Nat) : Int) > 64) = false := by decide
theorem gtN256 : decide (((0 : Nat) : Int) > 256) = false := by decide
theorem nilLen : lenL (.slice none 0 0) = some (.int .i64 0) := rfl
attribute [local irreducible] fBuild fLook fZero eqv bEqv Cl MapH LsH SlH ld1 ldN st callP eBox eAlloc lenM lenL eMapSet eDelete eAppend eBuildSl eRange eNext
section
variable {w0 w : World} {L : List HP} {K : Value → World → Prop}
theorem check0_spec (h : Sat w0 L w) (hK : ∀ w', Sat w0 L w' → K (.tuple #[.int .i64 0, .int .i64 0]) w') : callP G62 [bk0] w K := by
  refine c62 ?_
  unfold F62 F62_1 F62_1b
  refine go_box h (l := [.slice none 0 0, .slice none 0 0, .slice none 0 0]) rfl fun bp w h => ?_
  (repeat(first
|simp(disch:=omega)only[evA,evB,evC,bAdd_i64,bSub_i64,nilLen,gt064,gt0256,gtN64,gtN256]
|with_reducible refine go_s h ?_))
  refine eMakeMap_sat kI kI h fun m1 w h => ?_
  obtain ⟨r1, _, _, ⟨rfl, _⟩, _⟩ := map_iff.1 h
  have e1 : fBuild Tryz.prog 205 [(0, .map (some r1))] = some (.agg #[.map (some r1)]) := by kernel_rfl
  have z1 : fZero Tryz.prog 205 = some (.agg #[.map none]) := by kernel_rfl
  (repeat refine go_some (e1 ..) ?_)
  refine go_alloc h z1 rfl fun cp w h => ?_
  (repeat(first
|simp(disch:=omega)only[evA,evB,evC,bAdd_i64,bSub_i64,nilLen]
|with_reducible refine go_s h ?_
|((with_reducible apply go_stA h);rfl;rfl;(first|rfl|simp[OneV.o]);intro _ h)))
  unfold F62_2
  show F62_2L ((fuel - 1) + 1) _ _ _ _ _ _ _
  rw [F62_2L]
  unfold F62_2b
  (repeat simp(disch:=omega)only[evA,evB,evC,bAdd_i64,bSub_i64,lt00,ltN0])
  unfold F62_3 F62_3b
  refine eMakeMap_sat kI kI h fun m2 w h => ?_
  refine eMakeMap_sat kI kI h fun m3 w h => ?_
  (repeat(first
|simp(disch:=omega)only[evA,evB,evC,bAdd_i64,bSub_i64,nilLen]
|with_reducible refine go_s h ?_))
  unfold F62_4
  show F62_4L ((fuel - 1) + 1) _ _ _ _ _ _ _ _ _
  rw [F62_4L]
  unfold F62_4b
  (repeat simp(disch:=omega)only[evA,evB,evC,bAdd_i64,bSub_i64,lt00,ltN0])
  unfold F62_5 F62_5b
  (repeat(first
|simp(disch:=omega)only[evA,evB,evC,bAdd_i64,bSub_i64,nilLen]
|with_reducible refine go_s h ?_))
  unfold F62_6
  show F62_6L ((fuel - 1) + 1) _ _ _ _ _ _
  rw [F62_6L]
  unfold F62_6b
  (repeat simp(disch:=omega)only[evA,evB,evC,bAdd_i64,bSub_i64,lt00,ltN0])
  unfold F62_7 F62_7b
  exact hK _ (h.got)
theorem rcheck0_spec (h : Sat w0 L w) (hK : ∀ w', Sat w0 L w' → K (.tuple #[.int .i64 0, .int .i64 0]) w') : callP G68 [bk0] w K := by
  refine c68 ?_
  unfold F68 F68_1 F68_1b
  refine go_box h (l := [.slice none 0 0, .slice none 0 0, .slice none 0 0]) rfl fun bp w h => ?_
  (repeat(first
|simp(disch:=omega)only[evA,evB,evC,bAdd_i64,bSub_i64,nilLen,gt064,gt0256,gtN64,gtN256]
|with_reducible refine go_s h ?_))
  unfold F68_2
  show F68_2L ((fuel - 1) + 1) _ _ _ _
  rw [F68_2L]
  unfold F68_2b
  (repeat(first
|simp(disch:=omega)only[evA,evB,evC,bAdd_i64,bSub_i64,lt00,ltN0,nilLen]
|with_reducible refine go_s h ?_))
  unfold F68_3 F68_3b
  unfold F68_4
  show F68_4L ((fuel - 1) + 1) _ _ _ _
  rw [F68_4L]
  unfold F68_4b
  (repeat(first
|simp(disch:=omega)only[evA,evB,evC,bAdd_i64,bSub_i64,lt00,ltN0,nilLen]
|with_reducible refine go_s h ?_))
  unfold F68_5 F68_5b
  unfold F68_6
  show F68_6L ((fuel - 1) + 1) _ _ _ _
  rw [F68_6L]
  unfold F68_6b
  (repeat(first
|simp(disch:=omega)only[evA,evB,evC,bAdd_i64,bSub_i64,lt00,ltN0,nilLen]
|with_reducible refine go_s h ?_))
  unfold F68_7 F68_7b
  exact hK _ (h.got)
theorem rules0_spec (h : Sat w0 L w) (hK : ∀ w', Sat w0 L w' → K (.slice none 0 0) w') : callP G67 [bk0] w K := by
  refine c67 ?_
  unfold F67 F67_1 F67_1b
  refine go_box h (l := [.slice none 0 0, .slice none 0 0, .slice none 0 0]) rfl fun bp w h => ?_
  (repeat(first
|simp(disch:=omega)only[evA,evB,evC,bAdd_i64,bSub_i64,nilLen]
|with_reducible refine go_s h ?_))
  unfold F67_2
  show F67_2L ((fuel - 1) + 1) _ _ _ _ _ _
  rw [F67_2L]
  unfold F67_2b
  (repeat simp(disch:=omega)only[evA,evB,evC,bAdd_i64,bSub_i64,lt00,ltN0,nilLen])
  unfold F67_3 F67_3b
  exact hK _ (h.got)
theorem contf0_spec {fv : Value} (h : Sat w0 L w) (hK : ∀ w', Sat w0 L w' → K (.bool false) w') : callP G63 [.slice none 0 0, fv] w K := by
  refine c63 ?_
  unfold F63
  refine c108 ?_
  unfold F108 F108_1 F108_1b
  (repeat simp(disch:=omega)only[evA,evB,evC,bAdd_i64,bSub_i64,nilLen])
  unfold F108_2
  show F108_2L ((fuel - 1) + 1) _ _ _ _ _ _
  rw [F108_2L]
  unfold F108_2b
  (repeat simp(disch:=omega)only[evA,evB,evC,bAdd_i64,bSub_i64,lt00,ltN0])
  unfold F108_3 F108_3b
  have d : decide ((-1 : Int) ≥ 0) = false := by decide
  (repeat simp(disch:=omega)only[evA,evB,evC,bAdd_i64,bSub_i64,d])
  exact hK _ h
end
end Go.Proofs.Gong

/- Qv1 -/
namespace Go.Proofs.Gong
open Go Go.Sx Go.Proofs
set_option maxRecDepth 100000
def n70 : N7 := ⟨0, 0, 0, 0, 0, 0, 0⟩
attribute [local irreducible] fBuild fLook fZero eqv bEqv Cl MapH LsH SlH ld1 ldN st callP eBox eAlloc lenM lenL eMapSet eDelete eAppend eBuildSl eRange eNext
section
variable {w0 w : World} {L : List HP} {K : Value → World → Prop}
theorem wnew0_spec {n c k : Int} (h1 : 1 ≤ n ∧ n ≤ 65536) (h2 : 1 ≤ c ∧ c ≤ 65536) (h3 : 0 ≤ k ∧ k ≤ 144115188075855872) (h : Sat w0 L w)
    (hK : ∀ e b hd w', Sat w0 (Cl e #[.slice none 0 0, pt b, pt hd, .int .i64 k, .int .i64 0, .int .i64 0, .int .i64 0, .int .i64 0, .int .i64 0, .int .i64 0, .int .i64 0, .int .i64 0] 86 :: BoardA (pt b) n 1 [] :: HoldA (pt hd) c 1 [] :: L) w' → K (.tuple #[pt e, .int .i64 0]) w') :
    callP G34 [bk0, .int .i64 n, .int .i64 c, .int .i64 k] w K := by
  refine c34 ?_
  unfold F34
  refine go_box h (l := [.slice none 0 0, .slice none 0 0, .slice none 0 0]) rfl fun bp w h => ?_
  (repeat with_reducible refine go_s h ?_)
  refine check0_spec h fun w h => ?_
  (repeat simp(disch:=omega)only[evA,evB,evC,bAdd_i64,bSub_i64])
  refine banew_spec h1.1 h1.2 h fun b w h => ?_
  (repeat simp(disch:=omega)only[evA,evB,evC,bAdd_i64,bSub_i64])
  refine anew_spec h2.1 h2.2 h fun hd w h => ?_
  have g1 : decide (k < 0) = false := by simp only [decide_eq_false_iff_not]; omega
  have g2 : decide (k > 144115188075855872) = false := by simp only [decide_eq_false_iff_not]; omega
  (repeat(first
|simp(disch:=omega)only[evA,evB,evC,bAdd_i64,bSub_i64,g1,g2]
|with_reducible refine go_s h ?_))
  refine rules0_spec h fun w h => ?_
  (repeat(first
|simp(disch:=omega)only[evA,evB,evC,bAdd_i64,bSub_i64,fb86_0_1_2_3]
|((with_reducible apply go_box h);rfl;intro _ _ h)))
  exact hK _ b hd _ (h.got)
abbrev setV (n c k m b t : Int) : List Value := [.slice none 0 0, .slice none 0 0, .slice none 0 0, .int .i64 n, .int .i64 c, .int .i64 k, .int .i64 m, .int .i64 b, .int .i64 t, .slice none 0 0]
theorem scheck0_spec {n c k m b t : Int} (h1 : 1 ≤ n ∧ n ≤ 65536) (h2 : 1 ≤ c ∧ c ≤ 65536) (h3 : 0 ≤ k ∧ k ≤ 144115188075855872) (h4 : 1 ≤ m ∧ m ≤ 65536) (h5 : 1 ≤ b ∧ b ≤ t ∧ t ≤ 144115188075855872) (h : Sat w0 L w)
    (hK : ∀ w', Sat w0 L w' → K (.int .i64 0) w') : callP G33 [.agg (setV n c k m b t).toArray] w K := by
  refine c33 ?_
  unfold F33
  refine go_box h (l := setV n c k m b t) rfl fun bp w h => ?_
  (repeat(first
|simp(disch:=omega)only[evA,evB,evC,bAdd_i64,bSub_i64]
|with_reducible refine go_s h ?_))
  refine check0_spec h fun w h => ?_
  (repeat(first
|simp(disch:=omega)only[evA,evB,evC,bAdd_i64,bSub_i64,fb58]
|with_reducible refine go_s h ?_))
  refine wnew0_spec h1 h2 h3 h fun e b1 hd w h => ?_
  (repeat(first
|simp(disch:=omega)only[evA,evB,evC,bAdd_i64,bSub_i64]
|with_reducible refine go_s h ?_))
  refine onew_spec h4 h5 h fun o w h => ?_
  (repeat(first
|simp(disch:=omega)only[evA,evB,evC,bAdd_i64,bSub_i64]
|with_reducible refine go_s h ?_))
  refine contf0_spec h fun w h => ?_
  (repeat(first
|simp(disch:=omega)only[evA,evB,evC,bAdd_i64,bSub_i64,nilLen,gt064,gtN64]
|with_reducible refine go_s h ?_))
  exact hK _ (h.got)
theorem snew0_spec {n c k m b t : Int} (h1 : 1 ≤ n ∧ n ≤ 65536) (h2 : 1 ≤ c ∧ c ≤ 65536) (h3 : 0 ≤ k ∧ k ≤ 144115188075855872) (h4 : 1 ≤ m ∧ m ≤ 65536) (h5 : 1 ≤ b ∧ b ≤ t ∧ t ≤ 144115188075855872) (h : Sat w0 L w)
    (hK : ∀ x e b1 hd o w', StS w0 ⟨x, e, b1, hd, o, .slice none 0 0⟩ ⟨k, 0, n70, n70, n, 1, [], c, 1, [], newO m b t⟩ L w' → K (.tuple #[pt x, .int .i64 0]) w') : callP G17 [.agg (setV n c k m b t).toArray] w K := by
  refine c17 ?_
  unfold F17
  refine go_box h (l := setV n c k m b t) rfl fun bp w h => ?_
  (repeat(first
|simp(disch:=omega)only[evA,evB,evC,bAdd_i64,bSub_i64]
|with_reducible refine go_s h ?_))
  refine scheck0_spec h1 h2 h3 h4 h5 h fun w h => ?_
  (repeat(first
|simp(disch:=omega)only[evA,evB,evC,bAdd_i64,bSub_i64]
|with_reducible refine go_s h ?_))
  refine wnew0_spec h1 h2 h3 h fun e b1 hd w h => ?_
  (repeat(first
|simp(disch:=omega)only[evA,evB,evC,bAdd_i64,bSub_i64]
|with_reducible refine go_s h ?_))
  refine onew_spec h4 h5 h fun o w h => ?_
  (repeat(first
|simp(disch:=omega)only[evA,evB,evC,bAdd_i64,bSub_i64,fb35_0_1]
|((with_reducible apply go_box h);rfl;intro _ _ h)))
  exact hK _ e b1 hd o _ (h.got)
theorem rhnew_spec {n : Int} (h1 : 1 ≤ n ∧ n ≤ 65536) (h : Sat w0 L w) (hK : ∀ p w', Sat w0 L w' → K (.tuple #[pt p, .int .i64 0]) w') : callP G70 [.int .i64 n] w K := by
  refine c70 ?_
  unfold F70
  have g1 : decide (n < 1) = false := by simp only [decide_eq_false_iff_not]; omega
  have g2 : decide (n > 65536) = false := by simp only [decide_eq_false_iff_not]; omega
  (repeat(first
|simp(disch:=omega)only[evA,evB,evC,bAdd_i64,bSub_i64,g1,g2,fb230_0_1]
|((with_reducible apply go_box h);rfl;intro _ _ h)))
  exact hK _ _ (h.got)
theorem ronew_spec {m b t : Int} (h1 : 1 ≤ m ∧ m ≤ 65536) (h2 : 1 ≤ b ∧ b ≤ t ∧ t ≤ 144115188075855872) (h : Sat w0 L w) (hK : ∀ p w', Sat w0 (RefO (pt p) (newO m b t) :: L) w' → K (.tuple #[pt p, .int .i64 0]) w') : callP G37 [.int .i64 m, .int .i64 b, .int .i64 t] w K := by
  refine c37 ?_
  unfold F37
  have g1 : decide (m < 1) = false := by simp; omega
  have g2 : decide (m > 65536) = false := by simp; omega
  have g3 : decide (b < 1) = false := by simp; omega
  have g4 : decide (b > t) = false := by simp; omega
  have g5 : decide (t > 144115188075855872) = false := by simp; omega
  (repeat(first
|simp(disch:=omega)only[evA,evB,evC,bAdd_i64,bSub_i64,g1,g2,g3,g4,g5,fb133_0_1_2]
|((with_reducible apply go_box h);rfl;intro _ _ h)))
  have h2 := Sat.nilLs cEn 15 135 h
  exact hK _ _ (refO_mk (o := newO m b t) (s := .slice none 0 0) h2.f1)
abbrev REng (e b hd : Nat) (k : Int) : HP := Cl e #[.slice none 0 0, .slice none 0 0, .slice none 0 0, pt b, pt hd, .int .i64 k, .int .i64 0, .int .i64 0, .int .i64 0, .int .i64 0, .int .i64 0, .int .i64 0, .int .i64 0, .int .i64 0, .slice none 0 0] 73
theorem rwnew0_spec {n c k : Int} (h1 : 1 ≤ n ∧ n ≤ 65536) (h2 : 1 ≤ c ∧ c ≤ 65536) (h3 : 0 ≤ k ∧ k ≤ 144115188075855872) (h : Sat w0 L w)
    (hK : ∀ e b hd w', Sat w0 (REng e b hd k :: RefB (pt b) n 1 [] :: L) w' → K (.tuple #[pt e, .int .i64 0]) w') :
    callP G36 [bk0, .int .i64 n, .int .i64 c, .int .i64 k] w K := by
  refine c36 ?_
  unfold F36
  refine go_box h (l := [.slice none 0 0, .slice none 0 0, .slice none 0 0]) rfl fun bp w h => ?_
  (repeat with_reducible refine go_s h ?_)
  refine rcheck0_spec h fun w h => ?_
  (repeat simp(disch:=omega)only[evA,evB,evC,bAdd_i64,bSub_i64])
  refine rnew_spec h (fun g => by omega) fun _ _ b w h => ?_
  (repeat simp(disch:=omega)only[evA,evB,evC,bAdd_i64,bSub_i64])
  refine rhnew_spec h2 h fun hd w h => ?_
  have g1 : decide (k < 0) = false := by simp only [decide_eq_false_iff_not]; omega
  have g2 : decide (k > 144115188075855872) = false := by simp only [decide_eq_false_iff_not]; omega
  (repeat(first
|simp(disch:=omega)only[evA,evB,evC,bAdd_i64,bSub_i64,g1,g2,fb73_0_1_2_3]
|with_reducible refine go_s h ?_
|((with_reducible apply go_box h);rfl;intro _ _ h)))
  exact hK _ b hd _ (h.got)
abbrev RSt (y e o : Nat) : HP := Cl y #[pt e, pt o, .int .i64 0, .int .i64 0, .int .i64 0, .int .i64 0, .int .i64 0, .int .i64 0, .int .i64 0] 78
theorem rsnew0_spec {n c k m b t : Int} (h1 : 1 ≤ n ∧ n ≤ 65536) (h2 : 1 ≤ c ∧ c ≤ 65536) (h3 : 0 ≤ k ∧ k ≤ 144115188075855872) (h4 : 1 ≤ m ∧ m ≤ 65536) (h5 : 1 ≤ b ∧ b ≤ t ∧ t ≤ 144115188075855872) (h : Sat w0 L w)
    (hK : ∀ y e b1 hd o w', Sat w0 (RSt y e o :: REng e b1 hd k :: RefB (pt b1) n 1 [] :: RefO (pt o) (newO m b t) :: L) w' → K (.tuple #[pt y, .int .i64 0]) w') : callP G18 [.agg (setV n c k m b t).toArray] w K := by
  refine c18 ?_
  unfold F18 F18_1 F18_1b
  refine go_box h (l := setV n c k m b t) rfl fun bp w h => ?_
  (repeat(first
|simp(disch:=omega)only[evA,evB,evC,bAdd_i64,bSub_i64]
|with_reducible refine go_s h ?_))
  refine rwnew0_spec h1 h2 h3 h fun e b1 hd w h => ?_
  (repeat(first
|simp(disch:=omega)only[evA,evB,evC,bAdd_i64,bSub_i64]
|with_reducible refine go_s h ?_))
  refine ronew_spec h4 h5 h fun o w h => ?_
  (repeat(first
|simp(disch:=omega)only[evA,evB,evC,bAdd_i64,bSub_i64,nilLen,gt064,gtN64]
|with_reducible refine go_s h ?_))
  unfold F18_2
  show F18_2L ((fuel - 1) + 1) _ _ _ _ _ _
  rw [F18_2L]
  unfold F18_2b
  (repeat(first
|simp(disch:=omega)only[evA,evB,evC,bAdd_i64,bSub_i64,lt00,ltN0,nilLen]
|with_reducible refine go_s h ?_))
  unfold F18_3 F18_3b
  (repeat(first
|simp(disch:=omega)only[evA,evB,evC,bAdd_i64,bSub_i64,fb78_0_1]
|((with_reducible apply go_box h);rfl;intro _ _ h)))
  exact hK _ e b1 hd o _ (h.got)
end
end Go.Proofs.Gong

/- Hex -/
namespace Go.Proofs.Gong
open Go Go.Sx Go.Proofs
set_option linter.all false
set_option maxRecDepth 100000
set_option maxHeartbeats 4000000
variable {kn kr : ET} {ke : JT}
def Lay14_ren : Go.Shelf.Ren := ⟨fun | 110 => 14 | 109 => 32 | n => n, fun | 31 => 38 | 9 => 9 | 4 => 4 | 3 => 3 | 0 => 0 | n => n, fun | n => n⟩
theorem Lay14 : Go.Proofs.Lays.n110 Tryz.prog Lay14_ren := {
  mixed := by kernel_rfl
  f109 := Tryz.func32.trans (congrArg some (by kernel_rfl))
  f110 := Tryz.func14.trans (congrArg some (by kernel_rfl))
  t0 := Tryz.underlying0
  a0 := Tryz.isAgg0
  z0 := Tryz.sizeOf0
  v0 := Tryz.zeroValue0
  t3 := Tryz.underlying3
  a3 := Tryz.isAgg3
  z3 := Tryz.sizeOf3
  v3 := Tryz.zeroValue3
  t4 := Tryz.underlying4
  a4 := Tryz.isAgg4
  z4 := Tryz.sizeOf4
  v4 := Tryz.zeroValue4
  t9 := Tryz.underlying9
  a9 := Tryz.isAgg9
  z9 := Tryz.sizeOf9
  v9 := Tryz.zeroValue9
  t31 := Tryz.underlying38
  a31 := Tryz.isAgg38
  z31 := Tryz.sizeOf38
  v31 := Tryz.zeroValue38 }
def G14 : FnT := gContS
theorem ok14 : OkF Tryz.prog 14 G14 := okContS Lay14 rfl Tryz.call14
end Go.Proofs.Gong

/- Qlaw -/
namespace Go.Proofs.Gong
open Go Go.Sx Go.Proofs
set_option linter.all false
set_option maxRecDepth 100000
set_option maxHeartbeats 4000000
variable {kn kr : ET} {ke : JT}
def T16 : List (Nat × FnT) := []
def F16 (w : World) (K : V1) : Prop :=
eAlloc Tryz.prog 60 w fun v2 w1 =>
bindP (fBuild Tryz.prog 60 [(1, (.int .i64 40)), (2, (.int .i64 5)), (4, (.int .i64 40)), (5, (.int .i64 1)), (6, (.int .i64 9))]) fun v3 =>
bindW (st 10 v2 v3 w1) fun w4 =>
bindP (ldN 10 v2 w4) fun v6 =>
K v6 w4
def G16 : FnT := fun args w K => on0 (F16 w K) args
theorem c16 {w : World} {K : V1} (h : F16 w K) : callP G16 [] w K := callP_intro (on0_mk (p := F16 w K) h)
theorem ok16 : OkF Tryz.prog 16 G16 := by
  refine okF_of (tab_ok (l := T16) trivial) mixed (n := fuel) Tryz.func16 Tryz.call16 fun args w K h => ?_
  obtain ⟨rfl, hh⟩ := of_on0 h
  exact fnD_list (c := bodyOf Tryz.f16) (by kernel_rfl) (by kernel_rfl) (Eq.mp (by kernel_rfl) hh)
def T6 : List (Nat × FnT) := [(7, G7), (16, G16), (17, G17), (18, G18), (19, G19), (20, G20), (21, G21), (22, G22)]
def F6_5b (s5 s7 : Value) (w : World) (K : V1) : Prop :=
K (.tuple #[s5, s7]) w
def F6_5 (s5 s7 : Value) (w : World) (K : V1) : Prop := F6_5b s5 s7 w K
theorem ok6_5 {K : V1}
    (hn : HN (fun e w => K (.tuple #[(e 2), (e 3)]) w) kn) (hr : HR Tryz.prog [.tmp 2, .tmp 3] K kr) (he : HE noE ke) :
    ∀ e w, F6_5 (e 5) (e 7) w K → denL Tryz.prog (tabOf T6) 122 fuel ((flat (bodyOf Tryz.f6)).drop 13) e w kn kr ke := by
  intro e w h
  unfold F6_5 at h
  have e1 : ∀ (_ : Unit), F6_5b (e 5) (e 7) w K = denL Tryz.prog (tabOf T6) 122 fuel ((flat (bodyOf Tryz.f6)).drop 13) e w (fun e w => K (.tuple #[(e 2), (e 3)]) w) (endD Tryz.prog [.tmp 2, .tmp 3] K) noE := by intro _; kernel_rfl
  exact seg_end (Eq.mp (e1 ()) h) hn hr he
def F6_4b (s5 s7 s9 s12 : Value) (w : World) (_K : V1) (Y0 : V4) (Y1 : V2) : Prop :=
bindP (lenL s9) fun v1 =>
bindP (bLt s12 v1) fun v2 =>
ifB v2 (
bindP (pNil s5) fun v3 =>
bindP (pFieldAddr 1 v3) fun v4 =>
bindP (ld1 v4 w.drew) fun v5 =>
bindP (pIndexL 11 s9 s12) fun v6 =>
bindP (ldN 11 v6 w.drew) fun v7 =>
callP G21 [v5, (.int .i64 1), v7] w.drew fun _ w8 =>
bindP (pNil s7) fun v10 =>
bindP (pFieldAddr 1 v10) fun v11 =>
bindP (ld1 v11 w8.drew) fun v12 =>
bindP (pIndexL 11 s9 s12) fun v13 =>
bindP (ldN 11 v13 w8.drew) fun v14 =>
callP G22 [v12, (.int .i64 1), v14] w8.drew fun _ w15 =>
bindP (bAdd s12 (.int .i64 1)) fun v17 =>
Y0 s5 s7 s9 v17 w15) (
Y1 s5 s7 w)
def F6_4L : Nat → Value → Value → Value → Value → World → (V1) → Prop
  | 0, _, _, _, _, _, _ => False
  | n + 1, s5, s7, s9, s12, w, K => F6_4b s5 s7 s9 s12 w K (fun a5 a7 a9 a12 w => F6_4L n a5 a7 a9 a12 w K) (fun a5 a7 w => F6_5 a5 a7 w K)
def F6_4 (s5 s7 s9 s12 : Value) (w : World) (K : V1) : Prop := F6_4L fuel s5 s7 s9 s12 w K
theorem ok6_4 {K : V1}
    (hn : HN (fun e w => K (.tuple #[(e 2), (e 3)]) w) kn) (hr : HR Tryz.prog [.tmp 2, .tmp 3] K kr) (he : HE noE ke) :
    ∀ e w, F6_4 (e 5) (e 7) (e 9) (e 12) w K → denL Tryz.prog (tabOf T6) 122 fuel ((flat (bodyOf Tryz.f6)).drop 12) e w kn kr ke := by
  intro e w h
  unfold F6_4 at h
  refine seg_loop (id := 2) (body := (loopB (blkB (nthC (flat (bodyOf Tryz.f6)) 12)))) (l2 := (flat (bodyOf Tryz.f6)).drop 13) (by kernel_rfl) ?_
  refine loop_ok (FL := fun m e w => F6_4L m (e 5) (e 7) (e 9) (e 12) w K) (fr := endD Tryz.prog [.tmp 2, .tmp 3] K) (fe := (blkK 2 (fun e w => F6_5 (e 5) (e 7) w K) noE)) (fun _ _ h => h) ?_ hr (blkK_mono (fun e w h => ok6_5 hn hr he e w h) he) fuel e w h
  intro m e w h
  have h : F6_4L (m + 1) (e 5) (e 7) (e 9) (e 12) w K := h
  rw [F6_4L] at h
  have e1 : ∀ (Y0 : V4) (Y1 : V2), F6_4b (e 5) (e 7) (e 9) (e 12) w K Y0 Y1 = denL Tryz.prog (tabOf T6) 122 fuel (flat (loopB (blkB (nthC (flat (bodyOf Tryz.f6)) 12)))) e w (fun e w => Y0 (e 5) (e 7) (e 9) (e 12) w) (endD Tryz.prog [.tmp 2, .tmp 3] K) (blkK 2 (fun e w => Y1 (e 5) (e 7) w) noE) := by intro Y0 Y1; kernel_rfl
  exact Eq.mp (e1 (fun a5 a7 a9 a12 w => F6_4L m a5 a7 a9 a12 w K) (fun a5 a7 w => F6_5 a5 a7 w K)) h
def F6_3b (s5 s7 s9 : Value) (w : World) (_K : V1) (Y0 : V4) : Prop :=
bindP (pNil s7) fun v18 =>
bindP (pFieldAddr 0 v18) fun v19 =>
bindP (ld1 v19 w) fun v20 =>
bindP (pNil v20) fun v21 =>
bindP (pFieldAddr 3 v21) fun v22 =>
bindP (ld1 v22 w) fun v23 =>
callP G19 [v23, s9, (.int .i64 1099511627776)] w fun _ w24 =>
bindP (pNil s5) fun v26 =>
bindP (pFieldAddr 0 v26) fun v27 =>
bindP (ld1 v27 w24) fun v28 =>
callP G7 [v28] w24 fun v30 w29 =>
callP G20 [v30, s9, (.int .i64 1099511627776)] w29 fun _ w31 =>
Y0 s5 s7 s9 (.int .i64 0) w31
def F6_3 (s5 s7 s9 : Value) (w : World) (K : V1) : Prop := F6_3b s5 s7 s9 w K (fun a5 a7 a9 a12 w => F6_4 a5 a7 a9 a12 w K)
theorem ok6_3 {K : V1}
    (hn : HN (fun e w => K (.tuple #[(e 2), (e 3)]) w) kn) (hr : HR Tryz.prog [.tmp 2, .tmp 3] K kr) (he : HE noE ke) :
    ∀ e w, F6_3 (e 5) (e 7) (e 9) w K → denL Tryz.prog (tabOf T6) 122 fuel ((flat (bodyOf Tryz.f6)).drop 9) e w kn kr ke := by
  intro e w h
  unfold F6_3 at h
  have e1 : ∀ (Y0 : V4), F6_3b (e 5) (e 7) (e 9) w K Y0 = denL Tryz.prog (tabOf T6) 122 fuel (((flat (bodyOf Tryz.f6)).drop 9).take 3) e w (fun e w => Y0 (e 5) (e 7) (e 9) (e 12) w) (endD Tryz.prog [.tmp 2, .tmp 3] K) noE := by intro Y0; kernel_rfl
  exact seg 3 (Eq.mp (e1 (fun a5 a7 a9 a12 w => F6_4 a5 a7 a9 a12 w K)) h) (fun e w h => ok6_4 hn hr he e w h) hr he
def F6_7b (s0 s5 s7 s9 s10 : Value) (w : World) (_K : V1) (R5 : V5) : Prop :=
bindP (bAdd s10 (.int .i64 1)) fun v33 =>
R5 s0 s5 s7 s9 v33 w
def F6_7 (s0 s5 s7 s9 s10 : Value) (w : World) (K : V1) (R5 : V5) : Prop := F6_7b s0 s5 s7 s9 s10 w K R5
theorem ok6_7 (R5 : V5) {K : V1}
    (hn : HN (fun e w => R5 (e 0) (e 5) (e 7) (e 9) (e 10) w) kn) (hr : HR Tryz.prog [.tmp 2, .tmp 3] K kr) (he : HE (blkK 0 (fun e w => F6_3 (e 5) (e 7) (e 9) w K) noE) ke) :
    ∀ e w, F6_7 (e 0) (e 5) (e 7) (e 9) (e 10) w K R5 → denL Tryz.prog (tabOf T6) 122 fuel ((flat (loopB (blkB (nthC (flat (bodyOf Tryz.f6)) 8)))).drop 3) e w kn kr ke := by
  intro e w h
  unfold F6_7 at h
  have e1 : ∀ (_ : Unit), F6_7b (e 0) (e 5) (e 7) (e 9) (e 10) w K R5 = denL Tryz.prog (tabOf T6) 122 fuel ((flat (loopB (blkB (nthC (flat (bodyOf Tryz.f6)) 8)))).drop 3) e w (fun e w => R5 (e 0) (e 5) (e 7) (e 9) (e 10) w) (endD Tryz.prog [.tmp 2, .tmp 3] K) (blkK 0 (fun e w => F6_3 (e 5) (e 7) (e 9) w K) noE) := by intro _; kernel_rfl
  exact seg_end (Eq.mp (e1 ()) h) hn hr he
def F6_6b (s0 s5 s7 s9 s10 : Value) (w : World) (_K : V1) (R5 : V5) (Y0 : V5) (Y1 : V3) : Prop :=
bindP (lenL s0) fun v34 =>
bindP (bLt s10 v34) fun v35 =>
stepM (gd true v35) s10 fun v36 =>
Sx.stepG (gd true v35) (bLt v36 (.int .i64 30)) fun v37 =>
bindP (pPick v35 v37 (.bool false)) fun v38 =>
ifB v38 (
bindP (pIndexL 11 s0 s10) fun v39 =>
bindP (ldN 11 v39 w.drew) fun v40 =>
(eBuildSl Tryz.prog 22 0 [] w.drew fun v42 w41 =>
fok true (ldN 11 v39 w41) v40 ∧ ((eAppend Tryz.prog 22 22 v42 s9 w41 fun v44 w43 =>
fok true (ldN 11 v39 w43) v40 ∧ (eBuildSl Tryz.prog 22 1 [(0, v40)] w43 fun v46 w45 =>
eAppend Tryz.prog 22 22 v44 v46 w45 fun v48 w47 =>
bindP (pNil s7) fun v49 =>
bindP (pFieldAddr 0 v49) fun v50 =>
bindP (ld1 v50 w47) fun v51 =>
bindP (pNil v51) fun v52 =>
bindP (pFieldAddr 3 v52) fun v53 =>
bindP (ld1 v53 w47) fun v54 =>
callP G19 [v54, v48, (.int .i64 1099511627776)] w47 fun v56 w55 =>
bindP (bEq Tryz.prog 39 (.tmp 77) (.const (.int .i64 0)) v56 (.int .i64 0)) fun v57 =>
ifB v57 (
Y0 s0 s5 s7 v48 s10 w55) (
Y0 s0 s5 s7 s9 s10 w55))) ∧ (eBuildSl Tryz.prog 22 1 [(0, v40)] w41 fun v59 w58 =>
eAppend Tryz.prog 22 22 v42 s9 w58 fun v61 w60 =>
fok true (ldN 11 v39 w60) v40 ∧ (eAppend Tryz.prog 22 22 v61 v59 w60 fun v63 w62 =>
bindP (pNil s7) fun v64 =>
bindP (pFieldAddr 0 v64) fun v65 =>
bindP (ld1 v65 w62) fun v66 =>
bindP (pNil v66) fun v67 =>
bindP (pFieldAddr 3 v67) fun v68 =>
bindP (ld1 v68 w62) fun v69 =>
callP G19 [v69, v63, (.int .i64 1099511627776)] w62 fun v71 w70 =>
bindP (bEq Tryz.prog 39 (.tmp 77) (.const (.int .i64 0)) v71 (.int .i64 0)) fun v72 =>
ifB v72 (
Y0 s0 s5 s7 v63 s10 w70) (
Y0 s0 s5 s7 s9 s10 w70))))) ∧ (eBuildSl Tryz.prog 22 1 [(0, v40)] w.drew fun v74 w73 =>
eBuildSl Tryz.prog 22 0 [] w73 fun v76 w75 =>
fok true (ldN 11 v39 w75) v40 ∧ (eAppend Tryz.prog 22 22 v76 s9 w75 fun v78 w77 =>
fok true (ldN 11 v39 w77) v40 ∧ (eAppend Tryz.prog 22 22 v78 v74 w77 fun v80 w79 =>
bindP (pNil s7) fun v81 =>
bindP (pFieldAddr 0 v81) fun v82 =>
bindP (ld1 v82 w79) fun v83 =>
bindP (pNil v83) fun v84 =>
bindP (pFieldAddr 3 v84) fun v85 =>
bindP (ld1 v85 w79) fun v86 =>
callP G19 [v86, v80, (.int .i64 1099511627776)] w79 fun v88 w87 =>
bindP (bEq Tryz.prog 39 (.tmp 77) (.const (.int .i64 0)) v88 (.int .i64 0)) fun v89 =>
ifB v89 (
Y0 s0 s5 s7 v80 s10 w87) (
Y0 s0 s5 s7 s9 s10 w87))))) (
Y1 s5 s7 s9 w)
def F6_6 (s0 s5 s7 s9 s10 : Value) (w : World) (K : V1) (R5 : V5) : Prop := F6_6b s0 s5 s7 s9 s10 w K R5 (fun a0 a5 a7 a9 a10 w => F6_7 a0 a5 a7 a9 a10 w K R5) (fun a5 a7 a9 w => F6_3 a5 a7 a9 w K)
theorem ok6_6 (R5 : V5) {K : V1}
    (hn : HN (fun e w => R5 (e 0) (e 5) (e 7) (e 9) (e 10) w) kn) (hr : HR Tryz.prog [.tmp 2, .tmp 3] K kr) (he : HE (blkK 0 (fun e w => F6_3 (e 5) (e 7) (e 9) w K) noE) ke) :
    ∀ e w, F6_6 (e 0) (e 5) (e 7) (e 9) (e 10) w K R5 → denL Tryz.prog (tabOf T6) 122 fuel ((flat (loopB (blkB (nthC (flat (bodyOf Tryz.f6)) 8)))).drop 0) e w kn kr ke := by
  intro e w h
  unfold F6_6 at h
  have e1 : ∀ (Y0 : V5) (Y1 : V3), F6_6b (e 0) (e 5) (e 7) (e 9) (e 10) w K R5 Y0 Y1 = denL Tryz.prog (tabOf T6) 122 fuel (((flat (loopB (blkB (nthC (flat (bodyOf Tryz.f6)) 8)))).drop 0).take 3) e w (fun e w => Y0 (e 0) (e 5) (e 7) (e 9) (e 10) w) (endD Tryz.prog [.tmp 2, .tmp 3] K) (blkK 0 (fun e w => Y1 (e 5) (e 7) (e 9) w) noE) := by intro Y0 Y1; kernel_rfl
  exact seg 3 (Eq.mp (e1 (fun a0 a5 a7 a9 a10 w => F6_7 a0 a5 a7 a9 a10 w K R5) (fun a5 a7 a9 w => F6_3 a5 a7 a9 w K)) h) (fun e w h => ok6_7 R5 hn hr he e w h) hr he
def F6_2L : Nat → Value → Value → Value → Value → Value → World → (V1) → Prop
  | 0, _, _, _, _, _, _, _ => False
  | n + 1, s0, s5, s7, s9, s10, w, K => F6_6 s0 s5 s7 s9 s10 w K (fun a0 a5 a7 a9 a10 w => F6_2L n a0 a5 a7 a9 a10 w K)
def F6_2 (s0 s5 s7 s9 s10 : Value) (w : World) (K : V1) : Prop := F6_2L fuel s0 s5 s7 s9 s10 w K
theorem ok6_2 {K : V1}
    (hn : HN (fun e w => K (.tuple #[(e 2), (e 3)]) w) kn) (hr : HR Tryz.prog [.tmp 2, .tmp 3] K kr) (he : HE noE ke) :
    ∀ e w, F6_2 (e 0) (e 5) (e 7) (e 9) (e 10) w K → denL Tryz.prog (tabOf T6) 122 fuel ((flat (bodyOf Tryz.f6)).drop 8) e w kn kr ke := by
  intro e w h
  unfold F6_2 at h
  refine seg_loop (id := 0) (body := (loopB (blkB (nthC (flat (bodyOf Tryz.f6)) 8)))) (l2 := (flat (bodyOf Tryz.f6)).drop 9) (by kernel_rfl) ?_
  refine loop_ok (FL := fun m e w => F6_2L m (e 0) (e 5) (e 7) (e 9) (e 10) w K) (fr := endD Tryz.prog [.tmp 2, .tmp 3] K) (fe := (blkK 0 (fun e w => F6_3 (e 5) (e 7) (e 9) w K) noE)) (fun _ _ h => h) ?_ hr (blkK_mono (fun e w h => ok6_3 hn hr he e w h) he) fuel e w h
  intro m e w h
  have h : F6_2L (m + 1) (e 0) (e 5) (e 7) (e 9) (e 10) w K := h
  rw [F6_2L] at h
  exact ok6_6 (fun a0 a5 a7 a9 a10 w => F6_2L m a0 a5 a7 a9 a10 w K) (fun _ _ h => h) (fun _ _ h => h) (fun _ _ _ h => h) e w h
def F6_1b (s0 : Value) (w : World) (K : V1) (Y0 : V5) : Prop :=
callP G16 [] w fun v91 w90 =>
eAlloc Tryz.prog 60 w90 fun v93 w92 =>
bindW (st 10 v93 v91 w92) fun w94 =>
bindP (ldN 10 v93 w94) fun v96 =>
callP G17 [v96] w94 fun v98 w97 =>
bindP (pTuple v98 0) fun v99 =>
bindP (pTuple v98 1) fun v100 =>
bindP (pFieldAddr 0 v93) fun v101 =>
bindP (ldN 3 v101 w97) fun v102 =>
bindP (pFieldAddr 3 v93) fun v103 =>
bindP (ld1 v103 w97) fun v104 =>
bindP (pFieldAddr 4 v93) fun v105 =>
bindP (ld1 v105 w97) fun v106 =>
bindP (pFieldAddr 6 v93) fun v107 =>
bindP (ld1 v107 w97) fun v108 =>
bindP (pFieldAddr 7 v93) fun v109 =>
bindP (ld1 v109 w97) fun v110 =>
bindP (pFieldAddr 8 v93) fun v111 =>
bindP (ld1 v111 w97) fun v112 =>
bindP (fBuild Tryz.prog 66 [(0, v102), (1, v104), (2, v106), (4, v108), (5, v110), (6, v112)]) fun v113 =>
callP G18 [v113] w97 fun v115 w114 =>
bindP (pTuple v115 0) fun v116 =>
bindP (pTuple v115 1) fun v117 =>
bindP (bEq Tryz.prog 25 (.tmp 36) (.const (.pointer none)) v99 (.pointer none)) fun v118 =>
stepM (gd false v118) v116 fun v119 =>
Sx.stepG (gd false v118) (bEq Tryz.prog 26 (.tmp 39) (.const (.pointer none)) v119 (.pointer none)) fun v120 =>
bindP (pPick v118 (.bool true) v120) fun v121 =>
stepM (gd false v121) v100 fun v122 =>
Sx.stepG (gd false v121) (bNe Tryz.prog 39 (.tmp 43) (.const (.int .i64 0)) v122 (.int .i64 0)) fun v123 =>
bindP (pPick v121 (.bool true) v123) fun v124 =>
stepM (gd false v124) v117 fun v125 =>
Sx.stepG (gd false v124) (bNe Tryz.prog 39 (.tmp 47) (.const (.int .i64 0)) v125 (.int .i64 0)) fun v126 =>
bindP (pPick v124 (.bool true) v126) fun v127 =>
ifB v127 (
K (.tuple #[(.pointer none), (.pointer none)]) w114) (
Y0 s0 v99 v116 (.slice none 0 0) (.int .i64 0) w114)
def F6_1 (s0 : Value) (w : World) (K : V1) : Prop := F6_1b s0 w K (fun a0 a5 a7 a9 a10 w => F6_2 a0 a5 a7 a9 a10 w K)
theorem ok6_1 {K : V1}
    (hn : HN (fun e w => K (.tuple #[(e 2), (e 3)]) w) kn) (hr : HR Tryz.prog [.tmp 2, .tmp 3] K kr) (he : HE noE ke) :
    ∀ e w, F6_1 (e 0) w K → denL Tryz.prog (tabOf T6) 122 fuel ((flat (bodyOf Tryz.f6)).drop 0) e w kn kr ke := by
  intro e w h
  unfold F6_1 at h
  have e1 : ∀ (Y0 : V5), F6_1b (e 0) w K Y0 = denL Tryz.prog (tabOf T6) 122 fuel (((flat (bodyOf Tryz.f6)).drop 0).take 8) e w (fun e w => Y0 (e 0) (e 5) (e 7) (e 9) (e 10) w) (endD Tryz.prog [.tmp 2, .tmp 3] K) noE := by intro Y0; kernel_rfl
  exact seg 8 (Eq.mp (e1 (fun a0 a5 a7 a9 a10 w => F6_2 a0 a5 a7 a9 a10 w K)) h) (fun e w h => ok6_2 hn hr he e w h) hr he
def F6 (x0 : Value) (w : World) (K : V1) : Prop := F6_1 x0 w K
def G6 : FnT := fun args w K => on1 (fun x0 => F6 x0 w K) args
theorem c6 {x0 : Value} {w : World} {K : V1} (h : F6 x0 w K) : callP G6 [x0] w K := callP_intro (on1_mk (p := fun x0 => F6 x0 w K) h)
theorem ok6 : OkF Tryz.prog 6 G6 := by
  refine okF_of (tab_ok (l := T6) ⟨ok7, ok16, ok17, ok18, ok19, ok20, ok21, ok22, trivial⟩) mixed (n := fuel) Tryz.func6 Tryz.call6 fun args w K h => ?_
  obtain ⟨x0, rfl, hh⟩ := of_on1 h
  unfold F6 at hh
  exact fnD_list (c := bodyOf Tryz.f6) (by kernel_rfl) (by kernel_rfl) (ok6_1 (fun _ _ h => h) (fun _ _ h => h) (fun _ _ _ h => h) (initE [x0]) w hh)
def T4 : List (Nat × FnT) := [(6, G6), (9, G9)]
def F4 (w : World) (K : V1) : Prop :=
bindP (fBuild Tryz.prog 43 [(0, (.string ⟨#[110]⟩)), (1, (.string ⟨#[99]⟩)), (3, (.int .i64 4))]) fun v1 =>
bindP (fBuild Tryz.prog 45 [(0, (.int .i64 1)), (1, v1), (2, (.int .i64 1))]) fun v2 =>
bindP (fBuild Tryz.prog 43 [(0, (.string ⟨#[109]⟩)), (1, (.string ⟨#[99]⟩)), (3, (.int .i64 3))]) fun v3 =>
bindP (fBuild Tryz.prog 45 [(0, (.int .i64 2)), (1, v3), (2, (.int .i64 1))]) fun v4 =>
eBuildSl Tryz.prog 22 2 [(0, v2), (1, v4)] w fun v6 w5 =>
callP G6 [v6] w5 fun v8 w7 =>
bindP (pTuple v8 0) fun v9 =>
bindP (pTuple v8 1) fun _ =>
bindP (bEq Tryz.prog 25 (.tmp 14) (.const (.pointer none)) v9 (.pointer none)) fun v11 =>
ifB v11 (
K (.bool false) w7) (
callP G9 [v9, (.string ⟨#[108, 105, 115, 116, 32, 108, 101, 118, 101, 108, 32, 52, 32, 111, 114, 100, 101, 114, 32, 108, 97, 115, 116, 32, 108, 105, 109, 105, 116, 32, 49, 48]⟩)] w7 fun v13 w12 =>
bindP (pTuple v13 0) fun v14 =>
bindP (pTuple v13 1) fun v15 =>
bindP (bEq Tryz.prog 39 (.tmp 21) (.const (.int .i64 0)) v15 (.int .i64 0)) fun v16 =>
stepM (gd true v16) v14 fun v17 =>
Sx.stepG (gd true v16) (lenL v17) fun v18 =>
Sx.stepG (gd true v16) (bEq Tryz.prog 3 (.tmp 25) (.const (.int .i64 1)) v18 (.int .i64 1)) fun v19 =>
bindP (pPick v16 v19 (.bool false)) fun v20 =>
stepM (gd true v20) v14 fun v21 =>
Sx.stepG (gd true v20) (pIndexL 1 v21 (.int .i64 0)) fun v22 =>
Sx.stepG (gd true v20) (ld1 v22 w12) fun v23 =>
Sx.stepG (gd true v20) (bEq Tryz.prog 9 (.tmp 31) (.const (.string ⟨#[49, 32, 52, 32, 49, 32, 49, 57, 55, 48, 45, 48, 49, 45, 48, 49, 84, 48, 48, 58, 48, 48, 58, 48, 48, 90, 32, 49, 57, 55, 48, 45, 48, 49, 45, 48, 49, 84, 48, 48, 58, 48, 48, 58, 48, 48, 90, 32, 45, 32, 34, 110, 34, 32, 34, 99, 34, 32, 34, 34, 32, 34, 34]⟩)) v23 (.string ⟨#[49, 32, 52, 32, 49, 32, 49, 57, 55, 48, 45, 48, 49, 45, 48, 49, 84, 48, 48, 58, 48, 48, 58, 48, 48, 90, 32, 49, 57, 55, 48, 45, 48, 49, 45, 48, 49, 84, 48, 48, 58, 48, 48, 58, 48, 48, 90, 32, 45, 32, 34, 110, 34, 32, 34, 99, 34, 32, 34, 34, 32, 34, 34]⟩)) fun v24 =>
bindP (pPick v20 v24 (.bool false)) fun v25 =>
K v25 w12)
def G4 : FnT := fun args w K => on0 (F4 w K) args
theorem c4 {w : World} {K : V1} (h : F4 w K) : callP G4 [] w K := callP_intro (on0_mk (p := F4 w K) h)
theorem ok4 : OkF Tryz.prog 4 G4 := by
  refine okF_of (tab_ok (l := T4) ⟨ok6, ok9, trivial⟩) mixed (n := fuel) Tryz.func4 Tryz.call4 fun args w K h => ?_
  obtain ⟨rfl, hh⟩ := of_on0 h
  exact fnD_list (c := bodyOf Tryz.f4) (by kernel_rfl) (by kernel_rfl) (Eq.mp (by kernel_rfl) hh)
def T5 : List (Nat × FnT) := []
def F5_3b (w : World) (K : V1) : Prop :=
K (.bool true) w
def F5_3 (w : World) (K : V1) : Prop := F5_3b w K
theorem ok5_3 {K : V1}
    (hn : HN (fun e w => K (e 2) w) kn) (hr : HR Tryz.prog [.tmp 2] K kr) (he : HE noE ke) :
    ∀ e w, F5_3 w K → denL Tryz.prog (tabOf T5) 53 fuel ((flat (bodyOf Tryz.f5)).drop 3) e w kn kr ke := by
  intro e w h
  unfold F5_3 at h
  have e1 : ∀ (_ : Unit), F5_3b w K = denL Tryz.prog (tabOf T5) 53 fuel ((flat (bodyOf Tryz.f5)).drop 3) e w (fun e w => K (e 2) w) (endD Tryz.prog [.tmp 2] K) noE := by intro _; kernel_rfl
  exact seg_end (Eq.mp (e1 ()) h) hn hr he
def F5_2b (s0 s3 : Value) (w : World) (K : V1) (Y0 : V2) (Y1 : V0) : Prop :=
bindP (lenL s0) fun v1 =>
bindP (bLt s3 v1) fun v2 =>
stepM (gd true v2) s3 fun v3 =>
Sx.stepG (gd true v2) (bLt v3 (.int .i64 30)) fun v4 =>
bindP (pPick v2 v4 (.bool false)) fun v5 =>
ifB v5 (
bindP (pIndexL 11 s0 s3) fun v6 =>
bindP (pFieldAddr 1 v6) fun v7 =>
bindP (pFieldAddr 4 v7) fun v8 =>
bindP (ld1 v8 w.drew) fun v9 =>
bindP (lenS v9) fun v10 =>
bindP (pIndexL 11 s0 s3) fun v11 =>
bindP (pFieldAddr 1 v11) fun v12 =>
bindP (pFieldAddr 0 v12) fun v13 =>
bindP (ld1 v13 w.drew) fun v14 =>
bindP (lenS v14) fun v15 =>
bindP (bAdd v10 v15) fun v16 =>
bindP (pIndexL 11 s0 s3) fun v17 =>
bindP (pFieldAddr 1 v17) fun v18 =>
bindP (pFieldAddr 1 v18) fun v19 =>
bindP (ld1 v19 w.drew) fun v20 =>
bindP (lenS v20) fun v21 =>
bindP (bAdd v16 v21) fun v22 =>
bindP (pIndexL 11 s0 s3) fun v23 =>
bindP (pFieldAddr 1 v23) fun v24 =>
bindP (pFieldAddr 2 v24) fun v25 =>
bindP (ld1 v25 w.drew) fun v26 =>
bindP (lenS v26) fun v27 =>
bindP (bAdd v22 v27) fun v28 =>
bindP (pIndexL 11 s0 s3) fun v29 =>
bindP (pFieldAddr 10 v29) fun v30 =>
bindP (ld1 v30 w.drew) fun v31 =>
bindP (lenS v31) fun v32 =>
bindP (bAdd v28 v32) fun v33 =>
bindP (bGt v33 (.int .i64 2000)) fun v34 =>
ifB v34 (
K (.bool false) w.drew) (
bindP (bAdd s3 (.int .i64 1)) fun v35 =>
Y0 s0 v35 w.drew)) (
Y1 w)
def F5_2L : Nat → Value → Value → World → (V1) → Prop
  | 0, _, _, _, _ => False
  | n + 1, s0, s3, w, K => F5_2b s0 s3 w K (fun a0 a3 w => F5_2L n a0 a3 w K) (fun w => F5_3 w K)
def F5_2 (s0 s3 : Value) (w : World) (K : V1) : Prop := F5_2L fuel s0 s3 w K
theorem ok5_2 {K : V1}
    (hn : HN (fun e w => K (e 2) w) kn) (hr : HR Tryz.prog [.tmp 2] K kr) (he : HE noE ke) :
    ∀ e w, F5_2 (e 0) (e 3) w K → denL Tryz.prog (tabOf T5) 53 fuel ((flat (bodyOf Tryz.f5)).drop 2) e w kn kr ke := by
  intro e w h
  unfold F5_2 at h
  refine seg_loop (id := 0) (body := (loopB (blkB (nthC (flat (bodyOf Tryz.f5)) 2)))) (l2 := (flat (bodyOf Tryz.f5)).drop 3) (by kernel_rfl) ?_
  refine loop_ok (FL := fun m e w => F5_2L m (e 0) (e 3) w K) (fr := endD Tryz.prog [.tmp 2] K) (fe := (blkK 0 (fun e w => F5_3 w K) noE)) (fun _ _ h => h) ?_ hr (blkK_mono (fun e w h => ok5_3 hn hr he e w h) he) fuel e w h
  intro m e w h
  have h : F5_2L (m + 1) (e 0) (e 3) w K := h
  rw [F5_2L] at h
  have e1 : ∀ (Y0 : V2) (Y1 : V0), F5_2b (e 0) (e 3) w K Y0 Y1 = denL Tryz.prog (tabOf T5) 53 fuel (flat (loopB (blkB (nthC (flat (bodyOf Tryz.f5)) 2)))) e w (fun e w => Y0 (e 0) (e 3) w) (endD Tryz.prog [.tmp 2] K) (blkK 0 (fun e w => Y1 w) noE) := by intro Y0 Y1; kernel_rfl
  exact Eq.mp (e1 (fun a0 a3 w => F5_2L m a0 a3 w K) (fun w => F5_3 w K)) h
def F5_1b (s0 : Value) (w : World) (_K : V1) (Y0 : V2) : Prop :=
Y0 s0 (.int .i64 0) w
def F5_1 (s0 : Value) (w : World) (K : V1) : Prop := F5_1b s0 w K (fun a0 a3 w => F5_2 a0 a3 w K)
theorem ok5_1 {K : V1}
    (hn : HN (fun e w => K (e 2) w) kn) (hr : HR Tryz.prog [.tmp 2] K kr) (he : HE noE ke) :
    ∀ e w, F5_1 (e 0) w K → denL Tryz.prog (tabOf T5) 53 fuel ((flat (bodyOf Tryz.f5)).drop 0) e w kn kr ke := by
  intro e w h
  unfold F5_1 at h
  have e1 : ∀ (Y0 : V2), F5_1b (e 0) w K Y0 = denL Tryz.prog (tabOf T5) 53 fuel (((flat (bodyOf Tryz.f5)).drop 0).take 2) e w (fun e w => Y0 (e 0) (e 3) w) (endD Tryz.prog [.tmp 2] K) noE := by intro Y0; kernel_rfl
  exact seg 2 (Eq.mp (e1 (fun a0 a3 w => F5_2 a0 a3 w K)) h) (fun e w h => ok5_2 hn hr he e w h) hr he
def F5 (x0 : Value) (w : World) (K : V1) : Prop := F5_1 x0 w K
def G5 : FnT := fun args w K => on1 (fun x0 => F5 x0 w K) args
theorem c5 {x0 : Value} {w : World} {K : V1} (h : F5 x0 w K) : callP G5 [x0] w K := callP_intro (on1_mk (p := fun x0 => F5 x0 w K) h)
theorem ok5 : OkF Tryz.prog 5 G5 := by
  refine okF_of (tab_ok (l := T5) trivial) mixed (n := fuel) Tryz.func5 Tryz.call5 fun args w K h => ?_
  obtain ⟨x0, rfl, hh⟩ := of_on1 h
  unfold F5 at hh
  exact fnD_list (c := bodyOf Tryz.f5) (by kernel_rfl) (by kernel_rfl) (ok5_1 (fun _ _ h => h) (fun _ _ h => h) (fun _ _ _ h => h) (initE [x0]) w hh)
def T3 : List (Nat × FnT) := [(4, G4), (5, G5), (6, G6), (7, G7), (8, G8), (9, G9), (10, G10), (11, G11), (12, G12), (13, G13), (14, G14), (15, G15)]
def F3_3b (s1 s5 s7 : Value) (w : World) (K : V1) : Prop :=
callP G12 [s1, (.int .i64 30)] w fun v2 w1 =>
bindP (pNil s5) fun v3 =>
bindP (pFieldAddr 0 v3) fun v4 =>
bindP (ld1 v4 w1) fun v5 =>
callP G7 [v5] w1 fun v7 w6 =>
callP G13 [v7, v2] w6 fun v9 w8 =>
bindP (pTuple v9 0) fun v10 =>
bindP (pTuple v9 1) fun v11 =>
eAlloc Tryz.prog 45 w8 fun v13 w12 =>
bindW (st 11 v13 v10 w12) fun w14 =>
callP G10 [v2] w14 fun v17 w16 =>
bindP (bAdd (.string ⟨#[115, 104, 111, 119, 32, 32]⟩) v17) fun v18 =>
bindP (bAdd v18 (.string ⟨#[32]⟩)) fun v19 =>
callP G9 [s5, v19] w16 fun v21 w20 =>
bindP (pTuple v21 0) fun _ =>
bindP (pTuple v21 1) fun v23 =>
callP G9 [s5, (.string ⟨#[115, 116, 97, 116, 115]⟩)] w20 fun v25 w24 =>
bindP (pTuple v25 0) fun v26 =>
bindP (pTuple v25 1) fun v27 =>
bindP (bEq Tryz.prog 39 (.tmp 118) (.const (.int .i64 0)) v23 (.int .i64 0)) fun v28 =>
bindP (bEq Tryz.prog 4 (.tmp 119) (.tmp 120) v28 v11) fun v29 =>
stepM (gd true v29) v11 fun v30 =>
stepM (gd true v29) v30 fun v31 =>
stepM (gd false v31) v23 fun v32 =>
Sx.stepG (gd false v31) (bEq Tryz.prog 39 (.tmp 125) (.const (.int .i64 5)) v32 (.int .i64 5)) fun v33 =>
Sx.stepG (gd true v29) (pPick v31 (.bool true) v33) fun v34 =>
bindP (pPick v29 v34 (.bool false)) fun v35 =>
stepM (gd true v35) v27 fun v36 =>
Sx.stepG (gd true v35) (bEq Tryz.prog 39 (.tmp 130) (.const (.int .i64 0)) v36 (.int .i64 0)) fun v37 =>
bindP (pPick v35 v37 (.bool false)) fun v38 =>
stepM (gd true v38) v26 fun v39 =>
stepM (gd true v38) s7 fun v40 =>
Sx.stepG (gd true v38) (lenL v40) fun v41 =>
stepE (gd true v38) (fun k => callP G10 [v41] w24 k) w24 fun v43 w42 =>
Sx.stepG (gd true v38) (bAdd (.string ⟨#[114, 111, 119, 115, 32]⟩) v43) fun v44 =>
stepE (gd true v38) (fun k => callP G14 [v39, v44] w42 k) w42 fun v46 w45 =>
bindP (pPick v38 v46 (.bool false)) fun v47 =>
stepM (gd true v47) v26 fun v48 =>
stepM (gd true v47) s5 fun v49 =>
Sx.stepG (gd true v47) (pNil v49) fun v50 =>
Sx.stepG (gd true v47) (pFieldAddr 1 v50) fun v51 =>
Sx.stepG (gd true v47) (ld1 v51 w45) fun v52 =>
stepE (gd true v47) (fun k => callP G15 [v52] w45 k) w45 fun v54 w53 =>
stepE (gd true v47) (fun k => callP G10 [v54] w53 k) w53 fun v56 w55 =>
Sx.stepG (gd true v47) (bAdd (.string ⟨#[116, 105, 99, 107, 101, 116, 115, 32]⟩) v56) fun v57 =>
stepE (gd true v47) (fun k => callP G14 [v48, v57] w55 k) w55 fun v59 w58 =>
bindP (pPick v47 v59 (.bool false)) fun v60 =>
stepM (gd true v60) v26 fun v61 =>
Sx.stepG (gd true v60) (lenL v61) fun v62 =>
Sx.stepG (gd true v60) (bEq Tryz.prog 3 (.tmp 154) (.const (.int .i64 20)) v62 (.int .i64 20)) fun v63 =>
bindP (pPick v60 v63 (.bool false)) fun v64 =>
K v64 w58
def F3_3 (s1 s5 s7 : Value) (w : World) (K : V1) : Prop := F3_3b s1 s5 s7 w K
theorem ok3_3 {K : V1}
    (hn : HN (fun e w => K (e 4) w) kn) (hr : HR Tryz.prog [.tmp 4] K kr) (he : HE noE ke) :
    ∀ e w, F3_3 (e 1) (e 5) (e 7) w K → denL Tryz.prog (tabOf T3) 157 fuel ((flat (bodyOf Tryz.f3)).drop 14) e w kn kr ke := by
  intro e w h
  unfold F3_3 at h
  have e1 : ∀ (_ : Unit), F3_3b (e 1) (e 5) (e 7) w K = denL Tryz.prog (tabOf T3) 157 fuel ((flat (bodyOf Tryz.f3)).drop 14) e w (fun e w => K (e 4) w) (endD Tryz.prog [.tmp 4] K) noE := by intro _; kernel_rfl
  exact seg_end (Eq.mp (e1 ()) h) hn hr he
def F3_2b (s1 s5 s7 s8 s50 s51 s52 : Value) (w : World) (K : V1) (Y0 : V7) (Y1 : V3) : Prop :=
bindP (bLt s52 s51) fun v65 =>
ifB v65 (
bindP (pIndexL 11 s50 s52) fun v66 =>
bindP (ldN 11 v66 w) fun v67 =>
eAlloc Tryz.prog 45 w fun v69 w68 =>
bindW (st 11 v69 v67 w68) fun w70 =>
bindP (pFieldAddr 0 v69) fun v72 =>
bindP (ld1 v72 w70) fun v73 =>
callP G10 [v73] w70 fun v75 w74 =>
bindP (bAdd (.string ⟨#[115, 104, 111, 119, 32]⟩) v75) fun v76 =>
callP G9 [s5, v76] w74 fun v78 w77 =>
bindP (pTuple v78 0) fun v79 =>
bindP (pTuple v78 1) fun v80 =>
bindP (bNe Tryz.prog 39 (.tmp 66) (.const (.int .i64 0)) v80 (.int .i64 0)) fun v81 =>
stepM (gd false v81) v79 fun v82 =>
Sx.stepG (gd false v81) (lenL v82) fun v83 =>
Sx.stepG (gd false v81) (bNe Tryz.prog 3 (.tmp 70) (.const (.int .i64 1)) v83 (.int .i64 1)) fun v84 =>
bindP (pPick v81 (.bool true) v84) fun v85 =>
stepM (gd false v85) v79 fun v86 =>
Sx.stepG (gd false v85) (pIndexL 1 v86 (.int .i64 0)) fun v87 =>
Sx.stepG (gd false v85) (ld1 v87 w77.drew) fun v88 =>
stepM (gd false v85) s8 fun v89 =>
stepM (gd false v85) s52 fun v90 =>
Sx.stepG (gd false v85) (pIndexL 1 v89 v90) fun v91 =>
Sx.stepG (gd false v85) (ld1 v91 w77.drew) fun v92 =>
Sx.stepG (gd false v85) (bNe Tryz.prog 9 (.tmp 76) (.tmp 80) v88 v92) fun v93 =>
bindP (pPick v85 (.bool true) v93) fun v94 =>
stepM (gd false v94) v79 fun v95 =>
Sx.stepG (gd false v94) (pIndexL 1 v95 (.int .i64 0)) fun v96 =>
Sx.stepG (gd false v94) (ld1 v96 w77.drew) fun v97 =>
Sx.stepG (gd false v94) (ldN 11 v69 w77.drew) fun v98 =>
stepE (gd false v94) (fun k => callP G11 [v98] w77.drew k) w77.drew fun v100 w99 =>
fok (gd false v94) (ld1 v96 w99) v97 ∧ (Sx.stepG (gd false v94) (bNe Tryz.prog 9 (.tmp 86) (.tmp 88) v97 v100) fun v101 =>
bindP (pPick v94 (.bool true) v101) fun v102 =>
ifB v102 (
K (.bool false) w99) (
bindP (bAdd s52 (.int .i64 1)) fun v103 =>
Y0 s1 s5 s7 s8 s50 s51 v103 w99))) (
Y1 s1 s5 s7 w)
def F3_2L : Nat → Value → Value → Value → Value → Value → Value → Value → World → (V1) → Prop
  | 0, _, _, _, _, _, _, _, _, _ => False
  | n + 1, s1, s5, s7, s8, s50, s51, s52, w, K => F3_2b s1 s5 s7 s8 s50 s51 s52 w K (fun a1 a5 a7 a8 a50 a51 a52 w => F3_2L n a1 a5 a7 a8 a50 a51 a52 w K) (fun a1 a5 a7 w => F3_3 a1 a5 a7 w K)
def F3_2 (s1 s5 s7 s8 s50 s51 s52 : Value) (w : World) (K : V1) : Prop := F3_2L fuel s1 s5 s7 s8 s50 s51 s52 w K
theorem ok3_2 {K : V1}
    (hn : HN (fun e w => K (e 4) w) kn) (hr : HR Tryz.prog [.tmp 4] K kr) (he : HE noE ke) :
    ∀ e w, F3_2 (e 1) (e 5) (e 7) (e 8) (e 50) (e 51) (e 52) w K → denL Tryz.prog (tabOf T3) 157 fuel ((flat (bodyOf Tryz.f3)).drop 13) e w kn kr ke := by
  intro e w h
  unfold F3_2 at h
  refine seg_loop (id := 0) (body := (loopB (blkB (nthC (flat (bodyOf Tryz.f3)) 13)))) (l2 := (flat (bodyOf Tryz.f3)).drop 14) (by kernel_rfl) ?_
  refine loop_ok (FL := fun m e w => F3_2L m (e 1) (e 5) (e 7) (e 8) (e 50) (e 51) (e 52) w K) (fr := endD Tryz.prog [.tmp 4] K) (fe := (blkK 0 (fun e w => F3_3 (e 1) (e 5) (e 7) w K) noE)) (fun _ _ h => h) ?_ hr (blkK_mono (fun e w h => ok3_3 hn hr he e w h) he) fuel e w h
  intro m e w h
  have h : F3_2L (m + 1) (e 1) (e 5) (e 7) (e 8) (e 50) (e 51) (e 52) w K := h
  rw [F3_2L] at h
  have e1 : ∀ (Y0 : V7) (Y1 : V3), F3_2b (e 1) (e 5) (e 7) (e 8) (e 50) (e 51) (e 52) w K Y0 Y1 = denL Tryz.prog (tabOf T3) 157 fuel (flat (loopB (blkB (nthC (flat (bodyOf Tryz.f3)) 13)))) e w (fun e w => Y0 (e 1) (e 5) (e 7) (e 8) (e 50) (e 51) (e 52) w) (endD Tryz.prog [.tmp 4] K) (blkK 0 (fun e w => Y1 (e 1) (e 5) (e 7) w) noE) := by intro Y0 Y1; kernel_rfl
  exact Eq.mp (e1 (fun a1 a5 a7 a8 a50 a51 a52 w => F3_2L m a1 a5 a7 a8 a50 a51 a52 w K) (fun a1 a5 a7 w => F3_3 a1 a5 a7 w K)) h
def F3_1b (s0 s1 : Value) (w : World) (K : V1) (Y0 : V7) : Prop :=
callP G4 [] w fun v105 w104 =>
bindP (uNot v105) fun v106 =>
ifB v106 (
K (.bool false) w104) (
callP G5 [s0] w104 fun v108 w107 =>
bindP (uNot v108) fun v109 =>
ifB v109 (
K (.bool true) w107) (
callP G6 [s0] w107 fun v111 w110 =>
bindP (pTuple v111 0) fun v112 =>
bindP (pTuple v111 1) fun _ =>
bindP (bEq Tryz.prog 25 (.tmp 28) (.const (.pointer none)) v112 (.pointer none)) fun v114 =>
ifB v114 (
K (.bool false) w110) (
bindP (pNil v112) fun v115 =>
bindP (pFieldAddr 0 v115) fun v116 =>
bindP (ld1 v116 w110) fun v117 =>
callP G7 [v117] w110 fun v119 w118 =>
callP G8 [v119] w118 fun v121 w120 =>
callP G9 [v112, (.string ⟨#[108, 105, 115, 116]⟩)] w120 fun v123 w122 =>
bindP (pTuple v123 0) fun v124 =>
bindP (pTuple v123 1) fun v125 =>
bindP (bNe Tryz.prog 39 (.tmp 41) (.const (.int .i64 0)) v125 (.int .i64 0)) fun v126 =>
stepM (gd false v126) v124 fun v127 =>
Sx.stepG (gd false v126) (lenL v127) fun v128 =>
stepM (gd false v126) v121 fun v129 =>
Sx.stepG (gd false v126) (lenL v129) fun v130 =>
Sx.stepG (gd false v126) (bNe Tryz.prog 3 (.tmp 45) (.tmp 47) v128 v130) fun v131 =>
bindP (pPick v126 (.bool true) v131) fun v132 =>
ifB v132 (
K (.bool false) w122) (
bindP (lenL v121) fun v133 =>
Y0 s1 v112 v121 v124 v121 v133 (.int .i64 0) w122))))
def F3_1 (s0 s1 : Value) (w : World) (K : V1) : Prop := F3_1b s0 s1 w K (fun a1 a5 a7 a8 a50 a51 a52 w => F3_2 a1 a5 a7 a8 a50 a51 a52 w K)
theorem ok3_1 {K : V1}
    (hn : HN (fun e w => K (e 4) w) kn) (hr : HR Tryz.prog [.tmp 4] K kr) (he : HE noE ke) :
    ∀ e w, F3_1 (e 0) (e 1) w K → denL Tryz.prog (tabOf T3) 157 fuel ((flat (bodyOf Tryz.f3)).drop 0) e w kn kr ke := by
  intro e w h
  unfold F3_1 at h
  have e1 : ∀ (Y0 : V7), F3_1b (e 0) (e 1) w K Y0 = denL Tryz.prog (tabOf T3) 157 fuel (((flat (bodyOf Tryz.f3)).drop 0).take 13) e w (fun e w => Y0 (e 1) (e 5) (e 7) (e 8) (e 50) (e 51) (e 52) w) (endD Tryz.prog [.tmp 4] K) noE := by intro Y0; kernel_rfl
  exact seg 13 (Eq.mp (e1 (fun a1 a5 a7 a8 a50 a51 a52 w => F3_2 a1 a5 a7 a8 a50 a51 a52 w K)) h) (fun e w h => ok3_2 hn hr he e w h) hr he
def F3 (x0 x1 : Value) (w : World) (K : V1) : Prop := F3_1 x0 x1 w K
def G3 : FnT := fun args w K => on2 (fun x0 x1 => F3 x0 x1 w K) args
theorem c3 {x0 x1 : Value} {w : World} {K : V1} (h : F3 x0 x1 w K) : callP G3 [x0, x1] w K := callP_intro (on2_mk (p := fun x0 x1 => F3 x0 x1 w K) h)
theorem ok3 : OkF Tryz.prog 3 G3 := by
  refine okF_of (tab_ok (l := T3) ⟨ok4, ok5, ok6, ok7, ok8, ok9, ok10, ok11, ok12, ok13, ok14, ok15, trivial⟩) mixed (n := fuel) Tryz.func3 Tryz.call3 fun args w K h => ?_
  obtain ⟨x0, x1, rfl, hh⟩ := of_on2 h
  unfold F3 at hh
  exact fnD_list (c := bodyOf Tryz.f3) (by kernel_rfl) (by kernel_rfl) (ok3_1 (fun _ _ h => h) (fun _ _ h => h) (fun _ _ _ h => h) (initE [x0, x1]) w hh)
end Go.Proofs.Gong

/- Qv2 -/
namespace Go.Proofs.Gong
open Go Go.Sx Go.Proofs
set_option maxRecDepth 100000
abbrev mostN : Int := 1099511627776
def pickQ (rs : List Row) (r : Row) : List Row := if (loadR mostN (rs ++ [r]) []).isSome = true then rs ++ [r] else rs
def pickedQ (l : List Row) : List Row := (l.take 30).foldl pickQ []
theorem pick_len (rs : List Row) (r : Row) : (pickQ rs r).length ≤ rs.length + 1 := by unfold pickQ; split <;> simp
theorem picks_len : ∀ (l rs : List Row), (l.foldl pickQ rs).length ≤ rs.length + l.length
  | [], rs => by simp
  | r :: l, rs => by
    have := picks_len l (pickQ rs r)
    have := pick_len rs r
    simp only [List.foldl_cons, List.length_cons]; omega
theorem picks_ok : ∀ (l rs : List Row), (loadR mostN rs []).isSome = true → (loadR mostN (l.foldl pickQ rs) []).isSome = true
  | [], rs, h => h
  | r :: l, rs, h => by
    rw [List.foldl_cons]
    refine picks_ok l _ ?_
    unfold pickQ
    split
    · assumption
    · exact h
theorem picked_ok (l : List Row) : (loadR mostN (pickedQ l) []).isSome = true := picks_ok _ _ rfl
theorem picks_mem : ∀ (l rs : List Row) (x : Row), x ∈ l.foldl pickQ rs → x ∈ rs ∨ x ∈ l
  | [], rs, x, h => .inl h
  | r :: l, rs, x, h => by
    rw [List.foldl_cons] at h
    rcases picks_mem l _ x h with h | h
    · unfold pickQ at h
      split at h
      · rcases List.mem_append.1 h with h | h
        · exact .inl h
        · exact .inr (by rw [List.mem_singleton.1 h]; simp)
      · exact .inl h
    · exact .inr (List.mem_cons_of_mem _ h)
theorem picked_mem {l : List Row} {x : Row} (h : x ∈ pickedQ l) : x ∈ l.take 30 := by
  rcases picks_mem _ _ _ h with h | h
  · cases h
  · exact h
theorem picked_len (l : List Row) : (pickedQ l).length ≤ 30 := by
  have := picks_len (l.take 30) []
  rw [List.length_take] at this
  simp at this
  unfold pickedQ; omega
theorem loadA_code {next0 : Int} {rs l : List Row} (hl : l.length ≤ 40) : (loadA 40 next0 rs l mostN).1 = 0 ↔ (loadR mostN l []).isSome = true := by
  unfold loadA
  rw [if_neg (by decide)]
  cases loadR mostN l [] with
  | none => simp
  | some ds =>
    simp only
    rw [if_neg (by omega)]
    simp
attribute [local irreducible] fBuild fLook fZero eqv bEqv Cl MapH LsH SlH ld1 ldN st callP eBox eAlloc lenM lenL eMapSet eDelete eAppend eBuildSl eRange eNext
section
variable {w0 w : World} {L : List HP} {K : Value → World → Prop} {l : List Row} {rv : Value} {x y e b : Nat}
theorem load_loop1 {l : List Row} (hl : l.length ≤ 140737488351232) (hrd : Rd w0 11 rv l.length (l.flatMap cRow)) (hfit : ∀ r ∈ l.take 30, r.e.fits ∧ r.who.length < 1073741824) {hd o : Nat}
    (hK : ∀ sv nx rb w', Sat w0 (LsH cRow 11 45 sv (pickedQ l) :: RSt y e o :: REng e b hd 0 :: RefB (pt b) 40 nx rb :: L) w' → F6_3 (pt x) (pt y) sv w' K) :
    ∀ (k i n : Nat) (rs : List Row) (sv : Value) (nx : Int) (rb : List Row) (w : World), i + k = min l.length 30 → k < n → rs = (l.take i).foldl pickQ [] → Sat w0 (LsH cRow 11 45 sv rs :: RSt y e o :: REng e b hd 0 :: RefB (pt b) 40 nx rb :: L) w →
      F6_2L n rv (pt x) (pt y) sv (.int .i64 (i : Nat)) w K
  | 0, i, n, rs, sv, nx, rb, w, hi, hn, hr, h => by
    obtain ⟨n, rfl⟩ : ∃ q, n = q + 1 := ⟨n - 1, by omega⟩
    haveI : ∀ M, RdIn w0 M rv Row cRow 11 l := fun M => RdIn.arg hrd
    have hrs : rs = pickedQ l := by
      rw [hr]; unfold pickedQ
      congr 1
      rcases Nat.le_total l.length 30 with g | g
      · rw [List.take_of_length_le (by omega), List.take_of_length_le g]
      · rw [show i = 30 by omega]
    rw [hrs] at h
    rw [F6_2L]
    unfold F6_6 F6_6b
    by_cases g : i < l.length
    · have d1 : decide ((i : Int) < (l.length : Int)) = true := by simpa using g
      have d2 : decide ((i : Int) < 30) = false := by simp only [decide_eq_false_iff_not]; omega
      (repeat(first
|simp(disch:=omega)only[evA,evB,evC,bAdd_i64,bSub_i64,d1,d2]
|with_reducible apply go_lenR h))
      exact hK _ _ _ _ h
    · have d1 : decide ((i : Int) < (l.length : Int)) = false := by simpa using g
      (repeat(first
|simp(disch:=omega)only[evA,evB,evC,bAdd_i64,bSub_i64,d1]
|with_reducible apply go_lenR h))
      exact hK _ _ _ _ h
  | k + 1, i, n, rs, sv, nx, rb, w, hi, hn, hr, h => by
    obtain ⟨n, rfl⟩ : ∃ q, n = q + 1 := ⟨n - 1, by omega⟩
    haveI : ∀ M, RdIn w0 M rv Row cRow 11 l := fun M => RdIn.arg hrd
    have hil : i < l.length := by omega
    have d1 : decide ((i : Int) < (l.length : Int)) = true := by simpa using hil
    have d2 : decide ((i : Int) < 30) = true := by simp only [decide_eq_true_eq]; omega
    have hpk : pickQ rs l[i] = (l.take (i + 1)).foldl pickQ [] := by
      rw [List.take_succ_eq_append_getElem hil, List.foldl_append, ← hr]; rfl
    have hrl : rs.length ≤ i := by
      have := picks_len (l.take i) []
      rw [← hr, List.length_take] at this
      simp at this; omega
    have e3 : (i : Int) + 1 = ((i + 1 : Nat) : Int) := by omega
    have hfit2 : ∀ q ∈ rs ++ [l[i]], q.e.fits ∧ q.who.length < 1073741824 := by
      intro q hq
      refine hfit q ?_
      have hm : ∀ q ∈ l.take (i + 1), q ∈ l.take 30 := fun q hq => by
        have : l.take (i + 1) = (l.take 30).take (i + 1) := by rw [List.take_take, Nat.min_eq_left (by omega)]
        rw [this] at hq
        exact List.mem_of_mem_take hq
      rcases List.mem_append.1 hq with hq | hq
      · rw [hr] at hq
        rcases picks_mem _ _ _ hq with hq | hq
        · cases hq
        · refine hm q ?_
          rw [List.take_succ_eq_append_getElem hil]
          exact List.mem_append_left _ hq
      · refine hm q ?_
        rw [List.take_succ_eq_append_getElem hil]
        exact List.mem_append_right _ hq
    have hlen : (rs ++ [l[i]]).length ≤ 40 := by simp; omega
    have next : ∀ (mv : Value) (w : World), Sat w0 (LsH cRow 11 45 mv (rs ++ [l[i]]) :: LsH cRow 11 45 sv rs :: RSt y e o :: REng e b hd 0 :: RefB (pt b) 40 nx rb :: L) w →
        callP G19 [pt b, mv, .int .i64 1099511627776] w fun v56 w55 => bindP (bEq Tryz.prog 39 (.tmp 77) (.const (.int .i64 0)) v56 (.int .i64 0)) fun v57 => ifB v57 (F6_7 rv (pt x) (pt y) mv (.int .i64 (i : Nat)) w55 K fun a0 a5 a7 a9 a10 w => F6_2L n a0 a5 a7 a9 a10 w K) (F6_7 rv (pt x) (pt y) sv (.int .i64 (i : Nat)) w55 K fun a0 a5 a7 a9 a10 w => F6_2L n a0 a5 a7 a9 a10 w K) := by
      intro mv w h
      refine rload_spec (l := rs ++ [l[i]]) hfit2 (by omega) (h.frt (A := RefB (pt b) 40 nx rb)) fun w h => ?_
      by_cases g : (loadR mostN (rs ++ [l[i]]) []).isSome = true
      · rw [(loadA_code (next0 := nx) (rs := rb) hlen).2 g]
        have hp : pickQ rs l[i] = rs ++ [l[i]] := by unfold pickQ; rw [if_pos g]
        (repeat simp(disch:=omega)only[evA,evB,evC,bAdd_i64,bSub_i64])
        unfold F6_7 F6_7b
        (repeat simp(disch:=omega)only[evA,evB,evC,bAdd_i64,bSub_i64])
        rw [e3]
        exact load_loop1 hl hrd hfit hK k (i + 1) n _ mv _ _ w (by omega) (by omega) (hp.symm.trans hpk) (h.got)
      · have hp : pickQ rs l[i] = rs := by unfold pickQ; rw [if_neg g]
        have hc : (loadA 40 nx rb (rs ++ [l[i]]) mostN).1 ≠ 0 := fun e => g ((loadA_code hlen).1 e)
        generalize (loadA 40 nx rb (rs ++ [l[i]]) mostN).1 = c at hc
        have d : decide (c = 0) = false := by simpa using hc
        (repeat simp(disch:=omega)only[evA,evB,evC,bAdd_i64,bSub_i64,d])
        unfold F6_7 F6_7b
        (repeat simp(disch:=omega)only[evA,evB,evC,bAdd_i64,bSub_i64])
        rw [e3]
        exact load_loop1 hl hrd hfit hK k (i + 1) n _ sv _ _ w (by omega) (by omega) (hp.symm.trans hpk) (h.got)
    rw [F6_2L]
    unfold F6_6 F6_6b
    (repeat(first
|simp(disch:=omega)only[evA,evB,evC,bAdd_i64,bSub_i64,d1,d2]
|with_reducible apply go_lenR h
|((with_reducible apply go_ixR h);omega)
|((with_reducible first|apply go_elR h|apply go_f1R h|apply go_rf1R h|apply go_relR h|apply go_e1R h|apply go_re1R h);(case hc=>exact inferInstance);(case hi=>omega);(try case hx=>exact inferInstance);(try case hv=>rfl))))
    repeat' (first | (first |simp(disch:=omega)only[evA,evB,evC,bAdd_i64,bSub_i64] |with_reducible refine go_s h ?_ |((with_reducible apply go_ldA h);rfl) |with_reducible apply go_lenR h |((with_reducible refine go_w h ?_);intro _ h) |((with_reducible apply go_stA h);rfl;rfl;(first|rfl|simp[OneV.o]);intro _ h) |((with_reducible apply go_stN h);rfl;(first|rfl|simp[OneV.o]);intro _ h) |((with_reducible apply go_box h);rfl;intro _ _ h) |((with_reducible apply go_ixR h);omega) |((with_reducible first|apply go_elR h|apply go_f1R h|apply go_rf1R h|apply go_relR h|apply go_e1R h|apply go_re1R h);(case hc=>exact inferInstance);(case hi=>omega);(try case hx=>exact inferInstance);(try case hv=>rfl)) |((with_reducible apply go_fNR h);(case hc=>exact inferInstance);(case hi=>omega);(try case hp=>exact inferInstance);(try case hv=>rfl)) |((with_reducible apply go_faR h);(case hc=>exact inferInstance);omega;omega) |((with_reducible apply go_rlenR h);rfl) |((with_reducible first|apply go_lit0 CR h u22 (by kernel_rfl)|apply go_lit1 CR h u22 (fbRow _) rfl);intro _ _ h) |((with_reducible apply go_appR h sl22 ss22);(case hm=>repeat(first|exact .here|apply Fnt.there));(case hb=>first|omega|(simp;omega));intro _ _ _ h)) | (refine ⟨?_, ?_⟩) | (simp only [List.nil_append] at h; exact next _ _ (h.got)))
end
end Go.Proofs.Gong

/- Qv3 -/
namespace Go.Proofs.Gong
open Go Go.Sx Go.Proofs
set_option maxRecDepth 100000
def putQ (o : Ob) (r : Row) : Ob := (putO 1 r o).2
theorem putQ_bd (o : Ob) (r : Row) : (putQ o r).last ≤ o.last + 1 ∧ (putQ o r).refused ≤ o.refused + 1 := by
  unfold putQ putO
  split
  · simp only; omega
  · split
    · simp only; omega
    · simp only; omega
theorem puts_bd : ∀ (l : List Row) (o : Ob), (l.foldl putQ o).last ≤ o.last + l.length ∧ (l.foldl putQ o).refused ≤ o.refused + l.length
  | [], o => by simp
  | r :: l, o => by
    have h1 := puts_bd l (putQ o r)
    have h2 := putQ_bd o r
    simp only [List.foldl_cons, List.length_cons]
    push_cast
    omega
def obQ (l : List Row) : Ob := (pickedQ l).foldl putQ (newO 40 1 9)
def dsQ (l : List Row) : List Row := (loadR mostN (pickedQ l) []).getD []
theorem dsQ_eq (l : List Row) : loadR mostN (pickedQ l) [] = some (dsQ l) := by
  have h := picked_ok l
  unfold dsQ
  cases e : loadR mostN (pickedQ l) [] with
  | none => rw [e] at h; cases h
  | some ds => rfl
def DQ (l : List Row) : SD := ⟨0, 0, n70, n70, 40, mostN, dsQ l, 5, 1, [], obQ l⟩
theorem sp_nil (a : Operand) (q : Addr) : bEq Tryz.prog 25 a (.const (.pointer none)) (.pointer (some q)) (.pointer none) = some (.bool false) := by cases a <;> kernel_rfl
theorem rp_nil (a : Operand) (q : Addr) : bEq Tryz.prog 26 a (.const (.pointer none)) (.pointer (some q)) (.pointer none) = some (.bool false) := by cases a <;> kernel_rfl
attribute [local irreducible] fBuild fLook fZero eqv bEqv Cl MapH LsH SlH ld1 ldN st callP eBox eAlloc lenM lenL eMapSet eDelete eAppend eBuildSl eRange eNext
section
variable {w0 w : World} {L : List HP} {K : Value → World → Prop} {l : List Row} {rv : Value} {x y e b : Nat}
abbrev RestQ (y e2 b2 hd2 o2 : Nat) (rb : List Row) (nx : Int) (ob : Ob) (L : List HP) : List HP := RSt y e2 o2 :: REng e2 b2 hd2 0 :: RefB (pt b2) 40 nx rb :: RefO (pt o2) ob :: L
theorem load_loop2 {rs : List Row} {P : SP} {D : SD} {sv : Value} {e2 b2 hd2 o2 : Nat} {rb : List Row} {nx : Int} (hl : rs.length ≤ 30) (hfit : ∀ r ∈ rs, r.e.fits ∧ r.who.length < 1073741824)
    (hK : ∀ w', StS w0 P { D with o := rs.foldl putQ (newO 40 1 9) } (RestQ y e2 b2 hd2 o2 rb nx (rs.foldl putQ (newO 40 1 9)) L) w' → K (.tuple #[pt P.x, pt y]) w') :
    ∀ (k i n : Nat) (w : World), i + k = rs.length → k < n → StS w0 P { D with o := (rs.take i).foldl putQ (newO 40 1 9) } (RestQ y e2 b2 hd2 o2 rb nx ((rs.take i).foldl putQ (newO 40 1 9)) (LsH cRow 11 45 sv rs :: L)) w →
      F6_4L n (pt P.x) (pt y) sv (.int .i64 (i : Nat)) w K
  | 0, i, n, w, hi, hn, h => by
    obtain ⟨n, rfl⟩ : ∃ q, n = q + 1 := ⟨n - 1, by omega⟩
    have him : i = rs.length := by omega
    subst him
    have g' : decide ((rs.length : Int) < (rs.length : Int)) = false := by simp
    rw [List.take_length] at h
    rw [F6_4L]
    unfold F6_4b
    (repeat(first
|simp(disch:=omega)only[evA,evB,evC,bAdd_i64,bSub_i64,g']
|with_reducible refine go_s h ?_))
    unfold F6_5 F6_5b
    exact hK _ (h.got)
  | k + 1, i, n, w, hi, hn, h => by
    obtain ⟨n, rfl⟩ : ∃ q, n = q + 1 := ⟨n - 1, by omega⟩
    have hil : i < rs.length := by omega
    have g' : decide ((i : Int) < (rs.length : Int)) = true := by simpa using hil
    have e3 : (i : Int) + 1 = ((i + 1 : Nat) : Int) := by omega
    have ht : putQ ((rs.take i).foldl putQ (newO 40 1 9)) rs[i] = (rs.take (i + 1)).foldl putQ (newO 40 1 9) := by
      rw [List.take_succ_eq_append_getElem hil, List.foldl_append]; rfl
    have hb := puts_bd (rs.take i) (newO 40 1 9)
    have hn0 : (newO 40 1 9).last = 0 ∧ (newO 40 1 9).refused = 0 := ⟨rfl, rfl⟩
    rw [List.length_take, hn0.1, hn0.2] at hb
    have hf := hfit rs[i] (List.getElem_mem hil)
    have ho := outA_ok (h.frt (A := OutA (pt P.o) ((rs.take i).foldl putQ (newO 40 1 9))))
    rw [F6_4L]
    unfold F6_4b
    (repeat(first
|simp(disch:=omega)only[evA,evB,evC,bAdd_i64,bSub_i64,g']
|with_reducible refine go_s h ?_
|((with_reducible apply go_ix h);omega)
|((with_reducible first|apply go_elN h|apply go_f1 h|apply go_rf1 h|apply go_rel h);(case hi=>omega);(try case hx=>exact inferInstance);(try case hv=>rfl))))
    refine oput_spec (o := (rs.take i).foldl putQ (newO 40 1 9)) (r := rs[i]) (by omega) (by omega) hf.1 hf.2 (h.drew.frt (A := OutA (pt P.o) ((rs.take i).foldl putQ (newO 40 1 9)))) fun w h => ?_
    (repeat(first
|with_reducible refine go_s h ?_
|((with_reducible apply go_ix h);omega)
|((with_reducible first|apply go_elN h|apply go_f1 h|apply go_rf1 h|apply go_rel h);(case hi=>omega);(try case hx=>exact inferInstance);(try case hv=>rfl))))
    refine rput_spec (o := (rs.take i).foldl putQ (newO 40 1 9)) (r := rs[i]) ho (by omega) (by omega) hf.1 hf.2 (h.drew.frt (A := RefO (pt o2) ((rs.take i).foldl putQ (newO 40 1 9)))) fun w h => ?_
    skip
    rw [e3]
    change Sat w0 (RefO (pt o2) (putQ ((rs.take i).foldl putQ (newO 40 1 9)) rs[i]) :: OutA (pt P.o) (putQ ((rs.take i).foldl putQ (newO 40 1 9)) rs[i]) :: _) w at h
    rw [ht] at h
    exact load_loop2 hl hfit hK k (i + 1) n w (by omega) (by omega) (h.got)
theorem setup_spec (h : Sat w0 L w) (hK : ∀ w', Sat w0 L w' → K (.agg (setV 40 5 0 40 1 9).toArray) w') : callP G16 [] w K := by
  refine c16 ?_
  unfold F16
  (repeat(first
|simp(disch:=omega)only[evA,evB,evC,bAdd_i64,bSub_i64,fb60_1_2_4_5_6]
|with_reducible refine go_s h ?_
|((with_reducible apply go_stA h);rfl;rfl;(first|rfl|simp[OneV.o]);intro _ h)
|((with_reducible apply go_alloc h);(first|exact z60);rfl;intro _ _ h)))
  exact hK _ (h.got)
theorem loaded_spec {l : List Row} (hl : l.length ≤ 140737488351232) (hrd : Rd w0 11 rv l.length (l.flatMap cRow)) (hfit : ∀ r ∈ l.take 30, r.e.fits ∧ r.who.length < 1073741824) (h : Sat w0 L w)
    (hK : ∀ P y e2 b2 hd2 o2 w', StS w0 P (DQ l) (RestQ y e2 b2 hd2 o2 (dsQ l) mostN (obQ l) L) w' → K (.tuple #[pt P.x, pt y]) w') : callP G6 [rv] w K := by
  refine c6 ?_
  unfold F6 F6_1 F6_1b
  refine setup_spec h fun w h => ?_
  (repeat(first
|simp(disch:=omega)only[evA,evB,evC,bAdd_i64,bSub_i64]
|with_reducible refine go_s h ?_
|((with_reducible apply go_stA h);rfl;rfl;(first|rfl|simp[OneV.o]);intro _ h)
|((with_reducible apply go_alloc h);(first|exact z60);rfl;intro _ _ h)))
  refine snew0_spec (by omega) (by omega) (by omega) (by omega) (by omega) h fun x e b1 hd o w h => ?_
  (repeat(first
|simp(disch:=omega)only[evA,evB,evC,bAdd_i64,bSub_i64,fb66_0_1_2_4_5_6]
|with_reducible refine go_s h ?_))
  refine rsnew0_spec (by omega) (by omega) (by omega) (by omega) (by omega) h fun y e2 b2 hd2 o2 w h => ?_
  (repeat simp(disch:=omega)only[evA,evB,evC,bAdd_i64,bSub_i64,sp_nil,rp_nil])
  unfold F6_2
  have h := Sat.nilLs cRow 11 45 h
  refine load_loop1 (x := x) (e := e2) (b := b2) (hd := hd2) (o := o2) (L := RefO (pt o2) (newO 40 1 9) :: _) hl hrd hfit (fun sv nx rb w h => ?_) (min l.length 30) 0 fuel [] _ _ _ w (by omega) (by unfold fuel; omega) rfl (h.got)
  unfold F6_3 F6_3b
  have hpl := picked_len l
  have hpf : ∀ r ∈ pickedQ l, r.e.fits ∧ r.who.length < 1073741824 := fun r hr => hfit r (picked_mem hr)
  have eds := dsQ_eq l
  (repeat(first
|simp(disch:=omega)only[evA,evB,evC,bAdd_i64,bSub_i64]
|with_reducible refine go_s h ?_))
  refine rload_spec (l := pickedQ l) hpf (by omega) (h.frt (A := RefB (pt b2) 40 nx rb)) fun w h => ?_
  have ea : loadA 40 nx rb (pickedQ l) mostN = (0, mostN, dsQ l) := by
    unfold loadA
    rw [if_neg (by decide), eds]
    simp only
    rw [if_neg (by omega)]
  rw [show (1099511627776 : Int) = mostN from rfl, ea] at h
  simp only at h
  (repeat with_reducible refine go_s h ?_)
  refine c7 ?_
  unfold F7
  (repeat(first
|simp(disch:=omega)only[evA,evB,evC,bAdd_i64,bSub_i64]
|with_reducible refine go_s h ?_))
  refine baload_spec (L := LsH cRow 11 45 sv (pickedQ l) :: RSt y e2 o2 :: REng e2 b2 hd2 0 :: RefB (pt b2) 40 mostN (dsQ l) :: RefO (pt o2) (newO 40 1 9) :: _) (l := pickedQ l) hpf (by omega) (fun h => (ls_rd h).len) (fun _ h => ls_rd h) (h.got) (fun hb => ?_) (fun ds _ _ hb => ?_) fun ds he _ _ w h => ?_
  · rcases hb with hb | hb | hb
    · omega
    · omega
    · rw [show (1099511627776 : Int) = mostN from rfl, eds] at hb; cases hb
  · intro hb2; omega
  · rw [show (1099511627776 : Int) = mostN from rfl, eds] at he
    cases he
    skip
    unfold F6_4
    exact load_loop2 (L := L) (P := ⟨x, e, b1, hd, o, .slice none 0 0⟩) (D := DQ l) (rs := pickedQ l) hpl hpf (fun w h => hK ⟨x, e, b1, hd, o, .slice none 0 0⟩ y e2 b2 hd2 o2 w h) (pickedQ l).length 0 fuel w (by omega) (by unfold fuel; omega) (h.got)
end
end Go.Proofs.Gong

/- Qw0 -/
namespace Go.Proofs.Gong
open Go Go.Sx Go.Proofs
set_option maxRecDepth 100000
def sumR (r : Row) : Nat := r.e.text.length + r.e.node.length + r.e.cls.length + r.e.key.length + r.who.length
def shortQ (l : List Row) : Bool := (l.take 30).all fun r => decide (sumR r ≤ 2000)
structure RBig (r : Row) : Prop where
  node : r.e.node.length ≤ 140737488351232
  cls : r.e.cls.length ≤ 140737488351232
  key : r.e.key.length ≤ 140737488351232
  text : r.e.text.length ≤ 140737488351232
  who : r.who.length ≤ 140737488351232
attribute [local irreducible] fBuild fLook fZero eqv bEqv Cl MapH LsH SlH ld1 ldN st callP eBox eAlloc lenM lenL eMapSet eDelete eAppend eBuildSl eRange eNext
section
variable {w0 w : World} {L : List HP} {K : Value → World → Prop} {rv : Value}
theorem short_loop {l : List Row} (hl : l.length ≤ 140737488351232) (hb : ∀ r ∈ l, RBig r) (hrd : Rd w0 11 rv l.length (l.flatMap cRow)) (hK : ∀ w', Sat w0 L w' → K (.bool (shortQ l)) w') :
    ∀ (k i n : Nat) (w : World), i + k = min l.length 30 → k < n → (l.take i).all (fun r => decide (sumR r ≤ 2000)) = true → Sat w0 L w → F5_2L n rv (.int .i64 (i : Nat)) w K
  | 0, i, n, w, hi, hn, ha, h => by
    obtain ⟨n, rfl⟩ : ∃ q, n = q + 1 := ⟨n - 1, by omega⟩
    haveI : ∀ M, RdIn w0 M rv Row cRow 11 l := fun M => RdIn.arg hrd
    have hs : shortQ l = true := by
      unfold shortQ
      rcases Nat.le_total l.length 30 with g | g
      · rw [List.take_of_length_le (by omega)] at ha ⊢; exact ha
      · rw [show i = 30 by omega] at ha; exact ha
    rw [hs] at hK
    rw [F5_2L]
    unfold F5_2b
    by_cases g : i < l.length
    · have d1 : decide ((i : Int) < (l.length : Int)) = true := by simpa using g
      have d2 : decide ((i : Int) < 30) = false := by simp only [decide_eq_false_iff_not]; omega
      (repeat(first
|simp(disch:=omega)only[evA,evB,evC,bAdd_i64,bSub_i64,d1,d2]
|with_reducible apply go_lenR h))
      unfold F5_3 F5_3b
      exact hK _ h
    · have d1 : decide ((i : Int) < (l.length : Int)) = false := by simpa using g
      (repeat(first
|simp(disch:=omega)only[evA,evB,evC,bAdd_i64,bSub_i64,d1]
|with_reducible apply go_lenR h))
      unfold F5_3 F5_3b
      exact hK _ h
  | k + 1, i, n, w, hi, hn, ha, h => by
    obtain ⟨n, rfl⟩ : ∃ q, n = q + 1 := ⟨n - 1, by omega⟩
    haveI : ∀ M, RdIn w0 M rv Row cRow 11 l := fun M => RdIn.arg hrd
    have hil : i < l.length := by omega
    have d1 : decide ((i : Int) < (l.length : Int)) = true := by simpa using hil
    have d2 : decide ((i : Int) < 30) = true := by simp only [decide_eq_true_eq]; omega
    obtain ⟨b1, b2, b3, b4, b5⟩ := hb l[i] (List.getElem_mem hil)
    have e3 : (i : Int) + 1 = ((i + 1 : Nat) : Int) := by omega
    rw [F5_2L]
    unfold F5_2b
    have es : ((l[i].e.text.length : Int) + l[i].e.node.length + l[i].e.cls.length + l[i].e.key.length + l[i].who.length) = ((sumR l[i] : Nat) : Int) := by unfold sumR; push_cast; rfl
    (repeat(first
|simp(disch:=omega)only[evA,evB,evC,bAdd_i64,bSub_i64,d1,d2,Nat.reduceAdd]
|with_reducible apply go_lenR h
|((with_reducible apply go_ixR h);omega)
|((with_reducible first|apply go_elR h|apply go_f1R h|apply go_rf1R h|apply go_relR h|apply go_e1R h|apply go_re1R h);(case hc=>exact inferInstance);(case hi=>omega);(try case hx=>exact inferInstance);(try case hv=>rfl))
|((with_reducible apply go_faR h);(case hc=>exact inferInstance);omega;omega)
|((with_reducible apply go_faFR h);(case hc=>exact inferInstance);omega)))
    by_cases g : sumR l[i] ≤ 2000
    · have d3 : decide (((sumR l[i] : Nat) : Int) > 2000) = false := by simp only [decide_eq_false_iff_not]; omega
      (repeat simp(disch:=omega)only[evA,evB,evC,bAdd_i64,bSub_i64,es,d3])
      rw [e3]
      refine short_loop hl hb hrd hK k (i + 1) n w.drew (by omega) (by omega) ?_ h.drew
      rw [List.take_succ_eq_append_getElem hil, List.all_append, ha]
      simpa using g
    · have d3 : decide (((sumR l[i] : Nat) : Int) > 2000) = true := by simp only [decide_eq_true_eq]; omega
      (repeat simp(disch:=omega)only[evA,evB,evC,bAdd_i64,bSub_i64,es,d3])
      have hs : shortQ l = false := by
        unfold shortQ
        rw [Bool.eq_false_iff, Ne, List.all_eq_true]
        intro hall
        have hm : l[i] ∈ l.take 30 := by
          rw [List.mem_iff_getElem]
          exact ⟨i, by rw [List.length_take]; omega, by rw [List.getElem_take]⟩
        have := hall _ hm
        simp at this; omega
      rw [hs] at hK
      exact hK _ h.drew
theorem short_spec {l : List Row} (hl : l.length ≤ 140737488351232) (hb : ∀ r ∈ l, RBig r) (hrd : Rd w0 11 rv l.length (l.flatMap cRow)) (h : Sat w0 L w) (hK : ∀ w', Sat w0 L w' → K (.bool (shortQ l)) w') : callP G5 [rv] w K := by
  refine c5 ?_
  unfold F5 F5_1 F5_1b F5_2
  exact short_loop hl hb hrd hK (min l.length 30) 0 fuel w (by omega) (by unfold fuel; omega) (by simp) h
theorem short_fit {l : List Row} (h : shortQ l = true) : ∀ r ∈ l.take 30, r.e.fits ∧ r.who.length < 1073741824 := by
  intro r hr
  unfold shortQ at h
  have h2 : sumR r ≤ 2000 := of_decide_eq_true (List.all_eq_true.1 h r hr)
  unfold sumR at h2
  exact ⟨⟨by omega, by omega, by omega, by omega⟩, by omega⟩
end
theorem lfit_ok {r : Row} (h : okR r = true) (hi : r.id < mostN) : LFit r := by
  have hf := okR_fit h
  unfold okR at h
  simp only [Bool.and_eq_true, decide_eq_true_eq] at h
  obtain ⟨⟨⟨⟨⟨⟨h1, h2⟩, h3⟩, h4⟩, h5⟩, h6⟩, h7⟩ := h
  unfold timesR timeP at h5
  simp only [Bool.and_eq_true, decide_eq_true_eq] at h5
  unfold okE at h7
  simp only [Bool.and_eq_true, decide_eq_true_eq] at h7
  obtain ⟨⟨⟨⟨⟨⟨_, p1⟩, p2⟩, p3⟩, p4⟩, p5⟩, p6⟩ := h7
  have q1 := plainP_len p1
  have q2 := plainP_len p2
  have q3 := plainP_len p3
  have q4 := plainP_len p4
  have q5 : r.who.length ≤ 64 := by
    unfold whoR at h6
    split at h6
    · unfold whoP at h6
      simp only [Bool.and_eq_true] at h6
      exact plainP_len h6.2
    · simp only [decide_eq_true_eq] at h6
      rw [h6]; simp
  simp only [mostN] at hi
  exact ⟨by omega, by omega, by omega, by omega, by omega, by omega⟩
end Go.Proofs.Gong

/- Qw1 -/
namespace Go.Proofs.Gong
open Go Go.Sx Go.Proofs
set_option maxRecDepth 100000
def kLevel : List UInt8 := [108, 101, 118, 101, 108]
def numQ (s : List UInt8) : Option Nat := match Lib.atoi s with
  | some n => if 0 ≤ n ∧ s.length ≤ 18 ∧ Lib.itoa n = s then some n.toNat else none
  | none => none
theorem numQ_itoa {u : Nat} (h : u < 1000000000000000000) : numQ (Lib.itoa (u : Int)) = some u := by
  unfold numQ
  rw [atoi_itoa]
  simp only
  rw [if_pos ⟨by omega, itoa_len h, trivial⟩]
  simp
def ofS (key word : List UInt8) : Option (Row → Bool) := if key = kLevel then (numQ word).bind fun n => if n ≤ 5 then some fun r => decide (r.e.level ≥ (n : Int)) else none else none
def wr1 : Row := ⟨1, ⟨[110], [99], [], 4, []⟩, 1, 0, 0, false, []⟩
def wr2 : Row := ⟨2, ⟨[109], [99], [], 3, []⟩, 1, 0, 0, false, []⟩
def wLine : List UInt8 := [49, 32, 52, 32, 49, 32, 49, 57, 55, 48, 45, 48, 49, 45, 48, 49, 84, 48, 48, 58, 48, 48, 58, 48, 48, 90, 32, 49, 57, 55, 48, 45, 48, 49, 45, 48, 49, 84, 48, 48, 58, 48, 48, 58, 48, 48, 90, 32, 45, 32, 34, 110, 34, 32, 34, 99, 34, 32, 34, 34, 32, 34, 34]
def wAsk : List UInt8 := [108, 105, 115, 116, 32, 108, 101, 118, 101, 108, 32, 52, 32, 111, 114, 100, 101, 114, 32, 108, 97, 115, 116, 32, 108, 105, 109, 105, 116, 32, 49, 48]
def wWords : List (List UInt8) := [kLevel, [52], kOrder, [108, 97, 115, 116], kLimit, [49, 48]]
theorem ds_works : dsQ [wr1, wr2] = [wr1, wr2] := by kernel_rfl
theorem line_works : lineL wr1 = wLine := by kernel_rfl
theorem words_works : wordsL wAsk = kList :: wWords := by kernel_rfl
theorem num10 : Lib.itoa ((10 : Nat) : Int) = [49, 48] := by kernel_rfl
theorem num4 : Lib.itoa ((4 : Nat) : Int) = [52] := by kernel_rfl
def wSt : QSt := ⟨[fun r => decide (r.e.level ≥ ((4 : Nat) : Int))], some fun r => r.last, ((10 : Nat) : Int)⟩
theorem read_works : readQ ofS numQ wWords ⟨[], none, -1⟩ = some wSt := by
  have e4 : numQ [52] = some 4 := by rw [← num4]; exact numQ_itoa (by omega)
  have e10 : numQ [49, 48] = some 10 := by rw [← num10]; exact numQ_itoa (by omega)
  have s1 : stepQ ofS numQ ⟨[], none, -1⟩ kLevel [52] = some ⟨[fun r => decide (r.e.level ≥ ((4 : Nat) : Int))], none, -1⟩ := by
    unfold stepQ
    rw [if_neg (by simp [kLevel, kOrder]), if_neg (by simp [kLevel, kLimit])]
    unfold ofS
    rw [if_pos rfl, e4]; rfl
  have s2 : stepQ ofS numQ ⟨[fun r => decide (r.e.level ≥ ((4 : Nat) : Int))], none, -1⟩ kOrder [108, 97, 115, 116] = some ⟨[fun r => decide (r.e.level ≥ ((4 : Nat) : Int))], some fun r => r.last, -1⟩ := by
    unfold stepQ
    rw [if_pos ⟨rfl, rfl, rfl⟩]; rfl
  have s3 : stepQ ofS numQ ⟨[fun r => decide (r.e.level ≥ ((4 : Nat) : Int))], some fun r => r.last, -1⟩ kLimit [49, 48] = some wSt := by
    unfold stepQ
    rw [if_neg (by simp [kLimit, kOrder]), if_pos ⟨rfl, by decide⟩, e10]; rfl
  unfold wWords
  rw [readQ, s1]; simp only
  rw [readQ, s2]; simp only
  rw [readQ, s3]; simp only
  rw [readQ]
attribute [local irreducible] fBuild fLook fZero eqv bEqv Cl MapH LsH SlH ld1 ldN st callP eBox eAlloc lenM lenL eMapSet eDelete eAppend eBuildSl eRange eNext
section
variable {w0 w : World} {L : List HP} {K : Value → World → Prop} {rv : Value}
theorem num_at {u : Nat} (T : PowIs Tryz.prog w0) (hu : u < 1000000000000000000) : NumAt w0 numQ (Lib.itoa (u : Int)) := by
  intro L w K h _ hK
  exact number_spec T hu h (hK u (numQ_itoa hu))
theorem level_at0 {n : Int} {nb : Nat} : TestAt w0 (Cl nb #[.int .i64 n] 3) (.func (.func 183) #[] #[.pointer (some ⟨nb, 0, none⟩)]) (fun r => decide (r.e.level ≥ n)) := by
  intro L w r K h hK
  show callP G183 [rowV r, .pointer (some ⟨nb, 0, none⟩)] w K
  refine c183 ?_
  unfold F183
  refine go_box h rfl fun p w h => ?_
  (repeat(first
|simp(disch:=omega)only[evA,evB,evC,bAdd_i64,bSub_i64,Nat.reduceAdd]
|with_reducible refine go_s h ?_))
  exact hK _ h.drop
theorem of_level {u : Nat} (T : PowIs Tryz.prog w0) (hu : u ≤ 5) : OfAt w0 ofS kLevel (Lib.itoa (u : Int)) := by
  intro L w K h _ hK
  have ho : ofS kLevel (Lib.itoa (u : Int)) = some fun r => decide (r.e.level ≥ (u : Int)) := by
    unfold ofS
    rw [if_pos rfl, numQ_itoa (by omega)]
    simp only [Option.bind_some, if_pos hu]
  refine c85 ?_
  unfold F85 F85_1 F85_1b
  have d1 : decide (kLevel = [110, 111, 100, 101]) = false := by decide
  have d2 : decide (kLevel = [99, 108, 97, 115, 115]) = false := by decide
  have d3 : decide (kLevel = [107, 101, 121]) = false := by decide
  have d4 : decide (kLevel = [116, 101, 120, 116]) = false := by decide
  have d5 : decide (kLevel = [108, 101, 118, 101, 108]) = true := by decide
  refine go_box h (l := [.string (bs (Lib.itoa (u : Int)))]) rfl fun p w h => ?_
  unfold F85_2 F85_4 F85_4b
  (repeat simp(disch:=omega)only[evA,evB,evC,bAdd_i64,bSub_i64,d1,d2,d3,d4])
  unfold F85_5
  (repeat simp(disch:=omega)only[evA,evB,evC,bAdd_i64,bSub_i64])
  unfold F85_7 F85_7b
  (repeat simp(disch:=omega)only[evA,evB,evC,bAdd_i64,bSub_i64,d5])
  unfold F85_8
  (repeat simp(disch:=omega)only[evA,evB,evC,bAdd_i64,bSub_i64])
  unfold F85_9 F85_9b
  (repeat with_reducible refine go_s h ?_)
  refine level_spec T hu h fun nb w h => ?_
  (repeat simp(disch:=omega)only[evA,evB,evC,bAdd_i64,bSub_i64])
  exact hK _ ho _ _ _ w level_at0 (h.got)
theorem of_none {key word : List UInt8} (h0 : key = kOrder ∨ key = kLimit) : OfAt w0 ofS key word := by
  intro L w K h hF _
  have ho : ofS key word = none := by
    unfold ofS
    rw [if_neg (by rcases h0 with rfl | rfl <;> decide)]
  refine c85 ?_
  unfold F85 F85_1 F85_1b
  have d1 : decide (key = [110, 111, 100, 101]) = false := by rcases h0 with rfl | rfl <;> decide
  have d2 : decide (key = [99, 108, 97, 115, 115]) = false := by rcases h0 with rfl | rfl <;> decide
  have d3 : decide (key = [107, 101, 121]) = false := by rcases h0 with rfl | rfl <;> decide
  have d4 : decide (key = [116, 101, 120, 116]) = false := by rcases h0 with rfl | rfl <;> decide
  have d5 : decide (key = [108, 101, 118, 101, 108]) = false := by rcases h0 with rfl | rfl <;> decide
  have d6 : decide (key = [98, 101, 102, 111, 114, 101]) = false := by rcases h0 with rfl | rfl <;> decide
  have d7 : decide (key = [115, 105, 110, 99, 101]) = false := by rcases h0 with rfl | rfl <;> decide
  have d8 : decide (key = [97, 99, 107, 101, 100]) = false := by rcases h0 with rfl | rfl <;> decide
  refine go_box h (l := [.string (bs word)]) rfl fun p w h => ?_
  unfold F85_2 F85_4 F85_4b
  (repeat simp(disch:=omega)only[evA,evB,evC,bAdd_i64,bSub_i64,d1,d2,d3,d4])
  unfold F85_5
  (repeat simp(disch:=omega)only[evA,evB,evC,bAdd_i64,bSub_i64])
  unfold F85_7 F85_7b
  (repeat simp(disch:=omega)only[evA,evB,evC,bAdd_i64,bSub_i64,d5])
  unfold F85_8
  (repeat simp(disch:=omega)only[evA,evB,evC,bAdd_i64,bSub_i64])
  unfold F85_10 F85_10b
  (repeat simp(disch:=omega)only[evA,evB,evC,bAdd_i64,bSub_i64,d6,d7])
  unfold F85_11 F85_11b
  (repeat simp(disch:=omega)only[evA,evB,evC,bAdd_i64,bSub_i64,d8])
  unfold F85_3 F85_3b
  exact hF ho _ w h.drop
end
end Go.Proofs.Gong

/- Qw2 -/
namespace Go.Proofs.Gong
open Go Go.Sx Go.Proofs
set_option maxRecDepth 100000
structure QW (w : World) : Prop where
  A : AheadIs w
  T : PowIs Tryz.prog w
  M : MaxIs w
theorem PowIs.keep {P : Program} {w0 w : World} {L : List HP} (T : PowIs P w0) (h : Sat w0 L w) : PowIs P w := h.var T
theorem QW.keep {w0 w : World} {L : List HP} (Q : QW w0) (h : Sat w0 L w) : QW w :=
  ⟨fun i hi => h.cellOld (Q.A i hi), PowIs.keep Q.T h, by obtain ⟨m, hm⟩ := Q.M; exact ⟨m, h.cellOld hm⟩⟩
theorem dsq_fit {l : List Row} {R : List (Int × Row)} {I : List (Sg × Int)} (H : BInv 40 mostN R I (dsQ l)) : ∀ r ∈ dsQ l, LFit r := fun r hr => lfit_ok (H.ok r hr).1 (H.ok r hr).2
theorem sorted_one {key : Row → Int} {a b : List Row} (hp : a.Perm b) (ha : a.Pairwise fun x y => ltQ key y x = false) (hb : b.Pairwise fun x y => ltQ key y x = false) (hu : b.Pairwise fun x y => x.id ≠ y.id) : a = b := by
  have e2 : ∀ a b, ltQ key a b = false ↔ ¬ (key b < key a ∨ (key b = key a ∧ a.id < b.id)) := fun a b => by simp [ltQ]
  refine List.Perm.eq_of_pairwise (le := fun x y : Row => ltQ key y x = false) (fun x y hx hy h1 h2 => ?_) ha hb hp
  rw [e2] at h1 h2
  have hid : x.id = y.id := by omega
  have hxb : x ∈ b := hp.mem_iff.1 hx
  rw [List.mem_iff_getElem] at hxb hy
  obtain ⟨i, hi, rfl⟩ := hxb
  obtain ⟨j, hj, rfl⟩ := hy
  rcases Nat.lt_trichotomy i j with g | g | g
  · exact absurd hid (List.pairwise_iff_getElem.1 hu i j hi hj g)
  · subst g; rfl
  · exact absurd hid.symm (List.pairwise_iff_getElem.1 hu j i hj hi g)
attribute [local irreducible] fBuild fLook fZero eqv bEqv Cl MapH LsH SlH ld1 ldN st callP eBox eAlloc lenM lenL eMapSet eDelete eAppend eBuildSl eRange eNext
section
variable {w0 w : World} {L : List HP} {K : Value → World → Prop} {rv : Value}
theorem works_spec (Q : QW w0) (h : Sat w0 L w) (hK : ∀ w', Sat w0 L w' → K (.bool true) w') : callP G4 [] w K := by
  refine c4 ?_
  unfold F4
  (repeat simp(disch:=omega)only[evA,evB,evC,bAdd_i64,bSub_i64,fb43_0_1_3,fb45_0_1_2])
  have hb : fBuildSl Tryz.prog 45 2 [(0, rowV wr1), (1, rowV wr2)] = some ([wr1, wr2].flatMap cRow).toArray := by kernel_rfl
  refine ls_lit (m := [wr1, wr2]) (f := cRow) (es := 11) CRq h u22 hb (by simp) fun rv w1 h1 => ?_
  have hrd := ls_rd h1
  have Q1 := Q.keep h1
  have hfit : ∀ r ∈ [wr1, wr2].take 30, r.e.fits ∧ r.who.length < 1073741824 := by
    intro r hr
    have : r = wr1 ∨ r = wr2 := by simpa using hr
    rcases this with rfl | rfl <;> refine ⟨⟨?_, ?_, ?_, ?_⟩, ?_⟩ <;> decide
  refine loaded_spec (l := [wr1, wr2]) (by simp) hrd hfit (Sat.start w1) fun P y e2 b2 hd2 o2 w h => ?_
  (repeat simp(disch:=omega)only[evA,evB,evC,bAdd_i64,bSub_i64,sp_nil])
  obtain ⟨R, I, H⟩ : ∃ R I, BInv 40 mostN R I (dsQ [wr1, wr2]) := boardA_inv (h.frt (A := BoardA (pt P.b) 40 mostN (dsQ [wr1, wr2])))
  have hL := dsq_fit H
  refine ask_list (D := DQ [wr1, wr2]) (L := _) (q := wAsk) (ws := wWords) (ofL := ofS) (numL := numQ) (R := some wSt) Q1.A Q1.T Q1.M (by decide) words_works (by decide) (fun i hi hpar => ?_) (fun i hi hk => ?_) (by rw [if_pos (by decide), read_works]) hL (by show (dsQ [wr1, wr2]).length ≤ 1000000; rw [ds_works]; decide) h (fun g => by cases g) fun s hs m v w hp hps h => ?_
  · have hi' : i + 1 < 6 := by simpa [wWords] using hi
    rcases (show i = 0 ∨ i = 2 ∨ i = 4 by omega) with rfl | rfl | rfl
    · show OfAt w1 ofS kLevel [52]
      rw [← num4]; exact of_level Q1.T (by omega)
    · exact of_none (key := kOrder) (.inl rfl)
    · exact of_none (key := kLimit) (.inr rfl)
  · have hi' : i + 1 < 6 := by simpa [wWords] using hi
    rcases (show i = 0 ∨ i = 1 ∨ i = 2 ∨ i = 3 ∨ i = 4 by omega) with rfl | rfl | rfl | rfl | rfl
    · exact absurd hk (by simp [wWords, kLevel, kLimit, kOrder])
    · exact absurd hk (by simp [wWords, kLevel, kLimit, kOrder])
    · exact absurd hk (by simp [wWords, kLevel, kLimit, kOrder])
    · exact absurd hk (by simp [wWords, kLevel, kLimit, kOrder])
    · show NumAt w1 numQ [49, 48]
      rw [← num10]; exact num_at Q1.T (by omega)
  · cases hs
    have hf : (DQ [wr1, wr2]).rs.filter (passes wSt.ps) = [wr1] := by
      show (dsQ [wr1, wr2]).filter (passes wSt.ps) = [wr1]
      rw [ds_works]; rfl
    rw [hf] at hp
    have hm : m = [wr1] := List.perm_singleton.1 hp
    subst hm
    have hl : (limL wSt.lim [wr1]).map lineL = [wLine] := by rw [← line_works]; rfl
    rw [hl] at h
    have hrv : Rd w 1 v [wLine].length ([wLine].flatMap cSt) := ls_rd (h.frt (A := LsH cSt 1 9 v [wLine]))
    have f0 : lenL v = some (.int .i64 ((1 : Nat) : Int)) := hrv.len
    have f1 : pIndexL 1 v (.int .i64 0) = some (elP 1 v 0) := ix_el (i := 0) hrv (by simp)
    have f2 : ld1 (elP 1 v 0) w = some (.string (bs wLine)) := rd_ld1 (i := 0) (l := [wLine]) (g := fun x : List UInt8 => .string (bs x)) hrv (by simp)
    have d0 : decide (((1 : Nat) : Int) = 1) = true := by decide
    have d1 : decide (wLine = wLine) = true := by simp
    (repeat(first
|simp(disch:=omega)only[evA,evB,evC,bAdd_i64,bSub_i64,f0,d0]
|refine go_some (f1 ..) ?_
|refine go_some (f2 ..) ?_))
    show K (.bool (decide (wLine = wLine))) w
    rw [d1]
    exact hK _ (h1.drop.unbase (h.got))
end
end Go.Proofs.Gong

/- Qw3 -/
namespace Go.Proofs.Gong
open Go Go.Sx Go.Proofs
set_option maxRecDepth 100000
theorem noblank_show : (32 : UInt8) ∉ kShow := by decide
theorem words_show (u : Nat) : wordsL (kShow ++ 32 :: Lib.itoa (u : Int)) = [kShow, Lib.itoa (u : Int)] := by
  unfold wordsL
  rw [splitOn_app noblank_show, splitOn_no (itoa_noblank u)]
  have h1 : kShow ≠ [] := by decide
  have h2 := itoa_ne u
  simp [h1, h2]
theorem words_show2 (u : Nat) : wordsL (kShow ++ 32 :: 32 :: (Lib.itoa (u : Int) ++ [32])) = [kShow, Lib.itoa (u : Int)] := by
  unfold wordsL
  have e : (32 : UInt8) :: (Lib.itoa (u : Int) ++ [32]) = [] ++ 32 :: (Lib.itoa (u : Int) ++ 32 :: []) := rfl
  rw [splitOn_app noblank_show, e, splitOn_app (by simp), splitOn_app (itoa_noblank u)]
  have h1 : kShow ≠ [] := by decide
  have h2 := itoa_ne u
  simp [h1, h2, splitOnL]
theorem words_list : wordsL kList = [kList] := by kernel_rfl
theorem words_stats : wordsL kStats = [kStats] := by kernel_rfl
theorem sfit_q {l : List Row} {R : List (Int × Row)} {I : List (Sg × Int)} (H : BInv 40 mostN R I (dsQ l)) (O : OOk (obQ l)) : SFit (DQ l) := by
  have hb := puts_bd (pickedQ l) (newO 40 1 9)
  have hp := picked_len l
  have hn0 : (newO 40 1 9).last = 0 ∧ (newO 40 1 9).refused = 0 := ⟨rfl, rfl⟩
  rw [hn0.1, hn0.2] at hb
  have z : I64 0 := by unfold I64; omega
  have hm : (obQ l).most ≤ 65536 := O.most.2
  have h1 := H.bd
  have h2 := O.len
  have h3 := O.last
  have h4 := O.refused
  refine ⟨z, ⟨z, z, z, z, z, z, z⟩, ⟨z, z, z, z, z, z, z⟩, ?_, z, ?_, ?_, ?_⟩
  · show I64 ((dsQ l).length : Nat)
    unfold I64; omega
  · show I64 ((obQ l).ls.length : Nat)
    unfold I64; omega
  · show I64 (obQ l).last
    unfold I64; omega
  · show I64 (obQ l).refused
    unfold I64; omega
def rowsW : List UInt8 := [114, 111, 119, 115, 32]
def ticketsW : List UInt8 := [116, 105, 99, 107, 101, 116, 115, 32]
theorem stats_rows (D : SD) : rowsW ++ Lib.itoa (D.rs.length : Nat) ∈ statsL D := by simp [statsL, sayL, rowsW]
theorem stats_tickets (D : SD) : ticketsW ++ Lib.itoa (D.o.ls.length : Nat) ∈ statsL D := by simp [statsL, sayL, ticketsW]
attribute [local irreducible] fBuild fLook fZero eqv bEqv Cl MapH LsH SlH ld1 ldN st callP eBox eAlloc lenM lenL eMapSet eDelete eAppend eBuildSl eRange eNext
section
variable {w0 w : World} {L : List HP} {K : Value → World → Prop} {rv : Value} {P : SP} {l : List Row}
theorem shows_end (Q : QW w0) {av : Value} {id : Int} {ds : List Row} (hds : dsQ l = ds) (hL : ∀ r ∈ ds, LFit r) (F : SFit (DQ l)) (hal : ds.length ≤ 40)
    (h : StS w0 P (DQ l) (LsH cRow 11 45 av ds :: L) w) (hK : ∀ w', Sat w0 L w' → K (.bool true) w') : F3_3 (.int .i64 id) (pt P.x) av w K := by
  unfold F3_3 F3_3b
  refine Below_spec (by omega) (by omega) fun b hb1 hb2 _ => ?_
  obtain ⟨u, rfl⟩ : ∃ u : Nat, b = u := ⟨b.toNat, by omega⟩
  (repeat(first
|simp(disch:=omega)only[evA,evB,evC,bAdd_i64,bSub_i64]
|with_reducible refine go_s h ?_))
  refine c7 ?_
  unfold F7
  (repeat(first
|simp(disch:=omega)only[evA,evB,evC,bAdd_i64,bSub_i64]
|with_reducible refine go_s h ?_))
  refine baget_spec (h.frt (A := BoardA (pt P.b) 40 mostN (dsQ l))) fun w h => ?_
  (repeat simp(disch:=omega)only[evA,evB,evC,bAdd_i64,bSub_i64])
  refine go_alloc h zR rfl fun rp w h => ?_
  (repeat ((with_reducible apply go_stA h);rfl;rfl;(first|rfl|simp[OneV.o]);intro _ h))
  refine itoa_sat Q.T h (by omega) (by omega) fun w h => ?_
  have hil := itoa_len (u := u) (by omega)
  have a1 : bAdd (.string (bs [115, 104, 111, 119, 32, 32])) (.string (bs (Lib.itoa (u : Int)))) = some (.string (bs ([115, 104, 111, 119, 32, 32] ++ Lib.itoa (u : Int)))) := add_txt (by simp; omega)
  have a2 : bAdd (.string (bs ([115, 104, 111, 119, 32, 32] ++ Lib.itoa (u : Int)))) (.string (bs [32])) = some (.string (bs (kShow ++ 32 :: 32 :: (Lib.itoa (u : Int) ++ [32])))) := by
    rw [add_txt (by simp; omega)]; simp [kShow]
  (repeat(first
|refine go_some (a1 ..) ?_
|refine go_some (a2 ..) ?_))
  refine ask_show (D := DQ l) (P := P) (L := LsH cRow 11 45 av ds :: L) (numL := numQ) (ws := [Lib.itoa (u : Int)]) Q.A Q.T Q.M (by simp [kShow]; omega) (words_show2 u) (fun s e => by cases e; exact num_at Q.T (by omega)) (by show ∀ r ∈ dsQ l, LFit r; rw [hds]; exact hL) (h.got) (fun hn w h => absurd (hn _ rfl) (by rw [numQ_itoa (by omega)]; simp)) (fun s u' e hu hr w h => ?_) (fun s u' r e hu hr v w h => ?_)
  · cases e
    rw [numQ_itoa (by omega)] at hu
    cases hu
    have hr : rowAt (dsQ l) (u : Int) = none := hr
    (repeat simp(disch:=omega)only[evA,evB,evC,bAdd_i64,bSub_i64,hr,Option.isSome_none,Option.isSome_some])
    refine ask_stats (D := DQ l) (P := P) (L := LsH cRow 11 45 av ds :: L) (q := kStats) Q.T Q.M (by decide) words_stats F (h.got) fun tv w h => ?_
    have htv : Rd w 1 tv (statsL (DQ l)).length ((statsL (DQ l)).flatMap cSt) := ls_rd (h.frt (A := LsH cSt 1 9 tv (statsL (DQ l))))
    have f0 : lenL tv = some (.int .i64 ((20 : Nat) : Int)) := htv.len
    have g0 : lenL av = some (.int .i64 (ds.length : Nat)) := (ls_rd (h.frt (A := LsH cRow 11 45 av ds))).len
    have b1 : bEq Tryz.prog 4 (.tmp 119) (.tmp 120) (.bool false) (.bool false) = some (.bool true) := by kernel_rfl
    have d5 : decide ((5 : Int) = 0) = false := by decide
    have d0 : decide ((0 : Int) = 0) = true := by decide
    have d55 : decide ((5 : Int) = 5) = true := by decide
    (repeat(first
|simp(disch:=omega)only[evA,evB,evC,bAdd_i64,bSub_i64,g0,d5,d0,d55]
|refine go_some (b1 ..) ?_))
    refine itoa_sat Q.T h (by omega) (by omega) fun w h => ?_
    have hi1 := Lib.itoa_length_le (ds.length : Nat) (by omega) (by omega)
    have a3 : bAdd (.string (bs [114, 111, 119, 115, 32])) (.string (bs (Lib.itoa (ds.length : Nat)))) = some (.string (bs (rowsW ++ Lib.itoa (ds.length : Nat)))) := add_txt (by simp; omega)
    (repeat refine go_some (a3 ..) ?_)
    have htv : Rd w 1 tv (statsL (DQ l)).length ((statsL (DQ l)).flatMap cSt) := ls_rd (h.frt (A := LsH cSt 1 9 tv (statsL (DQ l))))
    refine contS_sat htv (by simp [statsL]) ?_
    have m1 : decide (rowsW ++ Lib.itoa (ds.length : Nat) ∈ statsL (DQ l)) = true := by
      rw [decide_eq_true_eq, ← hds]; exact stats_rows (DQ l)
    (repeat(first
|simp(disch:=omega)only[evA,evB,evC,bAdd_i64,bSub_i64,m1]
|with_reducible refine go_s h ?_))
    refine olen_spec (h.frt (A := OutA (pt P.o) (obQ l))) ?_
    skip
    have ol : I64 ((obQ l).ls.length : Nat) := F.ols
    refine itoa_sat Q.T h ol.1 ol.2 fun w h => ?_
    have hi2 := Lib.itoa_length_le ((obQ l).ls.length : Nat) ol.1 ol.2
    have a4 : bAdd (.string (bs [116, 105, 99, 107, 101, 116, 115, 32])) (.string (bs (Lib.itoa ((obQ l).ls.length : Nat)))) = some (.string (bs (ticketsW ++ Lib.itoa ((obQ l).ls.length : Nat)))) := add_txt (by simp; omega)
    (repeat refine go_some (a4 ..) ?_)
    have htv : Rd w 1 tv (statsL (DQ l)).length ((statsL (DQ l)).flatMap cSt) := ls_rd (h.frt (A := LsH cSt 1 9 tv (statsL (DQ l))))
    refine contS_sat htv (by simp [statsL]) ?_
    have m2 : decide (ticketsW ++ Lib.itoa ((obQ l).ls.length : Nat) ∈ statsL (DQ l)) = true := by
      rw [decide_eq_true_eq]; exact stats_tickets (DQ l)
    have d20 : decide (((20 : Nat) : Int) = 20) = true := by decide
    (repeat simp(disch:=omega)only[evA,evB,evC,bAdd_i64,bSub_i64,m2,f0,d20])
    exact hK _ (h.got)
  · cases e
    rw [numQ_itoa (by omega)] at hu
    cases hu
    have hr : rowAt (dsQ l) (u : Int) = some r := hr
    (repeat simp(disch:=omega)only[evA,evB,evC,bAdd_i64,bSub_i64,hr,Option.isSome_none,Option.isSome_some])
    refine ask_stats (D := DQ l) (P := P) (L := LsH cRow 11 45 av ds :: L) (q := kStats) Q.T Q.M (by decide) words_stats F (h.got) fun tv w h => ?_
    have htv : Rd w 1 tv (statsL (DQ l)).length ((statsL (DQ l)).flatMap cSt) := ls_rd (h.frt (A := LsH cSt 1 9 tv (statsL (DQ l))))
    have f0 : lenL tv = some (.int .i64 ((20 : Nat) : Int)) := htv.len
    have g0 : lenL av = some (.int .i64 (ds.length : Nat)) := (ls_rd (h.frt (A := LsH cRow 11 45 av ds))).len
    have b1 : bEq Tryz.prog 4 (.tmp 119) (.tmp 120) (.bool true) (.bool true) = some (.bool true) := by kernel_rfl
    have d5 : decide ((5 : Int) = 0) = false := by decide
    have d0 : decide ((0 : Int) = 0) = true := by decide
    have d55 : decide ((5 : Int) = 5) = true := by decide
    (repeat(first
|simp(disch:=omega)only[evA,evB,evC,bAdd_i64,bSub_i64,g0,d5,d0,d55]
|refine go_some (b1 ..) ?_))
    refine itoa_sat Q.T h (by omega) (by omega) fun w h => ?_
    have hi1 := Lib.itoa_length_le (ds.length : Nat) (by omega) (by omega)
    have a3 : bAdd (.string (bs [114, 111, 119, 115, 32])) (.string (bs (Lib.itoa (ds.length : Nat)))) = some (.string (bs (rowsW ++ Lib.itoa (ds.length : Nat)))) := add_txt (by simp; omega)
    (repeat refine go_some (a3 ..) ?_)
    have htv : Rd w 1 tv (statsL (DQ l)).length ((statsL (DQ l)).flatMap cSt) := ls_rd (h.frt (A := LsH cSt 1 9 tv (statsL (DQ l))))
    refine contS_sat htv (by simp [statsL]) ?_
    have m1 : decide (rowsW ++ Lib.itoa (ds.length : Nat) ∈ statsL (DQ l)) = true := by
      rw [decide_eq_true_eq, ← hds]; exact stats_rows (DQ l)
    (repeat(first
|simp(disch:=omega)only[evA,evB,evC,bAdd_i64,bSub_i64,m1]
|with_reducible refine go_s h ?_))
    refine olen_spec (h.frt (A := OutA (pt P.o) (obQ l))) ?_
    skip
    have ol : I64 ((obQ l).ls.length : Nat) := F.ols
    refine itoa_sat Q.T h ol.1 ol.2 fun w h => ?_
    have hi2 := Lib.itoa_length_le ((obQ l).ls.length : Nat) ol.1 ol.2
    have a4 : bAdd (.string (bs [116, 105, 99, 107, 101, 116, 115, 32])) (.string (bs (Lib.itoa ((obQ l).ls.length : Nat)))) = some (.string (bs (ticketsW ++ Lib.itoa ((obQ l).ls.length : Nat)))) := add_txt (by simp; omega)
    (repeat refine go_some (a4 ..) ?_)
    have htv : Rd w 1 tv (statsL (DQ l)).length ((statsL (DQ l)).flatMap cSt) := ls_rd (h.frt (A := LsH cSt 1 9 tv (statsL (DQ l))))
    refine contS_sat htv (by simp [statsL]) ?_
    have m2 : decide (ticketsW ++ Lib.itoa ((obQ l).ls.length : Nat) ∈ statsL (DQ l)) = true := by
      rw [decide_eq_true_eq]; exact stats_tickets (DQ l)
    have d20 : decide (((20 : Nat) : Int) = 20) = true := by decide
    (repeat simp(disch:=omega)only[evA,evB,evC,bAdd_i64,bSub_i64,m2,f0,d20])
    exact hK _ (h.got)
theorem shows_loop (Q : QW w0) {lv av : Value} {id : Int} {ds : List Row} (hds : dsQ l = ds) (hL : ∀ r ∈ ds, LFit r) (ha : ds.Pairwise fun a b => a.id < b.id) (hid : ∀ r ∈ ds, 1 ≤ r.id ∧ r.id < mostN) (F : SFit (DQ l)) (hal : ds.length ≤ 40) (hK : ∀ w', Sat w0 L w' → K (.bool true) w') :
    ∀ (k i n : Nat) (w : World), i + k = ds.length → k < n → StS w0 P (DQ l) (LsH cRow 11 45 av ds :: LsH cSt 1 9 lv (ds.map lineL) :: L) w →
      F3_2L n (.int .i64 id) (pt P.x) av lv av (.int .i64 (ds.length : Nat)) (.int .i64 (i : Nat)) w K
  | 0, i, n, w, hi, hn, h => by
    obtain ⟨n, rfl⟩ : ∃ q, n = q + 1 := ⟨n - 1, by omega⟩
    have him : i = ds.length := by omega
    subst him
    have g' : decide ((ds.length : Int) < (ds.length : Int)) = false := by simp
    rw [F3_2L]
    unfold F3_2b
    (repeat simp(disch:=omega)only[evA,evB,evC,bAdd_i64,bSub_i64,g'])
    exact shows_end (L := L) Q hds hL F hal (h.got) hK
  | k + 1, i, n, w, hi, hn, h => by
    obtain ⟨n, rfl⟩ : ∃ q, n = q + 1 := ⟨n - 1, by omega⟩
    have hil : i < ds.length := by omega
    have hmem := List.getElem_mem hil
    have g' : decide ((i : Int) < (ds.length : Int)) = true := by simpa using hil
    have e3 : (i : Int) + 1 = ((i + 1 : Nat) : Int) := by omega
    have hri := hid _ hmem
    simp only [mostN] at hri
    obtain ⟨u, hu⟩ : ∃ u : Nat, ds[i].id = u := ⟨ds[i].id.toNat, by omega⟩
    have hil2 := itoa_len (u := u) (by omega)
    have a1 : bAdd (.string (bs [115, 104, 111, 119, 32])) (.string (bs (Lib.itoa (u : Int)))) = some (.string (bs (kShow ++ 32 :: Lib.itoa (u : Int)))) := by
      rw [add_txt (by simp; omega)]; simp [kShow]
    rw [F3_2L]
    unfold F3_2b
    (repeat(first
|simp(disch:=omega)only[evA,evB,evC,bAdd_i64,bSub_i64,g']
|((with_reducible apply go_ix h);omega)
|((with_reducible first|apply go_elN h|apply go_f1 h|apply go_rf1 h|apply go_rel h);(case hi=>omega);(try case hx=>exact inferInstance);(try case hv=>rfl))))
    refine go_alloc h zR rfl fun rp w h => ?_
    (repeat(first
|simp(disch:=omega)only[evA,evB,evC,bAdd_i64,bSub_i64]
|with_reducible refine go_s h ?_
|((with_reducible apply go_stA h);rfl;rfl;(first|rfl|simp[OneV.o]);intro _ h)))
    refine itoa_sat Q.T h (by omega) (by omega) fun w h => ?_
    rw [hu]
    (repeat refine go_some (a1 ..) ?_)
    refine ask_show (D := DQ l) (P := P) (L := Cl rp (cRow ds[i]).toArray 45 :: LsH cRow 11 45 av ds :: LsH cSt 1 9 lv (ds.map lineL) :: L) (numL := numQ) (ws := [Lib.itoa (u : Int)]) Q.A Q.T Q.M (by simp [kShow]; omega) (words_show u) (fun s e => by cases e; exact num_at Q.T (by omega)) (by show ∀ r ∈ dsQ l, LFit r; rw [hds]; exact hL) (h.got) (fun hn w h => absurd (hn _ rfl) (by rw [numQ_itoa (by omega)]; simp)) (fun s u' e hu' hr w h => ?_) (fun s u' r e hu' hr v w h => ?_)
    · cases e
      rw [numQ_itoa (by omega)] at hu'
      cases hu'
      have hr : rowAt (dsQ l) (u : Int) = none := hr
      rw [hds, ← hu, rowAt_of ha hmem] at hr
      cases hr
    · cases e
      rw [numQ_itoa (by omega)] at hu'
      cases hu'
      have hr : rowAt (dsQ l) (u : Int) = some r := hr
      rw [hds, ← hu, rowAt_of ha hmem] at hr
      cases hr
      have hrv : Rd w 1 v [lineL ds[i]].length ([lineL ds[i]].flatMap cSt) := ls_rd (h.frt (A := LsH cSt 1 9 v [lineL ds[i]]))
      have f0 : lenL v = some (.int .i64 ((1 : Nat) : Int)) := hrv.len
      have f1 : pIndexL 1 v (.int .i64 0) = some (elP 1 v 0) := ix_el (i := 0) hrv (by simp)
      have f2 : ld1 (elP 1 v 0) w = some (.string (bs (lineL ds[i]))) := rd_ld1 (i := 0) (l := [lineL ds[i]]) (g := fun x : List UInt8 => .string (bs x)) hrv (by simp)
      have hrl : Rd w 1 lv (ds.map lineL).length ((ds.map lineL).flatMap cSt) := ls_rd (h.frt (A := LsH cSt 1 9 lv (ds.map lineL)))
      have g1 : pIndexL 1 lv (.int .i64 (i : Nat)) = some (elP 1 lv i) := ix_el (i := i) hrl (by simpa using hil)
      have g2 : ld1 (elP 1 lv i) w = some (.string (bs (lineL ds[i]))) := by
        have := rd_ld1 (i := i) (l := ds.map lineL) (g := fun x : List UInt8 => .string (bs x)) hrl (by simpa using hil)
        simpa using this
      have d00 : decide ((0 : Int) = 0) = true := by decide
      have d1 : decide (((1 : Nat) : Int) = 1) = true := by decide
      have d2 : decide (lineL ds[i] = lineL ds[i]) = true := by simp
      (repeat(first
|simp(disch:=omega)only[evA,evB,evC,bAdd_i64,bSub_i64,d00,f0,d1,d2]
|refine go_some (f1 ..) ?_
|refine go_some (f2 ..) ?_
|refine go_some (g1 ..) ?_
|refine go_some (g2 ..) ?_
|with_reducible refine go_s h ?_))
      refine line_spec (r := ds[i]) (hL _ hmem) Q.A Q.T h.drew fun w h => ?_
      have hrv : Rd w 1 v [lineL ds[i]].length ([lineL ds[i]].flatMap cSt) := ls_rd (h.frt (A := LsH cSt 1 9 v [lineL ds[i]]))
      have f2 : ld1 (elP 1 v 0) w = some (.string (bs (lineL ds[i]))) := rd_ld1 (i := 0) (l := [lineL ds[i]]) (g := fun x : List UInt8 => .string (bs x)) hrv (by simp)
      refine go_fok f2 ?_
      (repeat simp(disch:=omega)only[evA,evB,evC,bAdd_i64,bSub_i64,d2])
      rw [e3]
      exact shows_loop Q hds hL ha hid F hal hK k (i + 1) n w (by omega) (by omega) (h.got)
theorem queryShows_spec {id : Int} (Q : QW w0) (hl : l.length ≤ 140737488351232) (hb : ∀ r ∈ l, RBig r) (hrd : Rd w0 11 rv l.length (l.flatMap cRow)) (h : Sat w0 L w) (hK : ∀ w', Sat w0 L w' → K (.bool true) w') : callP G3 [rv, .int .i64 id] w K := by
  refine c3 ?_
  unfold F3 F3_1 F3_1b
  refine works_spec Q h fun w h => ?_
  (repeat simp(disch:=omega)only[evA,evB,evC,bAdd_i64,bSub_i64])
  refine short_spec hl hb hrd h fun w h => ?_
  cases hs : shortQ l
  · (repeat simp(disch:=omega)only[evA,evB,evC,bAdd_i64,bSub_i64])
    exact hK _ h
  · (repeat simp(disch:=omega)only[evA,evB,evC,bAdd_i64,bSub_i64])
    refine loaded_spec hl hrd (short_fit hs) h fun P y e2 b2 hd2 o2 w h => ?_
    (repeat(first
|simp(disch:=omega)only[evA,evB,evC,bAdd_i64,bSub_i64,sp_nil]
|with_reducible refine go_s h ?_))
    refine c7 ?_
    unfold F7
    (repeat(first
|simp(disch:=omega)only[evA,evB,evC,bAdd_i64,bSub_i64]
|with_reducible refine go_s h ?_))
    obtain ⟨R, I, H⟩ : ∃ R I, BInv 40 mostN R I (dsQ l) := boardA_inv (h.frt (A := BoardA (pt P.b) 40 mostN (dsQ l)))
    have O : OOk (obQ l) := outA_ok (h.frt (A := OutA (pt P.o) (obQ l)))
    have hL := dsq_fit H
    have hbd := H.bd
    have hal : (dsQ l).length ≤ 40 := by omega
    have hid : ∀ r ∈ dsQ l, 1 ≤ r.id ∧ r.id < mostN := by
      intro r hr
      have h1 := H.ok r hr
      refine ⟨?_, h1.2⟩
      have h2 := h1.1
      unfold okR at h2
      simp only [Bool.and_eq_true, decide_eq_true_eq] at h2
      exact h2.1.1.1.1.1.1
    refine baall_spec (h.frt (A := BoardA (pt P.b) 40 mostN (dsQ l))) fun av w h => ?_
    skip
    refine ask_list (D := DQ l) (P := P) (L := LsH cRow 11 45 av (dsQ l) :: L) (q := kList) (ws := []) (ofL := ofS) (numL := numQ) (R := some ⟨[], none, -1⟩) Q.A Q.T Q.M (by decide) words_list (by simp) (fun i hi => absurd hi (by simp)) (fun i hi => absurd hi (by simp)) rfl hL (by show (dsQ l).length ≤ 1000000; omega) (h.got) (fun g => by cases g) fun s hs m lv w hp hps h => ?_
    cases hs
    have hm : m = dsQ l := by
      have hf : (DQ l).rs.filter (passes []) = dsQ l := List.filter_eq_self.2 fun r _ => rfl
      rw [hf] at hp
      refine sorted_one hp hps (H.asc.imp fun {x y} g => ?_) (H.asc.imp fun {x y} g => ?_)
      · simp [ltQ]; omega
      · omega
    subst hm
    have hll : (limL (-1) (dsQ l)).map lineL = (dsQ l).map lineL := rfl
    rw [hll] at h
    have f0 : lenL lv = some (.int .i64 ((dsQ l).length : Nat)) := by
      have := (ls_rd (h.frt (A := LsH cSt 1 9 lv ((dsQ l).map lineL)))).len
      simpa using this
    have f1 : lenL av = some (.int .i64 ((dsQ l).length : Nat)) := (ls_rd (h.frt (A := LsH cRow 11 45 av (dsQ l)))).len
    have d0 : decide ((0 : Int) = 0) = true := by decide
    have d1 : decide (((dsQ l).length : Int) = ((dsQ l).length : Int)) = true := by simp
    (repeat simp(disch:=omega)only[evA,evB,evC,bAdd_i64,bSub_i64,d0,f0,f1,d1])
    unfold F3_2
    exact shows_loop Q rfl hL H.asc hid (sfit_q H O) hal hK (dsQ l).length 0 fuel w (by omega) (by unfold fuel; omega) (h.got)
end
end Go.Proofs.Gong

/- Qw4 -/
namespace Go.Proofs.Gong
open Go Go.Sx Go.Proofs
set_option maxRecDepth 100000
abbrev ckRowQ : List CK2 := [.int .i64, .str, .str, .str, .int .i64, .str, .int .i64, .int .i64, .int .i64, .bool, .str]
theorem fit_rowQ {W : World} {c : List Value} (h : FitL2 W 140737488351232 ckRowQ c) : ∃ r : Row, c = cRow r ∧ RBig r := by
  obtain ⟨a1, _, rfl, _, g1⟩ := fitL2_int h
  obtain ⟨a2, _, rfl, b2, g2⟩ := fitL2_str g1
  obtain ⟨a3, _, rfl, b3, g3⟩ := fitL2_str g2
  obtain ⟨a4, _, rfl, b4, g4⟩ := fitL2_str g3
  obtain ⟨a5, _, rfl, _, g5⟩ := fitL2_int g4
  obtain ⟨a6, _, rfl, b6, g6⟩ := fitL2_str g5
  obtain ⟨a7, _, rfl, _, g7⟩ := fitL2_int g6
  obtain ⟨a8, _, rfl, _, g8⟩ := fitL2_int g7
  obtain ⟨a9, _, rfl, _, g9⟩ := fitL2_int g8
  obtain ⟨a10, _, rfl, g10⟩ := fitL2_bool g9
  obtain ⟨a11, _, rfl, b11, g11⟩ := fitL2_str g10
  rw [fitL2_nil g11]
  exact ⟨⟨a1, ⟨a2, a3, a4, a5, a6⟩, a7, a8, a9, a10, a11⟩, rfl, ⟨b2, b3, b4, b6, b11⟩⟩
theorem lawQueryShows {W : World} (Q : QW W) {v : Value} {n : Nat} {cs : List Value} (rd : Rd W 11 v n cs) (hn : n ≤ 140737488351232) (ft : ∀ i, i < n → FitL2 W 140737488351232 ckRowQ ((cs.drop (i * 11)).take 11)) (id : Int) {p : Prop} (_ : p) :
    callP G3 [v, .int .i64 id] W fun v w' => v = .bool true ∧ Sat W [] w' := by
  obtain ⟨l, rfl, rfl, hg⟩ := fit_list2 (fun c h => fit_rowQ h) n cs rd.length ft
  exact queryShows_spec Q hn hg rd (Sat.start W) fun w' h => ⟨rfl, h⟩
end Go.Proofs.Gong
