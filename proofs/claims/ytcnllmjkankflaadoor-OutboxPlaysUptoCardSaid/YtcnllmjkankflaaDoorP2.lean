/- A part of the proofs: what stands below it, told in lemmas. No condition. -/
import Derived.Test.YtcnllmjkankflaaDoorP1
set_option linter.all false

/- Nm3 -/
namespace Go.Proofs.Gong
open Go Go.Sx Go.Proofs
set_option maxRecDepth 100000
def optV (o : Option (Nat × Nat)) : Value := match o with
  | some x => .tuple #[.int .i64 x.1, .int .i64 x.2, .int .i64 0]
  | none => errV
theorem isC_lt {c : Nat} (h : isC c = true) : c < 16777216 := by rw [isC_iff] at h; omega
section
variable {w0 w : World} {L : List HP} {K : Value → World → Prop}
theorem ffL_spec {s : List UInt8} : ∀ (k n m : Nat) (w : World), k + n = 5 → 1 ≤ n → k ≤ m → Sat w0 L w → (∀ w', Sat w0 L w' → K (optV (refP s k n)) w') → F83_2L (m + 1) (.string (bs s)) (.int .i64 n) w K := by
  intro k
  induction k with
  | zero =>
    intro n m w hk h1 hm hs hK
    rw [F83_2L]; unfold F83_2b F83_3 F83_3b
    have e : decide ((n : Int) ≤ 4) = false := by simp; omega
    simp only [bLe_int, e, bindP_some, gd_true, stepM_false, stepG_false, pPick_false, ifB_false]
    exact hK _ hs
  | succ k ih =>
    intro n m w hk h1 hm hs hK
    obtain ⟨m, rfl⟩ : ∃ j, m = j + 1 := ⟨m - 1, by omega⟩
    rw [F83_2L]; unfold F83_2b
    have e : decide ((n : Int) ≤ 4) = true := by simp; omega
    by_cases hl : n ≤ s.length
    · have e2 : decide ((n : Int) ≤ (s.length : Int)) = true := by simp; omega
      simp only [bLe_int, e, e2, bindP_some, gd_true, stepM_true, stepG_true, lenS_mk, bs_size, pPick_true, ifB_true]
      refine guess_spec ⟨h1, by omega⟩ hl ?_
      refine fis_spec ?_
      rw [refP_step hl] at hK
      have hs' := hs.drew
      have next : hitP s n = false → ∀ w2, Sat w0 L w2 → bindP (bAdd (.int .i64 (n : Int)) (.int .i64 1)) (fun v19 => F83_2L (m + 1) (.string (bs s)) v19 w2 K) := by
        intro hh w2 h2
        rw [if_neg (by rw [hh]; decide)] at hK
        rw [plus1 (by omega)]
        simp only [bindP_some]
        exact ih (n + 1) m w2 (by omega) (by omega) (by omega) h2 hK
      by_cases hi : isC (guessP s n) = true
      · simp only [hi, gd_true, stepM_true, stepG_true, stepE_true]
        have e3 : pSliceS (.string (bs s)) none (some (.int .i64 (n : Int))) = _ := sub_to hl
        rw [e3]
        simp only [bindP_some]
        refine made_spec (isC_lt hi) hs' fun w3 h3 => ?_
        simp only [bEq_str, bs_beq, bs_inj, bindP_some, pPick_true]
        by_cases hm2 : madeP (guessP s n) = s.take n
        · have hh : hitP s n = true := by simp [hitP, hi, hm2]
          rw [if_pos hh] at hK
          simp only [hm2, decide_true, ifB_true]
          exact hK _ h3
        · have hh : hitP s n = false := by simp [hitP, hm2]
          simp only [hm2, decide_false, ifB_false]
          exact next hh _ h3
      · have hi' : isC (guessP s n) = false := by simpa using hi
        have hh : hitP s n = false := by simp [hitP, hi']
        simp only [hi', gd_true, stepM_false, stepG_false, stepE_false, bindP_some, pPick_false, ifB_false]
        exact next hh _ hs'
    · have e2 : decide ((n : Int) ≤ (s.length : Int)) = false := by simp; omega
      simp only [bLe_int, e, e2, bindP_some, gd_true, stepM_true, stepG_true, lenS_mk, bs_size, pPick_true, ifB_false]
      unfold F83_3 F83_3b
      rw [refP_end (by omega)] at hK
      exact hK _ hs
theorem ffirst_spec {s : List UInt8} (h : Sat w0 L w) (hK : ∀ w', Sat w0 L w' → K (optV (firstP s)) w') : callP G83 [.string (bs s)] w K := by
  refine c83 ?_
  unfold F83 F83_1 F83_1b F83_2
  rw [← refP_first] at hK
  exact ffL_spec 4 1 (fuel - 1) w (by omega) (by omega) (by decide) h hK
def charsF : Nat → List UInt8 → Option (List Int)
  | _, [] => some []
  | 0, _ :: _ => none
  | k + 1, b :: s => match firstP (b :: s) with
    | none => none
    | some x => (charsF k ((b :: s).drop x.2)).map ((x.1 : Int) :: ·)
def charsP (s : List UInt8) : Option (List Int) := charsF s.length s
theorem firstP_len {s : List UInt8} {c n : Nat} (h : firstP s = some (c, n)) : 1 ≤ n ∧ n ≤ s.length := by
  cases s with
  | nil => simp [firstP] at h
  | cons b s =>
    unfold firstP at h
    simp only at h
    split at h
    · cases h
    · rename_i hn
      split at h
      · cases h
      · split at h
        · simp only [Option.some.injEq, Prod.mk.injEq] at h
          simp only [List.length_cons]
          omega
        · cases h
theorem one_lit {c : Int} {v : Value} {l : List Int} (h : Sat w0 (LsH cI 1 3 v l :: L) w) (hl : l.length < 1073741824) (hK : ∀ v' w', Sat w0 (LsH cI 1 3 v' (l ++ [c]) :: L) w' → K v' w') :
    eBuildSl Tryd.prog 22 1 [(0, .int .i64 c)] w fun v9 w8 => eAppend Tryd.prog 22 22 v v9 w8 K := by
  have hb : fBuildSl Tryd.prog 3 1 [(0, .int .i64 c)] = some #[.int .i64 c] := by kernel_rfl
  refine ls_lit (m := [c]) CI h u22 hb rfl fun sv w1 h1 => ?_
  exact ls_app (m := [c]) CI h1.f1 sl22 ss22 (ls_rd h1) (by simp; omega) fun s' w' h' => hK s' w' (h'.f1.drop)
theorem chL_spec : ∀ (k m : Nat) (s : List UInt8) (l : List Int) (v : Value) (w : World), s.length ≤ k → k ≤ m → l.length + s.length < 1073741824 → Sat w0 (LsH cI 1 3 v l :: L) w →
    (∀ w', Sat w0 L w' → charsF k s = none → K (.tuple #[.slice none 0 0, .int .i64 40]) w') → (∀ v' r w', charsF k s = some r → Sat w0 (LsH cI 1 3 v' (l ++ r) :: L) w' → K (.tuple #[v', .int .i64 0]) w') →
    F53_2L (m + 1) (.string (bs s)) v w K := by
  intro k
  induction k with
  | zero =>
    intro m s l v w hs hm hl h hN hK
    obtain rfl : s = [] := List.length_eq_zero_iff.1 (by omega)
    rw [F53_2L]; unfold F53_2b F53_3 F53_3b
    rw [nil_b]
    simp only [bNe_str, bs_beq, decide_true, Bool.not_true, bindP_some, ifB_false]
    exact hK v [] w rfl (by simpa using h)
  | succ k ih =>
    intro m s l v w hs hm hl h hN hK
    obtain ⟨m, rfl⟩ : ∃ j, m = j + 1 := ⟨m - 1, by omega⟩
    rw [F53_2L]; unfold F53_2b
    rw [nil_b]
    cases s with
    | nil =>
      unfold F53_3 F53_3b
      simp only [bNe_str, bs_beq, decide_true, Bool.not_true, bindP_some, ifB_false]
      exact hK v [] w rfl (by simpa using h)
    | cons b s =>
      have e : (!decide (bs (b :: s) = bs [])) = true := by simp
      simp only [bNe_str, bs_beq, e, bindP_some, ifB_true]
      refine first_spec4 ?_
      unfold firstV
      cases hf : firstP (b :: s) with
      | none =>
        have e1 : (!decide ((40 : Int) = 0)) = true := by decide
        simp only [errV, pTuple, List.getElem?_toArray, List.getElem?_cons_zero, List.getElem?_cons_succ, bindP_some, bNe_int, e1, ifB_true]
        exact hN w h.drop (by simp [charsF, hf])
      | some x =>
        obtain ⟨g1, g2⟩ := firstP_len (c := x.1) (n := x.2) hf
        simp only [pTuple, List.getElem?_toArray, List.getElem?_cons_zero, List.getElem?_cons_succ, bindP_some, bNe_int, decide_true, Bool.not_true, ifB_false]
        refine one_lit h (by omega) fun v' w' h' => ?_
        rw [sub_from g2]
        simp only [bindP_some]
        refine ih m ((b :: s).drop x.2) (l ++ [(x.1 : Int)]) v' w' (by simp at hs ⊢; omega) (by omega) (by simp at hl ⊢; omega) h' (fun w2 h2 hn => hN w2 h2 (by simp [charsF, hf, hn])) fun v2 r w2 hr h2 => ?_
        refine hK v2 ((x.1 : Int) :: r) w2 (by simp [charsF, hf, hr]) ?_
        simpa using h2
theorem chars_spec {s : List UInt8} (hs : s.length < 1073741824) (h : Sat w0 L w) (hN : ∀ w', Sat w0 L w' → charsP s = none → K (.tuple #[.slice none 0 0, .int .i64 40]) w')
    (hK : ∀ v' r w', charsP s = some r → Sat w0 (LsH cI 1 3 v' r :: L) w' → K (.tuple #[v', .int .i64 0]) w') : callP G53 [.string (bs s)] w K := by
  refine c53 ?_
  unfold F53 F53_1 F53_1b F53_2
  exact chL_spec s.length (fuel - 1) s [] _ w (Nat.le_refl _) (Nat.le_trans (show s.length ≤ 1073741824 by omega) (by decide)) (by simpa using hs) (ls_nil h) hN fun v' r w' hr h' => hK v' r w' hr (by simpa using h')
theorem fchL_spec {s : List UInt8} (hsl : s.length < 1073741824) : ∀ (k m a : Nat) (l : List Int) (v : Value) (w : World), a ≤ s.length → (s.drop a).length ≤ k → k ≤ m → l.length + (s.drop a).length < 1073741824 → Sat w0 (LsH cI 1 3 v l :: L) w →
    (∀ w', Sat w0 L w' → charsF k (s.drop a) = none → K (.tuple #[.slice none 0 0, .int .i64 40]) w') → (∀ v' r w', charsF k (s.drop a) = some r → Sat w0 (LsH cI 1 3 v' (l ++ r) :: L) w' → K (.tuple #[v', .int .i64 0]) w') →
    F73_2L (m + 1) (.string (bs s)) v (.int .i64 a) w K := by
  intro k
  induction k with
  | zero =>
    intro m a l v w ha hs hm hl h hN hK
    rw [F73_2L]; unfold F73_2b F73_3 F73_3b
    have hal : a = s.length := by simp at hs; omega
    have e : decide ((a : Int) < (s.length : Int)) = false := by simp; omega
    simp only [lenS_mk, bs_size, bLt_int, e, bindP_some, ifB_false]
    exact hK v [] w (by rw [List.drop_of_length_le (by omega)]; rfl) (by simpa using h)
  | succ k ih =>
    intro m a l v w ha hs hm hl h hN hK
    obtain ⟨m, rfl⟩ : ∃ j, m = j + 1 := ⟨m - 1, by omega⟩
    rw [F73_2L]; unfold F73_2b
    by_cases hal : a = s.length
    · unfold F73_3 F73_3b
      have e : decide ((a : Int) < (s.length : Int)) = false := by simp; omega
      simp only [lenS_mk, bs_size, bLt_int, e, bindP_some, ifB_false]
      exact hK v [] w (by rw [List.drop_of_length_le (by omega)]; rfl) (by simpa using h)
    · have e : decide ((a : Int) < (s.length : Int)) = true := by simp; omega
      simp only [lenS_mk, bs_size, bLt_int, e, bindP_some, ifB_true, sub_from ha]
      have hdl : (s.drop a).length = s.length - a := by simp
      generalize hd : s.drop a = t at *
      refine ffirst_spec h fun w1 h1 => ?_
      cases t with
      | nil => simp at hdl; omega
      | cons b t =>
      cases hf : firstP (b :: t) with
      | none =>
        have e1 : (!decide ((40 : Int) = 0)) = true := by decide
        simp only [optV, errV, pTuple, List.getElem?_toArray, List.getElem?_cons_zero, List.getElem?_cons_succ, bindP_some, bNe_int, e1, ifB_true]
        exact hN w1 h1.drop (by simp [charsF, hf])
      | some x =>
        obtain ⟨g1, g2⟩ := firstP_len (c := x.1) (n := x.2) hf
        simp only [optV, pTuple, List.getElem?_toArray, List.getElem?_cons_zero, List.getElem?_cons_succ, bindP_some, bNe_int, decide_true, Bool.not_true, ifB_false]
        refine one_lit h1 (by omega) fun v' w' h' => ?_
        have ea : bAdd (.int .i64 (a : Int)) (.int .i64 (x.2 : Int)) = some (.int .i64 ((a + x.2 : Nat))) := addN (by omega)
        rw [ea]
        simp only [bindP_some]
        have hd2 : s.drop (a + x.2) = (b :: t).drop x.2 := by rw [← List.drop_drop, hd]
        refine ih m (a + x.2) (l ++ [(x.1 : Int)]) v' w' (by omega) (by rw [hd2]; simp at hs ⊢; omega) (by omega) (by rw [hd2]; simp at hl ⊢; omega) h' (fun w2 h2 hn => hN w2 h2 (by rw [hd2] at hn; simp [charsF, hf, hn])) fun v2 r w2 hr h2 => ?_
        refine hK v2 ((x.1 : Int) :: r) w2 (by rw [hd2] at hr; simp [charsF, hf, hr]) ?_
        simpa using h2
theorem fchars_spec {s : List UInt8} (hs : s.length < 1073741824) (h : Sat w0 L w) (hN : ∀ w', Sat w0 L w' → charsP s = none → K (.tuple #[.slice none 0 0, .int .i64 40]) w')
    (hK : ∀ v' r w', charsP s = some r → Sat w0 (LsH cI 1 3 v' r :: L) w' → K (.tuple #[v', .int .i64 0]) w') : callP G73 [.string (bs s)] w K := by
  refine c73 ?_
  unfold F73 F73_1 F73_1b F73_2
  exact fchL_spec hs s.length (fuel - 1) 0 [] _ w (by omega) (by simp) (Nat.le_trans (show s.length ≤ 1073741824 by omega) (by decide)) (by simpa using hs) (ls_nil h) hN fun v' r w' hr h' => hK v' r w' hr (by simpa using h')
end
end Go.Proofs.Gong

/- Nm4 -/
namespace Go.Proofs.Gong
open Go Go.Sx Go.Proofs
set_option maxRecDepth 100000
def ctlP (c : Int) : Bool := decide (c < 32) || decide (c = 127)
def plainP (s : List UInt8) (most : Nat) : Bool := match charsP s with
  | none => false
  | some l => !(l.any ctlP) && decide (s.length ≤ most)
section
variable {w0 w : World} {L : List HP} {K : Value → World → Prop}
theorem ctl_spec {c : Int} (hK : K (.bool (ctlP c)) w) : callP G55 [.int .i64 c] w K := by
  refine c55 ?_
  unfold F55
  unfold ctlP at hK
  by_cases h : c < 32
  · simp [h] at hK ⊢; exact hK
  · simp [h] at hK ⊢; exact hK
def fnV : Value := .func (.func 55) #[] #[]
theorem ixL_spec {l : List Int} {v : Value} (h : Rd w 1 v l.length (l.flatMap cI)) (hl : l.length ≤ 1073741824) : ∀ (k i m : Nat), k + i = l.length → k ≤ m → (∀ j : Int, (decide (j ≥ 0) = (l.drop i).any ctlP) → K (.int .i64 j) w) →
    F61_2L (m + 1) v fnV (.int .i64 l.length) (.int .i64 i) w K := by
  intro k
  induction k with
  | zero =>
    intro i m hk hm hK
    rw [F61_2L]; unfold F61_2b F61_3 F61_3b
    obtain rfl : i = l.length := by omega
    rw [bLt_int]
    simp only [bindP_some, Int.lt_irrefl, decide_false, ifB_false]
    exact hK (-1) (by simp)
  | succ k ih =>
    intro i m hk hm hK
    obtain ⟨m, rfl⟩ : ∃ j, m = j + 1 := ⟨m - 1, by omega⟩
    rw [F61_2L]; unfold F61_2b
    have hi : i < l.length := by omega
    have e : bLt (.int .i64 (i : Int)) (.int .i64 l.length) = some (.bool true) := by simp; omega
    have e1 := ix_el h hi
    have e2 := rd_ld1 (g := fun c : Int => Value.int .i64 c) h hi
    have hdr : l.drop i = l[i] :: l.drop (i + 1) := List.drop_eq_getElem_cons hi
    rw [hdr, List.any_cons] at hK
    rw [e]
    simp only [bindP_some, ifB_true, e1, e2]
    generalize l[i] = c at hK
    have call : ∀ k : Value → World → Prop, callP G55 [.int .i64 c] w k → eCallV (tabOf T61) fnV [.int .i64 c] w k := by
      intro k h
      show callP (tabOf T61 55) _ _ _
      exact h
    refine call _ (ctl_spec ?_)
    by_cases hc : ctlP c = true
    · simp only [hc, ifB_true]
      exact hK i (by simp [hc])
    · have hc' : ctlP c = false := by simpa using hc
      simp only [hc', ifB_false, plus1 (show i + 1 < 9223372036854775808 by omega), bindP_some]
      exact ih (i + 1) m (by omega) (by omega) fun j hj => hK j (by rw [hj, hc']; simp)
theorem contains_spec {l : List Int} {v : Value} (h : Rd w 1 v l.length (l.flatMap cI)) (hl : l.length ≤ 1073741824) (hK : K (.bool (l.any ctlP)) w) : callP G54 [v, fnV] w K := by
  refine c54 ?_
  unfold F54
  refine c61 ?_
  unfold F61 F61_1 F61_1b
  rw [h.len]
  simp only [bindP_some]
  unfold F61_2
  refine ixL_spec h hl l.length 0 (fuel - 1) (by omega) (Nat.le_trans hl (by decide)) fun j hj => ?_
  simp only [bGe_int, bindP_some]
  rw [hj, List.drop_zero]
  exact hK
theorem charsF_len : ∀ (k : Nat) (s : List UInt8) (r : List Int), charsF k s = some r → r.length ≤ s.length
  | _, [], r, h => by
    have : some r = some [] := by rw [← h]; cases ‹Nat› <;> rfl
    simp at this; subst this; simp
  | 0, _ :: _, r, h => by simp [charsF] at h
  | k + 1, b :: s, r, h => by
    unfold charsF at h
    split at h
    · cases h
    · rename_i x hf
      obtain ⟨g1, g2⟩ := firstP_len (c := x.1) (n := x.2) hf
      simp only [Option.map_eq_some_iff] at h
      obtain ⟨r', h1, rfl⟩ := h
      have := charsF_len k _ r' h1
      simp at this ⊢
      simp at g2
      omega
theorem plain_spec {s : List UInt8} {most : Nat} (hs : s.length < 1073741824) (h : Sat w0 L w) (hK : ∀ w', Sat w0 L w' → K (.bool (plainP s most)) w') : callP G46 [.string (bs s), .int .i64 most] w K := by
  refine c46 ?_
  unfold F46
  unfold plainP at hK
  refine chars_spec hs h (fun w1 h1 hn => ?_) fun v r w1 hr h1 => ?_
  · rw [hn] at hK
    simp only [pTuple, List.getElem?_toArray, List.getElem?_cons_zero, List.getElem?_cons_succ, bindP_some]
    refine contains_spec (l := []) (.emp _ _) (by simp) ?_
    have e : decide ((40 : Int) = 0) = false := by decide
    simp only [bEq_int, e, bindP_some, gd_true, stepM_false, stepG_false, pPick_false]
    exact hK _ h1
  · rw [hr] at hK
    have hl := charsF_len _ _ _ hr
    simp only [pTuple, List.getElem?_toArray, List.getElem?_cons_zero, List.getElem?_cons_succ, bindP_some]
    refine contains_spec (ls_rd h1) (by omega) ?_
    have hk := hK _ h1.drop
    simp only at hk
    by_cases hc : r.any ctlP = true
    · simp only [hc, Bool.not_true, Bool.false_and] at hk
      simp only [bEq_int, decide_true, bindP_some, gd_true, stepM_true, stepG_true, hc, uNot_bool, Bool.not_true, pPick_true, stepM_false, stepG_false, pPick_false]
      exact hk
    · have hc' : r.any ctlP = false := by simpa using hc
      simp only [hc', Bool.not_false, Bool.true_and] at hk
      have e : decide ((s.length : Int) ≤ (most : Int)) = decide (s.length ≤ most) := by rw [decide_eq_decide]; omega
      simp only [bEq_int, decide_true, bindP_some, gd_true, stepM_true, stepG_true, hc', uNot_bool, Bool.not_false, pPick_true, lenS_mk, bs_size, bLe_int, e]
      exact hk
theorem fpL_spec {s : List UInt8} {most : Nat} {l : List Int} {v : Value} (h : Rd w 1 v l.length (l.flatMap cI)) (hl : l.length ≤ 1073741824) (hK : K (.bool (!(l.any ctlP) && decide (s.length ≤ most))) w) : ∀ (k i m : Nat), k + i = l.length → k ≤ m → (l.take i).any ctlP = false →
    F59_2L (m + 1) (.string (bs s)) (.int .i64 most) v (.int .i64 0) (.int .i64 i) w K := by
  intro k
  have e0 : decide ((s.length : Int) ≤ (most : Int)) = decide (s.length ≤ most) := by rw [decide_eq_decide]; omega
  induction k with
  | zero =>
    intro i m hk hm hi
    rw [F59_2L]; unfold F59_2b F59_3 F59_3b
    obtain rfl : i = l.length := by omega
    rw [List.take_length] at hi
    rw [hi] at hK
    rw [h.len]
    simp only [bLt_int, bindP_some, Int.lt_irrefl, decide_false, ifB_false, bEq_int, decide_true, gd_true, stepM_true, stepG_true, lenS_mk, bs_size, bLe_int, e0, pPick_true]
    simpa using hK
  | succ k ih =>
    intro i m hk hm hi0
    obtain ⟨m, rfl⟩ : ∃ j, m = j + 1 := ⟨m - 1, by omega⟩
    rw [F59_2L]; unfold F59_2b
    have hi : i < l.length := by omega
    have e : bLt (.int .i64 (i : Int)) (.int .i64 l.length) = some (.bool true) := by simp; omega
    have e1 := ix_el h hi
    have e2 := rd_ld1 (g := fun c : Int => Value.int .i64 c) h hi
    rw [h.len]
    simp only [bindP_some, e, ifB_true, e1, e2]
    have htk : (l.take (i + 1)).any ctlP = ctlP l[i] := by
      rw [List.take_succ_eq_append_getElem hi, List.any_append, hi0]; simp
    have hany : ctlP l[i] = true → l.any ctlP = true := fun h => List.any_eq_true.2 ⟨l[i], List.getElem_mem hi, h⟩
    generalize l[i] = c at htk hany e2 ⊢
    unfold ctlP at htk hany
    have out : ctlP c = true → K (.bool false) w := by
      intro hc
      have := hany hc
      rw [show (fun c => decide (c < 32) || decide (c = 127)) = ctlP from rfl] at this
      rw [this] at hK
      simpa using hK
    have step : ctlP c = false → bindP (bAdd (.int .i64 (i : Int)) (.int .i64 1)) (fun v18 => F59_2L (m + 1) (.string (bs s)) (.int .i64 most) v (.int .i64 0) v18 w K) := by
      intro hc
      rw [plus1 (by omega)]
      simp only [bindP_some]
      refine ih (i + 1) m (by omega) (by omega) ?_
      rw [show ctlP = (fun c => decide (c < 32) || decide (c = 127)) from rfl] at hc ⊢
      rw [htk]; exact hc
    by_cases h1 : c < 32
    · simp only [bLt_int, h1, decide_true, bindP_some, gd_false, Bool.not_true, stepM_false, stepG_false, pPick_true, ifB_true]
      exact out (by simp [ctlP, h1])
    · simp only [bLt_int, h1, decide_false, bindP_some, gd_false, Bool.not_false, stepM_true, stepG_true, e1, e2, bEq_int, pPick_false]
      by_cases h2 : c = 127
      · simp only [h2, decide_true, ifB_true]
        exact out (by simp [ctlP, h2])
      · simp only [h2, decide_false, ifB_false]
        exact step (by simp [ctlP, h1, h2])
theorem fplain_spec {s : List UInt8} {most : Nat} (hs : s.length < 1073741824) (h : Sat w0 L w) (hK : ∀ w', Sat w0 L w' → K (.bool (plainP s most)) w') : callP G59 [.string (bs s), .int .i64 most] w K := by
  refine c59 ?_
  unfold F59 F59_1 F59_1b
  unfold plainP at hK
  refine fchars_spec hs h (fun w1 h1 hn => ?_) fun v r w1 hr h1 => ?_
  · rw [hn] at hK
    simp only [pTuple, List.getElem?_toArray, List.getElem?_cons_zero, List.getElem?_cons_succ, bindP_some]
    unfold F59_2
    obtain ⟨m, hm⟩ : ∃ m, fuel = m + 1 := ⟨fuel - 1, by decide⟩
    rw [hm, F59_2L]
    unfold F59_2b F59_3 F59_3b
    have e : decide ((40 : Int) = 0) = false := by decide
    have e1 : bLt (.int .i64 0) (.int .i64 ((0 : Nat) : Int)) = some (.bool false) := by simp
    simp only [lenL_mk, e1, bEq_int, e, bindP_some, ifB_false, gd_true, stepM_false, stepG_false, pPick_false]
    exact hK _ h1
  · rw [hr] at hK
    have hl := charsF_len _ _ _ hr
    simp only [pTuple, List.getElem?_toArray, List.getElem?_cons_zero, List.getElem?_cons_succ, bindP_some]
    unfold F59_2
    exact fpL_spec (ls_rd h1) (by omega) (hK _ h1.drop) r.length 0 (fuel - 1) (by omega) (Nat.le_trans (show r.length ≤ 1073741824 by omega) (by decide)) (by simp)
end
end Go.Proofs.Gong

/- Nm5 -/
namespace Go.Proofs.Gong
open Go Go.Sx Go.Proofs
set_option maxRecDepth 100000
structure Evt where
  node : List UInt8
  cls : List UInt8
  key : List UInt8
  level : Int
  text : List UInt8
  deriving DecidableEq
@[reducible] def cEv (e : Evt) : List Value := [.string (bs e.node), .string (bs e.cls), .string (bs e.key), .int .i64 e.level, .string (bs e.text)]
abbrev evV (e : Evt) : Value := .agg (cEv e).toArray
def Evt.fits (e : Evt) : Prop := e.node.length < 1073741824 ∧ e.cls.length < 1073741824 ∧ e.key.length < 1073741824 ∧ e.text.length < 1073741824
def okE (e : Evt) : Bool := !decide (e.node = []) && !decide (e.cls = []) && plainP e.node 64 && plainP e.cls 64 && plainP e.key 128 && plainP e.text 1024 && decide (0 ≤ e.level) && decide (e.level ≤ 5)
def chkE (e : Evt) : Int := if okE e = true then 0 else 180
section
variable {w0 w : World} {L : List HP} {K : Value → World → Prop} {e : Evt}
theorem ncheck_spec (he : e.fits) (h : Sat w0 L w) (hK : ∀ w', Sat w0 L w' → K (.int .i64 (chkE e)) w') : callP G38 [evV e] w K := by
  refine c38 ?_
  unfold F38
  refine eBox_sat h fun p w1 h1 => ?_
  have e0 : (evV e).cells = (cEv e).toArray := rfl
  rw [e0] at h1
  have cs : ∀ {w' : World}, Sat w0 (Cl p (cEv e).toArray 31 :: L) w' → ∀ i, w'.cell? ⟨p, i, none⟩ = (cEv e)[i]? := fun h i => by rw [cell_of h.cl, List.getElem?_toArray]
  have k0 : (cEv e)[0]? = some (.string (bs e.node)) := rfl
  have k1 : (cEv e)[1]? = some (.string (bs e.cls)) := rfl
  have k2 : (cEv e)[2]? = some (.string (bs e.key)) := rfl
  have k3 : (cEv e)[3]? = some (.int .i64 e.level) := rfl
  have k4 : (cEv e)[4]? = some (.string (bs e.text)) := rfl
  obtain ⟨f1, f2, f3, f4⟩ := he
  unfold chkE okE at hK
  rw [nil_b]
  simp only [ptr, pFieldAddr_ptr, bindP_some, Nat.zero_add, ld1_ptr, cs h1, k0, k1, bNe_str, bs_beq, bs_inj]
  have bad : ∀ w', Sat w0 (Cl p (cEv e).toArray 31 :: L) w' → okE e = false → K (.int .i64 180) w' := by
    intro w' hs ho
    have := hK _ hs.drop
    unfold okE at ho
    rw [ho] at this
    exact this
  by_cases n1 : e.node = []
  · have ho : okE e = false := by simp [okE, n1]
    simp only [ld1_ptr, k0, k1, k2, k3, k4, bNe_str, bs_beq, bs_inj, cs h1, n1, decide_true, Bool.not_true, gd_true, stepG_false, stepE_false, pPick_false, bindP_some, uNot_bool, Bool.not_false, gd_false, pPick_true, ifB_true]
    exact bad _ h1 ho
  · by_cases n2 : e.cls = []
    · have ho : okE e = false := by simp [okE, n2]
      simp only [ld1_ptr, k0, k1, k2, k3, k4, bNe_str, bs_beq, bs_inj, cs h1, n1, n2, decide_true, decide_false, Bool.not_true, Bool.not_false, gd_true, stepG_true, stepG_false, stepE_false, pPick_true, pPick_false, bindP_some, uNot_bool, gd_false, ifB_true]
      exact bad _ h1 ho
    · simp only [ld1_ptr, k0, k1, k2, k3, k4, bNe_str, bs_beq, bs_inj, cs h1, n1, n2, decide_false, Bool.not_false, gd_true, stepG_true, stepE_true, pPick_true, bindP_some]
      refine plain_spec (most := 64) f1 h1 fun w2 h2 => ?_
      by_cases p1 : plainP e.node 64 = true
      · simp only [ld1_ptr, k0, k1, k2, k3, k4, bNe_str, bs_beq, bs_inj, p1, pPick_true, bindP_some, gd_true, stepG_true, stepE_true, cs h2, k1]
        refine plain_spec (most := 64) f2 h2 fun w3 h3 => ?_
        by_cases p2 : plainP e.cls 64 = true
        · simp only [ld1_ptr, k0, k1, k2, k3, k4, bNe_str, bs_beq, bs_inj, p2, pPick_true, bindP_some, uNot_bool, Bool.not_true, gd_false, Bool.not_false, stepG_true, stepE_true, cs h3, k2]
          refine plain_spec (most := 128) f3 h3 fun w4 h4 => ?_
          by_cases p3 : plainP e.key 128 = true
          · simp only [ld1_ptr, k0, k1, k2, k3, k4, bNe_str, bs_beq, bs_inj, p3, uNot_bool, Bool.not_true, pPick_false, bindP_some, gd_false, Bool.not_false, stepG_true, stepE_true, cs h4, k4]
            refine plain_spec (most := 1024) f4 h4 fun w5 h5 => ?_
            by_cases p4 : plainP e.text 1024 = true
            · simp only [ld1_ptr, k0, k1, k2, k3, k4, bNe_str, bs_beq, bs_inj, p4, uNot_bool, Bool.not_true, pPick_false, bindP_some, gd_false, Bool.not_false, stepG_true, cs h5, k3, bLt_int]
              by_cases l1 : e.level < 0
              · have ho : okE e = false := by
                  have : ¬ (0 ≤ e.level) := by omega
                  simp [okE, this]
                simp only [ld1_ptr, k0, k1, k2, k3, k4, bNe_str, bs_beq, bs_inj, l1, decide_true, pPick_true, bindP_some, gd_false, Bool.not_true, stepG_false, ifB_true]
                exact bad _ h5 ho
              · by_cases l2 : e.level > 5
                · have ho : okE e = false := by
                    have : ¬ (e.level ≤ 5) := by omega
                    simp [okE, this]
                  simp only [ld1_ptr, k0, k1, k2, k3, k4, bNe_str, bs_beq, bs_inj, cs h5, l1, l2, bGt_int, decide_true, decide_false, pPick_false, bindP_some, gd_false, Bool.not_false, stepG_true, ifB_true]
                  exact bad _ h5 ho
                · have hk := hK _ h5.drop
                  have g1 : 0 ≤ e.level := by omega
                  have g2 : e.level ≤ 5 := by omega
                  simp only [n1, n2, p1, p2, p3, p4, g1, g2, decide_true, decide_false, Bool.not_false, Bool.and_self, if_true] at hk
                  simp only [ld1_ptr, k0, k1, k2, k3, k4, bNe_str, bs_beq, bs_inj, cs h5, l1, l2, bGt_int, decide_false, pPick_false, bindP_some, gd_false, Bool.not_false, stepG_true, ifB_false]
                  exact hk
            · have p4' : plainP e.text 1024 = false := by simpa using p4
              have ho : okE e = false := by simp [okE, p4']
              simp only [ld1_ptr, k0, k1, k2, k3, k4, bNe_str, bs_beq, bs_inj, p4', uNot_bool, Bool.not_false, pPick_false, pPick_true, bindP_some, gd_false, Bool.not_true, stepG_false, ifB_true]
              exact bad _ h5 ho
          · have p3' : plainP e.key 128 = false := by simpa using p3
            have ho : okE e = false := by simp [okE, p3']
            simp only [ld1_ptr, k0, k1, k2, k3, k4, bNe_str, bs_beq, bs_inj, p3', uNot_bool, Bool.not_false, pPick_false, pPick_true, bindP_some, gd_false, Bool.not_true, stepG_false, stepE_false, ifB_true]
            exact bad _ h4 ho
        · have p2' : plainP e.cls 64 = false := by simpa using p2
          have ho : okE e = false := by simp [okE, p2']
          simp only [ld1_ptr, k0, k1, k2, k3, k4, bNe_str, bs_beq, bs_inj, p2', uNot_bool, Bool.not_false, pPick_false, pPick_true, bindP_some, gd_false, Bool.not_true, stepG_false, stepE_false, ifB_true]
          exact bad _ h3 ho
      · have p1' : plainP e.node 64 = false := by simpa using p1
        have ho : okE e = false := by simp [okE, p1']
        simp only [ld1_ptr, k0, k1, k2, k3, k4, bNe_str, bs_beq, bs_inj, p1', gd_true, uNot_bool, Bool.not_false, pPick_false, pPick_true, bindP_some, gd_false, Bool.not_true, stepG_false, stepE_false, ifB_true]
        exact bad _ h2 ho
theorem nfcheck_spec (he : e.fits) (h : Sat w0 L w) (hK : ∀ w', Sat w0 L w' → K (.int .i64 (chkE e)) w') : callP G50 [evV e] w K := by
  refine c50 ?_
  unfold F50
  refine eBox_sat h fun p w1 h1 => ?_
  have e0 : (evV e).cells = (cEv e).toArray := rfl
  rw [e0] at h1
  have cs : ∀ {w' : World}, Sat w0 (Cl p (cEv e).toArray 31 :: L) w' → ∀ i, w'.cell? ⟨p, i, none⟩ = (cEv e)[i]? := fun h i => by rw [cell_of h.cl, List.getElem?_toArray]
  have k0 : (cEv e)[0]? = some (.string (bs e.node)) := rfl
  have k1 : (cEv e)[1]? = some (.string (bs e.cls)) := rfl
  have k2 : (cEv e)[2]? = some (.string (bs e.key)) := rfl
  have k3 : (cEv e)[3]? = some (.int .i64 e.level) := rfl
  have k4 : (cEv e)[4]? = some (.string (bs e.text)) := rfl
  obtain ⟨f1, f2, f3, f4⟩ := he
  unfold chkE okE at hK
  rw [nil_b]
  simp only [ptr, pFieldAddr_ptr, bindP_some, Nat.zero_add, ld1_ptr, cs h1, k0, k1, bEq_str, bs_beq, bs_inj]
  have bad : ∀ w', Sat w0 (Cl p (cEv e).toArray 31 :: L) w' → okE e = false → K (.int .i64 180) w' := by
    intro w' hs ho
    have := hK _ hs.drop
    unfold okE at ho
    rw [ho] at this
    exact this
  by_cases n1 : e.node = []
  · have ho : okE e = false := by simp [okE, n1]
    simp only [cs h1, n1, ld1_ptr, k0, k1, k2, k3, k4, bEq_str, bs_beq, bs_inj, gd_undef, uNot_bool, decide_true, decide_false, Bool.not_true, Bool.not_false, gd_true, gd_false, stepG_true, stepG_false, stepE_true, stepE_false, stepM_true, stepM_false, pPick_true, pPick_false, bindP_some, ifB_true, ifB_false, bLt_int, bGt_int]
    exact bad _ h1 ho
  · by_cases n2 : e.cls = []
    · have ho : okE e = false := by simp [okE, n2]
      simp only [cs h1, n1, n2, ld1_ptr, k0, k1, k2, k3, k4, bEq_str, bs_beq, bs_inj, gd_undef, uNot_bool, decide_true, decide_false, Bool.not_true, Bool.not_false, gd_true, gd_false, stepG_true, stepG_false, stepE_true, stepE_false, stepM_true, stepM_false, pPick_true, pPick_false, bindP_some, ifB_true, ifB_false, bLt_int, bGt_int]
      exact bad _ h1 ho
    · simp only [cs h1, n1, n2, ld1_ptr, k0, k1, k2, k3, k4, bEq_str, bs_beq, bs_inj, gd_undef, uNot_bool, decide_true, decide_false, Bool.not_true, Bool.not_false, gd_true, gd_false, stepG_true, stepG_false, stepE_true, stepE_false, stepM_true, stepM_false, pPick_true, pPick_false, bindP_some, ifB_true, ifB_false, bLt_int, bGt_int]
      refine fplain_spec (most := 64) f1 h1 fun w2 h2 => ?_
      by_cases p1 : plainP e.node 64 = true
      · simp only [p1, cs h2, ld1_ptr, k0, k1, k2, k3, k4, bEq_str, bs_beq, bs_inj, gd_undef, uNot_bool, decide_true, decide_false, Bool.not_true, Bool.not_false, gd_true, gd_false, stepG_true, stepG_false, stepE_true, stepE_false, stepM_true, stepM_false, pPick_true, pPick_false, bindP_some, ifB_true, ifB_false, bLt_int, bGt_int]
        refine fplain_spec (most := 64) f2 h2 fun w3 h3 => ?_
        by_cases p2 : plainP e.cls 64 = true
        · simp only [p2, cs h3, ld1_ptr, k0, k1, k2, k3, k4, bEq_str, bs_beq, bs_inj, gd_undef, uNot_bool, decide_true, decide_false, Bool.not_true, Bool.not_false, gd_true, gd_false, stepG_true, stepG_false, stepE_true, stepE_false, stepM_true, stepM_false, pPick_true, pPick_false, bindP_some, ifB_true, ifB_false, bLt_int, bGt_int]
          refine fplain_spec (most := 128) f3 h3 fun w4 h4 => ?_
          by_cases p3 : plainP e.key 128 = true
          · simp only [p3, cs h4, ld1_ptr, k0, k1, k2, k3, k4, bEq_str, bs_beq, bs_inj, gd_undef, uNot_bool, decide_true, decide_false, Bool.not_true, Bool.not_false, gd_true, gd_false, stepG_true, stepG_false, stepE_true, stepE_false, stepM_true, stepM_false, pPick_true, pPick_false, bindP_some, ifB_true, ifB_false, bLt_int, bGt_int]
            refine fplain_spec (most := 1024) f4 h4 fun w5 h5 => ?_
            by_cases p4 : plainP e.text 1024 = true
            · simp only [p4, cs h5, ld1_ptr, k0, k1, k2, k3, k4, bEq_str, bs_beq, bs_inj, gd_undef, uNot_bool, decide_true, decide_false, Bool.not_true, Bool.not_false, gd_true, gd_false, stepG_true, stepG_false, stepE_true, stepE_false, stepM_true, stepM_false, pPick_true, pPick_false, bindP_some, ifB_true, ifB_false, bLt_int, bGt_int]
              by_cases l1 : e.level < 0
              · have ho : okE e = false := by
                  have : ¬ (0 ≤ e.level) := by omega
                  simp [okE, this]
                simp only [l1, cs h5, ld1_ptr, k0, k1, k2, k3, k4, bEq_str, bs_beq, bs_inj, gd_undef, uNot_bool, decide_true, decide_false, Bool.not_true, Bool.not_false, gd_true, gd_false, stepG_true, stepG_false, stepE_true, stepE_false, stepM_true, stepM_false, pPick_true, pPick_false, bindP_some, ifB_true, ifB_false, bLt_int, bGt_int]
                exact bad _ h5 ho
              · by_cases l2 : e.level > 5
                · have ho : okE e = false := by
                    have : ¬ (e.level ≤ 5) := by omega
                    simp [okE, this]
                  simp only [l1, l2, cs h5, ld1_ptr, k0, k1, k2, k3, k4, bEq_str, bs_beq, bs_inj, gd_undef, uNot_bool, decide_true, decide_false, Bool.not_true, Bool.not_false, gd_true, gd_false, stepG_true, stepG_false, stepE_true, stepE_false, stepM_true, stepM_false, pPick_true, pPick_false, bindP_some, ifB_true, ifB_false, bLt_int, bGt_int]
                  exact bad _ h5 ho
                · have hk := hK _ h5.drop
                  have g1 : 0 ≤ e.level := by omega
                  have g2 : e.level ≤ 5 := by omega
                  simp only [n1, n2, p1, p2, p3, p4, g1, g2, decide_true, decide_false, Bool.not_false, Bool.and_self, if_true] at hk
                  simp only [l1, l2, cs h5, ld1_ptr, k0, k1, k2, k3, k4, bEq_str, bs_beq, bs_inj, gd_undef, uNot_bool, decide_true, decide_false, Bool.not_true, Bool.not_false, gd_true, gd_false, stepG_true, stepG_false, stepE_true, stepE_false, stepM_true, stepM_false, pPick_true, pPick_false, bindP_some, ifB_true, ifB_false, bLt_int, bGt_int]
                  exact hk
            · have p4' : plainP e.text 1024 = false := by simpa using p4
              have ho : okE e = false := by simp [okE, p4']
              simp only [p4', cs h5, ld1_ptr, k0, k1, k2, k3, k4, bEq_str, bs_beq, bs_inj, gd_undef, uNot_bool, decide_true, decide_false, Bool.not_true, Bool.not_false, gd_true, gd_false, stepG_true, stepG_false, stepE_true, stepE_false, stepM_true, stepM_false, pPick_true, pPick_false, bindP_some, ifB_true, ifB_false, bLt_int, bGt_int]
              exact bad _ h5 ho
          · have p3' : plainP e.key 128 = false := by simpa using p3
            have ho : okE e = false := by simp [okE, p3']
            simp only [p3', cs h4, ld1_ptr, k0, k1, k2, k3, k4, bEq_str, bs_beq, bs_inj, gd_undef, uNot_bool, decide_true, decide_false, Bool.not_true, Bool.not_false, gd_true, gd_false, stepG_true, stepG_false, stepE_true, stepE_false, stepM_true, stepM_false, pPick_true, pPick_false, bindP_some, ifB_true, ifB_false, bLt_int, bGt_int]
            exact bad _ h4 ho
        · have p2' : plainP e.cls 64 = false := by simpa using p2
          have ho : okE e = false := by simp [okE, p2']
          simp only [p2', cs h3, ld1_ptr, k0, k1, k2, k3, k4, bEq_str, bs_beq, bs_inj, gd_undef, uNot_bool, decide_true, decide_false, Bool.not_true, Bool.not_false, gd_true, gd_false, stepG_true, stepG_false, stepE_true, stepE_false, stepM_true, stepM_false, pPick_true, pPick_false, bindP_some, ifB_true, ifB_false, bLt_int, bGt_int]
          exact bad _ h3 ho
      · have p1' : plainP e.node 64 = false := by simpa using p1
        have ho : okE e = false := by simp [okE, p1']
        simp only [p1', cs h2, ld1_ptr, k0, k1, k2, k3, k4, bEq_str, bs_beq, bs_inj, gd_undef, uNot_bool, decide_true, decide_false, Bool.not_true, Bool.not_false, gd_true, gd_false, stepG_true, stepG_false, stepE_true, stepE_false, stepM_true, stepM_false, pPick_true, pPick_false, bindP_some, ifB_true, ifB_false, bLt_int, bGt_int]
        exact bad _ h2 ho
end
end Go.Proofs.Gong

/- Board1 -/
namespace Go.Proofs.Gong
open Go Go.Sx Go.Proofs
set_option linter.all false
set_option maxRecDepth 100000
variable {kn kr : ET} {ke : JT}
def T36 : List (Nat × FnT) := []
def F36 (x0 : Value) (w : World) (K : V1) : Prop :=
bindP (bGe x0 (.int .i64 0)) fun v1 =>
stepM (gd true v1) x0 fun v2 =>
Sx.stepG (gd true v1) (bLe v2 (.int .i64 2305843009213693952)) fun v3 =>
bindP (pPick v1 v3 (.bool false)) fun v4 =>
K v4 w
def G36 : FnT := fun args w K => on1 (fun x0 => F36 x0 w K) args
theorem c36 {x0 : Value} {w : World} {K : V1} (h : F36 x0 w K) : callP G36 [x0] w K := callP_intro (on1_mk (p := fun x0 => F36 x0 w K) h)
theorem ok36 : OkF Tryd.prog 36 G36 := by
  refine okF_of (tab_ok (l := T36) trivial) mixed (n := fuel) Tryd.func36 Tryd.call36 fun args w K h => ?_
  obtain ⟨x0, rfl, hh⟩ := of_on1 h
  exact fnD_list (c := bodyOf Tryd.f36) (by kernel_rfl) (by kernel_rfl) (Eq.mp (by kernel_rfl) hh)
def T37 : List (Nat × FnT) := [(38, G38)]
def F37 (x0 : Value) (w : World) (K : V1) : Prop :=
bindP (fBuild Tryd.prog 31 [(0, x0), (1, (.string ⟨#[99]⟩))]) fun v1 =>
callP G38 [v1] w fun v3 w2 =>
bindP (bEq Tryd.prog 24 (.tmp 5) (.const (.int .i64 0)) v3 (.int .i64 0)) fun v4 =>
K v4 w2
def G37 : FnT := fun args w K => on1 (fun x0 => F37 x0 w K) args
theorem c37 {x0 : Value} {w : World} {K : V1} (h : F37 x0 w K) : callP G37 [x0] w K := callP_intro (on1_mk (p := fun x0 => F37 x0 w K) h)
theorem ok37 : OkF Tryd.prog 37 G37 := by
  refine okF_of (tab_ok (l := T37) ⟨ok38, trivial⟩) mixed (n := fuel) Tryd.func37 Tryd.call37 fun args w K h => ?_
  obtain ⟨x0, rfl, hh⟩ := of_on1 h
  exact fnD_list (c := bodyOf Tryd.f37) (by kernel_rfl) (by kernel_rfl) (Eq.mp (by kernel_rfl) hh)
def T22 : List (Nat × FnT) := [(36, G36), (37, G37), (38, G38)]
def F22 (x0 : Value) (w : World) (K : V1) : Prop :=
eBox 33 x0 w fun v2 w1 =>
bindP (pFieldAddr 7 v2) fun v3 =>
bindP (ld1 v3 w1) fun v4 =>
callP G36 [v4] w1 fun v6 w5 =>
Sx.stepG (gd true v6) (pFieldAddr 8 v2) fun v7 =>
Sx.stepG (gd true v6) (ld1 v7 w5) fun v8 =>
stepE (gd true v6) (fun k => callP G36 [v8] w5 k) w5 fun v10 w9 =>
bindP (pPick v6 v10 (.bool false)) fun v11 =>
Sx.stepG (gd true v11) (pFieldAddr 7 v2) fun v12 =>
Sx.stepG (gd true v11) (ld1 v12 w9) fun v13 =>
Sx.stepG (gd true v11) (pFieldAddr 8 v2) fun v14 =>
Sx.stepG (gd true v11) (ld1 v14 w9) fun v15 =>
Sx.stepG (gd true v11) (bLe v13 v15) fun v16 =>
bindP (pPick v11 v16 (.bool false)) fun v17 =>
bindP (pFieldAddr 9 v2) fun v18 =>
bindP (ld1 v18 w9) fun v19 =>
Sx.stepG (gd true v19) (pFieldAddr 10 v2) fun v20 =>
Sx.stepG (gd true v19) (ld1 v20 w9) fun v21 =>
stepE (gd true v19) (fun k => callP G37 [v21] w9 k) w9 fun v23 w22 =>
bindP (pPick v19 v23 (.bool false)) fun v24 =>
Sx.stepG (gd false v24) (pFieldAddr 9 v2) fun v25 =>
Sx.stepG (gd false v24) (ld1 v25 w22) fun v26 =>
Sx.stepG (gd false v24) (uNot v26) fun v27 =>
stepM (gd false v24) v27 fun v28 =>
Sx.stepG (gd true v28) (pFieldAddr 10 v2) fun v29 =>
Sx.stepG (gd true v28) (ld1 v29 w22) fun v30 =>
Sx.stepG (gd true v28) (bEq Tryd.prog 9 (.tmp 33) (.const (.string ⟨#[]⟩)) v30 (.string ⟨#[]⟩)) fun v31 =>
Sx.stepG (gd false v24) (pPick v28 v31 (.bool false)) fun v32 =>
bindP (pPick v24 (.bool true) v32) fun v33 =>
bindP (pFieldAddr 0 v2) fun v34 =>
bindP (ld1 v34 w22) fun v35 =>
bindP (bLt v35 (.int .i64 1)) fun v36 =>
Sx.stepG (gd false v36) (pFieldAddr 1 v2) fun v37 =>
Sx.stepG (gd false v36) (pFieldAddr 3 v37) fun v38 =>
Sx.stepG (gd false v36) (ld1 v38 w22) fun v39 =>
Sx.stepG (gd false v36) (bLt v39 (.int .i64 1)) fun v40 =>
bindP (pPick v36 (.bool true) v40) fun v41 =>
Sx.stepG (gd false v41) (pFieldAddr 6 v2) fun v42 =>
Sx.stepG (gd false v41) (ld1 v42 w22) fun v43 =>
Sx.stepG (gd false v41) (bLt v43 (.int .i64 1)) fun v44 =>
bindP (pPick v41 (.bool true) v44) fun v45 =>
Sx.stepG (gd false v45) (pFieldAddr 6 v2) fun v46 =>
Sx.stepG (gd false v45) (ld1 v46 w22) fun v47 =>
Sx.stepG (gd false v45) (bGt v47 (.int .i64 1099511627776)) fun v48 =>
bindP (pPick v45 (.bool true) v48) fun v49 =>
stepM (gd false v49) v17 fun v50 =>
Sx.stepG (gd false v49) (uNot v50) fun v51 =>
bindP (pPick v49 (.bool true) v51) fun v52 =>
stepM (gd false v52) v33 fun v53 =>
Sx.stepG (gd false v52) (uNot v53) fun v54 =>
bindP (pPick v52 (.bool true) v54) fun v55 =>
Sx.stepG (gd false v55) (pFieldAddr 1 v2) fun v56 =>
Sx.stepG (gd false v55) (ldN 5 v56 w22) fun v57 =>
stepE (gd false v55) (fun k => callP G38 [v57] w22 k) w22 fun v59 w58 =>
Sx.stepG (gd false v55) (bNe Tryd.prog 24 (.tmp 67) (.const (.int .i64 0)) v59 (.int .i64 0)) fun v60 =>
bindP (pPick v55 (.bool true) v60) fun v61 =>
ifB v61 (
K (.int .i64 4) w58) (
K (.int .i64 0) w58)
def G22 : FnT := fun args w K => on1 (fun x0 => F22 x0 w K) args
theorem c22 {x0 : Value} {w : World} {K : V1} (h : F22 x0 w K) : callP G22 [x0] w K := callP_intro (on1_mk (p := fun x0 => F22 x0 w K) h)
theorem ok22 : OkF Tryd.prog 22 G22 := by
  refine okF_of (tab_ok (l := T22) ⟨ok36, ok37, ok38, trivial⟩) mixed (n := fuel) Tryd.func22 Tryd.call22 fun args w K h => ?_
  obtain ⟨x0, rfl, hh⟩ := of_on1 h
  exact fnD_list (c := bodyOf Tryd.f22) (by kernel_rfl) (by kernel_rfl) (Eq.mp (by kernel_rfl) hh)
def T51 : List (Nat × FnT) := [(50, G50)]
def F51 (x0 : Value) (w : World) (K : V1) : Prop :=
bindP (fBuild Tryd.prog 31 [(0, x0), (1, (.string ⟨#[120]⟩))]) fun v1 =>
callP G50 [v1] w fun v3 w2 =>
bindP (bEq Tryd.prog 24 (.tmp 5) (.const (.int .i64 0)) v3 (.int .i64 0)) fun v4 =>
K v4 w2
def G51 : FnT := fun args w K => on1 (fun x0 => F51 x0 w K) args
theorem c51 {x0 : Value} {w : World} {K : V1} (h : F51 x0 w K) : callP G51 [x0] w K := callP_intro (on1_mk (p := fun x0 => F51 x0 w K) h)
theorem ok51 : OkF Tryd.prog 51 G51 := by
  refine okF_of (tab_ok (l := T51) ⟨ok50, trivial⟩) mixed (n := fuel) Tryd.func51 Tryd.call51 fun args w K h => ?_
  obtain ⟨x0, rfl, hh⟩ := of_on1 h
  exact fnD_list (c := bodyOf Tryd.f51) (by kernel_rfl) (by kernel_rfl) (Eq.mp (by kernel_rfl) hh)
def T41 : List (Nat × FnT) := [(42, G42), (50, G50), (51, G51)]
def F41 (x0 : Value) (w : World) (K : V1) : Prop :=
eBox 33 x0 w fun v2 w1 =>
bindP (pFieldAddr 0 v2) fun v3 =>
bindP (ld1 v3 w1) fun v4 =>
bindP (bLt v4 (.int .i64 1)) fun v5 =>
Sx.stepG (gd false v5) (pFieldAddr 1 v2) fun v6 =>
Sx.stepG (gd false v5) (ldN 5 v6 w1) fun v7 =>
stepE (gd false v5) (fun k => callP G50 [v7] w1 k) w1 fun v9 w8 =>
Sx.stepG (gd false v5) (bNe Tryd.prog 24 (.tmp 9) (.const (.int .i64 0)) v9 (.int .i64 0)) fun v10 =>
bindP (pPick v5 (.bool true) v10) fun v11 =>
Sx.stepG (gd false v11) (pFieldAddr 1 v2) fun v12 =>
Sx.stepG (gd false v11) (pFieldAddr 3 v12) fun v13 =>
Sx.stepG (gd false v11) (ld1 v13 w8) fun v14 =>
Sx.stepG (gd false v11) (bLt v14 (.int .i64 1)) fun v15 =>
bindP (pPick v11 (.bool true) v15) fun v16 =>
Sx.stepG (gd false v16) (pFieldAddr 6 v2) fun v17 =>
Sx.stepG (gd false v16) (ld1 v17 w8) fun v18 =>
Sx.stepG (gd false v16) (bLt v18 (.int .i64 1)) fun v19 =>
bindP (pPick v16 (.bool true) v19) fun v20 =>
Sx.stepG (gd false v20) (pFieldAddr 6 v2) fun v21 =>
Sx.stepG (gd false v20) (ld1 v21 w8) fun v22 =>
Sx.stepG (gd false v20) (bGt v22 (.int .i64 1099511627776)) fun v23 =>
bindP (pPick v20 (.bool true) v23) fun v24 =>
Sx.stepG (gd false v24) (pFieldAddr 7 v2) fun v25 =>
Sx.stepG (gd false v24) (ld1 v25 w8) fun v26 =>
stepE (gd false v24) (fun k => callP G42 [v26] w8 k) w8 fun v28 w27 =>
Sx.stepG (gd false v24) (uNot v28) fun v29 =>
bindP (pPick v24 (.bool true) v29) fun v30 =>
Sx.stepG (gd false v30) (pFieldAddr 8 v2) fun v31 =>
Sx.stepG (gd false v30) (ld1 v31 w27) fun v32 =>
stepE (gd false v30) (fun k => callP G42 [v32] w27 k) w27 fun v34 w33 =>
Sx.stepG (gd false v30) (uNot v34) fun v35 =>
bindP (pPick v30 (.bool true) v35) fun v36 =>
Sx.stepG (gd false v36) (pFieldAddr 7 v2) fun v37 =>
Sx.stepG (gd false v36) (ld1 v37 w33) fun v38 =>
Sx.stepG (gd false v36) (pFieldAddr 8 v2) fun v39 =>
Sx.stepG (gd false v36) (ld1 v39 w33) fun v40 =>
Sx.stepG (gd false v36) (bGt v38 v40) fun v41 =>
bindP (pPick v36 (.bool true) v41) fun v42 =>
ifB v42 (
K (.int .i64 4) w33) (
bindP (pFieldAddr 9 v2) fun v43 =>
bindP (ld1 v43 w33) fun v44 =>
Sx.stepG (gd true v44) (pFieldAddr 10 v2) fun v45 =>
Sx.stepG (gd true v44) (ld1 v45 w33) fun v46 =>
stepE (gd true v44) (fun k => callP G51 [v46] w33 k) w33 fun v48 w47 =>
Sx.stepG (gd true v44) (uNot v48) fun v49 =>
bindP (pPick v44 v49 (.bool false)) fun v50 =>
Sx.stepG (gd false v50) (pFieldAddr 9 v2) fun v51 =>
Sx.stepG (gd false v50) (ld1 v51 w47) fun v52 =>
Sx.stepG (gd false v50) (uNot v52) fun v53 =>
stepM (gd false v50) v53 fun v54 =>
Sx.stepG (gd true v54) (pFieldAddr 10 v2) fun v55 =>
Sx.stepG (gd true v54) (ld1 v55 w47) fun v56 =>
Sx.stepG (gd true v54) (bNe Tryd.prog 9 (.tmp 61) (.const (.string ⟨#[]⟩)) v56 (.string ⟨#[]⟩)) fun v57 =>
Sx.stepG (gd false v50) (pPick v54 v57 (.bool false)) fun v58 =>
bindP (pPick v50 (.bool true) v58) fun v59 =>
ifB v59 (
K (.int .i64 4) w47) (
K (.int .i64 0) w47))
def G41 : FnT := fun args w K => on1 (fun x0 => F41 x0 w K) args
theorem c41 {x0 : Value} {w : World} {K : V1} (h : F41 x0 w K) : callP G41 [x0] w K := callP_intro (on1_mk (p := fun x0 => F41 x0 w K) h)
theorem ok41 : OkF Tryd.prog 41 G41 := by
  refine okF_of (tab_ok (l := T41) ⟨ok42, ok50, ok51, trivial⟩) mixed (n := fuel) Tryd.func41 Tryd.call41 fun args w K h => ?_
  obtain ⟨x0, rfl, hh⟩ := of_on1 h
  exact fnD_list (c := bodyOf Tryd.f41) (by kernel_rfl) (by kernel_rfl) (Eq.mp (by kernel_rfl) hh)
end Go.Proofs.Gong

/- Bd0 -/
namespace Go.Proofs.Gong
open Go Go.Sx Go.Proofs
set_option maxRecDepth 100000
def timeP (t : Int) : Bool := decide (0 ≤ t) && decide (t ≤ 2305843009213693952)
def whoP (s : List UInt8) : Bool := !decide (s = []) && plainP s 64
theorem chk_who (s c : List UInt8) (hc : c ≠ []) (hp : plainP c 64 = true) : chkE ⟨s, c, [], 0, []⟩ = if whoP s = true then 0 else 180 := by
  have h1 : plainP [] 128 = true := by decide
  have h2 : plainP [] 1024 = true := by decide
  unfold chkE okE whoP
  simp [hc, hp, h1, h2]
section
variable {w0 w : World} {L : List HP} {K : Value → World → Prop}
theorem bistime_spec {t : Int} (hK : K (.bool (timeP t)) w) : callP G36 [.int .i64 t] w K := by
  refine c36 ?_
  unfold F36
  unfold timeP at hK
  by_cases g1 : 0 ≤ t <;> simp [g1] at hK ⊢ <;> exact hK
theorem fbistime_spec {t : Int} (hK : K (.bool (timeP t)) w) : callP G42 [.int .i64 t] w K := by
  refine c42 ?_
  unfold F42
  unfold timeP at hK
  by_cases g1 : 0 ≤ t <;> simp [g1] at hK ⊢ <;> exact hK
theorem iswho_spec {s : List UInt8} (hs : s.length < 1073741824) (h : Sat w0 L w) (hK : ∀ w', Sat w0 L w' → K (.bool (whoP s)) w') : callP G37 [.string (bs s)] w K := by
  refine c37 ?_
  unfold F37
  have eb : fBuild Tryd.prog 31 [(0, .string (bs s)), (1, .string ⟨#[99]⟩)] = some (evV ⟨s, [99], [], 0, []⟩) := by kernel_rfl
  rw [eb]
  simp only [bindP_some]
  refine ncheck_spec ⟨hs, by simp, by simp, by simp⟩ h fun w1 h1 => ?_
  rw [chk_who s [99] (by simp) (by decide)]
  have hk := hK _ h1
  by_cases hw : whoP s = true
  · rw [hw] at hk; rw [if_pos hw]; simpa using hk
  · rw [if_neg hw]
    have : whoP s = false := by simpa using hw
    rw [this] at hk; simpa using hk
theorem fiswho_spec {s : List UInt8} (hs : s.length < 1073741824) (h : Sat w0 L w) (hK : ∀ w', Sat w0 L w' → K (.bool (whoP s)) w') : callP G51 [.string (bs s)] w K := by
  refine c51 ?_
  unfold F51
  have eb : fBuild Tryd.prog 31 [(0, .string (bs s)), (1, .string ⟨#[120]⟩)] = some (evV ⟨s, [120], [], 0, []⟩) := by kernel_rfl
  rw [eb]
  simp only [bindP_some]
  refine nfcheck_spec ⟨hs, by simp, by simp, by simp⟩ h fun w1 h1 => ?_
  rw [chk_who s [120] (by simp) (by decide)]
  have hk := hK _ h1
  by_cases hw : whoP s = true
  · rw [hw] at hk; rw [if_pos hw]; simpa using hk
  · rw [if_neg hw]
    have : whoP s = false := by simpa using hw
    rw [this] at hk; simpa using hk
end
structure Row where
  id : Int
  e : Evt
  tally : Int
  first : Int
  last : Int
  acked : Bool
  who : List UInt8
  deriving DecidableEq
@[reducible] def cRow (r : Row) : List Value := [.int .i64 r.id, .string (bs r.e.node), .string (bs r.e.cls), .string (bs r.e.key), .int .i64 r.e.level, .string (bs r.e.text), .int .i64 r.tally, .int .i64 r.first, .int .i64 r.last, .bool r.acked, .string (bs r.who)]
abbrev rowV (r : Row) : Value := .agg (cRow r).toArray
def timesR (r : Row) : Bool := timeP r.first && timeP r.last && decide (r.first ≤ r.last)
def whoR (r : Row) : Bool := if r.acked = true then whoP r.who else decide (r.who = [])
def okR (r : Row) : Bool := decide (1 ≤ r.id) && decide (1 ≤ r.e.level) && decide (1 ≤ r.tally) && decide (r.tally ≤ 1099511627776) && timesR r && whoR r && okE r.e
def chkR (r : Row) : Int := if okR r = true then 0 else 4
end Go.Proofs.Gong

/- Bd1 -/
namespace Go.Proofs.Gong
open Go Go.Sx Go.Proofs
set_option maxRecDepth 100000
section
variable {w0 w : World} {L : List HP} {K : Value → World → Prop} {r : Row}
theorem times_blk {p : Nat} {k : Value → World → Prop} (c7 : w.cell? ⟨p, 7, none⟩ = some (.int .i64 r.first)) (c8 : w.cell? ⟨p, 8, none⟩ = some (.int .i64 r.last)) (hk : k (.bool (timesR r)) w) :
    bindP (pFieldAddr 7 (ptr p)) fun v3 => bindP (ld1 v3 w) fun v4 => callP G36 [v4] w fun v6 w5 =>
    Sx.stepG (gd true v6) (pFieldAddr 8 (ptr p)) fun v7 => Sx.stepG (gd true v6) (ld1 v7 w5) fun v8 => stepE (gd true v6) (fun k => callP G36 [v8] w5 k) w5 fun v10 w9 =>
    bindP (pPick v6 v10 (.bool false)) fun v11 => Sx.stepG (gd true v11) (pFieldAddr 7 (ptr p)) fun v12 => Sx.stepG (gd true v11) (ld1 v12 w9) fun v13 =>
    Sx.stepG (gd true v11) (pFieldAddr 8 (ptr p)) fun v14 => Sx.stepG (gd true v11) (ld1 v14 w9) fun v15 => Sx.stepG (gd true v11) (bLe v13 v15) fun v16 => bindP (pPick v11 v16 (.bool false)) fun v17 => k v17 w9 := by
  simp only [ptr, pFieldAddr_ptr, bindP_some, Nat.zero_add, ld1_ptr, c7, c8]
  refine bistime_spec ?_
  unfold timesR at hk
  by_cases t1 : timeP r.first = true
  · simp only [t1, gd_true, stepG_true, bindP_some, ld1_ptr, c8, stepE_true]
    refine bistime_spec ?_
    by_cases t2 : timeP r.last = true
    · simp only [t2, pPick_true, bindP_some, gd_true, stepG_true, ld1_ptr, c7, c8, bLe_int]
      simpa [t1, t2] using hk
    · have t2' : timeP r.last = false := by simpa using t2
      simp only [t2', pPick_true, bindP_some, gd_true, stepG_false, pPick_false]
      simpa [t1, t2'] using hk
  · have t1' : timeP r.first = false := by simpa using t1
    simp only [t1', gd_true, stepG_false, stepE_false, pPick_false, bindP_some]
    simpa [t1'] using hk
theorem who_blk {p : Nat} {k : Value → World → Prop} (h : Sat w0 (Cl p (cRow r).toArray 33 :: L) w) (hs : r.who.length < 1073741824) (hk : ∀ w', Sat w0 (Cl p (cRow r).toArray 33 :: L) w' → k (.bool (whoR r)) w') :
    bindP (pFieldAddr 9 (ptr p)) fun v18 => bindP (ld1 v18 w) fun v19 => Sx.stepG (gd true v19) (pFieldAddr 10 (ptr p)) fun v20 => Sx.stepG (gd true v19) (ld1 v20 w) fun v21 =>
    stepE (gd true v19) (fun k => callP G37 [v21] w k) w fun v23 w22 => bindP (pPick v19 v23 (.bool false)) fun v24 => Sx.stepG (gd false v24) (pFieldAddr 9 (ptr p)) fun v25 =>
    Sx.stepG (gd false v24) (ld1 v25 w22) fun v26 => Sx.stepG (gd false v24) (uNot v26) fun v27 => stepM (gd false v24) v27 fun v28 => Sx.stepG (gd true v28) (pFieldAddr 10 (ptr p)) fun v29 =>
    Sx.stepG (gd true v28) (ld1 v29 w22) fun v30 => Sx.stepG (gd true v28) (bEq Tryd.prog 9 (.tmp 33) (.const (.string ⟨#[]⟩)) v30 (.string ⟨#[]⟩)) fun v31 =>
    Sx.stepG (gd false v24) (pPick v28 v31 (.bool false)) fun v32 => bindP (pPick v24 (.bool true) v32) fun v33 => k v33 w22 := by
  have cs : ∀ {w' : World}, Sat w0 (Cl p (cRow r).toArray 33 :: L) w' → ∀ i, w'.cell? ⟨p, i, none⟩ = (cRow r)[i]? := fun h i => by rw [cell_of h.cl, List.getElem?_toArray]
  have k9 : (cRow r)[9]? = some (.bool r.acked) := rfl
  have k10 : (cRow r)[10]? = some (.string (bs r.who)) := rfl
  unfold whoR at hk
  rw [nil_b]
  simp only [ptr, pFieldAddr_ptr, bindP_some, Nat.zero_add, ld1_ptr, cs h, k9, k10]
  by_cases ha : r.acked = true
  · rw [if_pos ha] at hk
    simp only [ha, gd_true, stepG_true, bindP_some, ld1_ptr, cs h, k10, stepE_true]
    refine iswho_spec hs h fun w2 h2 => ?_
    have hk2 := hk w2 h2
    by_cases hw : whoP r.who = true
    · rw [hw] at hk2
      simp only [hw, pPick_true, bindP_some, gd_false, Bool.not_true, stepG_false, stepM_false, gd_undef]
      exact hk2
    · have hw' : whoP r.who = false := by simpa using hw
      rw [hw'] at hk2
      simp only [hw', pPick_true, pPick_false, bindP_some, gd_false, gd_true, Bool.not_false, Bool.not_true, stepG_true, stepG_false, stepM_true, ld1_ptr, cs h2, k9, ha, uNot_bool]
      exact hk2
  · have ha' : r.acked = false := by simpa using ha
    rw [if_neg ha] at hk
    have hk2 := hk w h
    simp only [ha', gd_true, stepG_false, stepE_false, pPick_false, bindP_some, gd_false, Bool.not_false, stepG_true, ld1_ptr, cs h, k9, uNot_bool, stepM_true, k10, bEq_str, bs_beq, bs_inj, pPick_true]
    exact hk2
theorem bcheck_spec (he : r.e.fits) (hw : r.who.length < 1073741824) (h : Sat w0 L w) (hK : ∀ w', Sat w0 L w' → K (.int .i64 (chkR r)) w') : callP G22 [rowV r] w K := by
  refine c22 ?_
  unfold F22
  refine eBox_sat h fun p w1 h1 => ?_
  have e0 : (rowV r).cells = (cRow r).toArray := rfl
  rw [e0] at h1
  have cs : ∀ {w' : World}, Sat w0 (Cl p (cRow r).toArray 33 :: L) w' → ∀ i, w'.cell? ⟨p, i, none⟩ = (cRow r)[i]? := fun h i => by rw [cell_of h.cl, List.getElem?_toArray]
  have k0 : (cRow r)[0]? = some (.int .i64 r.id) := rfl
  have k4 : (cRow r)[4]? = some (.int .i64 r.e.level) := rfl
  have k6 : (cRow r)[6]? = some (.int .i64 r.tally) := rfl
  refine times_blk (r := r) (by rw [cs h1]; rfl) (by rw [cs h1]; rfl) ?_
  refine who_blk h1 hw fun w2 h2 => ?_
  have cN : ldN 5 (.pointer (some ⟨p, 1, none⟩)) w2 = some (evV r.e) := by rw [ldN_of h2.cl (by simp [cRow])]; rfl
  have bad : ∀ w', Sat w0 (Cl p (cRow r).toArray 33 :: L) w' → okR r = false → K (.int .i64 4) w' := by
    intro w' hs ho
    have := hK _ hs.drop
    unfold chkR at this
    rw [ho] at this
    exact this
  simp only [ptr, cs h2, ld1_ptr, k0, k4, k6, gd_undef, uNot_bool, decide_true, decide_false, Bool.not_true, Bool.not_false, gd_true, gd_false, stepG_true, stepG_false, stepE_true, stepE_false, stepM_true, stepM_false, pPick_true, pPick_false, pFieldAddr_ptr, Nat.zero_add, bindP_some, ifB_true, ifB_false, bLt_int, bGt_int, bNe_int]
  by_cases g1 : r.id < 1
  · have ho : okR r = false := by
      have : ¬ (1 ≤ r.id) := by omega
      simp [okR, this]
    simp only [g1, ld1_ptr, k0, k4, k6, gd_undef, uNot_bool, decide_true, decide_false, Bool.not_true, Bool.not_false, gd_true, gd_false, stepG_true, stepG_false, stepE_true, stepE_false, stepM_true, stepM_false, pPick_true, pPick_false, pFieldAddr_ptr, Nat.zero_add, bindP_some, ifB_true, ifB_false, bLt_int, bGt_int, bNe_int]
    exact bad _ h2 ho
  · by_cases g2 : r.e.level < 1
    · have ho : okR r = false := by
        have : ¬ (1 ≤ r.e.level) := by omega
        simp [okR, this]
      simp only [g1, g2, cs h2, ld1_ptr, k0, k4, k6, gd_undef, uNot_bool, decide_true, decide_false, Bool.not_true, Bool.not_false, gd_true, gd_false, stepG_true, stepG_false, stepE_true, stepE_false, stepM_true, stepM_false, pPick_true, pPick_false, pFieldAddr_ptr, Nat.zero_add, bindP_some, ifB_true, ifB_false, bLt_int, bGt_int, bNe_int]
      exact bad _ h2 ho
    · by_cases g3 : r.tally < 1
      · have ho : okR r = false := by
          have : ¬ (1 ≤ r.tally) := by omega
          simp [okR, this]
        simp only [g1, g2, g3, cs h2, ld1_ptr, k0, k4, k6, gd_undef, uNot_bool, decide_true, decide_false, Bool.not_true, Bool.not_false, gd_true, gd_false, stepG_true, stepG_false, stepE_true, stepE_false, stepM_true, stepM_false, pPick_true, pPick_false, pFieldAddr_ptr, Nat.zero_add, bindP_some, ifB_true, ifB_false, bLt_int, bGt_int, bNe_int]
        exact bad _ h2 ho
      · by_cases g4 : r.tally > 1099511627776
        · have ho : okR r = false := by
            have : ¬ (r.tally ≤ 1099511627776) := by omega
            simp [okR, this]
          simp only [g1, g2, g3, g4, cs h2, ld1_ptr, k0, k4, k6, gd_undef, uNot_bool, decide_true, decide_false, Bool.not_true, Bool.not_false, gd_true, gd_false, stepG_true, stepG_false, stepE_true, stepE_false, stepM_true, stepM_false, pPick_true, pPick_false, pFieldAddr_ptr, Nat.zero_add, bindP_some, ifB_true, ifB_false, bLt_int, bGt_int, bNe_int]
          exact bad _ h2 ho
        · by_cases g5 : timesR r = true
          · by_cases g6 : whoR r = true
            · simp only [g1, g2, g3, g4, g5, g6, cs h2, cN, ld1_ptr, k0, k4, k6, gd_undef, uNot_bool, decide_true, decide_false, Bool.not_true, Bool.not_false, gd_true, gd_false, stepG_true, stepG_false, stepE_true, stepE_false, stepM_true, stepM_false, pPick_true, pPick_false, pFieldAddr_ptr, Nat.zero_add, bindP_some, ifB_true, ifB_false, bLt_int, bGt_int, bNe_int]
              refine ncheck_spec he h2 fun w3 h3 => ?_
              unfold chkE
              by_cases g7 : okE r.e = true
              · have hk := hK _ h3.drop
                have ho : okR r = true := by
                  have a1 : 1 ≤ r.id := by omega
                  have a2 : 1 ≤ r.e.level := by omega
                  have a3 : 1 ≤ r.tally := by omega
                  have a4 : r.tally ≤ 1099511627776 := by omega
                  simp [okR, a1, a2, a3, a4, g5, g6, g7]
                unfold chkR at hk
                rw [if_pos ho] at hk
                rw [if_pos g7]
                simp only [ld1_ptr, k0, k4, k6, gd_undef, uNot_bool, decide_true, decide_false, Bool.not_true, Bool.not_false, gd_true, gd_false, stepG_true, stepG_false, stepE_true, stepE_false, stepM_true, stepM_false, pPick_true, pPick_false, pFieldAddr_ptr, Nat.zero_add, bindP_some, ifB_true, ifB_false, bLt_int, bGt_int, bNe_int]
                exact hk
              · have ho : okR r = false := by
                  have g7' : okE r.e = false := by simpa using g7
                  simp [okR, g7']
                rw [if_neg g7]
                have e1 : decide ((180 : Int) = 0) = false := by decide
                simp only [e1, ld1_ptr, k0, k4, k6, gd_undef, uNot_bool, decide_true, decide_false, Bool.not_true, Bool.not_false, gd_true, gd_false, stepG_true, stepG_false, stepE_true, stepE_false, stepM_true, stepM_false, pPick_true, pPick_false, pFieldAddr_ptr, Nat.zero_add, bindP_some, ifB_true, ifB_false, bLt_int, bGt_int, bNe_int]
                exact bad _ h3 ho
            · have g6' : whoR r = false := by simpa using g6
              have ho : okR r = false := by simp [okR, g6']
              simp only [g1, g2, g3, g4, g5, g6', cs h2, ld1_ptr, k0, k4, k6, gd_undef, uNot_bool, decide_true, decide_false, Bool.not_true, Bool.not_false, gd_true, gd_false, stepG_true, stepG_false, stepE_true, stepE_false, stepM_true, stepM_false, pPick_true, pPick_false, pFieldAddr_ptr, Nat.zero_add, bindP_some, ifB_true, ifB_false, bLt_int, bGt_int, bNe_int]
              exact bad _ h2 ho
          · have g5' : timesR r = false := by simpa using g5
            have ho : okR r = false := by simp [okR, g5']
            simp only [g1, g2, g3, g4, g5', cs h2, ld1_ptr, k0, k4, k6, gd_undef, uNot_bool, decide_true, decide_false, Bool.not_true, Bool.not_false, gd_true, gd_false, stepG_true, stepG_false, stepE_true, stepE_false, stepM_true, stepM_false, pPick_true, pPick_false, pFieldAddr_ptr, Nat.zero_add, bindP_some, ifB_true, ifB_false, bLt_int, bGt_int, bNe_int]
            exact bad _ h2 ho
end
end Go.Proofs.Gong

/- Bd2 -/
namespace Go.Proofs.Gong
open Go Go.Sx Go.Proofs
set_option maxRecDepth 100000
section
variable {w0 w : World} {L : List HP} {K : Value → World → Prop} {r : Row}
theorem fbcheck_spec (he : r.e.fits) (hw : r.who.length < 1073741824) (h : Sat w0 L w) (hK : ∀ w', Sat w0 L w' → K (.int .i64 (chkR r)) w') : callP G41 [rowV r] w K := by
  refine c41 ?_
  unfold F41
  refine eBox_sat h fun p w1 h1 => ?_
  have e0 : (rowV r).cells = (cRow r).toArray := rfl
  rw [e0] at h1
  have cs : ∀ {w' : World}, Sat w0 (Cl p (cRow r).toArray 33 :: L) w' → ∀ i, w'.cell? ⟨p, i, none⟩ = (cRow r)[i]? := fun h i => by rw [cell_of h.cl, List.getElem?_toArray]
  have k0 : (cRow r)[0]? = some (.int .i64 r.id) := rfl
  have k4 : (cRow r)[4]? = some (.int .i64 r.e.level) := rfl
  have k6 : (cRow r)[6]? = some (.int .i64 r.tally) := rfl
  have k7 : (cRow r)[7]? = some (.int .i64 r.first) := rfl
  have k8 : (cRow r)[8]? = some (.int .i64 r.last) := rfl
  have k9 : (cRow r)[9]? = some (.bool r.acked) := rfl
  have k10 : (cRow r)[10]? = some (.string (bs r.who)) := rfl
  have cN : ldN 5 (.pointer (some ⟨p, 1, none⟩)) w1 = some (evV r.e) := by rw [ldN_of h1.cl (by simp [cRow])]; rfl
  have bad : ∀ w', Sat w0 (Cl p (cRow r).toArray 33 :: L) w' → okR r = false → K (.int .i64 4) w' := by
    intro w' hs ho
    have := hK _ hs.drop
    unfold chkR at this
    rw [ho] at this
    exact this
  rw [nil_b]
  simp only [ptr, cs h1, cN, ld1_ptr, k0, k4, k6, k7, k8, k9, k10, gd_undef, uNot_bool, decide_true, decide_false, Bool.not_true, Bool.not_false, gd_true, gd_false, stepG_true, stepG_false, stepE_true, stepE_false, stepM_true, stepM_false, pPick_true, pPick_false, pFieldAddr_ptr, Nat.zero_add, bindP_some, ifB_true, ifB_false, bLt_int, bGt_int, bNe_int, bNe_str, bs_beq, bs_inj]
  by_cases g1 : r.id < 1
  · have ho : okR r = false := by
      have : ¬ (1 ≤ r.id) := by omega
      simp [okR, this]
    simp only [g1, cs h1, ld1_ptr, k0, k4, k6, k7, k8, k9, k10, gd_undef, uNot_bool, decide_true, decide_false, Bool.not_true, Bool.not_false, gd_true, gd_false, stepG_true, stepG_false, stepE_true, stepE_false, stepM_true, stepM_false, pPick_true, pPick_false, pFieldAddr_ptr, Nat.zero_add, bindP_some, ifB_true, ifB_false, bLt_int, bGt_int, bNe_int, bNe_str, bs_beq, bs_inj]
    exact bad _ h1 ho
  · simp only [g1, cN, ld1_ptr, k0, k4, k6, k7, k8, k9, k10, gd_undef, uNot_bool, decide_true, decide_false, Bool.not_true, Bool.not_false, gd_true, gd_false, stepG_true, stepG_false, stepE_true, stepE_false, stepM_true, stepM_false, pPick_true, pPick_false, pFieldAddr_ptr, Nat.zero_add, bindP_some, ifB_true, ifB_false, bLt_int, bGt_int, bNe_int, bNe_str, bs_beq, bs_inj]
    refine nfcheck_spec he h1 fun w2 h2 => ?_
    unfold chkE
    by_cases g7 : okE r.e = true
    · rw [if_pos g7]
      simp only [cs h2, ld1_ptr, k0, k4, k6, k7, k8, k9, k10, gd_undef, uNot_bool, decide_true, decide_false, Bool.not_true, Bool.not_false, gd_true, gd_false, stepG_true, stepG_false, stepE_true, stepE_false, stepM_true, stepM_false, pPick_true, pPick_false, pFieldAddr_ptr, Nat.zero_add, bindP_some, ifB_true, ifB_false, bLt_int, bGt_int, bNe_int, bNe_str, bs_beq, bs_inj]
      by_cases g2 : r.e.level < 1
      · have ho : okR r = false := by
          have : ¬ (1 ≤ r.e.level) := by omega
          simp [okR, this]
        simp only [g2, cs h2, ld1_ptr, k0, k4, k6, k7, k8, k9, k10, gd_undef, uNot_bool, decide_true, decide_false, Bool.not_true, Bool.not_false, gd_true, gd_false, stepG_true, stepG_false, stepE_true, stepE_false, stepM_true, stepM_false, pPick_true, pPick_false, pFieldAddr_ptr, Nat.zero_add, bindP_some, ifB_true, ifB_false, bLt_int, bGt_int, bNe_int, bNe_str, bs_beq, bs_inj]
        exact bad _ h2 ho
      · by_cases g3 : r.tally < 1
        · have ho : okR r = false := by
            have : ¬ (1 ≤ r.tally) := by omega
            simp [okR, this]
          simp only [g2, g3, cs h2, ld1_ptr, k0, k4, k6, k7, k8, k9, k10, gd_undef, uNot_bool, decide_true, decide_false, Bool.not_true, Bool.not_false, gd_true, gd_false, stepG_true, stepG_false, stepE_true, stepE_false, stepM_true, stepM_false, pPick_true, pPick_false, pFieldAddr_ptr, Nat.zero_add, bindP_some, ifB_true, ifB_false, bLt_int, bGt_int, bNe_int, bNe_str, bs_beq, bs_inj]
          exact bad _ h2 ho
        · by_cases g4 : r.tally > 1099511627776
          · have ho : okR r = false := by
              have : ¬ (r.tally ≤ 1099511627776) := by omega
              simp [okR, this]
            simp only [g2, g3, g4, cs h2, ld1_ptr, k0, k4, k6, k7, k8, k9, k10, gd_undef, uNot_bool, decide_true, decide_false, Bool.not_true, Bool.not_false, gd_true, gd_false, stepG_true, stepG_false, stepE_true, stepE_false, stepM_true, stepM_false, pPick_true, pPick_false, pFieldAddr_ptr, Nat.zero_add, bindP_some, ifB_true, ifB_false, bLt_int, bGt_int, bNe_int, bNe_str, bs_beq, bs_inj]
            exact bad _ h2 ho
          · simp only [g2, g3, g4, cs h2, ld1_ptr, k0, k4, k6, k7, k8, k9, k10, gd_undef, uNot_bool, decide_true, decide_false, Bool.not_true, Bool.not_false, gd_true, gd_false, stepG_true, stepG_false, stepE_true, stepE_false, stepM_true, stepM_false, pPick_true, pPick_false, pFieldAddr_ptr, Nat.zero_add, bindP_some, ifB_true, ifB_false, bLt_int, bGt_int, bNe_int, bNe_str, bs_beq, bs_inj]
            refine fbistime_spec ?_
            by_cases t1 : timeP r.first = true
            · simp only [t1, cs h2, ld1_ptr, k0, k4, k6, k7, k8, k9, k10, gd_undef, uNot_bool, decide_true, decide_false, Bool.not_true, Bool.not_false, gd_true, gd_false, stepG_true, stepG_false, stepE_true, stepE_false, stepM_true, stepM_false, pPick_true, pPick_false, pFieldAddr_ptr, Nat.zero_add, bindP_some, ifB_true, ifB_false, bLt_int, bGt_int, bNe_int, bNe_str, bs_beq, bs_inj]
              refine fbistime_spec ?_
              by_cases t2 : timeP r.last = true
              · simp only [t2, cs h2, ld1_ptr, k0, k4, k6, k7, k8, k9, k10, gd_undef, uNot_bool, decide_true, decide_false, Bool.not_true, Bool.not_false, gd_true, gd_false, stepG_true, stepG_false, stepE_true, stepE_false, stepM_true, stepM_false, pPick_true, pPick_false, pFieldAddr_ptr, Nat.zero_add, bindP_some, ifB_true, ifB_false, bLt_int, bGt_int, bNe_int, bNe_str, bs_beq, bs_inj]
                by_cases t3 : r.first > r.last
                · have ho : okR r = false := by
                    have : ¬ (r.first ≤ r.last) := by omega
                    simp [okR, timesR, this]
                  simp only [t3, ld1_ptr, k0, k4, k6, k7, k8, k9, k10, gd_undef, uNot_bool, decide_true, decide_false, Bool.not_true, Bool.not_false, gd_true, gd_false, stepG_true, stepG_false, stepE_true, stepE_false, stepM_true, stepM_false, pPick_true, pPick_false, pFieldAddr_ptr, Nat.zero_add, bindP_some, ifB_true, ifB_false, bLt_int, bGt_int, bNe_int, bNe_str, bs_beq, bs_inj]
                  exact bad _ h2 ho
                · have tt : timesR r = true := by
                    have : r.first ≤ r.last := by omega
                    simp [timesR, t1, t2, this]
                  have fin : ∀ w', Sat w0 (Cl p (cRow r).toArray 33 :: L) w' → whoR r = true → K (.int .i64 0) w' := by
                    intro w' hs hwho
                    have hk := hK _ hs.drop
                    have ho : okR r = true := by
                      have a1 : 1 ≤ r.id := by omega
                      have a2 : 1 ≤ r.e.level := by omega
                      have a3 : 1 ≤ r.tally := by omega
                      have a4 : r.tally ≤ 1099511627776 := by omega
                      simp [okR, a1, a2, a3, a4, tt, hwho, g7]
                    unfold chkR at hk
                    rw [if_pos ho] at hk
                    exact hk
                  simp only [t3, cs h2, ld1_ptr, k0, k4, k6, k7, k8, k9, k10, gd_undef, uNot_bool, decide_true, decide_false, Bool.not_true, Bool.not_false, gd_true, gd_false, stepG_true, stepG_false, stepE_true, stepE_false, stepM_true, stepM_false, pPick_true, pPick_false, pFieldAddr_ptr, Nat.zero_add, bindP_some, ifB_true, ifB_false, bLt_int, bGt_int, bNe_int, bNe_str, bs_beq, bs_inj]
                  by_cases ha : r.acked = true
                  · simp only [ha, cs h2, ld1_ptr, k0, k4, k6, k7, k8, k9, k10, gd_undef, uNot_bool, decide_true, decide_false, Bool.not_true, Bool.not_false, gd_true, gd_false, stepG_true, stepG_false, stepE_true, stepE_false, stepM_true, stepM_false, pPick_true, pPick_false, pFieldAddr_ptr, Nat.zero_add, bindP_some, ifB_true, ifB_false, bLt_int, bGt_int, bNe_int, bNe_str, bs_beq, bs_inj]
                    refine fiswho_spec hw h2 fun w3 h3 => ?_
                    by_cases hq : whoP r.who = true
                    · simp only [hq, ha, cs h3, ld1_ptr, k0, k4, k6, k7, k8, k9, k10, gd_undef, uNot_bool, decide_true, decide_false, Bool.not_true, Bool.not_false, gd_true, gd_false, stepG_true, stepG_false, stepE_true, stepE_false, stepM_true, stepM_false, pPick_true, pPick_false, pFieldAddr_ptr, Nat.zero_add, bindP_some, ifB_true, ifB_false, bLt_int, bGt_int, bNe_int, bNe_str, bs_beq, bs_inj]
                      exact fin _ h3 (by simp [whoR, ha, hq])
                    · have hq' : whoP r.who = false := by simpa using hq
                      simp only [hq', ha, cs h3, ld1_ptr, k0, k4, k6, k7, k8, k9, k10, gd_undef, uNot_bool, decide_true, decide_false, Bool.not_true, Bool.not_false, gd_true, gd_false, stepG_true, stepG_false, stepE_true, stepE_false, stepM_true, stepM_false, pPick_true, pPick_false, pFieldAddr_ptr, Nat.zero_add, bindP_some, ifB_true, ifB_false, bLt_int, bGt_int, bNe_int, bNe_str, bs_beq, bs_inj]
                      exact bad _ h3 (by simp [okR, whoR, ha, hq'])
                  · have ha' : r.acked = false := by simpa using ha
                    by_cases hq : r.who = []
                    · simp only [ha', hq, cs h2, ld1_ptr, k0, k4, k6, k7, k8, k9, k10, gd_undef, uNot_bool, decide_true, decide_false, Bool.not_true, Bool.not_false, gd_true, gd_false, stepG_true, stepG_false, stepE_true, stepE_false, stepM_true, stepM_false, pPick_true, pPick_false, pFieldAddr_ptr, Nat.zero_add, bindP_some, ifB_true, ifB_false, bLt_int, bGt_int, bNe_int, bNe_str, bs_beq, bs_inj]
                      exact fin _ h2 (by simp [whoR, ha', hq])
                    · simp only [ha', hq, cs h2, ld1_ptr, k0, k4, k6, k7, k8, k9, k10, gd_undef, uNot_bool, decide_true, decide_false, Bool.not_true, Bool.not_false, gd_true, gd_false, stepG_true, stepG_false, stepE_true, stepE_false, stepM_true, stepM_false, pPick_true, pPick_false, pFieldAddr_ptr, Nat.zero_add, bindP_some, ifB_true, ifB_false, bLt_int, bGt_int, bNe_int, bNe_str, bs_beq, bs_inj]
                      exact bad _ h2 (by simp [okR, whoR, ha', hq])
              · have t2' : timeP r.last = false := by simpa using t2
                simp only [t2', cs h2, ld1_ptr, k0, k4, k6, k7, k8, k9, k10, gd_undef, uNot_bool, decide_true, decide_false, Bool.not_true, Bool.not_false, gd_true, gd_false, stepG_true, stepG_false, stepE_true, stepE_false, stepM_true, stepM_false, pPick_true, pPick_false, pFieldAddr_ptr, Nat.zero_add, bindP_some, ifB_true, ifB_false, bLt_int, bGt_int, bNe_int, bNe_str, bs_beq, bs_inj]
                exact bad _ h2 (by simp [okR, timesR, t2'])
            · have t1' : timeP r.first = false := by simpa using t1
              simp only [t1', cs h2, ld1_ptr, k0, k4, k6, k7, k8, k9, k10, gd_undef, uNot_bool, decide_true, decide_false, Bool.not_true, Bool.not_false, gd_true, gd_false, stepG_true, stepG_false, stepE_true, stepE_false, stepM_true, stepM_false, pPick_true, pPick_false, pFieldAddr_ptr, Nat.zero_add, bindP_some, ifB_true, ifB_false, bLt_int, bGt_int, bNe_int, bNe_str, bs_beq, bs_inj]
              exact bad _ h2 (by simp [okR, timesR, t1'])
    · have ho : okR r = false := by
        have g7' : okE r.e = false := by simpa using g7
        simp [okR, g7']
      rw [if_neg g7]
      have e1 : decide ((180 : Int) = 0) = false := by decide
      simp only [e1, ld1_ptr, k0, k4, k6, k7, k8, k9, k10, gd_undef, uNot_bool, decide_true, decide_false, Bool.not_true, Bool.not_false, gd_true, gd_false, stepG_true, stepG_false, stepE_true, stepE_false, stepM_true, stepM_false, pPick_true, pPick_false, pFieldAddr_ptr, Nat.zero_add, bindP_some, ifB_true, ifB_false, bLt_int, bGt_int, bNe_int, bNe_str, bs_beq, bs_inj]
      exact bad _ h2 ho
end
end Go.Proofs.Gong

/- Ob0 -/
namespace Go.Proofs.Gong
open Go Go.Sx Go.Proofs
set_option maxRecDepth 100000
structure Tk where
  seq : Int
  what : Int
  r : Row
@[reducible] def cTk (t : Tk) : List Value := [.int .i64 t.seq, .int .i64 t.what, .int .i64 t.r.id, .string (bs t.r.e.node), .string (bs t.r.e.cls), .string (bs t.r.e.key), .int .i64 t.r.e.level, .string (bs t.r.e.text), .int .i64 t.r.tally, .int .i64 t.r.first, .int .i64 t.r.last, .bool t.r.acked, .string (bs t.r.who)]
abbrev tkV (t : Tk) : Value := .agg (cTk t).toArray
structure Ltr where
  t : Tk
  sent : Nat
  at_ : Int
abbrev lKey (x : Ltr) : Int := x.t.seq
def pauseN (base top : Int) : Nat → Int
  | 0 => base
  | k + 1 => min (2 * pauseN base top k) top
structure Ob where
  most : Int
  base : Int
  top : Int
  last : Int
  refused : Int
  mark : Int
  ls : List Ltr
def okTk (t : Tk) : Bool := decide (1 ≤ t.seq) && decide (t.seq ≤ 1152921504606846976) && decide (1 ≤ t.what) && decide (t.what ≤ 5) && okR t.r
def newO (most base top : Int) : Ob := ⟨most, base, top, 0, 0, 0, []⟩
def putO (what : Int) (r : Row) (o : Ob) : (Int × Int) × Ob :=
  if (decide (what < 1) || decide (5 < what) || !okR r) = true then ((0, 4), o) else
  if o.most ≤ (o.ls.length : Int) then ((0, 200), { o with refused := o.refused + 1 }) else
  ((o.last + 1, 0), { o with last := o.last + 1, ls := o.ls ++ [⟨⟨o.last + 1, what, r⟩, 0, 0⟩] })
abbrev lGet (n : Int) (ls : List Ltr) : Option Ltr := kGet lKey n ls
abbrev lDel (n : Int) (ls : List Ltr) : List Ltr := kDel lKey n ls
def ackO (n : Int) (o : Ob) : Int × Ob := if (lGet n o.ls).isSome = true then (0, { o with ls := lDel n o.ls }) else (5, o)
def markO (n : Int) (o : Ob) : Int × Ob := if n < o.mark ∨ o.last < n then (1, o) else (0, { o with mark := n })
def mayO (o : Ob) (now : Int) (x : Ltr) : Bool := decide (x.t.seq ≤ o.mark) && decide (x.at_ ≤ now)
def sendO (o : Ob) (now : Int) (x : Ltr) : Ltr := ⟨x.t, x.sent + 1, min (now + pauseN o.base o.top x.sent) 2305843009213693952⟩
def stepO (o : Ob) (now : Int) (x : Ltr) : Ltr := if mayO o now x = true then sendO o now x else x
def dueO (now : Int) (o : Ob) : Option (List Tk) × Ob :=
  if timeP now = false then (none, o) else (some ((o.ls.filter (mayO o now)).map (·.t)), { o with ls := o.ls.map (stepO o now) })
def soonStep (m : Int) (a : Int × Bool) (x : Ltr) : Int × Bool := if x.t.seq ≤ m ∧ (a.2 = false ∨ x.at_ < a.1) then (x.at_, true) else a
def soonO (o : Ob) : Int × Bool := o.ls.foldl (soonStep o.mark) (0, false)
def allO (o : Ob) : List Tk := o.ls.map (·.t)
abbrev tKey (t : Tk) : Int := t.seq
def loadStepO (last : Int) (ts : List Tk) (t : Tk) : Option (List Tk) := if okTk t = true ∧ t.seq ≤ last ∧ (∀ d ∈ ts, d.seq ≠ t.seq) then some (kIns ltI tKey t ts) else none
def loadT (last : Int) : List Tk → List Tk → Option (List Tk)
  | [], ts => some ts
  | t :: l, ts => (loadStepO last ts t).bind (loadT last l)
def loadO (l : List Tk) (last refused : Int) (o : Ob) : Int × Ob :=
  if last < 0 ∨ 1152921504606846976 < last ∨ refused < 0 ∨ 1152921504606846976 < refused then (4, o) else match loadT last l [] with
  | none => (4, o)
  | some ds => if o.most < (l.length : Int) then (200, o) else (0, { o with last := last, refused := refused, mark := last, ls := ds.map fun t => ⟨t, 0, 0⟩ })
structure OOk (o : Ob) : Prop where
  most : 1 ≤ o.most ∧ o.most ≤ 65536
  base : 1 ≤ o.base ∧ o.base ≤ o.top ∧ o.top ≤ 144115188075855872
  len : (o.ls.length : Int) ≤ o.most
  last : 0 ≤ o.last ∧ o.last ≤ 2305843009213693952
  refused : 0 ≤ o.refused ∧ o.refused ≤ 2305843009213693952
  mark : 0 ≤ o.mark ∧ o.mark ≤ o.last
  asc : KAsc ltI lKey o.ls
  ok : ∀ x ∈ o.ls, 1 ≤ x.t.seq ∧ x.t.seq ≤ o.last ∧ 0 ≤ x.at_ ∧ x.at_ ≤ 2305843009213693952 ∧ okR x.t.r = true ∧ 1 ≤ x.t.what ∧ x.t.what ≤ 5
theorem newO_ok {most base top : Int} (h1 : 1 ≤ most ∧ most ≤ 65536) (h2 : 1 ≤ base ∧ base ≤ top ∧ top ≤ 144115188075855872) : OOk (newO most base top) :=
  ⟨h1, h2, by simp [newO]; omega, by simp [newO], by simp [newO], by simp [newO], .nil, by simp [newO]⟩
theorem pauseN_bd {base top : Int} (h : 1 ≤ base ∧ base ≤ top) : ∀ k, 1 ≤ pauseN base top k ∧ pauseN base top k ≤ top
  | 0 => h
  | k + 1 => by have := pauseN_bd h k; simp only [pauseN]; omega
theorem pauseN_top {base top : Int} (h : 1 ≤ base ∧ base ≤ top) {k : Nat} (hk : pauseN base top k = top) : ∀ j, pauseN base top (k + j) = top
  | 0 => hk
  | j + 1 => by
    have := pauseN_top h hk j
    rw [← Nat.add_assoc]
    simp only [pauseN, this]; omega
section
variable {o : Ob} (H : OOk o)
include H
theorem putO_ok {what : Int} {r : Row} (hl : o.last < 2305843009213693952) (hr : o.refused < 2305843009213693952) : OOk (putO what r o).2 := by
  unfold putO
  split
  · exact H
  rename_i h1
  simp only [Bool.or_eq_true, decide_eq_true_eq, Bool.not_eq_true', not_or, Bool.not_eq_false] at h1
  split
  · exact ⟨H.most, H.base, H.len, H.last, by have := H.refused; simp; omega, H.mark, H.asc, H.ok⟩
  · rename_i h2
    have hlast := H.last
    have hm := H.mark
    refine ⟨H.most, H.base, by simp; omega, by simp; omega, H.refused, by simp; omega, ?_, fun x hx => ?_⟩
    · unfold KAsc
      rw [List.pairwise_append]
      refine ⟨H.asc, by simp, fun a ha b hb => ?_⟩
      simp at hb; subst hb
      have := H.ok a ha
      simp [ltI, lKey]; omega
    · rcases List.mem_append.1 hx with hx | hx
      · have := H.ok x hx
        refine ⟨this.1, ?_, this.2.2⟩
        simp; omega
      · simp at hx; subst hx
        refine ⟨by simp; omega, by simp, by simp, by simp, by simpa using h1.2, by simp; omega, by simp; omega⟩
theorem ackO_ok {n : Int} : OOk (ackO n o).2 := by
  unfold ackO
  split
  · have := kDel_len (key := lKey) (l := o.ls) (k := n)
    exact ⟨H.most, H.base, by have := H.len; show ((lDel n o.ls).length : Int) ≤ o.most; unfold lDel; omega, H.last, H.refused, H.mark, kDel_asc H.asc, fun x hx => H.ok x (kDel_sub x hx)⟩
  · exact H
theorem markO_ok {n : Int} : OOk (markO n o).2 := by
  unfold markO
  split
  · exact H
  · have := H.mark
    exact ⟨H.most, H.base, H.len, H.last, H.refused, by simp; omega, H.asc, H.ok⟩
omit H in
theorem stepO_t {now : Int} {x : Ltr} : (stepO o now x).t = x.t := by unfold stepO; split <;> rfl
theorem dueO_ok {now : Int} : OOk (dueO now o).2 := by
  unfold dueO
  split
  · exact H
  · rename_i ht
    have ht' : 0 ≤ now ∧ now ≤ 2305843009213693952 := by
      have h9 : timeP now = true := by simpa using ht
      unfold timeP at h9; simpa using h9
    refine ⟨H.most, H.base, by simpa using H.len, H.last, H.refused, H.mark, ?_, fun x hx => ?_⟩
    · unfold KAsc
      rw [List.pairwise_map]
      exact H.asc.imp fun h => by simp only [lKey, stepO_t]; exact h
    · obtain ⟨y, hy, rfl⟩ := List.mem_map.1 hx
      have hk := H.ok y hy
      rw [stepO_t]
      refine ⟨hk.1, hk.2.1, ?_⟩
      unfold stepO
      split
      · have := pauseN_bd (base := o.base) (top := o.top) ⟨H.base.1, H.base.2.1⟩ y.sent
        refine ⟨?_, ?_, hk.2.2.2.2⟩ <;> (simp only [sendO]; omega)
      · exact hk.2.2
end
theorem loadT_perm {last : Int} : ∀ {l o ds : List Tk}, loadT last l o = some ds → ds.Perm (o ++ l)
  | [], o, ds, h => by simp [loadT] at h; subst h; simp
  | t :: l, o, ds, h => by
    unfold loadT loadStepO at h
    split at h
    · exact (loadT_perm (l := l) h).trans (((kIns_perm t o).append_right l).trans List.perm_middle.symm)
    · cases h
theorem loadT_asc {last : Int} : ∀ {l o ds : List Tk}, KAsc ltI tKey o → loadT last l o = some ds → KAsc ltI tKey ds ∧ ∀ t ∈ l, okTk t = true ∧ t.seq ≤ last
  | [], o, ds, ha, h => by simp [loadT] at h; subst h; exact ⟨ha, by simp⟩
  | t :: l, o, ds, ha, h => by
    unfold loadT loadStepO at h
    split at h
    · rename_i g
      obtain ⟨h1, h2⟩ := loadT_asc (l := l) (kIns_asc STO.int ha g.2.2) h
      refine ⟨h1, fun x hx => ?_⟩
      rcases List.mem_cons.1 hx with rfl | hx
      · exact ⟨g.1, g.2.1⟩
      · exact h2 x hx
    · cases h
theorem okTk_parts {t : Tk} (h : okTk t = true) : 1 ≤ t.seq ∧ t.seq ≤ 1152921504606846976 ∧ 1 ≤ t.what ∧ t.what ≤ 5 ∧ okR t.r = true := by
  unfold okTk at h
  simp only [Bool.and_eq_true, decide_eq_true_eq] at h
  exact ⟨h.1.1.1.1, h.1.1.1.2, h.1.1.2, h.1.2, h.2⟩
theorem loadO_ok {o : Ob} (H : OOk o) {l : List Tk} {last refused : Int} : OOk (loadO l last refused o).2 := by
  unfold loadO
  split
  · exact H
  rename_i h1
  split
  · exact H
  rename_i ds hd
  split
  · exact H
  rename_i h2
  have hp := loadT_perm hd
  rw [List.nil_append] at hp
  obtain ⟨ha, hg⟩ := loadT_asc .nil hd
  have hl := hp.length_eq
  refine ⟨H.most, H.base, by simp; omega, by simp; omega, by simp; omega, by simp; omega, ?_, fun x hx => ?_⟩
  · unfold KAsc; rw [List.pairwise_map]; exact ha
  · obtain ⟨t, ht, rfl⟩ := List.mem_map.1 hx
    obtain ⟨h3, h4⟩ := hg t (hp.mem_iff.1 ht)
    have := okTk_parts h3
    exact ⟨this.1, h4, by simp, by simp, this.2.2.2.2, this.2.2.1, this.2.2.2.1⟩
end Go.Proofs.Gong

/- Ob1 -/
namespace Go.Proofs.Gong
open Go Go.Sx Go.Proofs
set_option maxRecDepth 100000
def evO1 : Evt := ⟨[110], [99], [], 3, []⟩
def rowO (n : Int) : Row := ⟨1 + bel n 50, evO1, 1 + bel (n.tdiv 50) 9, 0, 0, false, []⟩
theorem okE_O1 : okE evO1 = true := by decide +kernel
theorem bel_bd (x : Int) {n : Int} (h : 0 < n) : 0 ≤ bel x n ∧ bel x n < n := by
  unfold bel
  have h1 := Int.tmod_lt_of_pos x h
  have h2 := Int.lt_tmod_of_pos x h
  have h3 : 0 ≤ x.tmod n + n := by omega
  exact ⟨Int.tmod_nonneg _ h3, Int.tmod_lt_of_pos _ h⟩
theorem okR_O (n : Int) : okR (rowO n) = true := by
  have h1 := bel_bd n (n := 50) (by decide)
  have h2 := bel_bd (n.tdiv 50) (n := 9) (by decide)
  have e1 : timesR (rowO n) = true := by unfold timesR; simp [rowO, timeP]
  have e2 : whoR (rowO n) = true := by unfold whoR; simp [rowO]
  have e3 : (rowO n).e.level = 3 := rfl
  have e4 : (rowO n).e = evO1 := rfl
  unfold okR
  rw [e1, e2, e3, e4, okE_O1]
  simp only [rowO, Bool.and_true, Bool.and_eq_true, decide_eq_true_eq]
  exact ⟨⟨⟨decide_eq_true (by omega), by decide⟩, decide_eq_true (by omega)⟩, decide_eq_true (by omega)⟩
theorem rowO_fits (n : Int) : (rowO n).e.fits ∧ (rowO n).who.length < 1073741824 := by
  unfold Evt.fits; simp [rowO, evO1]
end Go.Proofs.Gong

/- Outbox1 -/
namespace Go.Proofs.Gong
open Go Go.Sx Go.Proofs
set_option linter.all false
set_option maxRecDepth 100000
variable {kn kr : ET} {ke : JT}
def T5 : List (Nat × FnT) := []
def F5 (x0 x1 x2 : Value) (w : World) (K : V1) : Prop :=
bindP (bLt x0 (.int .i64 1)) fun v1 =>
stepM (gd false v1) x0 fun v2 =>
Sx.stepG (gd false v1) (bGt v2 (.int .i64 65536)) fun v3 =>
bindP (pPick v1 (.bool true) v3) fun v4 =>
stepM (gd false v4) x1 fun v5 =>
Sx.stepG (gd false v4) (bLt v5 (.int .i64 1)) fun v6 =>
bindP (pPick v4 (.bool true) v6) fun v7 =>
stepM (gd false v7) x1 fun v8 =>
stepM (gd false v7) x2 fun v9 =>
Sx.stepG (gd false v7) (bGt v8 v9) fun v10 =>
bindP (pPick v7 (.bool true) v10) fun v11 =>
stepM (gd false v11) x2 fun v12 =>
Sx.stepG (gd false v11) (bGt v12 (.int .i64 144115188075855872)) fun v13 =>
bindP (pPick v11 (.bool true) v13) fun v14 =>
ifB v14 (
K (.tuple #[(.pointer none), (.int .i64 1)]) w) (
eMakeMap none w fun v16 w15 =>
bindP (fBuild Tryd.prog 57 [(0, x0), (1, x1), (2, x2), (6, v16)]) fun v17 =>
eBox 57 v17 w15 fun v19 w18 =>
K (.tuple #[v19, (.int .i64 0)]) w18)
def G5 : FnT := fun args w K => on3 (fun x0 x1 x2 => F5 x0 x1 x2 w K) args
theorem c5 {x0 x1 x2 : Value} {w : World} {K : V1} (h : F5 x0 x1 x2 w K) : callP G5 [x0, x1, x2] w K := callP_intro (on3_mk (p := fun x0 x1 x2 => F5 x0 x1 x2 w K) h)
theorem ok5 : OkF Tryd.prog 5 G5 := by
  refine okF_of (tab_ok (l := T5) trivial) mixed (n := fuel) Tryd.func5 Tryd.call5 fun args w K h => ?_
  obtain ⟨x0, x1, x2, rfl, hh⟩ := of_on3 h
  exact fnD_list (c := bodyOf Tryd.f5) (by kernel_rfl) (by kernel_rfl) (Eq.mp (by kernel_rfl) hh)
def T23 : List (Nat × FnT) := []
def F23 (x0 x1 : Value) (w : World) (K : V1) : Prop :=
eBox 61 x1 w fun v2 w1 =>
bindP (pNil x0) fun v3 =>
bindP (pFieldAddr 6 v3) fun v4 =>
bindP (ld1 v4 w1.drew) fun v5 =>
bindP (pFieldAddr 0 v2) fun v6 =>
bindP (ld1 v6 w1.drew) fun v7 =>
bindP (ldN 13 v2 w1.drew) fun v8 =>
bindP (pNil x0) fun v9 =>
bindP (pFieldAddr 1 v9) fun v10 =>
bindP (ld1 v10 w1.drew) fun v11 =>
bindP (fBuild Tryd.prog 63 [(0, v8), (1, v11)]) fun v12 =>
eMapSet Tryd.prog 55 v5 v7 v12 w1.drew fun _ w13 =>
K (.tuple #[]) w13
def G23 : FnT := fun args w K => on2 (fun x0 x1 => F23 x0 x1 w K) args
theorem c23 {x0 x1 : Value} {w : World} {K : V1} (h : F23 x0 x1 w K) : callP G23 [x0, x1] w K := callP_intro (on2_mk (p := fun x0 x1 => F23 x0 x1 w K) h)
theorem ok23 : OkF Tryd.prog 23 G23 := by
  refine okF_of (tab_ok (l := T23) trivial) mixed (n := fuel) Tryd.func23 Tryd.call23 fun args w K h => ?_
  obtain ⟨x0, x1, rfl, hh⟩ := of_on2 h
  exact fnD_list (c := bodyOf Tryd.f23) (by kernel_rfl) (by kernel_rfl) (Eq.mp (by kernel_rfl) hh)
def T7 : List (Nat × FnT) := [(22, G22), (23, G23)]
def F7 (x0 x1 x2 : Value) (w : World) (K : V1) : Prop :=
eBox 33 x2 w fun v2 w1 =>
bindP (bLt x1 (.int .i64 1)) fun v3 =>
stepM (gd false v3) x1 fun v4 =>
Sx.stepG (gd false v3) (bGt v4 (.int .i64 5)) fun v5 =>
bindP (pPick v3 (.bool true) v5) fun v6 =>
Sx.stepG (gd false v6) (ldN 11 v2 w1) fun v7 =>
stepE (gd false v6) (fun k => callP G22 [v7] w1 k) w1 fun v9 w8 =>
Sx.stepG (gd false v6) (bNe Tryd.prog 24 (.tmp 17) (.const (.int .i64 0)) v9 (.int .i64 0)) fun v10 =>
bindP (pPick v6 (.bool true) v10) fun v11 =>
ifB v11 (
K (.tuple #[(.int .i64 0), (.int .i64 4)]) w8) (
bindP (pNil x0) fun v12 =>
bindP (pFieldAddr 6 v12) fun v13 =>
bindP (ld1 v13 w8.drew) fun v14 =>
bindP (lenM v14 w8.drew) fun v15 =>
bindP (pNil x0) fun v16 =>
bindP (pFieldAddr 0 v16) fun v17 =>
bindP (ld1 v17 w8.drew) fun v18 =>
bindP (bGe v15 v18) fun v19 =>
ifB v19 (
bindP (pNil x0) fun v20 =>
bindP (pFieldAddr 4 v20) fun v21 =>
bindP (ld1 v21 w8.drew) fun v22 =>
bindP (bAdd v22 (.int .i64 1)) fun v23 =>
bindP (pNil x0) fun v24 =>
bindP (pFieldAddr 4 v24) fun v25 =>
bindW (st 1 v25 v23 w8.drew) fun w26 =>
K (.tuple #[(.int .i64 0), (.int .i64 200)]) w26) (
bindP (pNil x0) fun v28 =>
bindP (pFieldAddr 3 v28) fun v29 =>
bindP (ld1 v29 w8.drew) fun v30 =>
bindP (bAdd v30 (.int .i64 1)) fun v31 =>
bindP (pNil x0) fun v32 =>
bindP (pFieldAddr 3 v32) fun v33 =>
bindW (st 1 v33 v31 w8.drew) fun w34 =>
bindP (pNil x0) fun v36 =>
bindP (pFieldAddr 3 v36) fun v37 =>
bindP (ld1 v37 w34.drew) fun v38 =>
bindP (ldN 11 v2 w34.drew) fun v39 =>
bindP (fBuild Tryd.prog 61 [(0, v38), (1, x1), (2, v39)]) fun v40 =>
callP G23 [x0, v40] w34.drew fun _ w41 =>
bindP (pNil x0) fun v43 =>
bindP (pFieldAddr 3 v43) fun v44 =>
bindP (ld1 v44 w41) fun v45 =>
K (.tuple #[v45, (.int .i64 0)]) w41))
def G7 : FnT := fun args w K => on3 (fun x0 x1 x2 => F7 x0 x1 x2 w K) args
theorem c7 {x0 x1 x2 : Value} {w : World} {K : V1} (h : F7 x0 x1 x2 w K) : callP G7 [x0, x1, x2] w K := callP_intro (on3_mk (p := fun x0 x1 x2 => F7 x0 x1 x2 w K) h)
theorem ok7 : OkF Tryd.prog 7 G7 := by
  refine okF_of (tab_ok (l := T7) ⟨ok22, ok23, trivial⟩) mixed (n := fuel) Tryd.func7 Tryd.call7 fun args w K h => ?_
  obtain ⟨x0, x1, x2, rfl, hh⟩ := of_on3 h
  exact fnD_list (c := bodyOf Tryd.f7) (by kernel_rfl) (by kernel_rfl) (Eq.mp (by kernel_rfl) hh)
def T9 : List (Nat × FnT) := []
def F9 (x0 x1 : Value) (w : World) (K : V1) : Prop :=
bindP (pNil x0) fun v1 =>
bindP (pFieldAddr 6 v1) fun v2 =>
bindP (ld1 v2 w) fun v3 =>
bindP (fLook Tryd.prog 55 v3 x1 true w) fun v4 =>
bindP (pTuple v4 0) fun v5 =>
bindP (pTuple v4 1) fun v6 =>
eAlloc Tryd.prog 63 w fun v8 w7 =>
bindW (st 15 v8 v5 w7) fun w9 =>
bindP (uNot v6) fun v11 =>
ifB v11 (
K (.int .i64 5) w9) (
bindP (pNil x0) fun v12 =>
bindP (pFieldAddr 6 v12) fun v13 =>
bindP (ld1 v13 w9) fun v14 =>
eDelete Tryd.prog 55 v14 x1 w9 fun _ w15 =>
K (.int .i64 0) w15)
def G9 : FnT := fun args w K => on2 (fun x0 x1 => F9 x0 x1 w K) args
theorem c9 {x0 x1 : Value} {w : World} {K : V1} (h : F9 x0 x1 w K) : callP G9 [x0, x1] w K := callP_intro (on2_mk (p := fun x0 x1 => F9 x0 x1 w K) h)
theorem ok9 : OkF Tryd.prog 9 G9 := by
  refine okF_of (tab_ok (l := T9) trivial) mixed (n := fuel) Tryd.func9 Tryd.call9 fun args w K h => ?_
  obtain ⟨x0, x1, rfl, hh⟩ := of_on2 h
  exact fnD_list (c := bodyOf Tryd.f9) (by kernel_rfl) (by kernel_rfl) (Eq.mp (by kernel_rfl) hh)
def T21 : List (Nat × FnT) := []
def F21 (x0 x1 : Value) (w : World) (K : V1) : Prop :=
bindP (pNil x0) fun v1 =>
bindP (pFieldAddr 5 v1) fun v2 =>
bindP (ld1 v2 w) fun v3 =>
bindP (bLt x1 v3) fun v4 =>
stepM (gd false v4) x1 fun v5 =>
stepM (gd false v4) x0 fun v6 =>
Sx.stepG (gd false v4) (pNil v6) fun v7 =>
Sx.stepG (gd false v4) (pFieldAddr 3 v7) fun v8 =>
Sx.stepG (gd false v4) (ld1 v8 w) fun v9 =>
Sx.stepG (gd false v4) (bGt v5 v9) fun v10 =>
bindP (pPick v4 (.bool true) v10) fun v11 =>
ifB v11 (
K (.int .i64 1) w) (
bindP (pNil x0) fun v12 =>
bindP (pFieldAddr 5 v12) fun v13 =>
bindW (st 1 v13 x1 w) fun w14 =>
K (.int .i64 0) w14)
def G21 : FnT := fun args w K => on2 (fun x0 x1 => F21 x0 x1 w K) args
theorem c21 {x0 x1 : Value} {w : World} {K : V1} (h : F21 x0 x1 w K) : callP G21 [x0, x1] w K := callP_intro (on2_mk (p := fun x0 x1 => F21 x0 x1 w K) h)
theorem ok21 : OkF Tryd.prog 21 G21 := by
  refine okF_of (tab_ok (l := T21) trivial) mixed (n := fuel) Tryd.func21 Tryd.call21 fun args w K h => ?_
  obtain ⟨x0, x1, rfl, hh⟩ := of_on2 h
  exact fnD_list (c := bodyOf Tryd.f21) (by kernel_rfl) (by kernel_rfl) (Eq.mp (by kernel_rfl) hh)
def T35 : List (Nat × FnT) := []
def F35 (x0 : Value) (w : World) (K : V1) : Prop :=
bindP (pNil x0) fun v1 =>
bindP (pFieldAddr 6 v1) fun v2 =>
bindP (ld1 v2 w) fun v3 =>
bindP (lenM v3 w) fun v4 =>
K v4 w
def G35 : FnT := fun args w K => on1 (fun x0 => F35 x0 w K) args
theorem c35 {x0 : Value} {w : World} {K : V1} (h : F35 x0 w K) : callP G35 [x0] w K := callP_intro (on1_mk (p := fun x0 => F35 x0 w K) h)
theorem ok35 : OkF Tryd.prog 35 G35 := by
  refine okF_of (tab_ok (l := T35) trivial) mixed (n := fuel) Tryd.func35 Tryd.call35 fun args w K h => ?_
  obtain ⟨x0, rfl, hh⟩ := of_on1 h
  exact fnD_list (c := bodyOf Tryd.f35) (by kernel_rfl) (by kernel_rfl) (Eq.mp (by kernel_rfl) hh)
def T13 : List (Nat × FnT) := []
def F13 (x0 : Value) (w : World) (K : V1) : Prop :=
bindP (pNil x0) fun v1 =>
bindP (pFieldAddr 3 v1) fun v2 =>
bindP (ld1 v2 w) fun v3 =>
K v3 w
def G13 : FnT := fun args w K => on1 (fun x0 => F13 x0 w K) args
theorem c13 {x0 : Value} {w : World} {K : V1} (h : F13 x0 w K) : callP G13 [x0] w K := callP_intro (on1_mk (p := fun x0 => F13 x0 w K) h)
theorem ok13 : OkF Tryd.prog 13 G13 := by
  refine okF_of (tab_ok (l := T13) trivial) mixed (n := fuel) Tryd.func13 Tryd.call13 fun args w K h => ?_
  obtain ⟨x0, rfl, hh⟩ := of_on1 h
  exact fnD_list (c := bodyOf Tryd.f13) (by kernel_rfl) (by kernel_rfl) (Eq.mp (by kernel_rfl) hh)
def T14 : List (Nat × FnT) := []
def F14 (x0 : Value) (w : World) (K : V1) : Prop :=
bindP (pNil x0) fun v1 =>
bindP (pFieldAddr 4 v1) fun v2 =>
bindP (ld1 v2 w) fun v3 =>
K v3 w
def G14 : FnT := fun args w K => on1 (fun x0 => F14 x0 w K) args
theorem c14 {x0 : Value} {w : World} {K : V1} (h : F14 x0 w K) : callP G14 [x0] w K := callP_intro (on1_mk (p := fun x0 => F14 x0 w K) h)
theorem ok14 : OkF Tryd.prog 14 G14 := by
  refine okF_of (tab_ok (l := T14) trivial) mixed (n := fuel) Tryd.func14 Tryd.call14 fun args w K h => ?_
  obtain ⟨x0, rfl, hh⟩ := of_on1 h
  exact fnD_list (c := bodyOf Tryd.f14) (by kernel_rfl) (by kernel_rfl) (Eq.mp (by kernel_rfl) hh)
def LayK40_ren : Go.Shelf.Ren := ⟨fun | 7 => 40 | 10 => 49 | n => n, fun | 23 => 55 | 26 => 3 | 3 => 63 | 28 => 80 | 0 => 0 | 27 => 79 | 33 => 75 | 4 => 4 | n => n, fun | n => n⟩
theorem LayK40 : Go.Proofs.SlLaysZI.n7 Tryd.prog LayK40_ren := {
  mixed := by kernel_rfl
  f7 := ⟨Tryd.f40.name, by decide, Tryd.func40.trans (congrArg some (by kernel_rfl))⟩
  f10 := ⟨Tryd.f49.name, by decide, Tryd.func49.trans (congrArg some (by kernel_rfl))⟩
  t0 := Tryd.underlying0
  a0 := Tryd.isAgg0
  z0 := Tryd.sizeOf0
  v0 := Tryd.zeroValue0
  t4 := Tryd.underlying4
  a4 := Tryd.isAgg4
  z4 := Tryd.sizeOf4
  v4 := Tryd.zeroValue4
  t23 := Tryd.underlying55
  a23 := Tryd.isAgg55
  z23 := Tryd.sizeOf55
  v23 := Tryd.zeroValue55
  t26 := Tryd.underlying3
  a26 := Tryd.isAgg3
  z26 := Tryd.sizeOf3
  v26 := Tryd.zeroValue3
  t27 := Tryd.underlying79
  a27 := Tryd.isAgg79
  z27 := Tryd.sizeOf79
  v27 := Tryd.zeroValue79
  t28 := Tryd.underlying80
  a28 := Tryd.isAgg80
  z28 := Tryd.sizeOf80
  v28 := Tryd.zeroValue80
  t33 := Tryd.underlying75
  a33 := Tryd.isAgg75
  z33 := Tryd.sizeOf75
  v33 := Tryd.zeroValue75 }
def LayS39_ren : Go.Shelf.Ren := ⟨fun | 6 => 39 | 8 => 47 | 9 => 48 | 11 => 56 | 13 => 58 | 12 => 57 | 23 => 71 | 24 => 72 | 14 => 62 | 15 => 63 | 16 => 64 | 17 => 65 | 18 => 66 | 19 => 67 | 20 => 68 | 21 => 69 | 22 => 70 | 25 => 77 | 26 => 78 | 27 => 79 | 28 => 80 | 29 => 81 | 30 => 82 | 31 => 84 | n => n, fun | 26 => 3 | 28 => 80 | 24 => 22 | 0 => 0 | 3 => 3 | 37 => 94 | 48 => 107 | 50 => 109 | 4 => 4 | 40 => 100 | 39 => 99 | 45 => 73 | 5 => 5 | 9 => 9 | 51 => 112 | 55 => 116 | 57 => 118 | 58 => 110 | 33 => 75 | n => n, fun | n => n⟩
theorem LayS39 : Go.Proofs.SlLaysZI.n6 Tryd.prog LayS39_ren := {
  mixed := by kernel_rfl
  f6 := ⟨Tryd.f39.name, by decide, Tryd.func39.trans (congrArg some (by kernel_rfl))⟩
  f8 := ⟨Tryd.f47.name, by decide, Tryd.func47.trans (congrArg some (by kernel_rfl))⟩
  f11 := ⟨Tryd.f56.name, by decide, Tryd.func56.trans (congrArg some (by kernel_rfl))⟩
  t0 := Tryd.underlying0
  a0 := Tryd.isAgg0
  z0 := Tryd.sizeOf0
  v0 := Tryd.zeroValue0
  t24 := Tryd.underlying22
  a24 := Tryd.isAgg22
  z24 := Tryd.sizeOf22
  v24 := Tryd.zeroValue22
  t26 := Tryd.underlying3
  a26 := Tryd.isAgg3
  z26 := Tryd.sizeOf3
  v26 := Tryd.zeroValue3
  t28 := Tryd.underlying80
  a28 := Tryd.isAgg80
  z28 := Tryd.sizeOf80
  v28 := Tryd.zeroValue80
  i26 := by kernel_rfl }
def LayM48_ren : Go.Shelf.Ren := ⟨fun | 5 => 48 | 8 => 58 | 7 => 57 | 19 => 71 | 20 => 72 | 10 => 62 | 11 => 63 | 12 => 64 | 13 => 65 | 14 => 66 | 15 => 67 | 16 => 68 | 17 => 69 | 18 => 70 | 30 => 77 | 31 => 78 | 32 => 79 | 33 => 80 | 34 => 81 | 35 => 82 | 40 => 84 | n => n, fun | 23 => 22 | 25 => 3 | 3 => 3 | 32 => 94 | 22 => 22 | 0 => 0 | 44 => 107 | 46 => 109 | 4 => 4 | 36 => 100 | 35 => 99 | 41 => 73 | 5 => 5 | 9 => 9 | 53 => 112 | 57 => 116 | 63 => 118 | 64 => 110 | n => n, fun | n => n⟩
theorem LayM48 : Go.Proofs.SlLaysM.n5 Tryd.prog LayM48_ren := {
  mixed := by kernel_rfl
  f5 := ⟨Tryd.f48.name, by decide, Tryd.func48.trans (congrArg some (by kernel_rfl))⟩
  f7 := ⟨Tryd.f57.name, by decide, Tryd.func57.trans (congrArg some (by kernel_rfl))⟩
  f8 := Tryd.func58.trans (congrArg some (by kernel_rfl))
  f10 := ⟨Tryd.f62.name, by decide, Tryd.func62.trans (congrArg some (by kernel_rfl))⟩
  f11 := ⟨Tryd.f63.name, by decide, Tryd.func63.trans (congrArg some (by kernel_rfl))⟩
  f12 := ⟨Tryd.f64.name, by decide, Tryd.func64.trans (congrArg some (by kernel_rfl))⟩
  f13 := ⟨Tryd.f65.name, by decide, Tryd.func65.trans (congrArg some (by kernel_rfl))⟩
  f14 := ⟨Tryd.f66.name, by decide, Tryd.func66.trans (congrArg some (by kernel_rfl))⟩
  f15 := ⟨Tryd.f67.name, by decide, Tryd.func67.trans (congrArg some (by kernel_rfl))⟩
  f16 := ⟨Tryd.f68.name, by decide, Tryd.func68.trans (congrArg some (by kernel_rfl))⟩
  f17 := ⟨Tryd.f69.name, by decide, Tryd.func69.trans (congrArg some (by kernel_rfl))⟩
  f18 := ⟨Tryd.f70.name, by decide, Tryd.func70.trans (congrArg some (by kernel_rfl))⟩
  f19 := Tryd.func71.trans (congrArg some (by kernel_rfl))
  f20 := Tryd.func72.trans (congrArg some (by kernel_rfl))
  f30 := ⟨Tryd.f77.name, by decide, Tryd.func77.trans (congrArg some (by kernel_rfl))⟩
  f31 := Tryd.func78.trans (congrArg some (by kernel_rfl))
  f32 := Tryd.func79.trans (congrArg some (by kernel_rfl))
  f33 := ⟨Tryd.f80.name, by decide, Tryd.func80.trans (congrArg some (by kernel_rfl))⟩
  f34 := ⟨Tryd.f81.name, by decide, Tryd.func81.trans (congrArg some (by kernel_rfl))⟩
  f35 := ⟨Tryd.f82.name, by decide, Tryd.func82.trans (congrArg some (by kernel_rfl))⟩
  f40 := ⟨Tryd.f84.name, by decide, Tryd.func84.trans (congrArg some (by kernel_rfl))⟩
  t0 := Tryd.underlying0
  a0 := Tryd.isAgg0
  z0 := Tryd.sizeOf0
  v0 := Tryd.zeroValue0
  t3 := Tryd.underlying3
  a3 := Tryd.isAgg3
  z3 := Tryd.sizeOf3
  v3 := Tryd.zeroValue3
  t4 := Tryd.underlying4
  a4 := Tryd.isAgg4
  z4 := Tryd.sizeOf4
  v4 := Tryd.zeroValue4
  t5 := Tryd.underlying5
  a5 := Tryd.isAgg5
  z5 := Tryd.sizeOf5
  v5 := Tryd.zeroValue5
  t9 := Tryd.underlying9
  a9 := Tryd.isAgg9
  z9 := Tryd.sizeOf9
  v9 := Tryd.zeroValue9
  t22 := Tryd.underlying22
  a22 := Tryd.isAgg22
  z22 := Tryd.sizeOf22
  v22 := Tryd.zeroValue22
  t23 := Tryd.underlying22
  a23 := Tryd.isAgg22
  z23 := Tryd.sizeOf22
  v23 := Tryd.zeroValue22
  t25 := Tryd.underlying3
  a25 := Tryd.isAgg3
  z25 := Tryd.sizeOf3
  v25 := Tryd.zeroValue3
  t32 := Tryd.underlying94
  a32 := Tryd.isAgg94
  z32 := Tryd.sizeOf94
  v32 := Tryd.zeroValue94
  t35 := Tryd.underlying99
  a35 := Tryd.isAgg99
  z35 := Tryd.sizeOf99
  v35 := Tryd.zeroValue99
  t36 := Tryd.underlying100
  a36 := Tryd.isAgg100
  z36 := Tryd.sizeOf100
  v36 := Tryd.zeroValue100
  t41 := Tryd.underlying73
  a41 := Tryd.isAgg73
  z41 := Tryd.sizeOf73
  v41 := Tryd.zeroValue73
  t44 := Tryd.underlying107
  a44 := Tryd.isAgg107
  z44 := Tryd.sizeOf107
  v44 := Tryd.zeroValue107
  t46 := Tryd.underlying109
  a46 := Tryd.isAgg109
  z46 := Tryd.sizeOf109
  v46 := Tryd.zeroValue109
  t53 := Tryd.underlying112
  a53 := Tryd.isAgg112
  z53 := Tryd.sizeOf112
  v53 := Tryd.zeroValue112
  t57 := Tryd.underlying116
  a57 := Tryd.isAgg116
  z57 := Tryd.sizeOf116
  v57 := Tryd.zeroValue116
  t63 := Tryd.underlying118
  a63 := Tryd.isAgg118
  z63 := Tryd.sizeOf118
  v63 := Tryd.zeroValue118
  t64 := Tryd.underlying110
  a64 := Tryd.isAgg110
  z64 := Tryd.sizeOf110
  v64 := Tryd.zeroValue110 }
def G39 : FnT := gSortedI 49 3
theorem ok39 : OkF Tryd.prog 39 G39 := okSortedI (f := 39) (g := 49) (ty := 3) LayK40 LayS39 LayM48 rfl rfl rfl rfl Tryd.call39 Tryd.call48 Tryd.call49
def T40 : List (Nat × FnT) := []
def F40 (x0 : Value) (w : World) (K : V1) : Prop :=
eBox 55 x0 w fun v2 w1 =>
bindP (some (.func (.func 49) #[] #[v2])) fun v3 =>
K v3 w1
def G40 : FnT := fun args w K => on1 (fun x0 => F40 x0 w K) args
theorem c40 {x0 : Value} {w : World} {K : V1} (h : F40 x0 w K) : callP G40 [x0] w K := callP_intro (on1_mk (p := fun x0 => F40 x0 w K) h)
theorem ok40 : OkF Tryd.prog 40 G40 := by
  refine okF_of (tab_ok (l := T40) trivial) mixed (n := fuel) Tryd.func40 Tryd.call40 fun args w K h => ?_
  obtain ⟨x0, rfl, hh⟩ := of_on1 h
  exact fnD_list (c := bodyOf Tryd.f40) (by kernel_rfl) (by kernel_rfl) (Eq.mp (by kernel_rfl) hh)
def T24 : List (Nat × FnT) := [(39, G39), (40, G40)]
def F24 (x0 : Value) (w : World) (K : V1) : Prop :=
bindP (pNil x0) fun v1 =>
bindP (pFieldAddr 6 v1) fun v2 =>
bindP (ld1 v2 w) fun v3 =>
callP G40 [v3] w fun v5 w4 =>
callP G39 [v5] w4 fun v7 w6 =>
K v7 w6
def G24 : FnT := fun args w K => on1 (fun x0 => F24 x0 w K) args
theorem c24 {x0 : Value} {w : World} {K : V1} (h : F24 x0 w K) : callP G24 [x0] w K := callP_intro (on1_mk (p := fun x0 => F24 x0 w K) h)
theorem ok24 : OkF Tryd.prog 24 G24 := by
  refine okF_of (tab_ok (l := T24) ⟨ok39, ok40, trivial⟩) mixed (n := fuel) Tryd.func24 Tryd.call24 fun args w K h => ?_
  obtain ⟨x0, rfl, hh⟩ := of_on1 h
  exact fnD_list (c := bodyOf Tryd.f24) (by kernel_rfl) (by kernel_rfl) (Eq.mp (by kernel_rfl) hh)
def T15 : List (Nat × FnT) := [(24, G24)]
def F15_3b (s6 : Value) (w : World) (K : V1) : Prop :=
K (.tuple #[s6, (.int .i64 0)]) w
def F15_3 (s6 : Value) (w : World) (K : V1) : Prop := F15_3b s6 w K
theorem ok15_3 {K : V1}
    (hn : HN (fun e w => K (.tuple #[(e 4), (e 5)]) w) kn) (hr : HR Tryd.prog [.tmp 4, .tmp 5] K kr) (he : HE noE ke) :
    ∀ e w, F15_3 (e 6) w K → denL Tryd.prog (tabOf T15) 69 fuel ((flat (bodyOf Tryd.f15)).drop 6) e w kn kr ke := by
  intro e w h
  unfold F15_3 at h
  have e1 : ∀ (_ : Unit), F15_3b (e 6) w K = denL Tryd.prog (tabOf T15) 69 fuel ((flat (bodyOf Tryd.f15)).drop 6) e w (fun e w => K (.tuple #[(e 4), (e 5)]) w) (endD Tryd.prog [.tmp 4, .tmp 5] K) noE := by intro _; kernel_rfl
  exact seg_end (Eq.mp (e1 ()) h) hn hr he
def F15_5b (s0 s1 s6 s17 s18 s19 : Value) (w : World) (_K : V1) (R3 : V6) : Prop :=
bindP (bAdd s19 (.int .i64 1)) fun v1 =>
R3 s0 s1 s6 s17 s18 v1 w
def F15_5 (s0 s1 s6 s17 s18 s19 : Value) (w : World) (K : V1) (R3 : V6) : Prop := F15_5b s0 s1 s6 s17 s18 s19 w K R3
theorem ok15_5 (R3 : V6) {K : V1}
    (hn : HN (fun e w => R3 (e 0) (e 1) (e 6) (e 17) (e 18) (e 19) w) kn) (hr : HR Tryd.prog [.tmp 4, .tmp 5] K kr) (he : HE (blkK 0 (fun e w => F15_3 (e 6) w K) noE) ke) :
    ∀ e w, F15_5 (e 0) (e 1) (e 6) (e 17) (e 18) (e 19) w K R3 → denL Tryd.prog (tabOf T15) 69 fuel ((flat (loopB (blkB (nthC (flat (bodyOf Tryd.f15)) 5)))).drop 3) e w kn kr ke := by
  intro e w h
  unfold F15_5 at h
  have e1 : ∀ (_ : Unit), F15_5b (e 0) (e 1) (e 6) (e 17) (e 18) (e 19) w K R3 = denL Tryd.prog (tabOf T15) 69 fuel ((flat (loopB (blkB (nthC (flat (bodyOf Tryd.f15)) 5)))).drop 3) e w (fun e w => R3 (e 0) (e 1) (e 6) (e 17) (e 18) (e 19) w) (endD Tryd.prog [.tmp 4, .tmp 5] K) (blkK 0 (fun e w => F15_3 (e 6) w K) noE) := by intro _; kernel_rfl
  exact seg_end (Eq.mp (e1 ()) h) hn hr he
def F15_4b (s0 s1 s6 s17 s18 s19 : Value) (w : World) (_K : V1) (R3 : V6) (Y0 : V6) (Y1 : V1) : Prop :=
bindP (bLt s19 s18) fun v2 =>
ifB v2 (
bindP (pIndexL 1 s17 s19) fun v3 =>
bindP (ld1 v3 w) fun v4 =>
bindP (pNil s0) fun v5 =>
bindP (pFieldAddr 6 v5) fun v6 =>
bindP (ld1 v6 w) fun v7 =>
bindP (fLook Tryd.prog 55 v7 v4 false w) fun v8 =>
eAlloc Tryd.prog 63 w fun v10 w9 =>
bindW (st 15 v10 v8 w9) fun w11 =>
bindP (pNil s0) fun v13 =>
bindP (pFieldAddr 5 v13) fun v14 =>
bindP (ld1 v14 w11) fun v15 =>
bindP (bGt v4 v15) fun v16 =>
Sx.stepG (gd false v16) (pFieldAddr 14 v10) fun v17 =>
Sx.stepG (gd false v16) (ld1 v17 w11) fun v18 =>
stepM (gd false v16) s1 fun v19 =>
Sx.stepG (gd false v16) (bGt v18 v19) fun v20 =>
bindP (pPick v16 (.bool true) v20) fun v21 =>
ifB v21 (
Y0 s0 s1 s6 s17 s18 s19 w11) (
bindP (pFieldAddr 0 v10) fun v22 =>
bindP (ldN 13 v22 w11) fun v23 =>
eBuildSl Tryd.prog 37 1 [(0, v23)] w11 fun v25 w24 =>
eAppend Tryd.prog 37 37 s6 v25 w24 fun v27 w26 =>
bindP (pFieldAddr 13 v10) fun v28 =>
bindP (ld1 v28 w26) fun v29 =>
bindP (bAdd s1 v29) fun v30 =>
bindP (pMin v30 (.int .i64 2305843009213693952)) fun v31 =>
bindP (pFieldAddr 14 v10) fun v32 =>
bindW (st 1 v32 v31 w26) fun w33 =>
bindP (pFieldAddr 13 v10) fun v35 =>
bindP (ld1 v35 w33.drew) fun v36 =>
bindP (bMul (.int .i64 2) v36) fun v37 =>
bindP (pNil s0) fun v38 =>
bindP (pFieldAddr 2 v38) fun v39 =>
bindP (ld1 v39 w33.drew) fun v40 =>
bindP (pMin v37 v40) fun v41 =>
bindP (pFieldAddr 13 v10) fun v42 =>
bindW (st 1 v42 v41 w33.drew) fun w43 =>
bindP (pNil s0) fun v45 =>
bindP (pFieldAddr 6 v45) fun v46 =>
bindP (ld1 v46 w43.drew) fun v47 =>
bindP (ldN 15 v10 w43.drew) fun v48 =>
eMapSet Tryd.prog 55 v47 v4 v48 w43.drew fun _ w49 =>
Y0 s0 s1 v27 s17 s18 s19 w49)) (
Y1 s6 w)
def F15_4 (s0 s1 s6 s17 s18 s19 : Value) (w : World) (K : V1) (R3 : V6) : Prop := F15_4b s0 s1 s6 s17 s18 s19 w K R3 (fun a0 a1 a6 a17 a18 a19 w => F15_5 a0 a1 a6 a17 a18 a19 w K R3) (fun a6 w => F15_3 a6 w K)
theorem ok15_4 (R3 : V6) {K : V1}
    (hn : HN (fun e w => R3 (e 0) (e 1) (e 6) (e 17) (e 18) (e 19) w) kn) (hr : HR Tryd.prog [.tmp 4, .tmp 5] K kr) (he : HE (blkK 0 (fun e w => F15_3 (e 6) w K) noE) ke) :
    ∀ e w, F15_4 (e 0) (e 1) (e 6) (e 17) (e 18) (e 19) w K R3 → denL Tryd.prog (tabOf T15) 69 fuel ((flat (loopB (blkB (nthC (flat (bodyOf Tryd.f15)) 5)))).drop 0) e w kn kr ke := by
  intro e w h
  unfold F15_4 at h
  have e1 : ∀ (Y0 : V6) (Y1 : V1), F15_4b (e 0) (e 1) (e 6) (e 17) (e 18) (e 19) w K R3 Y0 Y1 = denL Tryd.prog (tabOf T15) 69 fuel (((flat (loopB (blkB (nthC (flat (bodyOf Tryd.f15)) 5)))).drop 0).take 3) e w (fun e w => Y0 (e 0) (e 1) (e 6) (e 17) (e 18) (e 19) w) (endD Tryd.prog [.tmp 4, .tmp 5] K) (blkK 0 (fun e w => Y1 (e 6) w) noE) := by intro Y0 Y1; kernel_rfl
  exact seg 3 (Eq.mp (e1 (fun a0 a1 a6 a17 a18 a19 w => F15_5 a0 a1 a6 a17 a18 a19 w K R3) (fun a6 w => F15_3 a6 w K)) h) (fun e w h => ok15_5 R3 hn hr he e w h) hr he
def F15_2L : Nat → Value → Value → Value → Value → Value → Value → World → (V1) → Prop
  | 0, _, _, _, _, _, _, _, _ => False
  | n + 1, s0, s1, s6, s17, s18, s19, w, K => F15_4 s0 s1 s6 s17 s18 s19 w K (fun a0 a1 a6 a17 a18 a19 w => F15_2L n a0 a1 a6 a17 a18 a19 w K)
def F15_2 (s0 s1 s6 s17 s18 s19 : Value) (w : World) (K : V1) : Prop := F15_2L fuel s0 s1 s6 s17 s18 s19 w K
theorem ok15_2 {K : V1}
    (hn : HN (fun e w => K (.tuple #[(e 4), (e 5)]) w) kn) (hr : HR Tryd.prog [.tmp 4, .tmp 5] K kr) (he : HE noE ke) :
    ∀ e w, F15_2 (e 0) (e 1) (e 6) (e 17) (e 18) (e 19) w K → denL Tryd.prog (tabOf T15) 69 fuel ((flat (bodyOf Tryd.f15)).drop 5) e w kn kr ke := by
  intro e w h
  unfold F15_2 at h
  refine seg_loop (id := 0) (body := (loopB (blkB (nthC (flat (bodyOf Tryd.f15)) 5)))) (l2 := (flat (bodyOf Tryd.f15)).drop 6) (by kernel_rfl) ?_
  refine loop_ok (FL := fun m e w => F15_2L m (e 0) (e 1) (e 6) (e 17) (e 18) (e 19) w K) (fr := endD Tryd.prog [.tmp 4, .tmp 5] K) (fe := (blkK 0 (fun e w => F15_3 (e 6) w K) noE)) (fun _ _ h => h) ?_ hr (blkK_mono (fun e w h => ok15_3 hn hr he e w h) he) fuel e w h
  intro m e w h
  have h : F15_2L (m + 1) (e 0) (e 1) (e 6) (e 17) (e 18) (e 19) w K := h
  rw [F15_2L] at h
  exact ok15_4 (fun a0 a1 a6 a17 a18 a19 w => F15_2L m a0 a1 a6 a17 a18 a19 w K) (fun _ _ h => h) (fun _ _ h => h) (fun _ _ _ h => h) e w h
def F15_1b (s0 s1 : Value) (w : World) (K : V1) (Y0 : V6) : Prop :=
bindP (bLt s1 (.int .i64 0)) fun v51 =>
stepM (gd false v51) s1 fun v52 =>
Sx.stepG (gd false v51) (bGt v52 (.int .i64 2305843009213693952)) fun v53 =>
bindP (pPick v51 (.bool true) v53) fun v54 =>
ifB v54 (
K (.tuple #[(.slice none 0 0), (.int .i64 1)]) w) (
callP G24 [s0] w fun v56 w55 =>
bindP (lenL v56) fun v57 =>
Y0 s0 s1 (.slice none 0 0) v56 v57 (.int .i64 0) w55)
def F15_1 (s0 s1 : Value) (w : World) (K : V1) : Prop := F15_1b s0 s1 w K (fun a0 a1 a6 a17 a18 a19 w => F15_2 a0 a1 a6 a17 a18 a19 w K)
theorem ok15_1 {K : V1}
    (hn : HN (fun e w => K (.tuple #[(e 4), (e 5)]) w) kn) (hr : HR Tryd.prog [.tmp 4, .tmp 5] K kr) (he : HE noE ke) :
    ∀ e w, F15_1 (e 0) (e 1) w K → denL Tryd.prog (tabOf T15) 69 fuel ((flat (bodyOf Tryd.f15)).drop 0) e w kn kr ke := by
  intro e w h
  unfold F15_1 at h
  have e1 : ∀ (Y0 : V6), F15_1b (e 0) (e 1) w K Y0 = denL Tryd.prog (tabOf T15) 69 fuel (((flat (bodyOf Tryd.f15)).drop 0).take 5) e w (fun e w => Y0 (e 0) (e 1) (e 6) (e 17) (e 18) (e 19) w) (endD Tryd.prog [.tmp 4, .tmp 5] K) noE := by intro Y0; kernel_rfl
  exact seg 5 (Eq.mp (e1 (fun a0 a1 a6 a17 a18 a19 w => F15_2 a0 a1 a6 a17 a18 a19 w K)) h) (fun e w h => ok15_2 hn hr he e w h) hr he
def F15 (x0 x1 : Value) (w : World) (K : V1) : Prop := F15_1 x0 x1 w K
def G15 : FnT := fun args w K => on2 (fun x0 x1 => F15 x0 x1 w K) args
theorem c15 {x0 x1 : Value} {w : World} {K : V1} (h : F15 x0 x1 w K) : callP G15 [x0, x1] w K := callP_intro (on2_mk (p := fun x0 x1 => F15 x0 x1 w K) h)
theorem ok15 : OkF Tryd.prog 15 G15 := by
  refine okF_of (tab_ok (l := T15) ⟨ok24, trivial⟩) mixed (n := fuel) Tryd.func15 Tryd.call15 fun args w K h => ?_
  obtain ⟨x0, x1, rfl, hh⟩ := of_on2 h
  unfold F15 at hh
  exact fnD_list (c := bodyOf Tryd.f15) (by kernel_rfl) (by kernel_rfl) (ok15_1 (fun _ _ h => h) (fun _ _ h => h) (fun _ _ _ h => h) (initE [x0, x1]) w hh)
def T33 : List (Nat × FnT) := []
def F33_3b (s2 s3 : Value) (w : World) (K : V1) : Prop :=
K (.tuple #[s2, s3]) w
def F33_3 (s2 s3 : Value) (w : World) (K : V1) : Prop := F33_3b s2 s3 w K
theorem ok33_3 {K : V1}
    (hn : HN (fun e w => K (.tuple #[(e 2), (e 3)]) w) kn) (hr : HR Tryd.prog [.tmp 2, .tmp 3] K kr) (he : HE noE ke) :
    ∀ e w, F33_3 (e 2) (e 3) w K → denL Tryd.prog (tabOf T33) 36 fuel ((flat (bodyOf Tryd.f33)).drop 3) e w kn kr ke := by
  intro e w h
  unfold F33_3 at h
  have e1 : ∀ (_ : Unit), F33_3b (e 2) (e 3) w K = denL Tryd.prog (tabOf T33) 36 fuel ((flat (bodyOf Tryd.f33)).drop 3) e w (fun e w => K (.tuple #[(e 2), (e 3)]) w) (endD Tryd.prog [.tmp 2, .tmp 3] K) noE := by intro _; kernel_rfl
  exact seg_end (Eq.mp (e1 ()) h) hn hr he
def F33_2b (s0 s2 s3 s10 : Value) (w : World) (_K : V1) (Y0 : V4) (Y1 : V2) : Prop :=
eNext s10 false w fun v2 w1 =>
bindP (pTuple v2 0) fun v3 =>
ifB v3 (
bindP (fEntry s10 w1) fun v4 =>
bindP (pTuple v4 0) fun v5 =>
bindP (pTuple v4 1) fun v6 =>
eAlloc Tryd.prog 63 w1 fun v8 w7 =>
bindW (st 15 v8 v6 w7) fun w9 =>
bindP (pNil s0) fun v11 =>
bindP (pFieldAddr 5 v11) fun v12 =>
bindP (ld1 v12 w9) fun v13 =>
bindP (bLe v5 v13) fun v14 =>
stepM (gd true v14) s3 fun v15 =>
Sx.stepG (gd true v14) (uNot v15) fun v16 =>
stepM (gd true v14) v16 fun v17 =>
Sx.stepG (gd false v17) (pFieldAddr 14 v8) fun v18 =>
Sx.stepG (gd false v17) (ld1 v18 w9) fun v19 =>
stepM (gd false v17) s2 fun v20 =>
Sx.stepG (gd false v17) (bLt v19 v20) fun v21 =>
Sx.stepG (gd true v14) (pPick v17 (.bool true) v21) fun v22 =>
bindP (pPick v14 v22 (.bool false)) fun v23 =>
ifB v23 (
bindP (pFieldAddr 14 v8) fun v24 =>
bindP (ld1 v24 w9) fun v25 =>
Y0 s0 v25 (.bool true) s10 w9) (
Y0 s0 s2 s3 s10 w9)) (
Y1 s2 s3 w1)
def F33_2L : Nat → Value → Value → Value → Value → World → (V1) → Prop
  | 0, _, _, _, _, _, _ => False
  | n + 1, s0, s2, s3, s10, w, K => F33_2b s0 s2 s3 s10 w K (fun a0 a2 a3 a10 w => F33_2L n a0 a2 a3 a10 w K) (fun a2 a3 w => F33_3 a2 a3 w K)
def F33_2 (s0 s2 s3 s10 : Value) (w : World) (K : V1) : Prop := F33_2L fuel s0 s2 s3 s10 w K
theorem ok33_2 {K : V1}
    (hn : HN (fun e w => K (.tuple #[(e 2), (e 3)]) w) kn) (hr : HR Tryd.prog [.tmp 2, .tmp 3] K kr) (he : HE noE ke) :
    ∀ e w, F33_2 (e 0) (e 2) (e 3) (e 10) w K → denL Tryd.prog (tabOf T33) 36 fuel ((flat (bodyOf Tryd.f33)).drop 2) e w kn kr ke := by
  intro e w h
  unfold F33_2 at h
  refine seg_loop (id := 0) (body := (loopB (blkB (nthC (flat (bodyOf Tryd.f33)) 2)))) (l2 := (flat (bodyOf Tryd.f33)).drop 3) (by kernel_rfl) ?_
  refine loop_ok (FL := fun m e w => F33_2L m (e 0) (e 2) (e 3) (e 10) w K) (fr := endD Tryd.prog [.tmp 2, .tmp 3] K) (fe := (blkK 0 (fun e w => F33_3 (e 2) (e 3) w K) noE)) (fun _ _ h => h) ?_ hr (blkK_mono (fun e w h => ok33_3 hn hr he e w h) he) fuel e w h
  intro m e w h
  have h : F33_2L (m + 1) (e 0) (e 2) (e 3) (e 10) w K := h
  rw [F33_2L] at h
  have e1 : ∀ (Y0 : V4) (Y1 : V2), F33_2b (e 0) (e 2) (e 3) (e 10) w K Y0 Y1 = denL Tryd.prog (tabOf T33) 36 fuel (flat (loopB (blkB (nthC (flat (bodyOf Tryd.f33)) 2)))) e w (fun e w => Y0 (e 0) (e 2) (e 3) (e 10) w) (endD Tryd.prog [.tmp 2, .tmp 3] K) (blkK 0 (fun e w => Y1 (e 2) (e 3) w) noE) := by intro Y0 Y1; kernel_rfl
  exact Eq.mp (e1 (fun a0 a2 a3 a10 w => F33_2L m a0 a2 a3 a10 w K) (fun a2 a3 w => F33_3 a2 a3 w K)) h
def F33_1b (s0 : Value) (w : World) (_K : V1) (Y0 : V4) : Prop :=
bindP (pNil s0) fun v26 =>
bindP (pFieldAddr 6 v26) fun v27 =>
bindP (ld1 v27 w) fun v28 =>
eRange Tryd.prog 55 v28 w fun v30 w29 =>
Y0 s0 (.int .i64 0) (.bool false) v30 w29
def F33_1 (s0 : Value) (w : World) (K : V1) : Prop := F33_1b s0 w K (fun a0 a2 a3 a10 w => F33_2 a0 a2 a3 a10 w K)
theorem ok33_1 {K : V1}
    (hn : HN (fun e w => K (.tuple #[(e 2), (e 3)]) w) kn) (hr : HR Tryd.prog [.tmp 2, .tmp 3] K kr) (he : HE noE ke) :
    ∀ e w, F33_1 (e 0) w K → denL Tryd.prog (tabOf T33) 36 fuel ((flat (bodyOf Tryd.f33)).drop 0) e w kn kr ke := by
  intro e w h
  unfold F33_1 at h
  have e1 : ∀ (Y0 : V4), F33_1b (e 0) w K Y0 = denL Tryd.prog (tabOf T33) 36 fuel (((flat (bodyOf Tryd.f33)).drop 0).take 2) e w (fun e w => Y0 (e 0) (e 2) (e 3) (e 10) w) (endD Tryd.prog [.tmp 2, .tmp 3] K) noE := by intro Y0; kernel_rfl
  exact seg 2 (Eq.mp (e1 (fun a0 a2 a3 a10 w => F33_2 a0 a2 a3 a10 w K)) h) (fun e w h => ok33_2 hn hr he e w h) hr he
def F33 (x0 : Value) (w : World) (K : V1) : Prop := F33_1 x0 w K
def G33 : FnT := fun args w K => on1 (fun x0 => F33 x0 w K) args
theorem c33 {x0 : Value} {w : World} {K : V1} (h : F33 x0 w K) : callP G33 [x0] w K := callP_intro (on1_mk (p := fun x0 => F33 x0 w K) h)
theorem ok33 : OkF Tryd.prog 33 G33 := by
  refine okF_of (tab_ok (l := T33) trivial) mixed (n := fuel) Tryd.func33 Tryd.call33 fun args w K h => ?_
  obtain ⟨x0, rfl, hh⟩ := of_on1 h
  unfold F33 at hh
  exact fnD_list (c := bodyOf Tryd.f33) (by kernel_rfl) (by kernel_rfl) (ok33_1 (fun _ _ h => h) (fun _ _ h => h) (fun _ _ _ h => h) (initE [x0]) w hh)
def T11 : List (Nat × FnT) := [(24, G24)]
def F11_3b (s3 : Value) (w : World) (K : V1) : Prop :=
K s3 w
def F11_3 (s3 : Value) (w : World) (K : V1) : Prop := F11_3b s3 w K
theorem ok11_3 {K : V1}
    (hn : HN (fun e w => K (e 2) w) kn) (hr : HR Tryd.prog [.tmp 2] K kr) (he : HE noE ke) :
    ∀ e w, F11_3 (e 3) w K → denL Tryd.prog (tabOf T11) 25 fuel ((flat (bodyOf Tryd.f11)).drop 4) e w kn kr ke := by
  intro e w h
  unfold F11_3 at h
  have e1 : ∀ (_ : Unit), F11_3b (e 3) w K = denL Tryd.prog (tabOf T11) 25 fuel ((flat (bodyOf Tryd.f11)).drop 4) e w (fun e w => K (e 2) w) (endD Tryd.prog [.tmp 2] K) noE := by intro _; kernel_rfl
  exact seg_end (Eq.mp (e1 ()) h) hn hr he
def F11_2b (s0 s3 s7 s8 s9 : Value) (w : World) (_K : V1) (Y0 : V5) (Y1 : V1) : Prop :=
bindP (bLt s9 s8) fun v1 =>
ifB v1 (
bindP (pIndexL 1 s7 s9) fun v2 =>
bindP (ld1 v2 w) fun v3 =>
bindP (pNil s0) fun v4 =>
bindP (pFieldAddr 6 v4) fun v5 =>
bindP (ld1 v5 w) fun v6 =>
bindP (fLook Tryd.prog 55 v6 v3 false w) fun v7 =>
bindP (fField Tryd.prog 63 v7 0) fun v8 =>
eBuildSl Tryd.prog 37 1 [(0, v8)] w fun v10 w9 =>
eAppend Tryd.prog 37 37 s3 v10 w9 fun v12 w11 =>
bindP (bAdd s9 (.int .i64 1)) fun v13 =>
Y0 s0 v12 s7 s8 v13 w11) (
Y1 s3 w)
def F11_2L : Nat → Value → Value → Value → Value → Value → World → (V1) → Prop
  | 0, _, _, _, _, _, _, _ => False
  | n + 1, s0, s3, s7, s8, s9, w, K => F11_2b s0 s3 s7 s8 s9 w K (fun a0 a3 a7 a8 a9 w => F11_2L n a0 a3 a7 a8 a9 w K) (fun a3 w => F11_3 a3 w K)
def F11_2 (s0 s3 s7 s8 s9 : Value) (w : World) (K : V1) : Prop := F11_2L fuel s0 s3 s7 s8 s9 w K
theorem ok11_2 {K : V1}
    (hn : HN (fun e w => K (e 2) w) kn) (hr : HR Tryd.prog [.tmp 2] K kr) (he : HE noE ke) :
    ∀ e w, F11_2 (e 0) (e 3) (e 7) (e 8) (e 9) w K → denL Tryd.prog (tabOf T11) 25 fuel ((flat (bodyOf Tryd.f11)).drop 3) e w kn kr ke := by
  intro e w h
  unfold F11_2 at h
  refine seg_loop (id := 0) (body := (loopB (blkB (nthC (flat (bodyOf Tryd.f11)) 3)))) (l2 := (flat (bodyOf Tryd.f11)).drop 4) (by kernel_rfl) ?_
  refine loop_ok (FL := fun m e w => F11_2L m (e 0) (e 3) (e 7) (e 8) (e 9) w K) (fr := endD Tryd.prog [.tmp 2] K) (fe := (blkK 0 (fun e w => F11_3 (e 3) w K) noE)) (fun _ _ h => h) ?_ hr (blkK_mono (fun e w h => ok11_3 hn hr he e w h) he) fuel e w h
  intro m e w h
  have h : F11_2L (m + 1) (e 0) (e 3) (e 7) (e 8) (e 9) w K := h
  rw [F11_2L] at h
  have e1 : ∀ (Y0 : V5) (Y1 : V1), F11_2b (e 0) (e 3) (e 7) (e 8) (e 9) w K Y0 Y1 = denL Tryd.prog (tabOf T11) 25 fuel (flat (loopB (blkB (nthC (flat (bodyOf Tryd.f11)) 3)))) e w (fun e w => Y0 (e 0) (e 3) (e 7) (e 8) (e 9) w) (endD Tryd.prog [.tmp 2] K) (blkK 0 (fun e w => Y1 (e 3) w) noE) := by intro Y0 Y1; kernel_rfl
  exact Eq.mp (e1 (fun a0 a3 a7 a8 a9 w => F11_2L m a0 a3 a7 a8 a9 w K) (fun a3 w => F11_3 a3 w K)) h
def F11_1b (s0 : Value) (w : World) (_K : V1) (Y0 : V5) : Prop :=
callP G24 [s0] w fun v15 w14 =>
bindP (lenL v15) fun v16 =>
Y0 s0 (.slice none 0 0) v15 v16 (.int .i64 0) w14
def F11_1 (s0 : Value) (w : World) (K : V1) : Prop := F11_1b s0 w K (fun a0 a3 a7 a8 a9 w => F11_2 a0 a3 a7 a8 a9 w K)
theorem ok11_1 {K : V1}
    (hn : HN (fun e w => K (e 2) w) kn) (hr : HR Tryd.prog [.tmp 2] K kr) (he : HE noE ke) :
    ∀ e w, F11_1 (e 0) w K → denL Tryd.prog (tabOf T11) 25 fuel ((flat (bodyOf Tryd.f11)).drop 0) e w kn kr ke := by
  intro e w h
  unfold F11_1 at h
  have e1 : ∀ (Y0 : V5), F11_1b (e 0) w K Y0 = denL Tryd.prog (tabOf T11) 25 fuel (((flat (bodyOf Tryd.f11)).drop 0).take 3) e w (fun e w => Y0 (e 0) (e 3) (e 7) (e 8) (e 9) w) (endD Tryd.prog [.tmp 2] K) noE := by intro Y0; kernel_rfl
  exact seg 3 (Eq.mp (e1 (fun a0 a3 a7 a8 a9 w => F11_2 a0 a3 a7 a8 a9 w K)) h) (fun e w h => ok11_2 hn hr he e w h) hr he
def F11 (x0 : Value) (w : World) (K : V1) : Prop := F11_1 x0 w K
def G11 : FnT := fun args w K => on1 (fun x0 => F11 x0 w K) args
theorem c11 {x0 : Value} {w : World} {K : V1} (h : F11 x0 w K) : callP G11 [x0] w K := callP_intro (on1_mk (p := fun x0 => F11 x0 w K) h)
theorem ok11 : OkF Tryd.prog 11 G11 := by
  refine okF_of (tab_ok (l := T11) ⟨ok24, trivial⟩) mixed (n := fuel) Tryd.func11 Tryd.call11 fun args w K h => ?_
  obtain ⟨x0, rfl, hh⟩ := of_on1 h
  unfold F11 at hh
  exact fnD_list (c := bodyOf Tryd.f11) (by kernel_rfl) (by kernel_rfl) (ok11_1 (fun _ _ h => h) (fun _ _ h => h) (fun _ _ _ h => h) (initE [x0]) w hh)
def T8 : List (Nat × FnT) := [(10, G10)]
def F8 (x0 : Value) (w : World) (K : V1) : Prop :=
eAlloc Tryd.prog 33 w fun v2 w1 =>
callP G10 [x0, (.int .i64 50)] w1 fun v4 w3 =>
bindP (bAdd (.int .i64 1) v4) fun v5 =>
bindP (fBuild Tryd.prog 31 [(0, (.string ⟨#[110]⟩)), (1, (.string ⟨#[99]⟩)), (3, (.int .i64 3))]) fun v6 =>
bindP (bQuo x0 (.int .i64 50)) fun v7 =>
callP G10 [v7, (.int .i64 9)] w3 fun v9 w8 =>
bindP (bAdd (.int .i64 1) v9) fun v10 =>
bindP (fBuild Tryd.prog 33 [(0, v5), (1, v6), (2, v10)]) fun v11 =>
bindW (st 11 v2 v11 w8) fun w12 =>
bindP (ldN 11 v2 w12) fun v14 =>
K v14 w12
def G8 : FnT := fun args w K => on1 (fun x0 => F8 x0 w K) args
theorem c8 {x0 : Value} {w : World} {K : V1} (h : F8 x0 w K) : callP G8 [x0] w K := callP_intro (on1_mk (p := fun x0 => F8 x0 w K) h)
theorem ok8 : OkF Tryd.prog 8 G8 := by
  refine okF_of (tab_ok (l := T8) ⟨ok10, trivial⟩) mixed (n := fuel) Tryd.func8 Tryd.call8 fun args w K h => ?_
  obtain ⟨x0, rfl, hh⟩ := of_on1 h
  exact fnD_list (c := bodyOf Tryd.f8) (by kernel_rfl) (by kernel_rfl) (Eq.mp (by kernel_rfl) hh)
def T6 : List (Nat × FnT) := [(5, G5), (7, G7), (8, G8), (15, G15), (21, G21)]
def F6_3b (w : World) (K : V1) : Prop :=
K (.bool true) w
def F6_3 (w : World) (K : V1) : Prop := F6_3b w K
theorem ok6_3 {K : V1}
    (hn : HN (fun e w => K (e 0) w) kn) (hr : HR Tryd.prog [.tmp 0] K kr) (he : HE noE ke) :
    ∀ e w, F6_3 w K → denL Tryd.prog (tabOf T6) 82 fuel ((flat (bodyOf Tryd.f6)).drop 10) e w kn kr ke := by
  intro e w h
  unfold F6_3 at h
  have e1 : ∀ (_ : Unit), F6_3b w K = denL Tryd.prog (tabOf T6) 82 fuel ((flat (bodyOf Tryd.f6)).drop 10) e w (fun e w => K (e 0) w) (endD Tryd.prog [.tmp 0] K) noE := by intro _; kernel_rfl
  exact seg_end (Eq.mp (e1 ()) h) hn hr he
def F6_2b (s1 s4 s38 s39 s40 : Value) (w : World) (K : V1) (Y0 : V5) (Y1 : V0) : Prop :=
bindP (bLt s40 s39) fun v1 =>
ifB v1 (
bindP (pIndexL 1 s38 s40) fun v2 =>
bindP (ld1 v2 w) fun v3 =>
bindP (bMul v3 (.int .i64 1000000000)) fun v4 =>
bindP (bAdd s4 v4) fun v5 =>
bindP (bSub v5 (.int .i64 1)) fun v6 =>
callP G15 [s1, v6] w fun v8 w7 =>
bindP (pTuple v8 0) fun v9 =>
bindP (pTuple v8 1) fun v10 =>
callP G15 [s1, v5] w7 fun v12 w11 =>
bindP (pTuple v12 0) fun v13 =>
bindP (pTuple v12 1) fun v14 =>
bindP (bGt v5 (.int .i64 0)) fun v15 =>
stepM (gd true v15) v9 fun v16 =>
Sx.stepG (gd true v15) (lenL v16) fun v17 =>
Sx.stepG (gd true v15) (bNe Tryd.prog 3 (.tmp 65) (.const (.int .i64 0)) v17 (.int .i64 0)) fun v18 =>
stepM (gd true v15) v18 fun v19 =>
stepM (gd false v19) v10 fun v20 =>
Sx.stepG (gd false v19) (bNe Tryd.prog 24 (.tmp 68) (.const (.int .i64 0)) v20 (.int .i64 0)) fun v21 =>
Sx.stepG (gd true v15) (pPick v19 (.bool true) v21) fun v22 =>
bindP (pPick v15 v22 (.bool false)) fun v23 =>
stepM (gd false v23) v13 fun v24 =>
Sx.stepG (gd false v23) (lenL v24) fun v25 =>
Sx.stepG (gd false v23) (bNe Tryd.prog 3 (.tmp 74) (.const (.int .i64 1)) v25 (.int .i64 1)) fun v26 =>
bindP (pPick v23 (.bool true) v26) fun v27 =>
stepM (gd false v27) v14 fun v28 =>
Sx.stepG (gd false v27) (bNe Tryd.prog 24 (.tmp 78) (.const (.int .i64 0)) v28 (.int .i64 0)) fun v29 =>
bindP (pPick v27 (.bool true) v29) fun v30 =>
ifB v30 (
K (.bool false) w11) (
bindP (bAdd s40 (.int .i64 1)) fun v31 =>
Y0 s1 v5 s38 s39 v31 w11)) (
Y1 w)
def F6_2L : Nat → Value → Value → Value → Value → Value → World → (V1) → Prop
  | 0, _, _, _, _, _, _, _ => False
  | n + 1, s1, s4, s38, s39, s40, w, K => F6_2b s1 s4 s38 s39 s40 w K (fun a1 a4 a38 a39 a40 w => F6_2L n a1 a4 a38 a39 a40 w K) (fun w => F6_3 w K)
def F6_2 (s1 s4 s38 s39 s40 : Value) (w : World) (K : V1) : Prop := F6_2L fuel s1 s4 s38 s39 s40 w K
theorem ok6_2 {K : V1}
    (hn : HN (fun e w => K (e 0) w) kn) (hr : HR Tryd.prog [.tmp 0] K kr) (he : HE noE ke) :
    ∀ e w, F6_2 (e 1) (e 4) (e 38) (e 39) (e 40) w K → denL Tryd.prog (tabOf T6) 82 fuel ((flat (bodyOf Tryd.f6)).drop 9) e w kn kr ke := by
  intro e w h
  unfold F6_2 at h
  refine seg_loop (id := 0) (body := (loopB (blkB (nthC (flat (bodyOf Tryd.f6)) 9)))) (l2 := (flat (bodyOf Tryd.f6)).drop 10) (by kernel_rfl) ?_
  refine loop_ok (FL := fun m e w => F6_2L m (e 1) (e 4) (e 38) (e 39) (e 40) w K) (fr := endD Tryd.prog [.tmp 0] K) (fe := (blkK 0 (fun e w => F6_3 w K) noE)) (fun _ _ h => h) ?_ hr (blkK_mono (fun e w h => ok6_3 hn hr he e w h) he) fuel e w h
  intro m e w h
  have h : F6_2L (m + 1) (e 1) (e 4) (e 38) (e 39) (e 40) w K := h
  rw [F6_2L] at h
  have e1 : ∀ (Y0 : V5) (Y1 : V0), F6_2b (e 1) (e 4) (e 38) (e 39) (e 40) w K Y0 Y1 = denL Tryd.prog (tabOf T6) 82 fuel (flat (loopB (blkB (nthC (flat (bodyOf Tryd.f6)) 9)))) e w (fun e w => Y0 (e 1) (e 4) (e 38) (e 39) (e 40) w) (endD Tryd.prog [.tmp 0] K) (blkK 0 (fun e w => Y1 w) noE) := by intro Y0 Y1; kernel_rfl
  exact Eq.mp (e1 (fun a1 a4 a38 a39 a40 w => F6_2L m a1 a4 a38 a39 a40 w K) (fun w => F6_3 w K)) h
def F6_1b (w : World) (K : V1) (Y0 : V5) : Prop :=
callP G5 [(.int .i64 5), (.int .i64 1000000000), (.int .i64 4000000000)] w fun v33 w32 =>
bindP (pTuple v33 0) fun v34 =>
bindP (pTuple v33 1) fun v35 =>
bindP (bEq Tryd.prog 23 (.tmp 15) (.const (.pointer none)) v34 (.pointer none)) fun v36 =>
stepM (gd false v36) v35 fun v37 =>
Sx.stepG (gd false v36) (bNe Tryd.prog 24 (.tmp 18) (.const (.int .i64 0)) v37 (.int .i64 0)) fun v38 =>
bindP (pPick v36 (.bool true) v38) fun v39 =>
ifB v39 (
K (.bool false) w32) (
callP G8 [(.int .i64 1)] w32 fun v41 w40 =>
callP G7 [v34, (.int .i64 1), v41] w40 fun v43 w42 =>
bindP (pTuple v43 0) fun v44 =>
bindP (pTuple v43 1) fun v45 =>
bindP (bNe Tryd.prog 3 (.tmp 27) (.const (.int .i64 1)) v44 (.int .i64 1)) fun v46 =>
stepM (gd false v46) v45 fun v47 =>
Sx.stepG (gd false v46) (bNe Tryd.prog 24 (.tmp 30) (.const (.int .i64 0)) v47 (.int .i64 0)) fun v48 =>
bindP (pPick v46 (.bool true) v48) fun v49 =>
stepM (gd false v49) v34 fun v50 =>
stepE (gd false v49) (fun k => callP G21 [v50, (.int .i64 1)] w42 k) w42 fun v52 w51 =>
Sx.stepG (gd false v49) (bNe Tryd.prog 24 (.tmp 35) (.const (.int .i64 0)) v52 (.int .i64 0)) fun v53 =>
bindP (pPick v49 (.bool true) v53) fun v54 =>
ifB v54 (
K (.bool false) w51) (
eBuildSl Tryd.prog 22 5 [(0, (.int .i64 0)), (1, (.int .i64 1)), (2, (.int .i64 2)), (3, (.int .i64 4)), (4, (.int .i64 4))] w51 fun v56 w55 =>
bindP (lenL v56) fun v57 =>
Y0 v34 (.int .i64 0) v56 v57 (.int .i64 0) w55))
def F6_1 (w : World) (K : V1) : Prop := F6_1b w K (fun a1 a4 a38 a39 a40 w => F6_2 a1 a4 a38 a39 a40 w K)
theorem ok6_1 {K : V1}
    (hn : HN (fun e w => K (e 0) w) kn) (hr : HR Tryd.prog [.tmp 0] K kr) (he : HE noE ke) :
    ∀ e w, F6_1 w K → denL Tryd.prog (tabOf T6) 82 fuel ((flat (bodyOf Tryd.f6)).drop 0) e w kn kr ke := by
  intro e w h
  unfold F6_1 at h
  have e1 : ∀ (Y0 : V5), F6_1b w K Y0 = denL Tryd.prog (tabOf T6) 82 fuel (((flat (bodyOf Tryd.f6)).drop 0).take 9) e w (fun e w => Y0 (e 1) (e 4) (e 38) (e 39) (e 40) w) (endD Tryd.prog [.tmp 0] K) noE := by intro Y0; kernel_rfl
  exact seg 9 (Eq.mp (e1 (fun a1 a4 a38 a39 a40 w => F6_2 a1 a4 a38 a39 a40 w K)) h) (fun e w h => ok6_2 hn hr he e w h) hr he
def F6 (w : World) (K : V1) : Prop := F6_1 w K
def G6 : FnT := fun args w K => on0 (F6 w K) args
theorem c6 {w : World} {K : V1} (h : F6 w K) : callP G6 [] w K := callP_intro (on0_mk (p := F6 w K) h)
theorem ok6 : OkF Tryd.prog 6 G6 := by
  refine okF_of (tab_ok (l := T6) ⟨ok5, ok7, ok8, ok15, ok21, trivial⟩) mixed (n := fuel) Tryd.func6 Tryd.call6 fun args w K h => ?_
  obtain ⟨rfl, hh⟩ := of_on0 h
  unfold F6 at hh
  exact fnD_list (c := bodyOf Tryd.f6) (by kernel_rfl) (by kernel_rfl) (ok6_1 (fun _ _ h => h) (fun _ _ h => h) (fun _ _ _ h => h) (initE []) w hh)
end Go.Proofs.Gong

/- Ob2 -/
namespace Go.Proofs.Gong
open Go Go.Sx Go.Proofs
set_option maxRecDepth 100000
abbrev kO (n : Int) : Value := .int .i64 n
theorem KIO : KeyT Tryd.prog 3 kO := KeyT.int (by kernel_rfl)
@[reducible] def cLt (y : Tk × Int × Int) : List Value := [.int .i64 y.1.seq, .int .i64 y.1.what, .int .i64 y.1.r.id, .string (bs y.1.r.e.node), .string (bs y.1.r.e.cls), .string (bs y.1.r.e.key), .int .i64 y.1.r.e.level, .string (bs y.1.r.e.text), .int .i64 y.1.r.tally, .int .i64 y.1.r.first, .int .i64 y.1.r.last, .bool y.1.r.acked, .string (bs y.1.r.who), .int .i64 y.2.1, .int .i64 y.2.2]
abbrev ltV (y : Tk × Int × Int) : Value := .agg (cLt y).toArray
abbrev zeroTk : Tk := ⟨0, 0, ⟨0, ⟨[], [], [], 0, []⟩, 0, 0, 0, false, []⟩⟩
abbrev zeroLt : Tk × Int × Int := (zeroTk, 0, 0)
theorem zLt : fZero Tryd.prog 63 = some (ltV zeroLt) := z63
def lVal (base top : Int) (x : Ltr) : Tk × Int × Int := (x.t, pauseN base top x.sent, x.at_)
abbrev LMap := List (Int × (Tk × Int × Int))
abbrev OCl (p : Nat) (o : Ob) (m : Value) : HP := Cl p #[.int .i64 o.most, .int .i64 o.base, .int .i64 o.top, .int .i64 o.last, .int .i64 o.refused, .int .i64 o.mark, m] 57
def OutA (v : Value) (o : Ob) : HP := HEx fun M => HEx fun p => HEx fun m => HPr (v = ptr p ∧ KInv ltI lKey (lVal o.base o.top) M o.ls ∧ OOk o) (HSt (OCl p o m) (MapH kO ltV m M))
theorem fbTk (n what : Int) (r : Row) : fBuild Tryd.prog 61 [(0, .int .i64 n), (1, .int .i64 what), (2, .agg (cRow r).toArray)] = some (tkV ⟨n, what, r⟩) := by kernel_rfl
theorem fbLt (t : Tk) (b : Int) : fBuild Tryd.prog 63 [(0, .agg (cTk t).toArray), (1, .int .i64 b)] = some (ltV (t, b, 0)) := by kernel_rfl
attribute [local irreducible] fBuild fLook fZero eqv bEqv Cl MapH LsH SlH ld1 ldN st callP eBox eAlloc lenM lenL eMapSet eDelete eAppend eBuildSl eRange eNext
section
variable {w0 w : World} {L : List HP} {K : Value → World → Prop} {v : Value} {o : Ob} {n : Int} {M : LMap}
theorem outA_iff : Sat w0 (OutA v o :: L) w ↔ ∃ M p m, (v = ptr p ∧ KInv ltI lKey (lVal o.base o.top) M o.ls ∧ OOk o) ∧ Sat w0 (OCl p o m :: MapH kO ltV m M :: L) w := by
  simp only [OutA, Sat.ex_iff, Sat.pr_iff, Sat.star_iff]
theorem outA_open (h : Sat w0 (OutA v o :: L) w) : ∃ p m M, v = ptr p ∧ KInv ltI lKey (lVal o.base o.top) M o.ls ∧ OOk o ∧ Sat w0 (OCl p o m :: MapH kO ltV m M :: L) w := by
  obtain ⟨M, p, m, ⟨h1, h2, h3⟩, h⟩ := outA_iff.1 h
  exact ⟨p, m, M, h1, h2, h3, h⟩
theorem outA_close {p : Nat} {m : Value} (H : KInv ltI lKey (lVal o.base o.top) M o.ls) (ok : OOk o) (h : Sat w0 (OCl p o m :: MapH kO ltV m M :: L) w) : Sat w0 (OutA (ptr p) o :: L) w :=
  outA_iff.2 ⟨M, p, m, ⟨rfl, H, ok⟩, h⟩
theorem outA_ok (h : Sat w0 (OutA v o :: L) w) : OOk o := by
  obtain ⟨_, _, _, _, _, h, _⟩ := outA_open h
  exact h
theorem onew_spec {m b t : Int} (h1 : 1 ≤ m ∧ m ≤ 65536) (h2 : 1 ≤ b ∧ b ≤ t ∧ t ≤ 144115188075855872) (h : Sat w0 L w) (hK : ∀ p w', Sat w0 (OutA (ptr p) (newO m b t) :: L) w' → K (.tuple #[ptr p, .int .i64 0]) w') : callP G5 [.int .i64 m, .int .i64 b, .int .i64 t] w K := by
  refine c5 ?_
  unfold F5
  have g1 : decide (m < 1) = false := by simp; omega
  have g2 : decide (m > 65536) = false := by simp; omega
  have g3 : decide (b < 1) = false := by simp; omega
  have g4 : decide (b > t) = false := by simp; omega
  have g5 : decide (t > 144115188075855872) = false := by simp; omega
  (repeat (first
 | (simp (disch := omega) only [evA, evB, evC, bAdd_i64, bSub_i64, g1, g2, g3, g4, g5])
 | (with_reducible apply go_ld1 h)
 | ((with_reducible first | apply go_ldA h | apply go_rd h | apply go_rdN h | apply go_rlen h); rfl)
 | (with_reducible first | apply go_ldN h | apply go_lenL h)
 | ((with_reducible apply go_st h); intro _ h)
 | ((with_reducible apply go_stA h); rfl; rfl; (first | rfl | simp [OneV.o]); intro _ h)
 | ((with_reducible apply go_stN h); rfl; (first | rfl | simp [OneV.o]); intro _ h)
 | ((with_reducible apply go_box h); rfl; intro _ _ h)
 | ((with_reducible apply go_ix h); omega)
 | ((with_reducible first | apply go_elN h | apply go_f1 h | apply go_rf1 h | apply go_rel h); (case hi => omega); (try case hx => exact inferInstance); (try case hv => rfl))
 | ((with_reducible apply go_fa h); omega; omega)
))
  refine eMakeMap_sat kO ltV h fun mv w h => ?_
  obtain ⟨r1, _, _, ⟨rfl, _⟩, _⟩ := map_iff.1 h
  have eb : fBuild Tryd.prog 57 [(0, .int .i64 m), (1, .int .i64 b), (2, .int .i64 t), (6, .map (some r1))] = some (.agg #[.int .i64 m, .int .i64 b, .int .i64 t, .int .i64 0, .int .i64 0, .int .i64 0, .map (some r1)]) := by kernel_rfl
  (repeat (first
 | (simp (disch := omega) only [evA, evB, evC, bAdd_i64, bSub_i64])
 | (refine go_some (eb ..) ?_)
 | (with_reducible apply go_ld1 h)
 | ((with_reducible first | apply go_ldA h | apply go_rd h | apply go_rdN h | apply go_rlen h); rfl)
 | (with_reducible first | apply go_ldN h | apply go_lenL h)
 | ((with_reducible apply go_st h); intro _ h)
 | ((with_reducible apply go_stA h); rfl; rfl; (first | rfl | simp [OneV.o]); intro _ h)
 | ((with_reducible apply go_stN h); rfl; (first | rfl | simp [OneV.o]); intro _ h)
 | ((with_reducible apply go_box h); rfl; intro _ _ h)
 | ((with_reducible apply go_ix h); omega)
 | ((with_reducible first | apply go_elN h | apply go_f1 h | apply go_rf1 h | apply go_rel h); (case hi => omega); (try case hx => exact inferInstance); (try case hv => rfl))
 | ((with_reducible apply go_fa h); omega; omega)
))
  exact hK _ _ (outA_close (o := newO m b t) .nil (newO_ok h1 h2) h)
theorem olen_spec (h : Sat w0 (OutA v o :: L) w) (hK : K (.int .i64 (o.ls.length : Nat)) w) : callP G35 [v] w K := by
  obtain ⟨p, m, M, rfl, H, ok, h⟩ := outA_open h
  have := map_one (h.frt (A := MapH kO ltV m M))
  refine c35 ?_
  unfold F35
  (repeat (first
 | (simp (disch := omega) only [evA, evB, evC, bAdd_i64, bSub_i64])
 | (with_reducible apply go_ld1 h)
 | ((with_reducible first | apply go_ldA h | apply go_rd h | apply go_rdN h | apply go_rlen h); rfl)
 | (with_reducible first | apply go_ldN h | apply go_lenL h)
 | ((with_reducible apply go_st h); intro _ h)
 | ((with_reducible apply go_stA h); rfl; rfl; (first | rfl | simp [OneV.o]); intro _ h)
 | ((with_reducible apply go_stN h); rfl; (first | rfl | simp [OneV.o]); intro _ h)
 | ((with_reducible apply go_box h); rfl; intro _ _ h)
 | ((with_reducible apply go_ix h); omega)
 | ((with_reducible first | apply go_elN h | apply go_f1 h | apply go_rf1 h | apply go_rel h); (case hi => omega); (try case hx => exact inferInstance); (try case hv => rfl))
 | ((with_reducible apply go_fa h); omega; omega)
))
  refine go_lenM h (by repeat (first | exact .here | apply Fnt.there)) ?_
  rw [H.len]
  exact hK
theorem olast_spec (h : Sat w0 (OutA v o :: L) w) (hK : K (.int .i64 o.last) w) : callP G13 [v] w K := by
  obtain ⟨p, m, M, rfl, H, ok, h⟩ := outA_open h
  refine c13 ?_
  unfold F13
  (repeat (first
 | (simp (disch := omega) only [evA, evB, evC, bAdd_i64, bSub_i64])
 | (with_reducible apply go_ld1 h)
 | ((with_reducible first | apply go_ldA h | apply go_rd h | apply go_rdN h | apply go_rlen h); rfl)
 | (with_reducible first | apply go_ldN h | apply go_lenL h)
 | ((with_reducible apply go_st h); intro _ h)
 | ((with_reducible apply go_stA h); rfl; rfl; (first | rfl | simp [OneV.o]); intro _ h)
 | ((with_reducible apply go_stN h); rfl; (first | rfl | simp [OneV.o]); intro _ h)
 | ((with_reducible apply go_box h); rfl; intro _ _ h)
 | ((with_reducible apply go_ix h); omega)
 | ((with_reducible first | apply go_elN h | apply go_f1 h | apply go_rf1 h | apply go_rel h); (case hi => omega); (try case hx => exact inferInstance); (try case hv => rfl))
 | ((with_reducible apply go_fa h); omega; omega)
))
  exact hK
theorem orefused_spec (h : Sat w0 (OutA v o :: L) w) (hK : K (.int .i64 o.refused) w) : callP G14 [v] w K := by
  obtain ⟨p, m, M, rfl, H, ok, h⟩ := outA_open h
  refine c14 ?_
  unfold F14
  (repeat (first
 | (simp (disch := omega) only [evA, evB, evC, bAdd_i64, bSub_i64])
 | (with_reducible apply go_ld1 h)
 | ((with_reducible first | apply go_ldA h | apply go_rd h | apply go_rdN h | apply go_rlen h); rfl)
 | (with_reducible first | apply go_ldN h | apply go_lenL h)
 | ((with_reducible apply go_st h); intro _ h)
 | ((with_reducible apply go_stA h); rfl; rfl; (first | rfl | simp [OneV.o]); intro _ h)
 | ((with_reducible apply go_stN h); rfl; (first | rfl | simp [OneV.o]); intro _ h)
 | ((with_reducible apply go_box h); rfl; intro _ _ h)
 | ((with_reducible apply go_ix h); omega)
 | ((with_reducible first | apply go_elN h | apply go_f1 h | apply go_rf1 h | apply go_rel h); (case hi => omega); (try case hx => exact inferInstance); (try case hv => rfl))
 | ((with_reducible apply go_fa h); omega; omega)
))
  exact hK
theorem omark_spec (h : Sat w0 (OutA v o :: L) w) (hK : ∀ w', Sat w0 (OutA v (markO n o).2 :: L) w' → K (.int .i64 (markO n o).1) w') : callP G21 [v, .int .i64 n] w K := by
  have oka := markO_ok (outA_ok h) (n := n)
  unfold markO at oka hK
  obtain ⟨p, m, M, rfl, H, ok, h2⟩ := outA_open h
  refine c21 ?_
  unfold F21
  have h0 := h
  clear h
  have h := h2
  clear h2
  by_cases g1 : n < o.mark
  · have g1' : decide (n < o.mark) = true := by simpa using g1
    rw [if_pos (.inl g1)] at hK
    (repeat (first
 | (simp (disch := omega) only [evA, evB, evC, bAdd_i64, bSub_i64, g1'])
 | (with_reducible apply go_ld1 h)
 | ((with_reducible first | apply go_ldA h | apply go_rd h | apply go_rdN h | apply go_rlen h); rfl)
 | (with_reducible first | apply go_ldN h | apply go_lenL h)
 | ((with_reducible apply go_st h); intro _ h)
 | ((with_reducible apply go_stA h); rfl; rfl; (first | rfl | simp [OneV.o]); intro _ h)
 | ((with_reducible apply go_stN h); rfl; (first | rfl | simp [OneV.o]); intro _ h)
 | ((with_reducible apply go_box h); rfl; intro _ _ h)
 | ((with_reducible apply go_ix h); omega)
 | ((with_reducible first | apply go_elN h | apply go_f1 h | apply go_rf1 h | apply go_rel h); (case hi => omega); (try case hx => exact inferInstance); (try case hv => rfl))
 | ((with_reducible apply go_fa h); omega; omega)
))
    exact hK _ h0
  have g1' : decide (n < o.mark) = false := by simpa using g1
  by_cases g2 : o.last < n
  · have g2' : decide (n > o.last) = true := by simpa using g2
    rw [if_pos (.inr g2)] at hK
    (repeat (first
 | (simp (disch := omega) only [evA, evB, evC, bAdd_i64, bSub_i64, g1', g2'])
 | (with_reducible apply go_ld1 h)
 | ((with_reducible first | apply go_ldA h | apply go_rd h | apply go_rdN h | apply go_rlen h); rfl)
 | (with_reducible first | apply go_ldN h | apply go_lenL h)
 | ((with_reducible apply go_st h); intro _ h)
 | ((with_reducible apply go_stA h); rfl; rfl; (first | rfl | simp [OneV.o]); intro _ h)
 | ((with_reducible apply go_stN h); rfl; (first | rfl | simp [OneV.o]); intro _ h)
 | ((with_reducible apply go_box h); rfl; intro _ _ h)
 | ((with_reducible apply go_ix h); omega)
 | ((with_reducible first | apply go_elN h | apply go_f1 h | apply go_rf1 h | apply go_rel h); (case hi => omega); (try case hx => exact inferInstance); (try case hv => rfl))
 | ((with_reducible apply go_fa h); omega; omega)
))
    exact hK _ h0
  have g2' : decide (n > o.last) = false := by simpa using g2
  rw [if_neg (by omega)] at hK oka
  (repeat (first
 | (simp (disch := omega) only [evA, evB, evC, bAdd_i64, bSub_i64, g1', g2'])
 | (with_reducible apply go_ld1 h)
 | ((with_reducible first | apply go_ldA h | apply go_rd h | apply go_rdN h | apply go_rlen h); rfl)
 | (with_reducible first | apply go_ldN h | apply go_lenL h)
 | ((with_reducible apply go_st h); intro _ h)
 | ((with_reducible apply go_stA h); rfl; rfl; (first | rfl | simp [OneV.o]); intro _ h)
 | ((with_reducible apply go_stN h); rfl; (first | rfl | simp [OneV.o]); intro _ h)
 | ((with_reducible apply go_box h); rfl; intro _ _ h)
 | ((with_reducible apply go_ix h); omega)
 | ((with_reducible first | apply go_elN h | apply go_f1 h | apply go_rf1 h | apply go_rel h); (case hi => omega); (try case hx => exact inferInstance); (try case hv => rfl))
 | ((with_reducible apply go_fa h); omega; omega)
))
  exact hK _ (outA_close (o := { o with mark := n }) H oka (h.got))
theorem oack_spec (h : Sat w0 (OutA v o :: L) w) (hK : ∀ w', Sat w0 (OutA v (ackO n o).2 :: L) w' → K (.int .i64 (ackO n o).1) w') : callP G9 [v, .int .i64 n] w K := by
  have oka := ackO_ok (outA_ok h) (n := n)
  unfold ackO at oka hK
  obtain ⟨p, m, M, rfl, H, ok, h2⟩ := outA_open h
  refine c9 ?_
  unfold F9
  clear h
  have h := h2
  clear h2
  have := map_one (h.frt (A := MapH kO ltV m M))
  (repeat (first
 | (simp (disch := omega) only [evA, evB, evC, bAdd_i64, bSub_i64])
 | (with_reducible apply go_ld1 h)
 | ((with_reducible first | apply go_ldA h | apply go_rd h | apply go_rdN h | apply go_rlen h); rfl)
 | (with_reducible first | apply go_ldN h | apply go_lenL h)
 | ((with_reducible apply go_st h); intro _ h)
 | ((with_reducible apply go_stA h); rfl; rfl; (first | rfl | simp [OneV.o]); intro _ h)
 | ((with_reducible apply go_stN h); rfl; (first | rfl | simp [OneV.o]); intro _ h)
 | ((with_reducible apply go_box h); rfl; intro _ _ h)
 | ((with_reducible apply go_ix h); omega)
 | ((with_reducible first | apply go_elN h | apply go_f1 h | apply go_rf1 h | apply go_rel h); (case hi => omega); (try case hx => exact inferInstance); (try case hv => rfl))
 | ((with_reducible apply go_fa h); omega; omega)
))
  refine go_look2 h (by repeat (first | exact .here | apply Fnt.there)) KIO um55 zLt n ?_
  rw [show aGet n M = _ from H.get STO.int n]
  cases hg : kGet lKey n o.ls with
  | none =>
    rw [show lGet n o.ls = none from hg] at hK oka
    rw [show Option.map (lVal o.base o.top) (none : Option Ltr) = none from rfl]
    simp only [Option.elim_none]
    (repeat (first
 | (simp (disch := omega) only [evA, evB, evC, bAdd_i64, bSub_i64])
 | (with_reducible apply go_ld1 h)
 | ((with_reducible first | apply go_ldA h | apply go_rd h | apply go_rdN h | apply go_rlen h); rfl)
 | (with_reducible first | apply go_ldN h | apply go_lenL h)
 | ((with_reducible apply go_st h); intro _ h)
 | ((with_reducible apply go_stA h); rfl; rfl; (first | rfl | simp [OneV.o]); intro _ h)
 | ((with_reducible apply go_stN h); rfl; (first | rfl | simp [OneV.o]); intro _ h)
 | ((with_reducible apply go_box h); rfl; intro _ _ h)
 | ((with_reducible apply go_ix h); omega)
 | ((with_reducible first | apply go_elN h | apply go_f1 h | apply go_rf1 h | apply go_rel h); (case hi => omega); (try case hx => exact inferInstance); (try case hv => rfl))
 | ((with_reducible apply go_fa h); omega; omega)
))
    refine go_alloc h zLt rfl fun q _ h => ?_
    rw [if_neg (by simp)] at hK oka
    (repeat (first
 | (simp (disch := omega) only [evA, evB, evC, bAdd_i64, bSub_i64])
 | (with_reducible apply go_ld1 h)
 | ((with_reducible first | apply go_ldA h | apply go_rd h | apply go_rdN h | apply go_rlen h); rfl)
 | (with_reducible first | apply go_ldN h | apply go_lenL h)
 | ((with_reducible apply go_st h); intro _ h)
 | ((with_reducible apply go_stA h); rfl; rfl; (first | rfl | simp [OneV.o]); intro _ h)
 | ((with_reducible apply go_stN h); rfl; (first | rfl | simp [OneV.o]); intro _ h)
 | ((with_reducible apply go_box h); rfl; intro _ _ h)
 | ((with_reducible apply go_ix h); omega)
 | ((with_reducible first | apply go_elN h | apply go_f1 h | apply go_rf1 h | apply go_rel h); (case hi => omega); (try case hx => exact inferInstance); (try case hv => rfl))
 | ((with_reducible apply go_fa h); omega; omega)
))
    exact hK _ (outA_close H ok (h.got))
  | some x =>
    rw [show lGet n o.ls = some x from hg] at hK oka
    rw [show Option.map (lVal o.base o.top) (some x) = some (lVal o.base o.top x) from rfl]
    simp only [Option.elim_some]
    (repeat (first
 | (simp (disch := omega) only [evA, evB, evC, bAdd_i64, bSub_i64])
 | (with_reducible apply go_ld1 h)
 | ((with_reducible first | apply go_ldA h | apply go_rd h | apply go_rdN h | apply go_rlen h); rfl)
 | (with_reducible first | apply go_ldN h | apply go_lenL h)
 | ((with_reducible apply go_st h); intro _ h)
 | ((with_reducible apply go_stA h); rfl; rfl; (first | rfl | simp [OneV.o]); intro _ h)
 | ((with_reducible apply go_stN h); rfl; (first | rfl | simp [OneV.o]); intro _ h)
 | ((with_reducible apply go_box h); rfl; intro _ _ h)
 | ((with_reducible apply go_ix h); omega)
 | ((with_reducible first | apply go_elN h | apply go_f1 h | apply go_rf1 h | apply go_rel h); (case hi => omega); (try case hx => exact inferInstance); (try case hv => rfl))
 | ((with_reducible apply go_fa h); omega; omega)
))
    refine go_alloc h zLt rfl fun q _ h => ?_
    rw [if_pos (by simp)] at hK oka
    (repeat (first
 | (simp (disch := omega) only [evA, evB, evC, bAdd_i64, bSub_i64])
 | (with_reducible apply go_ld1 h)
 | ((with_reducible first | apply go_ldA h | apply go_rd h | apply go_rdN h | apply go_rlen h); rfl)
 | (with_reducible first | apply go_ldN h | apply go_lenL h)
 | ((with_reducible apply go_st h); intro _ h)
 | ((with_reducible apply go_stA h); rfl; rfl; (first | rfl | simp [OneV.o]); intro _ h)
 | ((with_reducible apply go_stN h); rfl; (first | rfl | simp [OneV.o]); intro _ h)
 | ((with_reducible apply go_box h); rfl; intro _ _ h)
 | ((with_reducible apply go_ix h); omega)
 | ((with_reducible first | apply go_elN h | apply go_f1 h | apply go_rf1 h | apply go_rel h); (case hi => omega); (try case hx => exact inferInstance); (try case hv => rfl))
 | ((with_reducible apply go_fa h); omega; omega)
))
    refine eDelete_sat (h.frt (A := MapH kO ltV m M)) KIO um55 n fun w h => ?_
    (repeat (first
 | (simp (disch := omega) only [evA, evB, evC, bAdd_i64, bSub_i64])
 | (with_reducible apply go_ld1 h)
 | ((with_reducible first | apply go_ldA h | apply go_rd h | apply go_rdN h | apply go_rlen h); rfl)
 | (with_reducible first | apply go_ldN h | apply go_lenL h)
 | ((with_reducible apply go_st h); intro _ h)
 | ((with_reducible apply go_stA h); rfl; rfl; (first | rfl | simp [OneV.o]); intro _ h)
 | ((with_reducible apply go_stN h); rfl; (first | rfl | simp [OneV.o]); intro _ h)
 | ((with_reducible apply go_box h); rfl; intro _ _ h)
 | ((with_reducible apply go_ix h); omega)
 | ((with_reducible first | apply go_elN h | apply go_f1 h | apply go_rf1 h | apply go_rel h); (case hi => omega); (try case hx => exact inferInstance); (try case hv => rfl))
 | ((with_reducible apply go_fa h); omega; omega)
))
    exact hK _ (outA_close (o := { o with ls := lDel n o.ls }) (H.del STO.int n) oka (h.got))
theorem oput_spec {what : Int} {r : Row} (hl : o.last < 2305843009213693952) (hr : o.refused < 2305843009213693952) (he : r.e.fits) (hw : r.who.length < 1073741824) (h : Sat w0 (OutA v o :: L) w)
    (hK : ∀ w', Sat w0 (OutA v (putO what r o).2 :: L) w' → K (.tuple #[.int .i64 (putO what r o).1.1, .int .i64 (putO what r o).1.2]) w') : callP G7 [v, .int .i64 what, rowV r] w K := by
  have oka := putO_ok (outA_ok h) hl hr (what := what) (r := r)
  unfold putO at oka hK
  obtain ⟨p, m, M, rfl, H, ok, h2⟩ := outA_open h
  refine c7 ?_
  unfold F7
  clear h
  have h := h2
  clear h2
  have := map_one (h.frt (A := MapH kO ltV m M))
  have hlb := ok.last
  have hrb := ok.refused
  have hln := ok.len
  have hmb := ok.most
  by_cases g1 : what < 1
  · have g1' : decide (what < 1) = true := by simpa using g1
    rw [if_pos (by rw [g1']; rfl)] at hK
    (repeat (first
 | (simp (disch := omega) only [evA, evB, evC, bAdd_i64, bSub_i64, g1'])
 | (with_reducible apply go_ld1 h)
 | ((with_reducible first | apply go_ldA h | apply go_rd h | apply go_rdN h | apply go_rlen h); rfl)
 | (with_reducible first | apply go_ldN h | apply go_lenL h)
 | ((with_reducible apply go_st h); intro _ h)
 | ((with_reducible apply go_stA h); rfl; rfl; (first | rfl | simp [OneV.o]); intro _ h)
 | ((with_reducible apply go_stN h); rfl; (first | rfl | simp [OneV.o]); intro _ h)
 | ((with_reducible apply go_box h); rfl; intro _ _ h)
 | ((with_reducible apply go_ix h); omega)
 | ((with_reducible first | apply go_elN h | apply go_f1 h | apply go_rf1 h | apply go_rel h); (case hi => omega); (try case hx => exact inferInstance); (try case hv => rfl))
 | ((with_reducible apply go_fa h); omega; omega)
))
    exact hK _ (outA_close H ok (h.got))
  have g1' : decide (what < 1) = false := by simpa using g1
  by_cases g2 : 5 < what
  · have g2' : decide (what > 5) = true := by simpa using g2
    rw [if_pos (by rw [show decide (5 < what) = true from g2']; simp)] at hK
    (repeat (first
 | (simp (disch := omega) only [evA, evB, evC, bAdd_i64, bSub_i64, g1', g2'])
 | (with_reducible apply go_ld1 h)
 | ((with_reducible first | apply go_ldA h | apply go_rd h | apply go_rdN h | apply go_rlen h); rfl)
 | (with_reducible first | apply go_ldN h | apply go_lenL h)
 | ((with_reducible apply go_st h); intro _ h)
 | ((with_reducible apply go_stA h); rfl; rfl; (first | rfl | simp [OneV.o]); intro _ h)
 | ((with_reducible apply go_stN h); rfl; (first | rfl | simp [OneV.o]); intro _ h)
 | ((with_reducible apply go_box h); rfl; intro _ _ h)
 | ((with_reducible apply go_ix h); omega)
 | ((with_reducible first | apply go_elN h | apply go_f1 h | apply go_rf1 h | apply go_rel h); (case hi => omega); (try case hx => exact inferInstance); (try case hv => rfl))
 | ((with_reducible apply go_fa h); omega; omega)
))
    exact hK _ (outA_close H ok (h.got))
  have g2' : decide (what > 5) = false := by simpa using g2
  (repeat (first
 | (simp (disch := omega) only [evA, evB, evC, bAdd_i64, bSub_i64, g1', g2'])
 | (with_reducible apply go_ld1 h)
 | ((with_reducible first | apply go_ldA h | apply go_rd h | apply go_rdN h | apply go_rlen h); rfl)
 | (with_reducible first | apply go_ldN h | apply go_lenL h)
 | ((with_reducible apply go_st h); intro _ h)
 | ((with_reducible apply go_stA h); rfl; rfl; (first | rfl | simp [OneV.o]); intro _ h)
 | ((with_reducible apply go_stN h); rfl; (first | rfl | simp [OneV.o]); intro _ h)
 | ((with_reducible apply go_box h); rfl; intro _ _ h)
 | ((with_reducible apply go_ix h); omega)
 | ((with_reducible first | apply go_elN h | apply go_f1 h | apply go_rf1 h | apply go_rel h); (case hi => omega); (try case hx => exact inferInstance); (try case hv => rfl))
 | ((with_reducible apply go_fa h); omega; omega)
))
  refine bcheck_spec he hw h fun w h => ?_
  unfold chkR
  cases g3 : okR r
  · rw [if_pos (by simp [g3])] at hK
    rw [if_neg (by simp)]
    (repeat (first
 | (simp (disch := omega) only [evA, evB, evC, bAdd_i64, bSub_i64, Int.reduceEq])
 | (with_reducible apply go_ld1 h)
 | ((with_reducible first | apply go_ldA h | apply go_rd h | apply go_rdN h | apply go_rlen h); rfl)
 | (with_reducible first | apply go_ldN h | apply go_lenL h)
 | ((with_reducible apply go_st h); intro _ h)
 | ((with_reducible apply go_stA h); rfl; rfl; (first | rfl | simp [OneV.o]); intro _ h)
 | ((with_reducible apply go_stN h); rfl; (first | rfl | simp [OneV.o]); intro _ h)
 | ((with_reducible apply go_box h); rfl; intro _ _ h)
 | ((with_reducible apply go_ix h); omega)
 | ((with_reducible first | apply go_elN h | apply go_f1 h | apply go_rf1 h | apply go_rel h); (case hi => omega); (try case hx => exact inferInstance); (try case hv => rfl))
 | ((with_reducible apply go_fa h); omega; omega)
))
    exact hK _ (outA_close H ok (h.got))
  rw [if_neg (by rw [g1', show decide (5 < what) = false from g2', g3]; simp)] at hK oka
  rw [if_pos rfl]
  (repeat (first
 | (simp (disch := omega) only [evA, evB, evC, bAdd_i64, bSub_i64, Int.reduceEq])
 | (with_reducible apply go_ld1 h)
 | ((with_reducible first | apply go_ldA h | apply go_rd h | apply go_rdN h | apply go_rlen h); rfl)
 | (with_reducible first | apply go_ldN h | apply go_lenL h)
 | ((with_reducible apply go_st h); intro _ h)
 | ((with_reducible apply go_stA h); rfl; rfl; (first | rfl | simp [OneV.o]); intro _ h)
 | ((with_reducible apply go_stN h); rfl; (first | rfl | simp [OneV.o]); intro _ h)
 | ((with_reducible apply go_box h); rfl; intro _ _ h)
 | ((with_reducible apply go_ix h); omega)
 | ((with_reducible first | apply go_elN h | apply go_f1 h | apply go_rf1 h | apply go_rel h); (case hi => omega); (try case hx => exact inferInstance); (try case hv => rfl))
 | ((with_reducible apply go_fa h); omega; omega)
))
  refine go_lenM h (by repeat (first | exact .here | apply Fnt.there)) ?_
  rw [H.len]
  (repeat (first
 | (simp (disch := omega) only [evA, evB, evC, bAdd_i64, bSub_i64])
 | (with_reducible apply go_ld1 h)
 | ((with_reducible first | apply go_ldA h | apply go_rd h | apply go_rdN h | apply go_rlen h); rfl)
 | (with_reducible first | apply go_ldN h | apply go_lenL h)
 | ((with_reducible apply go_st h); intro _ h)
 | ((with_reducible apply go_stA h); rfl; rfl; (first | rfl | simp [OneV.o]); intro _ h)
 | ((with_reducible apply go_stN h); rfl; (first | rfl | simp [OneV.o]); intro _ h)
 | ((with_reducible apply go_box h); rfl; intro _ _ h)
 | ((with_reducible apply go_ix h); omega)
 | ((with_reducible first | apply go_elN h | apply go_f1 h | apply go_rf1 h | apply go_rel h); (case hi => omega); (try case hx => exact inferInstance); (try case hv => rfl))
 | ((with_reducible apply go_fa h); omega; omega)
))
  by_cases g4 : o.most ≤ (o.ls.length : Int)
  · have g4' : decide ((o.ls.length : Int) ≥ o.most) = true := by simpa using g4
    rw [if_pos g4] at hK oka
    (repeat (first
 | (simp (disch := omega) only [evA, evB, evC, bAdd_i64, bSub_i64, g4'])
 | (with_reducible apply go_ld1 h)
 | ((with_reducible first | apply go_ldA h | apply go_rd h | apply go_rdN h | apply go_rlen h); rfl)
 | (with_reducible first | apply go_ldN h | apply go_lenL h)
 | ((with_reducible apply go_st h); intro _ h)
 | ((with_reducible apply go_stA h); rfl; rfl; (first | rfl | simp [OneV.o]); intro _ h)
 | ((with_reducible apply go_stN h); rfl; (first | rfl | simp [OneV.o]); intro _ h)
 | ((with_reducible apply go_box h); rfl; intro _ _ h)
 | ((with_reducible apply go_ix h); omega)
 | ((with_reducible first | apply go_elN h | apply go_f1 h | apply go_rf1 h | apply go_rel h); (case hi => omega); (try case hx => exact inferInstance); (try case hv => rfl))
 | ((with_reducible apply go_fa h); omega; omega)
))
    exact hK _ (outA_close (o := { o with refused := o.refused + 1 }) H oka (h.got))
  have g4' : decide ((o.ls.length : Int) ≥ o.most) = false := by simp; omega
  rw [if_neg g4] at hK oka
  (repeat (first
 | (simp (disch := omega) only [evA, evB, evC, bAdd_i64, bSub_i64, g4'])
 | (with_reducible apply go_ld1 h)
 | ((with_reducible first | apply go_ldA h | apply go_rd h | apply go_rdN h | apply go_rlen h); rfl)
 | (with_reducible first | apply go_ldN h | apply go_lenL h)
 | ((with_reducible apply go_st h); intro _ h)
 | ((with_reducible apply go_stA h); rfl; rfl; (first | rfl | simp [OneV.o]); intro _ h)
 | ((with_reducible apply go_stN h); rfl; (first | rfl | simp [OneV.o]); intro _ h)
 | ((with_reducible apply go_box h); rfl; intro _ _ h)
 | ((with_reducible apply go_ix h); omega)
 | ((with_reducible first | apply go_elN h | apply go_f1 h | apply go_rf1 h | apply go_rel h); (case hi => omega); (try case hx => exact inferInstance); (try case hv => rfl))
 | ((with_reducible apply go_fa h); omega; omega)
))
  refine go_some (fbTk (o.last + 1) what r) ?_
  refine c23 ?_
  unfold F23
  (repeat (first
 | (simp (disch := omega) only [evA, evB, evC, bAdd_i64, bSub_i64])
 | (with_reducible apply go_ld1 h)
 | ((with_reducible first | apply go_ldA h | apply go_rd h | apply go_rdN h | apply go_rlen h); rfl)
 | (with_reducible first | apply go_ldN h | apply go_lenL h)
 | ((with_reducible apply go_st h); intro _ h)
 | ((with_reducible apply go_stA h); rfl; rfl; (first | rfl | simp [OneV.o]); intro _ h)
 | ((with_reducible apply go_stN h); rfl; (first | rfl | simp [OneV.o]); intro _ h)
 | ((with_reducible apply go_box h); rfl; intro _ _ h)
 | ((with_reducible apply go_ix h); omega)
 | ((with_reducible first | apply go_elN h | apply go_f1 h | apply go_rf1 h | apply go_rel h); (case hi => omega); (try case hx => exact inferInstance); (try case hv => rfl))
 | ((with_reducible apply go_fa h); omega; omega)
))
  refine go_some (fbLt ⟨o.last + 1, what, r⟩ o.base) ?_
  refine eMapSet_sat (h.drew.frt (A := MapH kO ltV m M)) KIO um55 (o.last + 1) ((⟨o.last + 1, what, r⟩, o.base, 0) : Tk × Int × Int) fun w h => ?_
  (repeat (first
 | (simp (disch := omega) only [evA, evB, evC, bAdd_i64, bSub_i64])
 | (with_reducible apply go_ld1 h)
 | ((with_reducible first | apply go_ldA h | apply go_rd h | apply go_rdN h | apply go_rlen h); rfl)
 | (with_reducible first | apply go_ldN h | apply go_lenL h)
 | ((with_reducible apply go_st h); intro _ h)
 | ((with_reducible apply go_stA h); rfl; rfl; (first | rfl | simp [OneV.o]); intro _ h)
 | ((with_reducible apply go_stN h); rfl; (first | rfl | simp [OneV.o]); intro _ h)
 | ((with_reducible apply go_box h); rfl; intro _ _ h)
 | ((with_reducible apply go_ix h); omega)
 | ((with_reducible first | apply go_elN h | apply go_f1 h | apply go_rf1 h | apply go_rel h); (case hi => omega); (try case hx => exact inferInstance); (try case hv => rfl))
 | ((with_reducible apply go_fa h); omega; omega)
))
  refine hK _ (outA_close (o := { o with last := o.last + 1, ls := o.ls ++ [⟨⟨o.last + 1, what, r⟩, 0, 0⟩] }) ?_ oka (h.got))
  have h1 := H.put STO.int ⟨⟨o.last + 1, what, r⟩, 0, 0⟩
  rw [kPut_last STO.int fun d hd => by have := ok.ok d hd; simp [ltI, lKey]; omega] at h1
  exact h1
end
end Go.Proofs.Gong

/- Ob3 -/
namespace Go.Proofs.Gong
open Go Go.Sx Go.Proofs
set_option maxRecDepth 100000
theorem CTk : Cod cTk 13 := ⟨fun _ => rfl, fun _ => rfl, by omega⟩
instance : CodC cTk 13 := ⟨CTk⟩
theorem fbTkS (x : Tk) : fBuildSl Tryd.prog 61 1 [(0, .agg (cTk x).toArray)] = some (cTk x).toArray := by kernel_rfl
theorem ffLt (y : Tk × Int × Int) : fField Tryd.prog 63 (ltV y) 0 = some (tkV y.1) := by kernel_rfl
theorem lkey_at {l : List Ltr} {i : Nat} (hi : i < l.length) (h : i < (l.map lKey).length) : (l.map lKey)[i] = l[i].t.seq := by simp
attribute [local irreducible] fBuild fLook fZero eqv bEqv Cl MapH LsH SlH ld1 ldN st callP eBox eAlloc lenM lenL eMapSet eDelete eAppend eBuildSl eRange eNext
section
variable {w0 w : World} {L : List HP} {K : Value → World → Prop} {v : Value} {o : Ob} {n now : Int} {M : LMap}
theorem onums_spec (h : Sat w0 (OutA v o :: L) w) (hK : ∀ s w', Sat w0 (LsH cI 1 3 s (o.ls.map lKey) :: OutA v o :: L) w' → K s w') : callP G24 [v] w K := by
  obtain ⟨p, m, M, rfl, H, ok, h2⟩ := outA_open h
  refine c24 ?_
  unfold F24
  clear h
  have h := h2
  clear h2
  obtain ⟨r1, _, _, ⟨rfl, _⟩, _⟩ := map_iff.1 (h.frt (A := MapH kO ltV m M))
  (repeat (first
 | (simp (disch := omega) only [evA, evB, evC, bAdd_i64, bSub_i64])
 | (with_reducible apply go_ld1 h)
 | ((with_reducible first | apply go_ldA h | apply go_rd h | apply go_rdN h | apply go_rlen h); rfl)
 | (with_reducible first | apply go_ldN h | apply go_lenL h)
 | ((with_reducible apply go_st h); intro _ h)
 | ((with_reducible apply go_stA h); rfl; rfl; (first | rfl | simp [OneV.o]); intro _ h)
 | ((with_reducible apply go_stN h); rfl; (first | rfl | simp [OneV.o]); intro _ h)
 | ((with_reducible apply go_box h); rfl; intro _ _ h)
 | ((with_reducible apply go_ix h); omega)
 | ((with_reducible first | apply go_elN h | apply go_f1 h | apply go_rf1 h | apply go_rel h); (case hi => omega); (try case hx => exact inferInstance); (try case hv => rfl))
 | ((with_reducible apply go_fa h); omega; omega)
))
  refine c40 ?_
  unfold F40
  (repeat (first
 | (simp (disch := omega) only [evA, evB, evC, bAdd_i64, bSub_i64])
 | (with_reducible apply go_ld1 h)
 | ((with_reducible first | apply go_ldA h | apply go_rd h | apply go_rdN h | apply go_rlen h); rfl)
 | (with_reducible first | apply go_ldN h | apply go_lenL h)
 | ((with_reducible apply go_st h); intro _ h)
 | ((with_reducible apply go_stA h); rfl; rfl; (first | rfl | simp [OneV.o]); intro _ h)
 | ((with_reducible apply go_stN h); rfl; (first | rfl | simp [OneV.o]); intro _ h)
 | ((with_reducible apply go_box h); rfl; intro _ _ h)
 | ((with_reducible apply go_ix h); omega)
 | ((with_reducible first | apply go_elN h | apply go_f1 h | apply go_rf1 h | apply go_rel h); (case hi => omega); (try case hx => exact inferInstance); (try case hv => rfl))
 | ((with_reducible apply go_fa h); omega; omega)
))
  refine sortedI_sat (m := M) (ev := ltV) (L := OCl p o (.map (some r1)) :: L) (h.got) ?_ ?_ fun l s w hp hs h => ?_
  · intro x hx
    obtain ⟨y, hy, e⟩ := List.mem_map.1 (H.pm.mem_iff.1 hx)
    have h1 := ok.ok y hy
    have h2 := ok.last
    rw [← e]
    show -9223372036854775808 ≤ y.t.seq ∧ y.t.seq ≤ 9223372036854775807
    omega
  · rw [H.len]; have := ok.len; have := ok.most; omega
  have el : l = o.ls.map lKey := H.sorted STO.int hp (hs.imp fun h => by
    simp only [ltI, decide_eq_false_iff_not]; omega)
  subst el
  exact hK _ _ (Sat.f1 (outA_close H ok (h.got)))
theorem oall_loop {p : Nat} {m nv : Value} (H : KInv ltI lKey (lVal o.base o.top) M o.ls) (ok : OOk o) (hK : ∀ s w', Sat w0 (LsH cTk 13 61 s (allO o) :: OutA (ptr p) o :: L) w' → K s w') :
    ∀ (k i : Nat) (s3 : Value) (w : World), o.ls.length - i < k → i ≤ o.ls.length → Sat w0 (LsH cTk 13 61 s3 ((o.ls.take i).map (·.t)) :: OCl p o m :: MapH kO ltV m M :: LsH cI 1 3 nv (o.ls.map lKey) :: L) w →
      F11_2L k (ptr p) s3 nv (.int .i64 (o.ls.length : Nat)) (.int .i64 i) w K := by
  intro k
  induction k with
  | zero => intro i s3 w hd; omega
  | succ k ih =>
    intro i s3 w hd hi h
    rw [F11_2L]
    unfold F11_2b
    have hln := ok.len
    have hmb := ok.most
    have := map_one (h.frt (A := MapH kO ltV m M))
    by_cases g : i < o.ls.length
    · have g' : decide ((i : Int) < (o.ls.length : Int)) = true := by simpa using g
      have hil : i < (o.ls.map lKey).length := by simpa using g
      have hnm := lkey_at g hil
      have ht : (o.ls.take (i + 1)).map (·.t) = (o.ls.take i).map (·.t) ++ [o.ls[i].t] := by rw [List.take_succ_eq_append_getElem g, List.map_append]; rfl
      have hget : aGet o.ls[i].t.seq M = some (lVal o.base o.top o.ls[i]) := by
        rw [show aGet o.ls[i].t.seq M = _ from H.get STO.int _, show kGet lKey o.ls[i].t.seq _ = some o.ls[i] from kGet_of STO.int ok.asc (List.getElem_mem g)]
        rfl
      (repeat (first
 | (simp (disch := omega) only [evA, evB, evC, bAdd_i64, bSub_i64, g', hnm])
 | (with_reducible apply go_ld1 h)
 | ((with_reducible first | apply go_ldA h | apply go_rd h | apply go_rdN h); rfl)
 | (with_reducible first | apply go_ldN h | apply go_lenR h)
 | ((with_reducible apply go_st h); intro _ h)
 | ((with_reducible apply go_stA h); rfl; rfl; (first | rfl | simp [OneV.o]); intro _ h)
 | ((with_reducible apply go_stN h); rfl; (first | rfl | simp [OneV.o]); intro _ h)
 | ((with_reducible apply go_box h); rfl; intro _ _ h)
 | ((with_reducible apply go_ixR h); omega)
 | ((with_reducible first | apply go_elR h | apply go_f1R h | apply go_rf1R h | apply go_relR h | apply go_e1R h | apply go_re1R h); (case hc => exact inferInstance); (case hi => omega); (try case hx => exact inferInstance); (try case hv => rfl))
 | ((with_reducible apply go_fNR h); (case hc => exact inferInstance); (case hi => omega); (try case hp => exact inferInstance); (try case hv => rfl))
 | ((with_reducible apply go_faR h); (case hc => exact inferInstance); omega; omega)
 | ((with_reducible apply go_rlenR h); rfl)
))
      refine go_look1 h (by repeat (first | exact .here | apply Fnt.there)) KIO um55 zLt o.ls[i].t.seq ?_
      rw [hget]
      simp only [Option.elim_some]
      refine go_some (ffLt _) ?_
      refine go_lit1 (x := o.ls[i].t) CTk h u37 (fbTkS o.ls[i].t) rfl fun s1 w h => ?_
      (repeat (first
 | (simp (disch := omega) only [evA, evB, evC, bAdd_i64, bSub_i64])
 | (with_reducible apply go_ld1 h)
 | ((with_reducible first | apply go_ldA h | apply go_rd h | apply go_rdN h | apply go_rlen h); rfl)
 | (with_reducible first | apply go_ldN h | apply go_lenL h)
 | ((with_reducible apply go_st h); intro _ h)
 | ((with_reducible apply go_stA h); rfl; rfl; (first | rfl | simp [OneV.o]); intro _ h)
 | ((with_reducible apply go_stN h); rfl; (first | rfl | simp [OneV.o]); intro _ h)
 | ((with_reducible apply go_box h); rfl; intro _ _ h)
 | ((with_reducible apply go_ix h); omega)
 | ((with_reducible first | apply go_elN h | apply go_f1 h | apply go_rf1 h | apply go_rel h); (case hi => omega); (try case hx => exact inferInstance); (try case hv => rfl))
 | ((with_reducible apply go_fa h); omega; omega)
 | ((with_reducible first | apply go_lit0 CTk h u37 (by kernel_rfl) | apply go_lit1 CTk h u37 (fbTkS _) rfl); intro _ _ h)
 | ((with_reducible apply go_app h sl37 ss37); (case hm => repeat (first | exact .here | apply Fnt.there)); (case hb => first | omega | (simp; omega)); intro _ _ _ h)
))
      exact ih (i + 1) _ _ (by omega) (by omega) (by rw [ht]; exact h.got)
    · have g' : decide ((i : Int) < (o.ls.length : Int)) = false := by simpa using g
      have e : i = o.ls.length := by omega
      subst e
      rw [List.take_length] at h
      (repeat (first
 | (simp (disch := omega) only [evA, evB, evC, bAdd_i64, bSub_i64, g'])
 | (with_reducible apply go_ld1 h)
 | ((with_reducible first | apply go_ldA h | apply go_rd h | apply go_rdN h | apply go_rlen h); rfl)
 | (with_reducible first | apply go_ldN h | apply go_lenL h)
 | ((with_reducible apply go_st h); intro _ h)
 | ((with_reducible apply go_stA h); rfl; rfl; (first | rfl | simp [OneV.o]); intro _ h)
 | ((with_reducible apply go_stN h); rfl; (first | rfl | simp [OneV.o]); intro _ h)
 | ((with_reducible apply go_box h); rfl; intro _ _ h)
 | ((with_reducible apply go_ix h); omega)
 | ((with_reducible first | apply go_elN h | apply go_f1 h | apply go_rf1 h | apply go_rel h); (case hi => omega); (try case hx => exact inferInstance); (try case hv => rfl))
 | ((with_reducible apply go_fa h); omega; omega)
))
      unfold F11_3 F11_3b
      exact hK _ _ (Sat.f1 (outA_close H ok (h.got)))
theorem oall_spec (h : Sat w0 (OutA v o :: L) w) (hK : ∀ s w', Sat w0 (LsH cTk 13 61 s (allO o) :: OutA v o :: L) w' → K s w') : callP G11 [v] w K := by
  refine c11 ?_
  unfold F11 F11_1 F11_1b
  refine onums_spec h fun nv w h => ?_
  obtain ⟨p, m, M, rfl, H, ok, h2⟩ := outA_open (h.frt (A := OutA v o))
  clear h
  have h := h2
  clear h2
  (repeat (first
 | (simp (disch := omega) only [evA, evB, evC, bAdd_i64, bSub_i64])
 | (with_reducible apply go_ld1 h)
 | ((with_reducible first | apply go_ldA h | apply go_rd h | apply go_rdN h | apply go_rlen h); rfl)
 | (with_reducible first | apply go_ldN h | apply go_lenL h)
 | ((with_reducible apply go_st h); intro _ h)
 | ((with_reducible apply go_stA h); rfl; rfl; (first | rfl | simp [OneV.o]); intro _ h)
 | ((with_reducible apply go_stN h); rfl; (first | rfl | simp [OneV.o]); intro _ h)
 | ((with_reducible apply go_box h); rfl; intro _ _ h)
 | ((with_reducible apply go_ix h); omega)
 | ((with_reducible first | apply go_elN h | apply go_f1 h | apply go_rf1 h | apply go_rel h); (case hi => omega); (try case hx => exact inferInstance); (try case hv => rfl))
 | ((with_reducible apply go_fa h); omega; omega)
))
  rw [List.length_map]
  unfold F11_2
  have h := Sat.nilLs cTk 13 61 h
  exact oall_loop H ok hK fuel 0 _ _ (by have := ok.len; have := ok.most; unfold fuel; omega) (by omega) h
theorem odue_loop {p : Nat} {m nv : Value} (ht : 0 ≤ now ∧ now ≤ 2305843009213693952) (ok : OOk o) (hok : OOk { o with ls := o.ls.map (stepO o now) })
    (hK : ∀ s w', Sat w0 (LsH cTk 13 61 s ((o.ls.filter (mayO o now)).map (·.t)) :: OutA (ptr p) { o with ls := o.ls.map (stepO o now) } :: L) w' → K (.tuple #[s, .int .i64 0]) w') :
    ∀ (k i : Nat) (s6 : Value) (M : LMap) (w : World), o.ls.length - i < k → i ≤ o.ls.length → KInv ltI lKey (lVal o.base o.top) M ((o.ls.take i).map (stepO o now) ++ o.ls.drop i) →
      Sat w0 (LsH cTk 13 61 s6 (((o.ls.take i).filter (mayO o now)).map (·.t)) :: OCl p o m :: MapH kO ltV m M :: LsH cI 1 3 nv (o.ls.map lKey) :: L) w →
      F15_2L k (ptr p) (.int .i64 now) s6 nv (.int .i64 (o.ls.length : Nat)) (.int .i64 i) w K := by
  intro k
  induction k with
  | zero => intro i s6 M w hd; omega
  | succ k ih =>
    intro i s6 M w hd hi H h
    rw [F15_2L]
    unfold F15_4 F15_4b
    have hln := ok.len
    have hmb := ok.most
    have hbt := ok.base
    have hone := map_one (h.frt (A := MapH kO ltV m M))
    by_cases g : i < o.ls.length
    · have g' : decide ((i : Int) < (o.ls.length : Int)) = true := by simpa using g
      have hil : i < (o.ls.map lKey).length := by simpa using g
      have hnm := lkey_at g hil
      have hcur : (o.ls.take i).map (stepO o now) ++ o.ls.drop i = (o.ls.take i).map (stepO o now) ++ o.ls[i] :: o.ls.drop (i + 1) := by rw [List.drop_eq_getElem_cons g]
      rw [hcur] at H
      have hxo := ok.ok _ (List.getElem_mem g)
      have ht1 : (o.ls.take (i + 1)).map (stepO o now) ++ o.ls.drop (i + 1) = (o.ls.take i).map (stepO o now) ++ stepO o now o.ls[i] :: o.ls.drop (i + 1) := by
        rw [List.take_succ_eq_append_getElem g, List.map_append, List.append_assoc]; rfl
      have ht2 : ((o.ls.take (i + 1)).filter (mayO o now)).map (·.t) = ((o.ls.take i).filter (mayO o now)).map (·.t) ++ if mayO o now o.ls[i] = true then [o.ls[i].t] else [] := by
        rw [List.take_succ_eq_append_getElem g, List.filter_append, List.map_append]
        congr 1
        by_cases hm : mayO o now o.ls[i] = true <;> simp [hm]
      obtain ⟨x, hx⟩ : ∃ x, o.ls[i] = x := ⟨_, rfl⟩
      have hlen2 : (((o.ls.take i).filter (mayO o now)).map (·.t)).length ≤ 65536 := by
        rw [List.length_map]
        have := List.length_filter_le (mayO o now) (o.ls.take i)
        rw [List.length_take] at this
        omega
      have hlen3 : ((o.ls.take i).filter (mayO o now)).length ≤ 65536 := by rw [List.length_map] at hlen2; exact hlen2
      rw [hx] at hnm H hxo ht1 ht2
      have hget : aGet x.t.seq M = some (lVal o.base o.top x) := by
        rw [show aGet x.t.seq M = _ from H.get STO.int _, show kGet lKey x.t.seq _ = some x from kGet_of STO.int H.asc (by simp)]
        rfl
      have hp1 := pauseN_bd (base := o.base) (top := o.top) ⟨hbt.1, hbt.2.1⟩ x.sent
      (repeat (first
 | (simp (disch := omega) only [evA, evB, evC, bAdd_i64, bSub_i64, g', hnm])
 | (with_reducible apply go_ld1 h)
 | ((with_reducible first | apply go_ldA h | apply go_rd h | apply go_rdN h); rfl)
 | (with_reducible first | apply go_ldN h | apply go_lenR h)
 | ((with_reducible apply go_st h); intro _ h)
 | ((with_reducible apply go_stA h); rfl; rfl; (first | rfl | simp [OneV.o]); intro _ h)
 | ((with_reducible apply go_stN h); rfl; (first | rfl | simp [OneV.o]); intro _ h)
 | ((with_reducible apply go_box h); rfl; intro _ _ h)
 | ((with_reducible apply go_ixR h); omega)
 | ((with_reducible first | apply go_elR h | apply go_f1R h | apply go_rf1R h | apply go_relR h | apply go_e1R h | apply go_re1R h); (case hc => exact inferInstance); (case hi => omega); (try case hx => exact inferInstance); (try case hv => rfl))
 | ((with_reducible apply go_fNR h); (case hc => exact inferInstance); (case hi => omega); (try case hp => exact inferInstance); (try case hv => rfl))
 | ((with_reducible apply go_faR h); (case hc => exact inferInstance); omega; omega)
 | ((with_reducible apply go_rlenR h); rfl)
))
      refine go_look1 h (by repeat (first | exact .here | apply Fnt.there)) KIO um55 zLt x.t.seq ?_
      rw [hget]
      simp only [Option.elim_some]
      unfold lVal
      refine go_alloc h zLt rfl fun q _ h => ?_
      by_cases g1 : x.t.seq ≤ o.mark
      case neg =>
        have g1' : decide (x.t.seq > o.mark) = true := by simp; omega
        have hm : mayO o now x = false := by unfold mayO; rw [decide_eq_false g1]; rfl
        have es : stepO o now x = x := by unfold stepO; rw [if_neg (by simp [hm])]
        rw [es] at ht1
        rw [if_neg (by simp [hm]), List.append_nil] at ht2
        (repeat (first
 | (simp (disch := omega) only [evA, evB, evC, bAdd_i64, bSub_i64, g1'])
 | (with_reducible apply go_ld1 h)
 | ((with_reducible first | apply go_ldA h | apply go_rd h | apply go_rdN h | apply go_rlen h); rfl)
 | (with_reducible first | apply go_ldN h | apply go_lenL h)
 | ((with_reducible apply go_st h); intro _ h)
 | ((with_reducible apply go_stA h); rfl; rfl; (first | rfl | simp [OneV.o]); intro _ h)
 | ((with_reducible apply go_stN h); rfl; (first | rfl | simp [OneV.o]); intro _ h)
 | ((with_reducible apply go_box h); rfl; intro _ _ h)
 | ((with_reducible apply go_ix h); omega)
 | ((with_reducible first | apply go_elN h | apply go_f1 h | apply go_rf1 h | apply go_rel h); (case hi => omega); (try case hx => exact inferInstance); (try case hv => rfl))
 | ((with_reducible apply go_fa h); omega; omega)
))
        unfold F15_5 F15_5b
        (repeat (first
 | (simp (disch := omega) only [evA, evB, evC, bAdd_i64, bSub_i64])
 | (with_reducible apply go_ld1 h)
 | ((with_reducible first | apply go_ldA h | apply go_rd h | apply go_rdN h | apply go_rlen h); rfl)
 | (with_reducible first | apply go_ldN h | apply go_lenL h)
 | ((with_reducible apply go_st h); intro _ h)
 | ((with_reducible apply go_stA h); rfl; rfl; (first | rfl | simp [OneV.o]); intro _ h)
 | ((with_reducible apply go_stN h); rfl; (first | rfl | simp [OneV.o]); intro _ h)
 | ((with_reducible apply go_box h); rfl; intro _ _ h)
 | ((with_reducible apply go_ix h); omega)
 | ((with_reducible first | apply go_elN h | apply go_f1 h | apply go_rf1 h | apply go_rel h); (case hi => omega); (try case hx => exact inferInstance); (try case hv => rfl))
 | ((with_reducible apply go_fa h); omega; omega)
))
        exact ih (i + 1) _ M _ (by omega) (by omega) (by rw [ht1]; exact H) (by rw [ht2]; exact h.got)
      have g1' : decide (x.t.seq > o.mark) = false := by simp; omega
      by_cases g2 : x.at_ ≤ now
      case neg =>
        have g2' : decide (x.at_ > now) = true := by simp; omega
        have hm : mayO o now x = false := by unfold mayO; rw [decide_eq_false g2]; simp
        have es : stepO o now x = x := by unfold stepO; rw [if_neg (by simp [hm])]
        rw [es] at ht1
        rw [if_neg (by simp [hm]), List.append_nil] at ht2
        (repeat (first
 | (simp (disch := omega) only [evA, evB, evC, bAdd_i64, bSub_i64, g1', g2'])
 | (with_reducible apply go_ld1 h)
 | ((with_reducible first | apply go_ldA h | apply go_rd h | apply go_rdN h | apply go_rlen h); rfl)
 | (with_reducible first | apply go_ldN h | apply go_lenL h)
 | ((with_reducible apply go_st h); intro _ h)
 | ((with_reducible apply go_stA h); rfl; rfl; (first | rfl | simp [OneV.o]); intro _ h)
 | ((with_reducible apply go_stN h); rfl; (first | rfl | simp [OneV.o]); intro _ h)
 | ((with_reducible apply go_box h); rfl; intro _ _ h)
 | ((with_reducible apply go_ix h); omega)
 | ((with_reducible first | apply go_elN h | apply go_f1 h | apply go_rf1 h | apply go_rel h); (case hi => omega); (try case hx => exact inferInstance); (try case hv => rfl))
 | ((with_reducible apply go_fa h); omega; omega)
))
        unfold F15_5 F15_5b
        (repeat (first
 | (simp (disch := omega) only [evA, evB, evC, bAdd_i64, bSub_i64])
 | (with_reducible apply go_ld1 h)
 | ((with_reducible first | apply go_ldA h | apply go_rd h | apply go_rdN h | apply go_rlen h); rfl)
 | (with_reducible first | apply go_ldN h | apply go_lenL h)
 | ((with_reducible apply go_st h); intro _ h)
 | ((with_reducible apply go_stA h); rfl; rfl; (first | rfl | simp [OneV.o]); intro _ h)
 | ((with_reducible apply go_stN h); rfl; (first | rfl | simp [OneV.o]); intro _ h)
 | ((with_reducible apply go_box h); rfl; intro _ _ h)
 | ((with_reducible apply go_ix h); omega)
 | ((with_reducible first | apply go_elN h | apply go_f1 h | apply go_rf1 h | apply go_rel h); (case hi => omega); (try case hx => exact inferInstance); (try case hv => rfl))
 | ((with_reducible apply go_fa h); omega; omega)
))
        exact ih (i + 1) _ M _ (by omega) (by omega) (by rw [ht1]; exact H) (by rw [ht2]; exact h.got)
      have g2' : decide (x.at_ > now) = false := by simp; omega
      have hm : mayO o now x = true := by unfold mayO; rw [decide_eq_true g1, decide_eq_true g2]; rfl
      have es : stepO o now x = sendO o now x := by unfold stepO; rw [if_pos hm]
      rw [es] at ht1
      rw [if_pos hm] at ht2
      (repeat (first
 | (simp (disch := omega) only [evA, evB, evC, bAdd_i64, bSub_i64, g1', g2'])
 | (with_reducible apply go_ld1 h)
 | ((with_reducible first | apply go_ldA h | apply go_rd h | apply go_rdN h | apply go_rlen h); rfl)
 | (with_reducible first | apply go_ldN h | apply go_lenL h)
 | ((with_reducible apply go_st h); intro _ h)
 | ((with_reducible apply go_stA h); rfl; rfl; (first | rfl | simp [OneV.o]); intro _ h)
 | ((with_reducible apply go_stN h); rfl; (first | rfl | simp [OneV.o]); intro _ h)
 | ((with_reducible apply go_box h); rfl; intro _ _ h)
 | ((with_reducible apply go_ix h); omega)
 | ((with_reducible first | apply go_elN h | apply go_f1 h | apply go_rf1 h | apply go_rel h); (case hi => omega); (try case hx => exact inferInstance); (try case hv => rfl))
 | ((with_reducible apply go_fa h); omega; omega)
))
      refine go_lit1 (x := x.t) CTk h u37 (fbTkS x.t) rfl fun s1 w h => ?_
      have emul : bMul (.int .i64 2) (.int .i64 (pauseN o.base o.top x.sent)) = some (.int .i64 (2 * pauseN o.base o.top x.sent)) := by rw [bMul_int, wrap_id (by omega)]
      (repeat (first
 | (simp (disch := omega) only [evA, evB, evC, bAdd_i64, bSub_i64, emul])
 | (with_reducible apply go_ld1 h)
 | ((with_reducible first | apply go_ldA h | apply go_rd h | apply go_rdN h | apply go_rlen h); rfl)
 | (with_reducible first | apply go_ldN h | apply go_lenL h)
 | ((with_reducible apply go_st h); intro _ h)
 | ((with_reducible apply go_stA h); rfl; rfl; (first | rfl | simp [OneV.o]); intro _ h)
 | ((with_reducible apply go_stN h); rfl; (first | rfl | simp [OneV.o]); intro _ h)
 | ((with_reducible apply go_box h); rfl; intro _ _ h)
 | ((with_reducible apply go_ix h); omega)
 | ((with_reducible first | apply go_elN h | apply go_f1 h | apply go_rf1 h | apply go_rel h); (case hi => omega); (try case hx => exact inferInstance); (try case hv => rfl))
 | ((with_reducible apply go_fa h); omega; omega)
 | ((with_reducible first | apply go_lit0 CTk h u37 (by kernel_rfl) | apply go_lit1 CTk h u37 (fbTkS _) rfl); intro _ _ h)
 | ((with_reducible apply go_app h sl37 ss37); (case hm => repeat (first | exact .here | apply Fnt.there)); (case hb => first | omega | (simp; omega)); intro _ _ _ h)
))
      refine eMapSet_sat (h.drew.frt (A := MapH kO ltV m M)) KIO um55 x.t.seq ((x.t, min (2 * pauseN o.base o.top x.sent) o.top, min (now + pauseN o.base o.top x.sent) 2305843009213693952) : Tk × Int × Int) fun w h => ?_
      unfold F15_5 F15_5b
      (repeat (first
 | (simp (disch := omega) only [evA, evB, evC, bAdd_i64, bSub_i64])
 | (with_reducible apply go_ld1 h)
 | ((with_reducible first | apply go_ldA h | apply go_rd h | apply go_rdN h | apply go_rlen h); rfl)
 | (with_reducible first | apply go_ldN h | apply go_lenL h)
 | ((with_reducible apply go_st h); intro _ h)
 | ((with_reducible apply go_stA h); rfl; rfl; (first | rfl | simp [OneV.o]); intro _ h)
 | ((with_reducible apply go_stN h); rfl; (first | rfl | simp [OneV.o]); intro _ h)
 | ((with_reducible apply go_box h); rfl; intro _ _ h)
 | ((with_reducible apply go_ix h); omega)
 | ((with_reducible first | apply go_elN h | apply go_f1 h | apply go_rf1 h | apply go_rel h); (case hi => omega); (try case hx => exact inferInstance); (try case hv => rfl))
 | ((with_reducible apply go_fa h); omega; omega)
))
      refine ih (i + 1) _ _ w (by omega) (by omega) ?_ (by rw [ht2]; exact h.got)
      have h1 := H.put STO.int (sendO o now x)
      have hsp := H.asc.ne STO.int
      rw [List.pairwise_append, List.pairwise_cons] at hsp
      have e2 : kPut ltI lKey (sendO o now x) ((o.ls.take i).map (stepO o now) ++ x :: o.ls.drop (i + 1)) = (o.ls.take i).map (stepO o now) ++ sendO o now x :: o.ls.drop (i + 1) := by
        rw [kPut_rep STO.int H.asc (x := sendO o now x) (b := x) (by simp) rfl]
        exact kRep_split (b := x) rfl (fun d hd => hsp.2.2 d hd x (by simp)) (fun d hd e => hsp.2.1.1 d hd e.symm)
      rw [e2] at h1
      rw [ht1]
      exact h1
    · have g' : decide ((i : Int) < (o.ls.length : Int)) = false := by simpa using g
      have e : i = o.ls.length := by omega
      subst e
      rw [List.take_length] at h
      rw [List.take_length, List.drop_length, List.append_nil] at H
      (repeat (first
 | (simp (disch := omega) only [evA, evB, evC, bAdd_i64, bSub_i64, g'])
 | (with_reducible apply go_ld1 h)
 | ((with_reducible first | apply go_ldA h | apply go_rd h | apply go_rdN h | apply go_rlen h); rfl)
 | (with_reducible first | apply go_ldN h | apply go_lenL h)
 | ((with_reducible apply go_st h); intro _ h)
 | ((with_reducible apply go_stA h); rfl; rfl; (first | rfl | simp [OneV.o]); intro _ h)
 | ((with_reducible apply go_stN h); rfl; (first | rfl | simp [OneV.o]); intro _ h)
 | ((with_reducible apply go_box h); rfl; intro _ _ h)
 | ((with_reducible apply go_ix h); omega)
 | ((with_reducible first | apply go_elN h | apply go_f1 h | apply go_rf1 h | apply go_rel h); (case hi => omega); (try case hx => exact inferInstance); (try case hv => rfl))
 | ((with_reducible apply go_fa h); omega; omega)
))
      unfold F15_3 F15_3b
      exact hK _ _ (Sat.f1 (outA_close (o := { o with ls := o.ls.map (stepO o now) }) H hok (h.got)))
theorem odue_spec (h : Sat w0 (OutA v o :: L) w) (hK0 : timeP now = false → ∀ w', Sat w0 (OutA v o :: L) w' → K (.tuple #[.slice none 0 0, .int .i64 1]) w')
    (hK1 : timeP now = true → ∀ s w', Sat w0 (LsH cTk 13 61 s ((o.ls.filter (mayO o now)).map (·.t)) :: OutA v { o with ls := o.ls.map (stepO o now) } :: L) w' → K (.tuple #[s, .int .i64 0]) w') : callP G15 [v, .int .i64 now] w K := by
  refine c15 ?_
  unfold F15 F15_1 F15_1b
  by_cases g1 : now < 0
  · have g1' : decide (now < 0) = true := by simpa using g1
    (repeat (first
 | (simp (disch := omega) only [evA, evB, evC, bAdd_i64, bSub_i64, g1'])
 | (with_reducible apply go_ld1 h)
 | ((with_reducible first | apply go_ldA h | apply go_rd h | apply go_rdN h | apply go_rlen h); rfl)
 | (with_reducible first | apply go_ldN h | apply go_lenL h)
 | ((with_reducible apply go_st h); intro _ h)
 | ((with_reducible apply go_stA h); rfl; rfl; (first | rfl | simp [OneV.o]); intro _ h)
 | ((with_reducible apply go_stN h); rfl; (first | rfl | simp [OneV.o]); intro _ h)
 | ((with_reducible apply go_box h); rfl; intro _ _ h)
 | ((with_reducible apply go_ix h); omega)
 | ((with_reducible first | apply go_elN h | apply go_f1 h | apply go_rf1 h | apply go_rel h); (case hi => omega); (try case hx => exact inferInstance); (try case hv => rfl))
 | ((with_reducible apply go_fa h); omega; omega)
))
    exact hK0 (by unfold timeP; simp; omega) _ h
  have g1' : decide (now < 0) = false := by simpa using g1
  by_cases g2 : now > 2305843009213693952
  · have g2' : decide (now > 2305843009213693952) = true := by simpa using g2
    (repeat (first
 | (simp (disch := omega) only [evA, evB, evC, bAdd_i64, bSub_i64, g1', g2'])
 | (with_reducible apply go_ld1 h)
 | ((with_reducible first | apply go_ldA h | apply go_rd h | apply go_rdN h | apply go_rlen h); rfl)
 | (with_reducible first | apply go_ldN h | apply go_lenL h)
 | ((with_reducible apply go_st h); intro _ h)
 | ((with_reducible apply go_stA h); rfl; rfl; (first | rfl | simp [OneV.o]); intro _ h)
 | ((with_reducible apply go_stN h); rfl; (first | rfl | simp [OneV.o]); intro _ h)
 | ((with_reducible apply go_box h); rfl; intro _ _ h)
 | ((with_reducible apply go_ix h); omega)
 | ((with_reducible first | apply go_elN h | apply go_f1 h | apply go_rf1 h | apply go_rel h); (case hi => omega); (try case hx => exact inferInstance); (try case hv => rfl))
 | ((with_reducible apply go_fa h); omega; omega)
))
    exact hK0 (by unfold timeP; simp; omega) _ h
  have g2' : decide (now > 2305843009213693952) = false := by simpa using g2
  have htp : timeP now = true := by unfold timeP; simp; omega
  (repeat (first
 | (simp (disch := omega) only [evA, evB, evC, bAdd_i64, bSub_i64, g1', g2'])
 | (with_reducible apply go_ld1 h)
 | ((with_reducible first | apply go_ldA h | apply go_rd h | apply go_rdN h | apply go_rlen h); rfl)
 | (with_reducible first | apply go_ldN h | apply go_lenL h)
 | ((with_reducible apply go_st h); intro _ h)
 | ((with_reducible apply go_stA h); rfl; rfl; (first | rfl | simp [OneV.o]); intro _ h)
 | ((with_reducible apply go_stN h); rfl; (first | rfl | simp [OneV.o]); intro _ h)
 | ((with_reducible apply go_box h); rfl; intro _ _ h)
 | ((with_reducible apply go_ix h); omega)
 | ((with_reducible first | apply go_elN h | apply go_f1 h | apply go_rf1 h | apply go_rel h); (case hi => omega); (try case hx => exact inferInstance); (try case hv => rfl))
 | ((with_reducible apply go_fa h); omega; omega)
))
  have oka := dueO_ok (outA_ok h) (now := now)
  unfold dueO at oka
  rw [if_neg (by rw [htp]; simp)] at oka
  refine onums_spec h fun nv w h => ?_
  obtain ⟨p, m, M, rfl, H, ok, h2⟩ := outA_open (h.frt (A := OutA v o))
  clear h
  have h := h2
  clear h2
  (repeat (first
 | (simp (disch := omega) only [evA, evB, evC, bAdd_i64, bSub_i64])
 | (with_reducible apply go_ld1 h)
 | ((with_reducible first | apply go_ldA h | apply go_rd h | apply go_rdN h | apply go_rlen h); rfl)
 | (with_reducible first | apply go_ldN h | apply go_lenL h)
 | ((with_reducible apply go_st h); intro _ h)
 | ((with_reducible apply go_stA h); rfl; rfl; (first | rfl | simp [OneV.o]); intro _ h)
 | ((with_reducible apply go_stN h); rfl; (first | rfl | simp [OneV.o]); intro _ h)
 | ((with_reducible apply go_box h); rfl; intro _ _ h)
 | ((with_reducible apply go_ix h); omega)
 | ((with_reducible first | apply go_elN h | apply go_f1 h | apply go_rf1 h | apply go_rel h); (case hi => omega); (try case hx => exact inferInstance); (try case hv => rfl))
 | ((with_reducible apply go_fa h); omega; omega)
))
  rw [List.length_map]
  unfold F15_2
  have h := Sat.nilLs cTk 13 61 h
  exact odue_loop (by omega) ok oka (hK1 htp) fuel 0 _ M _ (by have := ok.len; have := ok.most; unfold fuel; omega) (by omega) (by simpa using H) h
end
end Go.Proofs.Gong

/- Ob4 -/
namespace Go.Proofs.Gong
open Go Go.Sx Go.Proofs
set_option maxRecDepth 100000
def sStep (m : Int) (a : Int × Bool) (x : Int × (Tk × Int × Int)) : Int × Bool := if x.1 ≤ m ∧ (a.2 = false ∨ x.2.2.2 < a.1) then (x.2.2.2, true) else a
theorem sStep_comm (m : Int) (z : Int × Bool) (x y : Int × (Tk × Int × Int)) : sStep m (sStep m z x) y = sStep m (sStep m z y) x := by
  obtain ⟨a, b⟩ := z
  unfold sStep
  by_cases hx : x.1 ≤ m <;> by_cases hy : y.1 ≤ m <;> simp only [hx, hy, true_and, false_and, if_false]
  cases b
  · simp only [true_or, if_true, Bool.true_eq_false, false_or]
    by_cases h1 : y.2.2.2 < x.2.2.2 <;> by_cases h2 : x.2.2.2 < y.2.2.2 <;> simp only [h1, h2, if_true, if_false]
    · omega
    · have : x.2.2.2 = y.2.2.2 := by omega
      rw [this]
  · simp only [Bool.true_eq_false, false_or]
    by_cases h1 : x.2.2.2 < a <;> by_cases h2 : y.2.2.2 < a <;> by_cases h3 : y.2.2.2 < x.2.2.2 <;> by_cases h4 : x.2.2.2 < y.2.2.2 <;>
      simp only [h1, h2, h3, h4, if_true, if_false, Bool.true_eq_false, false_or, Prod.mk.injEq, and_true] <;> omega
theorem sFold_perm {m : Int} {l k : LMap} (h : l.Perm k) (z : Int × Bool) : l.foldl (sStep m) z = k.foldl (sStep m) z := by
  induction h generalizing z with
  | nil => rfl
  | cons x _ ih => exact ih _
  | swap x y l => simp only [List.foldl_cons]; rw [sStep_comm]
  | trans _ _ ih1 ih2 => rw [ih1, ih2]
theorem sFold_soon {o : Ob} {M : LMap} (H : KInv ltI lKey (lVal o.base o.top) M o.ls) : M.foldl (sStep o.mark) (0, false) = soonO o := by
  rw [sFold_perm H.pm, List.foldl_map]
  rfl
theorem tdiv50 {n : Int} (hn : -9223372036854775808 ≤ n ∧ n ≤ 9223372036854775807) : -9223372036854775808 ≤ n.tdiv 50 ∧ n.tdiv 50 ≤ 9223372036854775807 := by
  have e := Int.mul_tdiv_add_tmod n 50
  have h1 := Int.tmod_lt_of_pos n (b := 50) (by decide)
  have h2 := Int.lt_tmod_of_pos n (b := 50) (by decide)
  omega
attribute [local irreducible] fBuild fLook fZero eqv bEqv Cl MapH LsH SlH ld1 ldN st callP eBox eAlloc lenM lenL eMapSet eDelete eAppend eBuildSl eRange eNext
section
variable {w0 w : World} {L : List HP} {K : Value → World → Prop} {v : Value} {o : Ob} {n now : Int} {M : LMap}
theorem osoon_loop {p : Nat} {m it : Value} {T : Int × Bool} (hM : M.length ≤ 65536) (hK : ∀ w', Sat w0 (OCl p o m :: MapH kO ltV m M :: L) w' → K (.tuple #[.int .i64 T.1, .bool T.2]) w') :
    ∀ (k : Nat) (rem : LMap) (z : Int × Bool) (w : World), rem.length < k → rem.foldl (sStep o.mark) z = T → Sat w0 (ItH kO ltV it m M rem :: OCl p o m :: L) w →
      F33_2L k (ptr p) (.int .i64 z.1) (.bool z.2) it w K := by
  intro k
  induction k with
  | zero => intro rem z w hd; omega
  | succ k ih =>
    intro rem z w hd hT h
    rw [F33_2L]
    unfold F33_2b
    refine eNext_sat2 h (fun hn w h => ?_) (fun x r1 r2 w hs h hen => ?_)
    · have h2 := it_map h
      subst hn
      have hT : z = T := hT
      subst hT
      refine go_some (show pTuple over 0 = some (.bool false) from rfl) ?_
      (repeat (first
 | (simp (disch := omega) only [evA, evB, evC, bAdd_i64, bSub_i64])
 | (with_reducible apply go_ld1 h)
 | ((with_reducible first | apply go_ldA h | apply go_rd h | apply go_rdN h | apply go_rlen h); rfl)
 | (with_reducible first | apply go_ldN h | apply go_lenL h)
 | ((with_reducible apply go_st h); intro _ h)
 | ((with_reducible apply go_stA h); rfl; rfl; (first | rfl | simp [OneV.o]); intro _ h)
 | ((with_reducible apply go_stN h); rfl; (first | rfl | simp [OneV.o]); intro _ h)
 | ((with_reducible apply go_box h); rfl; intro _ _ h)
 | ((with_reducible apply go_ix h); omega)
 | ((with_reducible first | apply go_elN h | apply go_f1 h | apply go_rf1 h | apply go_rel h); (case hi => omega); (try case hx => exact inferInstance); (try case hv => rfl))
 | ((with_reducible apply go_fa h); omega; omega)
))
      unfold F33_3 F33_3b
      exact hK _ h2.f1
    · have hrm : rem.length = r1.length + r2.length + 1 := by rw [hs]; simp; omega
      have hT2 : (r1 ++ r2).foldl (sStep o.mark) (sStep o.mark z x) = T := by
        rw [← hT, hs]
        have hp : (r1 ++ x :: r2).Perm (x :: (r1 ++ r2)) := List.perm_middle
        rw [sFold_perm hp]; rfl
      refine go_some (show pTuple (.tuple #[.bool true, kO x.1, ltV x.2]) 0 = some (.bool true) from rfl) ?_
      (repeat (first
 | (simp (disch := omega) only [evA, evB, evC, bAdd_i64, bSub_i64])
 | (with_reducible apply go_ld1 h)
 | ((with_reducible first | apply go_ldA h | apply go_rd h | apply go_rdN h | apply go_rlen h); rfl)
 | (with_reducible first | apply go_ldN h | apply go_lenL h)
 | ((with_reducible apply go_st h); intro _ h)
 | ((with_reducible apply go_stA h); rfl; rfl; (first | rfl | simp [OneV.o]); intro _ h)
 | ((with_reducible apply go_stN h); rfl; (first | rfl | simp [OneV.o]); intro _ h)
 | ((with_reducible apply go_box h); rfl; intro _ _ h)
 | ((with_reducible apply go_ix h); omega)
 | ((with_reducible first | apply go_elN h | apply go_f1 h | apply go_rf1 h | apply go_rel h); (case hi => omega); (try case hx => exact inferInstance); (try case hv => rfl))
 | ((with_reducible apply go_fa h); omega; omega)
))
      refine go_some hen ?_
      refine go_some (show pTuple (.tuple #[kO x.1, ltV x.2]) 0 = some (kO x.1) from rfl) ?_
      refine go_some (show pTuple (.tuple #[kO x.1, ltV x.2]) 1 = some (ltV x.2) from rfl) ?_
      refine go_alloc h zLt rfl fun q _ h => ?_
      obtain ⟨za, zb⟩ := z
      by_cases g1 : x.1 ≤ o.mark
      case neg =>
        have g1' : decide (x.1 ≤ o.mark) = false := by simpa using g1
        have e : sStep o.mark (za, zb) x = (za, zb) := by unfold sStep; rw [if_neg (by simp [g1])]
        rw [e] at hT2
        (repeat (first
 | (simp (disch := omega) only [evA, evB, evC, bAdd_i64, bSub_i64, g1'])
 | (with_reducible apply go_ld1 h)
 | ((with_reducible first | apply go_ldA h | apply go_rd h | apply go_rdN h | apply go_rlen h); rfl)
 | (with_reducible first | apply go_ldN h | apply go_lenL h)
 | ((with_reducible apply go_st h); intro _ h)
 | ((with_reducible apply go_stA h); rfl; rfl; (first | rfl | simp [OneV.o]); intro _ h)
 | ((with_reducible apply go_stN h); rfl; (first | rfl | simp [OneV.o]); intro _ h)
 | ((with_reducible apply go_box h); rfl; intro _ _ h)
 | ((with_reducible apply go_ix h); omega)
 | ((with_reducible first | apply go_elN h | apply go_f1 h | apply go_rf1 h | apply go_rel h); (case hi => omega); (try case hx => exact inferInstance); (try case hv => rfl))
 | ((with_reducible apply go_fa h); omega; omega)
))
        exact ih _ (za, zb) _ (by rw [List.length_append]; omega) hT2 (h.got)
      have g1' : decide (x.1 ≤ o.mark) = true := by simpa using g1
      cases zb
      · have e : sStep o.mark (za, false) x = (x.2.2.2, true) := by unfold sStep; rw [if_pos ⟨g1, .inl rfl⟩]
        rw [e] at hT2
        (repeat (first
 | (simp (disch := omega) only [evA, evB, evC, bAdd_i64, bSub_i64, g1'])
 | (with_reducible apply go_ld1 h)
 | ((with_reducible first | apply go_ldA h | apply go_rd h | apply go_rdN h | apply go_rlen h); rfl)
 | (with_reducible first | apply go_ldN h | apply go_lenL h)
 | ((with_reducible apply go_st h); intro _ h)
 | ((with_reducible apply go_stA h); rfl; rfl; (first | rfl | simp [OneV.o]); intro _ h)
 | ((with_reducible apply go_stN h); rfl; (first | rfl | simp [OneV.o]); intro _ h)
 | ((with_reducible apply go_box h); rfl; intro _ _ h)
 | ((with_reducible apply go_ix h); omega)
 | ((with_reducible first | apply go_elN h | apply go_f1 h | apply go_rf1 h | apply go_rel h); (case hi => omega); (try case hx => exact inferInstance); (try case hv => rfl))
 | ((with_reducible apply go_fa h); omega; omega)
))
        exact ih _ (x.2.2.2, true) _ (by rw [List.length_append]; omega) hT2 (h.got)
      · by_cases g2 : x.2.2.2 < za
        · have g2' : decide (x.2.2.2 < za) = true := by simpa using g2
          have e : sStep o.mark (za, true) x = (x.2.2.2, true) := by unfold sStep; rw [if_pos ⟨g1, .inr g2⟩]
          rw [e] at hT2
          (repeat (first
 | (simp (disch := omega) only [evA, evB, evC, bAdd_i64, bSub_i64, g1', g2'])
 | (with_reducible apply go_ld1 h)
 | ((with_reducible first | apply go_ldA h | apply go_rd h | apply go_rdN h | apply go_rlen h); rfl)
 | (with_reducible first | apply go_ldN h | apply go_lenL h)
 | ((with_reducible apply go_st h); intro _ h)
 | ((with_reducible apply go_stA h); rfl; rfl; (first | rfl | simp [OneV.o]); intro _ h)
 | ((with_reducible apply go_stN h); rfl; (first | rfl | simp [OneV.o]); intro _ h)
 | ((with_reducible apply go_box h); rfl; intro _ _ h)
 | ((with_reducible apply go_ix h); omega)
 | ((with_reducible first | apply go_elN h | apply go_f1 h | apply go_rf1 h | apply go_rel h); (case hi => omega); (try case hx => exact inferInstance); (try case hv => rfl))
 | ((with_reducible apply go_fa h); omega; omega)
))
          exact ih _ (x.2.2.2, true) _ (by rw [List.length_append]; omega) hT2 (h.got)
        · have g2' : decide (x.2.2.2 < za) = false := by simpa using g2
          have e : sStep o.mark (za, true) x = (za, true) := by unfold sStep; rw [if_neg (by simp [g2])]
          rw [e] at hT2
          (repeat (first
 | (simp (disch := omega) only [evA, evB, evC, bAdd_i64, bSub_i64, g1', g2'])
 | (with_reducible apply go_ld1 h)
 | ((with_reducible first | apply go_ldA h | apply go_rd h | apply go_rdN h | apply go_rlen h); rfl)
 | (with_reducible first | apply go_ldN h | apply go_lenL h)
 | ((with_reducible apply go_st h); intro _ h)
 | ((with_reducible apply go_stA h); rfl; rfl; (first | rfl | simp [OneV.o]); intro _ h)
 | ((with_reducible apply go_stN h); rfl; (first | rfl | simp [OneV.o]); intro _ h)
 | ((with_reducible apply go_box h); rfl; intro _ _ h)
 | ((with_reducible apply go_ix h); omega)
 | ((with_reducible first | apply go_elN h | apply go_f1 h | apply go_rf1 h | apply go_rel h); (case hi => omega); (try case hx => exact inferInstance); (try case hv => rfl))
 | ((with_reducible apply go_fa h); omega; omega)
))
          exact ih _ (za, true) _ (by rw [List.length_append]; omega) hT2 (h.got)
theorem osoon_spec (h : Sat w0 (OutA v o :: L) w) (hK : ∀ w', Sat w0 (OutA v o :: L) w' → K (.tuple #[.int .i64 (soonO o).1, .bool (soonO o).2]) w') : callP G33 [v] w K := by
  obtain ⟨p, m, M, rfl, H, ok, h2⟩ := outA_open h
  clear h
  have h := h2
  clear h2
  have := map_one (h.frt (A := MapH kO ltV m M))
  have hlen : M.length ≤ 65536 := by rw [H.len]; have := ok.len; have := ok.most; omega
  refine c33 ?_
  unfold F33 F33_1 F33_1b
  (repeat (first
 | (simp (disch := omega) only [evA, evB, evC, bAdd_i64, bSub_i64])
 | (with_reducible apply go_ld1 h)
 | ((with_reducible first | apply go_ldA h | apply go_rd h | apply go_rdN h | apply go_rlen h); rfl)
 | (with_reducible first | apply go_ldN h | apply go_lenL h)
 | ((with_reducible apply go_st h); intro _ h)
 | ((with_reducible apply go_stA h); rfl; rfl; (first | rfl | simp [OneV.o]); intro _ h)
 | ((with_reducible apply go_stN h); rfl; (first | rfl | simp [OneV.o]); intro _ h)
 | ((with_reducible apply go_box h); rfl; intro _ _ h)
 | ((with_reducible apply go_ix h); omega)
 | ((with_reducible first | apply go_elN h | apply go_f1 h | apply go_rf1 h | apply go_rel h); (case hi => omega); (try case hx => exact inferInstance); (try case hv => rfl))
 | ((with_reducible apply go_fa h); omega; omega)
))
  refine eRange_sat (h.frt (A := MapH kO ltV m M)) um55 fun it w h => ?_
  unfold F33_2
  refine osoon_loop (T := soonO o) hlen (fun w h => hK w (outA_close H ok h)) fuel M (0, false) w (by unfold fuel; omega) (sFold_soon H) h
theorem orow_spec (hn : -9223372036854775808 ≤ n ∧ n ≤ 9223372036854775807) (h : Sat w0 L w) (hK : ∀ w', Sat w0 L w' → K (rowV (rowO n)) w') : callP G8 [.int .i64 n] w K := by
  refine c8 ?_
  unfold F8
  have zRo : fZero Tryd.prog 33 = some (rowV zeroTk.r) := z33
  refine go_alloc h zRo rfl fun q _ h => ?_
  refine Below_spec (by decide) (by decide) fun r h1 h2 er => ?_
  have e1 : fBuild Tryd.prog 31 [(0, .string ⟨#[110]⟩), (1, .string ⟨#[99]⟩), (3, .int .i64 3)] = some (.agg (cEv evO1).toArray) := by kernel_rfl
  have hq := tdiv50 hn
  have e2 : bQuo (.int .i64 n) (.int .i64 50) = some (.int .i64 (n.tdiv 50)) := by rw [bQuo_int _ _ _ (by decide), wrap_id (by omega)]
  (repeat (first
 | (simp (disch := omega) only [evA, evB, evC, bAdd_i64, bSub_i64])
 | (refine go_some (e1 ..) ?_)
 | (refine go_some (e2 ..) ?_)
 | (with_reducible apply go_ld1 h)
 | ((with_reducible first | apply go_ldA h | apply go_rd h | apply go_rdN h | apply go_rlen h); rfl)
 | (with_reducible first | apply go_ldN h | apply go_lenL h)
 | ((with_reducible apply go_st h); intro _ h)
 | ((with_reducible apply go_stA h); rfl; rfl; (first | rfl | simp [OneV.o]); intro _ h)
 | ((with_reducible apply go_stN h); rfl; (first | rfl | simp [OneV.o]); intro _ h)
 | ((with_reducible apply go_box h); rfl; intro _ _ h)
 | ((with_reducible apply go_ix h); omega)
 | ((with_reducible first | apply go_elN h | apply go_f1 h | apply go_rf1 h | apply go_rel h); (case hi => omega); (try case hx => exact inferInstance); (try case hv => rfl))
 | ((with_reducible apply go_fa h); omega; omega)
))
  refine Below_spec (by decide) (by decide) fun s h3 h4 es => ?_
  have e3 : fBuild Tryd.prog 33 [(0, .int .i64 (1 + r)), (1, .agg (cEv evO1).toArray), (2, .int .i64 (1 + s))] = some (rowV (rowO n)) := by
    rw [er, es]; kernel_rfl
  (repeat (first
 | (simp (disch := omega) only [evA, evB, evC, bAdd_i64, bSub_i64])
 | (refine go_some (e3 ..) ?_)
 | (with_reducible apply go_ld1 h)
 | ((with_reducible first | apply go_ldA h | apply go_rd h | apply go_rdN h | apply go_rlen h); rfl)
 | (with_reducible first | apply go_ldN h | apply go_lenL h)
 | ((with_reducible apply go_st h); intro _ h)
 | ((with_reducible apply go_stA h); rfl; rfl; (first | rfl | simp [OneV.o]); intro _ h)
 | ((with_reducible apply go_stN h); rfl; (first | rfl | simp [OneV.o]); intro _ h)
 | ((with_reducible apply go_box h); rfl; intro _ _ h)
 | ((with_reducible apply go_ix h); omega)
 | ((with_reducible first | apply go_elN h | apply go_f1 h | apply go_rf1 h | apply go_rel h); (case hi => omega); (try case hx => exact inferInstance); (try case hv => rfl))
 | ((with_reducible apply go_fa h); omega; omega)
))
  exact hK _ (h.got)
end
end Go.Proofs.Gong

/- Ob5 -/
namespace Go.Proofs.Gong
open Go Go.Sx Go.Proofs
set_option maxRecDepth 100000
theorem neTk' (x y : Operand) (a : Tk) : bNe Tryd.prog 61 x y (tkV a) (tkV a) = some (.bool false) := by
  rw [ne61]; simp [bs_sEq]
def wTk : Tk := ⟨1, 1, rowO 1⟩
def wO (s : Nat) (a : Int) : Ob := ⟨5, 1000000000, 4000000000, 1, 0, 1, [⟨wTk, s, a⟩]⟩
theorem w_put : putO 1 (rowO 1) (newO 5 1000000000 4000000000) = ((1, 0), ⟨5, 1000000000, 4000000000, 1, 0, 0, [⟨wTk, 0, 0⟩]⟩) := by
  unfold putO newO
  rw [okR_O]
  rfl
theorem w_mark : markO 1 ⟨5, 1000000000, 4000000000, 1, 0, 0, [⟨wTk, 0, 0⟩]⟩ = (0, wO 0 0) := by
  unfold markO
  rw [if_neg (by simp)]
  rfl
theorem w_no {s : Nat} {a now : Int} (h : now < a) : ((wO s a).ls.filter (mayO (wO s a) now)).map (·.t) = [] ∧ ({ wO s a with ls := (wO s a).ls.map (stepO (wO s a) now) } : Ob) = wO s a := by
  have hm : mayO (wO s a) now ⟨wTk, s, a⟩ = false := by unfold mayO; simp [h]
  constructor
  · show ([⟨wTk, s, a⟩].filter (mayO (wO s a) now)).map (·.t) = _
    simp only [List.filter_cons, List.filter_nil, hm]
    rfl
  · show Ob.mk _ _ _ _ _ _ ([⟨wTk, s, a⟩].map (stepO (wO s a) now)) = _
    simp only [List.map_cons, List.map_nil, stepO, hm]
    rfl
theorem w_yes {s : Nat} {a now : Int} (h : a ≤ now) : ((wO s a).ls.filter (mayO (wO s a) now)).map (·.t) = [wTk] ∧
    ({ wO s a with ls := (wO s a).ls.map (stepO (wO s a) now) } : Ob) = wO (s + 1) (min (now + pauseN 1000000000 4000000000 s) 2305843009213693952) := by
  have hm : mayO (wO s a) now ⟨wTk, s, a⟩ = true := by unfold mayO; simp [wO, wTk]; omega
  constructor
  · show ([⟨wTk, s, a⟩].filter (mayO (wO s a) now)).map (·.t) = _
    simp only [List.filter_cons, List.filter_nil, hm, if_true]
    rfl
  · show Ob.mk _ _ _ _ _ _ ([⟨wTk, s, a⟩].map (stepO (wO s a) now)) = _
    simp only [List.map_cons, List.map_nil, stepO, hm]
    rfl
abbrev wGaps : List Int := [0, 1, 2, 4, 4]
attribute [local irreducible] fBuild fLook fZero eqv bEqv Cl MapH LsH SlH ld1 ldN st callP eBox eAlloc lenM lenL eMapSet eDelete eAppend eBuildSl eRange eNext
section
variable {w0 w : World} {L : List HP} {K : Value → World → Prop} {v : Value} {o : Ob} {n now : Int} {M : LMap}
theorem works24_round {p k i s : Nat} {nv : Value} {t a : Int} (hi : i < wGaps.length) (ha : 0 < a ∧ a ≤ 1000000000000) (ht : 0 ≤ t) (hg : t + wGaps[i] * 1000000000 = a) (hw : wGaps[i] * 1000000000 ≤ 10000000000 ∧ 0 ≤ wGaps[i] * 1000000000) (h : Sat w0 (LsH cI 1 3 nv wGaps :: OutA (ptr p) (wO s a) :: L) w)
    (hE : ∀ w', Sat w0 (LsH cI 1 3 nv wGaps :: OutA (ptr p) (wO (s + 1) (min (a + pauseN 1000000000 4000000000 s) 2305843009213693952)) :: L) w' → F6_2L k (ptr p) (.int .i64 a) nv (.int .i64 5) (.int .i64 ((i + 1 : Nat) : Int)) w' K) :
    F6_2L (k + 1) (ptr p) (.int .i64 t) nv (.int .i64 5) (.int .i64 (i : Nat)) w K := by
  rw [F6_2L]
  unfold F6_2b
  have hi5 : i < 5 := hi
  have g' : decide ((i : Int) < 5) = true := by simp; omega
  have emul : bMul (.int .i64 wGaps[i]) (.int .i64 1000000000) = some (.int .i64 (wGaps[i] * 1000000000)) := by rw [bMul_int, wrap_id (by omega)]
  have ga : decide (a > 0) = true := by simp; omega
  (repeat (first
 | (simp (disch := omega) only [evA, evB, evC, bAdd_i64, bSub_i64, g', emul, hg])
 | (with_reducible apply go_ld1 h)
 | ((with_reducible first | apply go_ldA h | apply go_rd h | apply go_rdN h); rfl)
 | (with_reducible first | apply go_ldN h | apply go_lenR h)
 | ((with_reducible apply go_st h); intro _ h)
 | ((with_reducible apply go_stA h); rfl; rfl; (first | rfl | simp [OneV.o]); intro _ h)
 | ((with_reducible apply go_stN h); rfl; (first | rfl | simp [OneV.o]); intro _ h)
 | ((with_reducible apply go_box h); rfl; intro _ _ h)
 | ((with_reducible apply go_ixR h); omega)
 | ((with_reducible first | apply go_elR h | apply go_f1R h | apply go_rf1R h | apply go_relR h | apply go_e1R h | apply go_re1R h); (case hc => exact inferInstance); (case hi => omega); (try case hx => exact inferInstance); (try case hv => rfl))
 | ((with_reducible apply go_fNR h); (case hc => exact inferInstance); (case hi => omega); (try case hp => exact inferInstance); (try case hv => rfl))
 | ((with_reducible apply go_faR h); (case hc => exact inferInstance); omega; omega)
 | ((with_reducible apply go_rlenR h); rfl)
))
  refine odue_spec (v := ptr p) (o := wO s a) (now := a - 1) (h.frt (A := OutA (ptr p) (wO s a))) (fun ht => ?_) (fun _ s1 w h => ?_)
  · exfalso; unfold timeP at ht; simp at ht; omega
  obtain ⟨e1, e2⟩ := w_no (s := s) (a := a) (now := a - 1) (by omega)
  rw [e1, e2] at h
  (repeat (first
 | (simp (disch := omega) only [evA, evB, evC, bAdd_i64, bSub_i64])
 | (with_reducible apply go_ld1 h)
 | ((with_reducible first | apply go_ldA h | apply go_rd h | apply go_rdN h | apply go_rlen h); rfl)
 | (with_reducible first | apply go_ldN h | apply go_lenL h)
 | ((with_reducible apply go_st h); intro _ h)
 | ((with_reducible apply go_stA h); rfl; rfl; (first | rfl | simp [OneV.o]); intro _ h)
 | ((with_reducible apply go_stN h); rfl; (first | rfl | simp [OneV.o]); intro _ h)
 | ((with_reducible apply go_box h); rfl; intro _ _ h)
 | ((with_reducible apply go_ix h); omega)
 | ((with_reducible first | apply go_elN h | apply go_f1 h | apply go_rf1 h | apply go_rel h); (case hi => omega); (try case hx => exact inferInstance); (try case hv => rfl))
 | ((with_reducible apply go_fa h); omega; omega)
))
  refine odue_spec (v := ptr p) (o := wO s a) (now := a) (h.frt (A := OutA (ptr p) (wO s a))) (fun ht => ?_) (fun _ s2 w h => ?_)
  · exfalso; unfold timeP at ht; simp at ht; omega
  obtain ⟨e1, e2⟩ := w_yes (s := s) (a := a) (now := a) (by omega)
  rw [e1, e2] at h
  have l0 : ((([] : List Tk).length : Nat) : Int) = 0 := rfl
  have l1 : ((([wTk] : List Tk).length : Nat) : Int) = 1 := rfl
  (repeat (first
 | (simp (disch := omega) only [evA, evB, evC, bAdd_i64, bSub_i64, ga, l0, l1, Int.reduceEq])
 | (with_reducible apply go_ld1 h)
 | ((with_reducible first | apply go_ldA h | apply go_rd h | apply go_rdN h | apply go_rlen h); rfl)
 | (with_reducible first | apply go_ldN h | apply go_lenL h)
 | ((with_reducible apply go_st h); intro _ h)
 | ((with_reducible apply go_stA h); rfl; rfl; (first | rfl | simp [OneV.o]); intro _ h)
 | ((with_reducible apply go_stN h); rfl; (first | rfl | simp [OneV.o]); intro _ h)
 | ((with_reducible apply go_box h); rfl; intro _ _ h)
 | ((with_reducible apply go_ix h); omega)
 | ((with_reducible first | apply go_elN h | apply go_f1 h | apply go_rf1 h | apply go_rel h); (case hi => omega); (try case hx => exact inferInstance); (try case hv => rfl))
 | ((with_reducible apply go_fa h); omega; omega)
))
  exact hE _ (h.got)
theorem works24_spec (h : Sat w0 L w) (hK : ∀ w', Sat w0 L w' → K (.bool true) w') : callP G6 [] w K := by
  refine c6 ?_
  unfold F6 F6_1 F6_1b
  refine onew_spec (m := 5) (b := 1000000000) (t := 4000000000) (by omega) (by omega) h fun p w h => ?_
  (repeat (first
 | (simp (disch := omega) only [evA, evB, evC, bAdd_i64, bSub_i64, Int.reduceEq])
 | (refine go_some (bEq_nilp up23   ..) ?_)
 | (with_reducible apply go_ld1 h)
 | ((with_reducible first | apply go_ldA h | apply go_rd h | apply go_rdN h | apply go_rlen h); rfl)
 | (with_reducible first | apply go_ldN h | apply go_lenL h)
 | ((with_reducible apply go_st h); intro _ h)
 | ((with_reducible apply go_stA h); rfl; rfl; (first | rfl | simp [OneV.o]); intro _ h)
 | ((with_reducible apply go_stN h); rfl; (first | rfl | simp [OneV.o]); intro _ h)
 | ((with_reducible apply go_box h); rfl; intro _ _ h)
 | ((with_reducible apply go_ix h); omega)
 | ((with_reducible first | apply go_elN h | apply go_f1 h | apply go_rf1 h | apply go_rel h); (case hi => omega); (try case hx => exact inferInstance); (try case hv => rfl))
 | ((with_reducible apply go_fa h); omega; omega)
))
  refine orow_spec (n := 1) (by omega) h fun w h => ?_
  refine oput_spec (v := ptr p) (what := 1) (r := rowO 1) (o := newO 5 1000000000 4000000000) (by simp [newO]) (by simp [newO]) (rowO_fits 1).1 (rowO_fits 1).2 h fun w h => ?_
  rw [w_put] at h ⊢
  (repeat (first
 | (simp (disch := omega) only [evA, evB, evC, bAdd_i64, bSub_i64, Int.reduceEq])
 | (with_reducible apply go_ld1 h)
 | ((with_reducible first | apply go_ldA h | apply go_rd h | apply go_rdN h | apply go_rlen h); rfl)
 | (with_reducible first | apply go_ldN h | apply go_lenL h)
 | ((with_reducible apply go_st h); intro _ h)
 | ((with_reducible apply go_stA h); rfl; rfl; (first | rfl | simp [OneV.o]); intro _ h)
 | ((with_reducible apply go_stN h); rfl; (first | rfl | simp [OneV.o]); intro _ h)
 | ((with_reducible apply go_box h); rfl; intro _ _ h)
 | ((with_reducible apply go_ix h); omega)
 | ((with_reducible first | apply go_elN h | apply go_f1 h | apply go_rf1 h | apply go_rel h); (case hi => omega); (try case hx => exact inferInstance); (try case hv => rfl))
 | ((with_reducible apply go_fa h); omega; omega)
))
  refine omark_spec (v := ptr p) (n := 1) h fun w h => ?_
  rw [w_mark] at h ⊢
  (repeat (first
 | (simp (disch := omega) only [evA, evB, evC, bAdd_i64, bSub_i64, Int.reduceEq])
 | (with_reducible apply go_ld1 h)
 | ((with_reducible first | apply go_ldA h | apply go_rd h | apply go_rdN h | apply go_rlen h); rfl)
 | (with_reducible first | apply go_ldN h | apply go_lenL h)
 | ((with_reducible apply go_st h); intro _ h)
 | ((with_reducible apply go_stA h); rfl; rfl; (first | rfl | simp [OneV.o]); intro _ h)
 | ((with_reducible apply go_stN h); rfl; (first | rfl | simp [OneV.o]); intro _ h)
 | ((with_reducible apply go_box h); rfl; intro _ _ h)
 | ((with_reducible apply go_ix h); omega)
 | ((with_reducible first | apply go_elN h | apply go_f1 h | apply go_rf1 h | apply go_rel h); (case hi => omega); (try case hx => exact inferInstance); (try case hv => rfl))
 | ((with_reducible apply go_fa h); omega; omega)
))
  refine ls_lit (m := wGaps) (f := cI) (es := 1) (c := #[.int .i64 0, .int .i64 1, .int .i64 2, .int .i64 4, .int .i64 4]) CI h u22 (by kernel_rfl) rfl fun nv w h => ?_
  have l5 : ((wGaps.length : Nat) : Int) = 5 := rfl
  (repeat (first
 | (simp (disch := omega) only [evA, evB, evC, bAdd_i64, bSub_i64, l5])
 | (with_reducible apply go_ld1 h)
 | ((with_reducible first | apply go_ldA h | apply go_rd h | apply go_rdN h | apply go_rlen h); rfl)
 | (with_reducible first | apply go_ldN h | apply go_lenL h)
 | ((with_reducible apply go_st h); intro _ h)
 | ((with_reducible apply go_stA h); rfl; rfl; (first | rfl | simp [OneV.o]); intro _ h)
 | ((with_reducible apply go_stN h); rfl; (first | rfl | simp [OneV.o]); intro _ h)
 | ((with_reducible apply go_box h); rfl; intro _ _ h)
 | ((with_reducible apply go_ix h); omega)
 | ((with_reducible first | apply go_elN h | apply go_f1 h | apply go_rf1 h | apply go_rel h); (case hi => omega); (try case hx => exact inferInstance); (try case hv => rfl))
 | ((with_reducible apply go_fa h); omega; omega)
))
  unfold F6_2
  show F6_2L ((fuel - 6) + 1 + 1 + 1 + 1 + 1 + 1) _ _ _ _ (.int .i64 ((0 : Nat) : Int)) _ _
  have first : ∀ w', Sat w0 (LsH cI 1 3 nv wGaps :: OutA (ptr p) (wO 1 1000000000) :: L) w' → F6_2L ((fuel - 6) + 1 + 1 + 1 + 1 + 1) (ptr p) (.int .i64 0) nv (.int .i64 5) (.int .i64 ((0 + 1 : Nat) : Int)) w' K := by
    intro w h
    refine works24_round (i := 1) (s := 1) (t := 0) (a := 1000000000) (by decide) (by decide) (by decide) (by decide) (by decide) h fun w h => ?_
    rw [show min ((1000000000 : Int) + pauseN 1000000000 4000000000 1) 2305843009213693952 = 3000000000 from by decide] at h
    refine works24_round (i := 2) (s := 2) (t := 1000000000) (a := 3000000000) (by decide) (by decide) (by decide) (by decide) (by decide) h fun w h => ?_
    rw [show min ((3000000000 : Int) + pauseN 1000000000 4000000000 2) 2305843009213693952 = 7000000000 from by decide] at h
    refine works24_round (i := 3) (s := 3) (t := 3000000000) (a := 7000000000) (by decide) (by decide) (by decide) (by decide) (by decide) h fun w h => ?_
    rw [show min ((7000000000 : Int) + pauseN 1000000000 4000000000 3) 2305843009213693952 = 11000000000 from by decide] at h
    refine works24_round (i := 4) (s := 4) (t := 7000000000) (a := 11000000000) (by decide) (by decide) (by decide) (by decide) (by decide) h fun w h => ?_
    rw [F6_2L]
    unfold F6_2b
    (repeat (first
 | (simp (disch := omega) only [evA, evB, evC, bAdd_i64, bSub_i64, Int.reduceLT, Int.cast_ofNat_Int, Nat.reduceAdd])
 | (with_reducible apply go_ld1 h)
 | ((with_reducible first | apply go_ldA h | apply go_rd h | apply go_rdN h | apply go_rlen h); rfl)
 | (with_reducible first | apply go_ldN h | apply go_lenL h)
 | ((with_reducible apply go_st h); intro _ h)
 | ((with_reducible apply go_stA h); rfl; rfl; (first | rfl | simp [OneV.o]); intro _ h)
 | ((with_reducible apply go_stN h); rfl; (first | rfl | simp [OneV.o]); intro _ h)
 | ((with_reducible apply go_box h); rfl; intro _ _ h)
 | ((with_reducible apply go_ix h); omega)
 | ((with_reducible first | apply go_elN h | apply go_f1 h | apply go_rf1 h | apply go_rel h); (case hi => omega); (try case hx => exact inferInstance); (try case hv => rfl))
 | ((with_reducible apply go_fa h); omega; omega)
))
    unfold F6_3 F6_3b
    exact hK _ (h.got)
  rw [F6_2L]
  unfold F6_2b
  have g0 : decide (((0 : Nat) : Int) < 5) = true := by decide
  have z0 : wGaps[0] = 0 := rfl
  have m0 : bMul (.int .i64 0) (.int .i64 1000000000) = some (.int .i64 0) := by rw [bMul_int, wrap_id (by omega)]; rfl
  have m1 : bAdd (.int .i64 0) (.int .i64 0) = some (.int .i64 0) := by rw [bAdd_int, wrap_id (by omega)]; rfl
  have m2 : bSub (.int .i64 0) (.int .i64 1) = some (.int .i64 (-1)) := by rw [bSub_int, wrap_id (by omega)]; rfl
  (repeat (first
 | (simp (disch := omega) only [evA, evB, evC, bAdd_i64, bSub_i64, g0, z0, m0, m1, m2])
 | (with_reducible apply go_ld1 h)
 | ((with_reducible first | apply go_ldA h | apply go_rd h | apply go_rdN h); rfl)
 | (with_reducible first | apply go_ldN h | apply go_lenR h)
 | ((with_reducible apply go_st h); intro _ h)
 | ((with_reducible apply go_stA h); rfl; rfl; (first | rfl | simp [OneV.o]); intro _ h)
 | ((with_reducible apply go_stN h); rfl; (first | rfl | simp [OneV.o]); intro _ h)
 | ((with_reducible apply go_box h); rfl; intro _ _ h)
 | ((with_reducible apply go_ixR h); omega)
 | ((with_reducible first | apply go_elR h | apply go_f1R h | apply go_rf1R h | apply go_relR h | apply go_e1R h | apply go_re1R h); (case hc => exact inferInstance); (case hi => omega); (try case hx => exact inferInstance); (try case hv => rfl))
 | ((with_reducible apply go_fNR h); (case hc => exact inferInstance); (case hi => omega); (try case hp => exact inferInstance); (try case hv => rfl))
 | ((with_reducible apply go_faR h); (case hc => exact inferInstance); omega; omega)
 | ((with_reducible apply go_rlenR h); rfl)
))
  refine odue_spec (v := ptr p) (o := wO 0 0) (now := -1) (h.frt (A := OutA (ptr p) (wO 0 0))) (fun _ w h => ?_) (fun ht => ?_)
  case refine_2 => exfalso; unfold timeP at ht; simp at ht
  (repeat (first
 | (simp (disch := omega) only [evA, evB, evC, bAdd_i64, bSub_i64])
 | (with_reducible apply go_ld1 h)
 | ((with_reducible first | apply go_ldA h | apply go_rd h | apply go_rdN h | apply go_rlen h); rfl)
 | (with_reducible first | apply go_ldN h | apply go_lenL h)
 | ((with_reducible apply go_st h); intro _ h)
 | ((with_reducible apply go_stA h); rfl; rfl; (first | rfl | simp [OneV.o]); intro _ h)
 | ((with_reducible apply go_stN h); rfl; (first | rfl | simp [OneV.o]); intro _ h)
 | ((with_reducible apply go_box h); rfl; intro _ _ h)
 | ((with_reducible apply go_ix h); omega)
 | ((with_reducible first | apply go_elN h | apply go_f1 h | apply go_rf1 h | apply go_rel h); (case hi => omega); (try case hx => exact inferInstance); (try case hv => rfl))
 | ((with_reducible apply go_fa h); omega; omega)
))
  refine odue_spec (v := ptr p) (o := wO 0 0) (now := 0) (h.frt (A := OutA (ptr p) (wO 0 0))) (fun ht => ?_) (fun _ s2 w h => ?_)
  · exfalso; unfold timeP at ht; simp at ht
  obtain ⟨e1, e2⟩ := w_yes (s := 0) (a := 0) (now := 0) (by omega)
  rw [e1, e2, show min ((0 : Int) + pauseN 1000000000 4000000000 0) 2305843009213693952 = 1000000000 from by decide] at h
  have l1 : ((([wTk] : List Tk).length : Nat) : Int) = 1 := rfl
  have ga : decide ((0 : Int) > 0) = false := by decide
  (repeat (first
 | (simp (disch := omega) only [evA, evB, evC, bAdd_i64, bSub_i64, ga, l1, Int.reduceEq])
 | (with_reducible apply go_ld1 h)
 | ((with_reducible first | apply go_ldA h | apply go_rd h | apply go_rdN h | apply go_rlen h); rfl)
 | (with_reducible first | apply go_ldN h | apply go_lenL h)
 | ((with_reducible apply go_st h); intro _ h)
 | ((with_reducible apply go_stA h); rfl; rfl; (first | rfl | simp [OneV.o]); intro _ h)
 | ((with_reducible apply go_stN h); rfl; (first | rfl | simp [OneV.o]); intro _ h)
 | ((with_reducible apply go_box h); rfl; intro _ _ h)
 | ((with_reducible apply go_ix h); omega)
 | ((with_reducible first | apply go_elN h | apply go_f1 h | apply go_rf1 h | apply go_rel h); (case hi => omega); (try case hx => exact inferInstance); (try case hv => rfl))
 | ((with_reducible apply go_fa h); omega; omega)
))
  exact first _ (h.got)
end
end Go.Proofs.Gong

/- Oa0 -/
namespace Go.Proofs.Gong
open Go Go.Sx Go.Proofs
set_option maxRecDepth 100000
abbrev freshL (t : Tk) : Ltr := ⟨t, 0, 0⟩
theorem kIns_map {α β κ : Type} {lt : κ → κ → Bool} {key : α → κ} {key' : β → κ} {f : α → β} (hk : ∀ y, key' (f y) = key y) (x : α) (l : List α) : kIns lt key' (f x) (l.map f) = (kIns lt key x l).map f := by
  unfold kIns
  have e : ((fun d => lt (key' d) (key' (f x))) ∘ f) = fun d => lt (key d) (key x) := by funext d; simp [hk]
  rw [List.takeWhile_map, List.dropWhile_map, e]
  simp
theorem freshL_put {b : Int} {M : List (Int × (Tk × Int × Int))} {lv : Ltr → Tk × Int × Int} (hv : ∀ t, lv (freshL t) = (t, b, 0)) {ts : List Tk} {t : Tk} (H : KInv ltI lKey lv M (ts.map freshL)) (hn : ∀ d ∈ ts, d.seq ≠ t.seq) :
    KInv ltI lKey lv (aSet t.seq (t, b, 0) M) ((kIns ltI tKey t ts).map freshL) := by
  have h := H.put STO.int (freshL t)
  rw [hv] at h
  have e : kPut ltI lKey (freshL t) (ts.map freshL) = (kIns ltI tKey t ts).map freshL := by
    unfold kPut
    rw [kDel_id (by intro d hd; obtain ⟨x, hx, rfl⟩ := List.mem_map.1 hd; exact hn x hx)]
    exact kIns_map (fun _ => rfl) t ts
  rw [e] at h
  exact h
section
variable {o : Ob} (H : OOk o)
include H
end
def loadedO (o : Ob) (last refused : Int) (ds : List Tk) : Ob := { o with last := last, refused := refused, mark := last, ls := ds.map freshL }
structure Nine (i : Nat) (o : Ob) : Prop where
  most : o.most = 9 ∧ o.base = 1 ∧ o.top = 1
  last : 0 ≤ o.last ∧ o.last ≤ i
  refused : 0 ≤ o.refused ∧ o.refused ≤ i
  rows : ∀ x ∈ o.ls, ∃ n, x.t.r = rowO n
theorem Nine.new : Nine 0 (newO 9 1 1) := ⟨⟨rfl, rfl, rfl⟩, by simp [newO], by simp [newO], by simp [newO]⟩
theorem Nine.put {i : Nat} {o : Ob} (h : Nine i o) (n : Int) : Nine (i + 1) (putO 1 (rowO n) o).2 := by
  have h1 := h.last
  have h2 := h.refused
  unfold putO
  split
  · exact ⟨h.most, by show 0 ≤ o.last ∧ o.last ≤ _; omega, by show 0 ≤ o.refused ∧ o.refused ≤ _; omega, h.rows⟩
  split
  · exact ⟨h.most, by show 0 ≤ o.last ∧ o.last ≤ _; omega, by show 0 ≤ o.refused + 1 ∧ o.refused + 1 ≤ _; omega, h.rows⟩
  · refine ⟨h.most, by show 0 ≤ o.last + 1 ∧ o.last + 1 ≤ _; omega, by show 0 ≤ o.refused ∧ o.refused ≤ _; omega, fun x hx => ?_⟩
    rcases List.mem_append.1 hx with hx | hx
    · exact h.rows x hx
    · simp at hx; subst hx; exact ⟨n, rfl⟩
theorem Nine.ack {i : Nat} {o : Ob} (h : Nine i o) (n : Int) : Nine i (ackO n o).2 := by
  unfold ackO
  split
  · exact ⟨h.most, h.last, h.refused, fun x hx => h.rows x (kDel_sub x hx)⟩
  · exact h
end Go.Proofs.Gong

/- Outbox2 -/
namespace Go.Proofs.Gong
open Go Go.Sx Go.Proofs
set_option linter.all false
set_option maxRecDepth 100000
variable {kn kr : ET} {ke : JT}
def T25 : List (Nat × FnT) := [(22, G22)]
def F25 (x0 : Value) (w : World) (K : V1) : Prop :=
eBox 61 x0 w fun v2 w1 =>
bindP (pFieldAddr 1 v2) fun v3 =>
bindP (ld1 v3 w1) fun v4 =>
bindP (bGe v4 (.int .i64 0)) fun v5 =>
Sx.stepG (gd true v5) (pFieldAddr 1 v2) fun v6 =>
Sx.stepG (gd true v5) (ld1 v6 w1) fun v7 =>
Sx.stepG (gd true v5) (bLt v7 (.int .i64 256)) fun v8 =>
bindP (pPick v5 v8 (.bool false)) fun v9 =>
Sx.stepG (gd true v9) (pFieldAddr 1 v2) fun v10 =>
Sx.stepG (gd true v9) (ld1 v10 w1) fun v11 =>
Sx.stepG (gd true v9) (pIndexP 256 1 (.pointer (some ⟨0, 0, none⟩)) v11) fun v12 =>
Sx.stepG (gd true v9) (ld1 v12 w1) fun v13 =>
bindP (pPick v9 v13 (.bool false)) fun v14 =>
bindP (pFieldAddr 0 v2) fun v15 =>
bindP (ld1 v15 w1) fun v16 =>
bindP (bLt v16 (.int .i64 1)) fun v17 =>
Sx.stepG (gd false v17) (pFieldAddr 0 v2) fun v18 =>
Sx.stepG (gd false v17) (ld1 v18 w1) fun v19 =>
Sx.stepG (gd false v17) (bGt v19 (.int .i64 1152921504606846976)) fun v20 =>
bindP (pPick v17 (.bool true) v20) fun v21 =>
stepM (gd false v21) v14 fun v22 =>
Sx.stepG (gd false v21) (uNot v22) fun v23 =>
bindP (pPick v21 (.bool true) v23) fun v24 =>
Sx.stepG (gd false v24) (pFieldAddr 2 v2) fun v25 =>
Sx.stepG (gd false v24) (ldN 11 v25 w1) fun v26 =>
stepE (gd false v24) (fun k => callP G22 [v26] w1 k) w1 fun v28 w27 =>
Sx.stepG (gd false v24) (bNe Tryd.prog 24 (.tmp 33) (.const (.int .i64 0)) v28 (.int .i64 0)) fun v29 =>
bindP (pPick v24 (.bool true) v29) fun v30 =>
ifB v30 (
K (.int .i64 230) w27) (
K (.int .i64 0) w27)
def G25 : FnT := fun args w K => on1 (fun x0 => F25 x0 w K) args
theorem c25 {x0 : Value} {w : World} {K : V1} (h : F25 x0 w K) : callP G25 [x0] w K := callP_intro (on1_mk (p := fun x0 => F25 x0 w K) h)
theorem ok25 : OkF Tryd.prog 25 G25 := by
  refine okF_of (tab_ok (l := T25) ⟨ok22, trivial⟩) mixed (n := fuel) Tryd.func25 Tryd.call25 fun args w K h => ?_
  obtain ⟨x0, rfl, hh⟩ := of_on1 h
  exact fnD_list (c := bodyOf Tryd.f25) (by kernel_rfl) (by kernel_rfl) (Eq.mp (by kernel_rfl) hh)
def T12 : List (Nat × FnT) := [(23, G23), (25, G25)]
def F12_3b (s0 s1 s9 : Value) (w : World) (K : V1) : Prop :=
bindP (lenL s1) fun v1 =>
bindP (pNil s0) fun v2 =>
bindP (pFieldAddr 0 v2) fun v3 =>
bindP (ld1 v3 w) fun v4 =>
bindP (bGt v1 v4) fun v5 =>
ifB v5 (
K (.int .i64 200) w) (
bindP (pNil s9) fun v6 =>
bindP (ldN 7 v6 w) fun v7 =>
bindP (pNil s0) fun v8 =>
bindW (st 7 v8 v7 w) fun w9 =>
K (.int .i64 0) w9)
def F12_3 (s0 s1 s9 : Value) (w : World) (K : V1) : Prop := F12_3b s0 s1 s9 w K
theorem ok12_3 {K : V1}
    (hn : HN (fun e w => K (e 8) w) kn) (hr : HR Tryd.prog [.tmp 8] K kr) (he : HE noE ke) :
    ∀ e w, F12_3 (e 0) (e 1) (e 9) w K → denL Tryd.prog (tabOf T12) 90 fuel ((flat (bodyOf Tryd.f12)).drop 6) e w kn kr ke := by
  intro e w h
  unfold F12_3 at h
  have e1 : ∀ (_ : Unit), F12_3b (e 0) (e 1) (e 9) w K = denL Tryd.prog (tabOf T12) 90 fuel ((flat (bodyOf Tryd.f12)).drop 6) e w (fun e w => K (e 8) w) (endD Tryd.prog [.tmp 8] K) noE := by intro _; kernel_rfl
  exact seg_end (Eq.mp (e1 ()) h) hn hr he
def F12_2b (s0 s1 s2 s9 s46 s47 s48 : Value) (w : World) (K : V1) (Y0 : V7) (Y1 : V3) : Prop :=
bindP (bLt s48 s47) fun v11 =>
ifB v11 (
bindP (pIndexL 13 s46 s48) fun v12 =>
bindP (ldN 13 v12 w) fun v13 =>
eAlloc Tryd.prog 61 w fun v15 w14 =>
bindW (st 13 v15 v13 w14) fun w16 =>
bindP (pNil s9) fun v18 =>
bindP (pFieldAddr 6 v18) fun v19 =>
bindP (ld1 v19 w16.drew) fun v20 =>
bindP (pFieldAddr 0 v15) fun v21 =>
bindP (ld1 v21 w16.drew) fun v22 =>
bindP (fLook Tryd.prog 55 v20 v22 true w16.drew) fun v23 =>
bindP (pTuple v23 0) fun v24 =>
bindP (pTuple v23 1) fun v25 =>
eAlloc Tryd.prog 63 w16.drew fun v27 w26 =>
(fok true (ld1 v19 w26) v20 ∧ fok true (ld1 v21 w26) v22 ∧ fok true (fLook Tryd.prog 55 v20 v22 true w26) v23) ∧ (bindW (st 15 v27 v24 w26) fun w28 =>
bindP (ldN 13 v15 w28) fun v30 =>
callP G25 [v30] w28 fun v32 w31 =>
bindP (bNe Tryd.prog 24 (.tmp 63) (.const (.int .i64 0)) v32 (.int .i64 0)) fun v33 =>
Sx.stepG (gd false v33) (pFieldAddr 0 v15) fun v34 =>
Sx.stepG (gd false v33) (ld1 v34 w31) fun v35 =>
stepM (gd false v33) s2 fun v36 =>
Sx.stepG (gd false v33) (bGt v35 v36) fun v37 =>
bindP (pPick v33 (.bool true) v37) fun v38 =>
stepM (gd false v38) v25 fun v39 =>
bindP (pPick v38 (.bool true) v39) fun v40 =>
ifB v40 (
K (.int .i64 4) w31) (
bindP (ldN 13 v15 w31) fun v41 =>
callP G23 [s9, v41] w31 fun _ w42 =>
bindP (bAdd s48 (.int .i64 1)) fun v44 =>
Y0 s0 s1 s2 s9 s46 s47 v44 w42))) (
Y1 s0 s1 s9 w)
def F12_2L : Nat → Value → Value → Value → Value → Value → Value → Value → World → (V1) → Prop
  | 0, _, _, _, _, _, _, _, _, _ => False
  | n + 1, s0, s1, s2, s9, s46, s47, s48, w, K => F12_2b s0 s1 s2 s9 s46 s47 s48 w K (fun a0 a1 a2 a9 a46 a47 a48 w => F12_2L n a0 a1 a2 a9 a46 a47 a48 w K) (fun a0 a1 a9 w => F12_3 a0 a1 a9 w K)
def F12_2 (s0 s1 s2 s9 s46 s47 s48 : Value) (w : World) (K : V1) : Prop := F12_2L fuel s0 s1 s2 s9 s46 s47 s48 w K
theorem ok12_2 {K : V1}
    (hn : HN (fun e w => K (e 8) w) kn) (hr : HR Tryd.prog [.tmp 8] K kr) (he : HE noE ke) :
    ∀ e w, F12_2 (e 0) (e 1) (e 2) (e 9) (e 46) (e 47) (e 48) w K → denL Tryd.prog (tabOf T12) 90 fuel ((flat (bodyOf Tryd.f12)).drop 5) e w kn kr ke := by
  intro e w h
  unfold F12_2 at h
  refine seg_loop (id := 0) (body := (loopB (blkB (nthC (flat (bodyOf Tryd.f12)) 5)))) (l2 := (flat (bodyOf Tryd.f12)).drop 6) (by kernel_rfl) ?_
  refine loop_ok (FL := fun m e w => F12_2L m (e 0) (e 1) (e 2) (e 9) (e 46) (e 47) (e 48) w K) (fr := endD Tryd.prog [.tmp 8] K) (fe := (blkK 0 (fun e w => F12_3 (e 0) (e 1) (e 9) w K) noE)) (fun _ _ h => h) ?_ hr (blkK_mono (fun e w h => ok12_3 hn hr he e w h) he) fuel e w h
  intro m e w h
  have h : F12_2L (m + 1) (e 0) (e 1) (e 2) (e 9) (e 46) (e 47) (e 48) w K := h
  rw [F12_2L] at h
  have e1 : ∀ (Y0 : V7) (Y1 : V3), F12_2b (e 0) (e 1) (e 2) (e 9) (e 46) (e 47) (e 48) w K Y0 Y1 = denL Tryd.prog (tabOf T12) 90 fuel (flat (loopB (blkB (nthC (flat (bodyOf Tryd.f12)) 5)))) e w (fun e w => Y0 (e 0) (e 1) (e 2) (e 9) (e 46) (e 47) (e 48) w) (endD Tryd.prog [.tmp 8] K) (blkK 0 (fun e w => Y1 (e 0) (e 1) (e 9) w) noE) := by intro Y0 Y1; kernel_rfl
  exact Eq.mp (e1 (fun a0 a1 a2 a9 a46 a47 a48 w => F12_2L m a0 a1 a2 a9 a46 a47 a48 w K) (fun a0 a1 a9 w => F12_3 a0 a1 a9 w K)) h
def F12_1b (s0 s1 s2 s3 : Value) (w : World) (K : V1) (Y0 : V7) : Prop :=
bindP (bLt s2 (.int .i64 0)) fun v45 =>
stepM (gd false v45) s2 fun v46 =>
Sx.stepG (gd false v45) (bGt v46 (.int .i64 1152921504606846976)) fun v47 =>
bindP (pPick v45 (.bool true) v47) fun v48 =>
stepM (gd false v48) s3 fun v49 =>
Sx.stepG (gd false v48) (bLt v49 (.int .i64 0)) fun v50 =>
bindP (pPick v48 (.bool true) v50) fun v51 =>
stepM (gd false v51) s3 fun v52 =>
Sx.stepG (gd false v51) (bGt v52 (.int .i64 1152921504606846976)) fun v53 =>
bindP (pPick v51 (.bool true) v53) fun v54 =>
ifB v54 (
K (.int .i64 4) w) (
bindP (pNil s0) fun v55 =>
bindP (pFieldAddr 0 v55) fun v56 =>
bindP (ld1 v56 w.drew) fun v57 =>
bindP (pNil s0) fun v58 =>
bindP (pFieldAddr 1 v58) fun v59 =>
bindP (ld1 v59 w.drew) fun v60 =>
bindP (pNil s0) fun v61 =>
bindP (pFieldAddr 2 v61) fun v62 =>
bindP (ld1 v62 w.drew) fun v63 =>
eMakeMap none w.drew fun v65 w64 =>
(fok true (ld1 v56 w64) v57 ∧ fok true (ld1 v59 w64) v60 ∧ fok true (ld1 v62 w64) v63) ∧ (bindP (fBuild Tryd.prog 57 [(0, v57), (1, v60), (2, v63), (3, s2), (4, s3), (5, s2), (6, v65)]) fun v66 =>
eBox 57 v66 w64 fun v68 w67 =>
bindP (lenL s1) fun v69 =>
Y0 s0 s1 s2 v68 s1 v69 (.int .i64 0) w67))
def F12_1 (s0 s1 s2 s3 : Value) (w : World) (K : V1) : Prop := F12_1b s0 s1 s2 s3 w K (fun a0 a1 a2 a9 a46 a47 a48 w => F12_2 a0 a1 a2 a9 a46 a47 a48 w K)
theorem ok12_1 {K : V1}
    (hn : HN (fun e w => K (e 8) w) kn) (hr : HR Tryd.prog [.tmp 8] K kr) (he : HE noE ke) :
    ∀ e w, F12_1 (e 0) (e 1) (e 2) (e 3) w K → denL Tryd.prog (tabOf T12) 90 fuel ((flat (bodyOf Tryd.f12)).drop 0) e w kn kr ke := by
  intro e w h
  unfold F12_1 at h
  have e1 : ∀ (Y0 : V7), F12_1b (e 0) (e 1) (e 2) (e 3) w K Y0 = denL Tryd.prog (tabOf T12) 90 fuel (((flat (bodyOf Tryd.f12)).drop 0).take 5) e w (fun e w => Y0 (e 0) (e 1) (e 2) (e 9) (e 46) (e 47) (e 48) w) (endD Tryd.prog [.tmp 8] K) noE := by intro Y0; kernel_rfl
  exact seg 5 (Eq.mp (e1 (fun a0 a1 a2 a9 a46 a47 a48 w => F12_2 a0 a1 a2 a9 a46 a47 a48 w K)) h) (fun e w h => ok12_2 hn hr he e w h) hr he
def F12 (x0 x1 x2 x3 : Value) (w : World) (K : V1) : Prop := F12_1 x0 x1 x2 x3 w K
def G12 : FnT := fun args w K => on4 (fun x0 x1 x2 x3 => F12 x0 x1 x2 x3 w K) args
theorem c12 {x0 x1 x2 x3 : Value} {w : World} {K : V1} (h : F12 x0 x1 x2 x3 w K) : callP G12 [x0, x1, x2, x3] w K := callP_intro (on4_mk (p := fun x0 x1 x2 x3 => F12 x0 x1 x2 x3 w K) h)
theorem ok12 : OkF Tryd.prog 12 G12 := by
  refine okF_of (tab_ok (l := T12) ⟨ok23, ok25, trivial⟩) mixed (n := fuel) Tryd.func12 Tryd.call12 fun args w K h => ?_
  obtain ⟨x0, x1, x2, x3, rfl, hh⟩ := of_on4 h
  unfold F12 at hh
  exact fnD_list (c := bodyOf Tryd.f12) (by kernel_rfl) (by kernel_rfl) (ok12_1 (fun _ _ h => h) (fun _ _ h => h) (fun _ _ _ h => h) (initE [x0, x1, x2, x3]) w hh)
def T16 : List (Nat × FnT) := []
def F16_3b (w : World) (K : V1) : Prop :=
K (.bool true) w
def F16_3 (w : World) (K : V1) : Prop := F16_3b w K
theorem ok16_3 {K : V1}
    (hn : HN (fun e w => K (e 4) w) kn) (hr : HR Tryd.prog [.tmp 4] K kr) (he : HE noE ke) :
    ∀ e w, F16_3 w K → denL Tryd.prog (tabOf T16) 26 fuel ((flat (bodyOf Tryd.f16)).drop 5) e w kn kr ke := by
  intro e w h
  unfold F16_3 at h
  have e1 : ∀ (_ : Unit), F16_3b w K = denL Tryd.prog (tabOf T16) 26 fuel ((flat (bodyOf Tryd.f16)).drop 5) e w (fun e w => K (e 4) w) (endD Tryd.prog [.tmp 4] K) noE := by intro _; kernel_rfl
  exact seg_end (Eq.mp (e1 ()) h) hn hr he
def F16_2b (s0 s1 s5 : Value) (w : World) (K : V1) (Y0 : V3) (Y1 : V0) : Prop :=
bindP (lenL s0) fun v1 =>
bindP (bLt s5 v1) fun v2 =>
ifB v2 (
bindP (pIndexL 13 s0 s5) fun v3 =>
bindP (ldN 13 v3 w.drew) fun v4 =>
bindP (pIndexL 13 s1 s5) fun v5 =>
bindP (ldN 13 v5 w.drew) fun v6 =>
bindP (bNe Tryd.prog 61 (.tmp 20) (.tmp 24) v4 v6) fun v7 =>
ifB v7 (
K (.bool false) w.drew) (
bindP (bAdd s5 (.int .i64 1)) fun v8 =>
Y0 s0 s1 v8 w.drew)) (
Y1 w)
def F16_2L : Nat → Value → Value → Value → World → (V1) → Prop
  | 0, _, _, _, _, _ => False
  | n + 1, s0, s1, s5, w, K => F16_2b s0 s1 s5 w K (fun a0 a1 a5 w => F16_2L n a0 a1 a5 w K) (fun w => F16_3 w K)
def F16_2 (s0 s1 s5 : Value) (w : World) (K : V1) : Prop := F16_2L fuel s0 s1 s5 w K
theorem ok16_2 {K : V1}
    (hn : HN (fun e w => K (e 4) w) kn) (hr : HR Tryd.prog [.tmp 4] K kr) (he : HE noE ke) :
    ∀ e w, F16_2 (e 0) (e 1) (e 5) w K → denL Tryd.prog (tabOf T16) 26 fuel ((flat (bodyOf Tryd.f16)).drop 4) e w kn kr ke := by
  intro e w h
  unfold F16_2 at h
  refine seg_loop (id := 0) (body := (loopB (blkB (nthC (flat (bodyOf Tryd.f16)) 4)))) (l2 := (flat (bodyOf Tryd.f16)).drop 5) (by kernel_rfl) ?_
  refine loop_ok (FL := fun m e w => F16_2L m (e 0) (e 1) (e 5) w K) (fr := endD Tryd.prog [.tmp 4] K) (fe := (blkK 0 (fun e w => F16_3 w K) noE)) (fun _ _ h => h) ?_ hr (blkK_mono (fun e w h => ok16_3 hn hr he e w h) he) fuel e w h
  intro m e w h
  have h : F16_2L (m + 1) (e 0) (e 1) (e 5) w K := h
  rw [F16_2L] at h
  have e1 : ∀ (Y0 : V3) (Y1 : V0), F16_2b (e 0) (e 1) (e 5) w K Y0 Y1 = denL Tryd.prog (tabOf T16) 26 fuel (flat (loopB (blkB (nthC (flat (bodyOf Tryd.f16)) 4)))) e w (fun e w => Y0 (e 0) (e 1) (e 5) w) (endD Tryd.prog [.tmp 4] K) (blkK 0 (fun e w => Y1 w) noE) := by intro Y0 Y1; kernel_rfl
  exact Eq.mp (e1 (fun a0 a1 a5 w => F16_2L m a0 a1 a5 w K) (fun w => F16_3 w K)) h
def F16_1b (s0 s1 : Value) (w : World) (K : V1) (Y0 : V3) : Prop :=
bindP (lenL s0) fun v9 =>
bindP (lenL s1) fun v10 =>
bindP (bNe Tryd.prog 3 (.tmp 7) (.tmp 9) v9 v10) fun v11 =>
ifB v11 (
K (.bool false) w) (
Y0 s0 s1 (.int .i64 0) w)
def F16_1 (s0 s1 : Value) (w : World) (K : V1) : Prop := F16_1b s0 s1 w K (fun a0 a1 a5 w => F16_2 a0 a1 a5 w K)
theorem ok16_1 {K : V1}
    (hn : HN (fun e w => K (e 4) w) kn) (hr : HR Tryd.prog [.tmp 4] K kr) (he : HE noE ke) :
    ∀ e w, F16_1 (e 0) (e 1) w K → denL Tryd.prog (tabOf T16) 26 fuel ((flat (bodyOf Tryd.f16)).drop 0) e w kn kr ke := by
  intro e w h
  unfold F16_1 at h
  have e1 : ∀ (Y0 : V3), F16_1b (e 0) (e 1) w K Y0 = denL Tryd.prog (tabOf T16) 26 fuel (((flat (bodyOf Tryd.f16)).drop 0).take 4) e w (fun e w => Y0 (e 0) (e 1) (e 5) w) (endD Tryd.prog [.tmp 4] K) noE := by intro Y0; kernel_rfl
  exact seg 4 (Eq.mp (e1 (fun a0 a1 a5 w => F16_2 a0 a1 a5 w K)) h) (fun e w h => ok16_2 hn hr he e w h) hr he
def F16 (x0 x1 : Value) (w : World) (K : V1) : Prop := F16_1 x0 x1 w K
def G16 : FnT := fun args w K => on2 (fun x0 x1 => F16 x0 x1 w K) args
theorem c16 {x0 x1 : Value} {w : World} {K : V1} (h : F16 x0 x1 w K) : callP G16 [x0, x1] w K := callP_intro (on2_mk (p := fun x0 x1 => F16 x0 x1 w K) h)
theorem ok16 : OkF Tryd.prog 16 G16 := by
  refine okF_of (tab_ok (l := T16) trivial) mixed (n := fuel) Tryd.func16 Tryd.call16 fun args w K h => ?_
  obtain ⟨x0, x1, rfl, hh⟩ := of_on2 h
  unfold F16 at hh
  exact fnD_list (c := bodyOf Tryd.f16) (by kernel_rfl) (by kernel_rfl) (ok16_1 (fun _ _ h => h) (fun _ _ h => h) (fun _ _ _ h => h) (initE [x0, x1]) w hh)
def T17 : List (Nat × FnT) := []
def F17 (x0 : Value) (w : World) (K : V1) : Prop :=
bindP (pNil x0) fun v1 =>
bindP (pFieldAddr 5 v1) fun v2 =>
bindP (ld1 v2 w) fun v3 =>
K v3 w
def G17 : FnT := fun args w K => on1 (fun x0 => F17 x0 w K) args
theorem c17 {x0 : Value} {w : World} {K : V1} (h : F17 x0 w K) : callP G17 [x0] w K := callP_intro (on1_mk (p := fun x0 => F17 x0 w K) h)
theorem ok17 : OkF Tryd.prog 17 G17 := by
  refine okF_of (tab_ok (l := T17) trivial) mixed (n := fuel) Tryd.func17 Tryd.call17 fun args w K h => ?_
  obtain ⟨x0, rfl, hh⟩ := of_on1 h
  exact fnD_list (c := bodyOf Tryd.f17) (by kernel_rfl) (by kernel_rfl) (Eq.mp (by kernel_rfl) hh)
end Go.Proofs.Gong
