/- A part of the proofs: what stands below it, told in lemmas. No condition. -/
import Derived.Test.YtpbfmiphjcmjjaaSx7
set_option linter.all false
namespace Go.Sx
variable {P : Program} {w : World}
section
variable {ops : Array Oper} {nt : Nat} {ms : List Nat} {e0 : Env} {listed : Array Bool} {rem : List Nat} {e : Env} {a : Act}

theorem val_put {a : Act} {d : Tmp} {v : Value} (h : d < a.tmps.size) : val (a.put (some d) v) d = v := by
  simp [val, Act.put, h]
theorem val_put_ne {a : Act} {d : Option Tmp} {v : Value} {t : Nat} (h : d ≠ some t) : val (a.put d v) t = val a t := by
  cases d with
  | none => rfl
  | some d =>
    have hne : d ≠ t := fun h' => h (h' ▸ rfl)
    simp only [val, Act.put, Array.getD_eq_getD_getElem?, Array.getElem?_setIfInBounds_ne hne]
theorem size_put {a : Act} {d : Option Tmp} {v : Value} : (a.put d v).tmps.size = a.tmps.size := by cases d <;> simp [Act.put]
theorem dfr_put {a : Act} {d : Option Tmp} {v : Value} : (a.put d v).defers = a.defers := by cases d <;> rfl
theorem L_set {i j : Nat} (hi : i < listed.size) : L (listed.setIfInBounds i true) j ↔ (j = i ∨ L listed j) := by
  unfold L
  by_cases h : i = j
  · subst h; simp [hi]
  · rw [getD_set_ne false h]
    constructor
    · exact .inr
    · rintro (h' | h'); exact absurd h'.symm h; exact h'

/-- a float that stands done in the reading is done in the run -/
theorem Inv.done (F : Fits ops nt ms) (I : Inv P ops nt ms e0 listed rem e w a) {i : Nat} {o : Oper} (ho : ops[i]? = some o) (hi : i ∉ rem) (hd : ∀ d ∈ depsOf o, L listed d)
    {v : Value} (hv : ∀ d, o.dst = some d → e d = v) : Inv P ops nt ms e0 (listed.setIfInBounds i true) rem e w (a.put o.dst v) := by
  have hlt : i < listed.size := by rw [I.size]; exact lt_of_op ho
  have hL := fun j => L_set (j := j) hlt
  refine ⟨by simpa using I.size, by rw [size_put]; exact I.tsz, by rw [dfr_put]; exact I.dfr, ?_, I.remlt, I.nd, ?_, I.closD, fun j oj hj hE hr => (hL j).2 (.inr (I.eff j oj hj hE hr)), ?_, ?_, I.e2, ?_⟩
  · intro j hj
    rcases (hL j).1 hj with rfl | hj
    · exact hi
    · exact I.sub j hj
  · intro j oj hoj hj d hdj
    rcases (hL j).1 hj with rfl | hj
    · rw [ho] at hoj; cases hoj; exact (hL d).2 (.inr (hd d hdj))
    · exact (hL d).2 (.inr (I.closS j oj hoj hj d hdj))
  · intro j oj t hoj hdj hj
    by_cases hji : j = i
    · subst hji
      rw [ho] at hoj; cases hoj
      rw [hv t hdj, hdj, val_put (by rw [I.tsz]; exact (F.dst j o t ho hdj).1)]
    · have hLj := ((hL j).1 hj).resolve_left hji
      rw [val_put_ne (F.nodup i j o oj t ho hoj hdj (Ne.symm hji))]
      exact I.a1 j oj t hoj hdj hLj
  · intro t ht
    have : o.dst ≠ some t := fun h => ht i o ho h ((hL i).2 (.inl rfl))
    rw [val_put_ne this]
    exact I.a2 t fun j oj hoj hdj hLj => ht j oj hoj hdj ((hL j).2 (.inr hLj))
  · intro j oj hoj hj hLj
    exact I.pend j oj hoj hj fun h => hLj ((hL j).2 (.inr h))

theorem Inv.effect (F : Fits ops nt ms) (I : Inv P ops nt ms e0 listed rem e w a) {i : Nat} {o : Oper} (ho : ops[i]? = some o) (hi : i ∈ rem) (hd : ∀ d ∈ depsOf o, L listed d) {v : Value} {w' : World}
    (hre : ∀ j ∈ rcs P ops ms rem i, ∀ oj, ops[j]? = some oj → floatOk P ops (envAt ops ms j e0 (put nt e o.dst v)) oj w') :
    Inv P ops nt ms e0 (listed.setIfInBounds i true) (rem.erase i) (put nt e o.dst v) w' (a.put o.dst v) := by
  have hlt : i < listed.size := by rw [I.size]; exact lt_of_op ho
  have hL := fun j => L_set (j := j) hlt
  have hnd : rem.Nodup := I.nd.imp (fun h => Nat.ne_of_lt h)
  have hm : ∀ j, j ∈ rem.erase i ↔ j ≠ i ∧ j ∈ rem := fun j => hnd.mem_erase_iff
  have hLi : ¬ L listed i := fun h => I.sub i h hi
  refine ⟨by simpa using I.size, by rw [size_put]; exact I.tsz, by rw [dfr_put]; exact I.dfr, ?_, fun j hj => I.remlt j ((hm j).1 hj).2, I.nd.sublist List.erase_sublist, ?_, ?_, ?_, ?_, ?_, ?_, ?_⟩
  · intro j hj h
    rcases (hL j).1 hj with rfl | hj
    · exact ((hm j).1 h).1 rfl
    · exact I.sub j hj ((hm j).1 h).2
  · intro j oj hoj hj d hdj
    rcases (hL j).1 hj with rfl | hj
    · rw [ho] at hoj; cases hoj; exact (hL d).2 (.inr (hd d hdj))
    · exact (hL d).2 (.inr (I.closS j oj hoj hj d hdj))
  · intro j oj hoj hj d hdj h
    by_cases hji : j = i
    · subst hji
      rw [ho] at hoj; cases hoj
      exact I.sub d (hd d hdj) ((hm d).1 h).2
    · have : j ∉ rem := fun h' => hj ((hm j).2 ⟨hji, h'⟩)
      exact I.closD j oj hoj this d hdj ((hm d).1 h).2
  · intro j oj hoj hE hj
    by_cases hji : j = i
    · exact (hL j).2 (.inl hji)
    · exact (hL j).2 (.inr (I.eff j oj hoj hE fun h' => hj ((hm j).2 ⟨hji, h'⟩)))
  · intro j oj t hoj hdj hj
    by_cases hji : j = i
    · subst hji
      rw [ho] at hoj; cases hoj
      rw [hdj, val_put (by rw [I.tsz]; exact (F.dst j o t ho hdj).1), put_eq (F.dst j o t ho hdj).1]
    · have hLj := ((hL j).1 hj).resolve_left hji
      have hne := F.nodup i j o oj t ho hoj hdj (Ne.symm hji)
      rw [val_put_ne hne, put_ne hne]
      exact I.a1 j oj t hoj hdj hLj
  · intro t ht
    have : o.dst ≠ some t := fun h => ht i o ho h ((hL i).2 (.inl rfl))
    rw [val_put_ne this]
    exact I.a2 t fun j oj hoj hdj hLj => ht j oj hoj hdj ((hL j).2 (.inr hLj))
  · intro t ht
    have : o.dst ≠ some t := fun h => ((hm i).1 (ht i o ho h)).1 rfl
    rw [put_ne this]
    exact I.e2 t fun j oj hoj hdj => ((hm j).1 (ht j oj hoj hdj)).2
  · intro j oj hoj hj hLj
    have hji : j ≠ i := fun h => hLj ((hL j).2 (.inl h))
    have hjr : j ∉ rem := fun h => hj ((hm j).2 ⟨hji, h⟩)
    have hLj' : ¬ L listed j := fun h => hLj ((hL j).2 (.inr h))
    have hk := I.keep F ho hi hoj hjr v
    have hp := (floatOk_congr hk.1 hk.2).1 (I.pend j oj hoj hjr hLj')
    by_cases hrd : isRd oj.op = true
    · have hb : bef ms i j = false := by
        cases hb : bef ms i j with
        | false => rfl
        | true => exact absurd (I.reachS' ho (F.mask _ _ hb) hd) hLj'
      refine hre j ?_ oj hoj
      unfold rcs
      rw [List.mem_filter]
      refine ⟨List.mem_range.2 (lt_of_op hoj), ?_⟩
      have hnE : isEff P oj.op = false := by
        cases hE : isEff P oj.op with
        | false => rfl
        | true => exact absurd (I.eff j oj hoj hE hjr) hLj'
      simp [hjr, hoj, hrd, hb, hnE]
    · have hrd : isRd oj.op = false := by simpa using hrd
      unfold floatOk at hp ⊢
      rw [fop_noRd hrd w' w]
      exact hp

theorem not_select_of_fop {e : Env} {o : Oper} {v : Value} (h : fop P e o.op w = some v) : ∀ cs b, o.op ≠ .select cs b := by
  intro _ _ hb; rw [hb] at h; simp [fop] at h
theorem not_select_of_eop {call : CallT} {e : Env} {o : Oper} {k : Value → World → Prop} (h : eop P call e o.op w k) : ∀ cs b, o.op ≠ .select cs b := by
  intro _ _ hb; rw [hb] at h; exact h
theorem execOp_agree {e : Env} {o : Oper} (h : ∀ t ∈ o.looksAt ops, val a t = e t) (hs : ∀ cs b, o.op ≠ .select cs b) : execOp a.eval o = execOp (ev e) o :=
  execOp_congr o hs fun _ hx => eval_of fun t ht => h t (tmp_looks (ht ▸ hx))

def Settled (P : Program) (call : CallT) (ops : Array Oper) (nt : Nat) (e0 : Env) (ms : List Nat) (f : Nat) (k : Env → World → Prop) (w : World) (rem' : List Nat) (e' : Env) : Prop := match rem' with
    | [] => k e' w
    | _ :: _ => match readyEff P ops rem' with
      | [] => False
      | l => allL (fun i => match ops[i]? with
        | none => False
        | some o => efStep P call ops nt o e' w fun e2 w2 => match rcs P ops ms rem' i with
          | [] => gRun P call ops nt e0 ms f (rem'.erase i) e2 w2 k
          | c :: cs => allL (fun j => match ops[j]? with | some oj => floatOk P ops (envAt ops ms j e0 e2) oj w2 | none => True) (c :: cs) ∧ gRun P call ops nt e0 ms f (rem'.erase i) e2 w2 k) l
theorem gRun_succ {call : CallT} {k : Env → World → Prop} {f : Nat} : gRun P call ops nt e0 ms (f + 1) rem e w k = gSweep P ops nt rem [] e w (Settled P call ops nt e0 ms f k w) := rfl
theorem settle {call : CallT} (F : Fits ops nt ms) {k : Env → World → Prop} {f : Nat} (I : Inv P ops nt ms e0 listed rem e w a) (h : gRun P call ops nt e0 ms f rem e w k) :
    ∃ f' rem' e', Settled P call ops nt e0 ms f' k w rem' e' ∧ Inv P ops nt ms e0 listed rem' e' w a ∧ (∀ i ∈ rem', ∀ o, ops[i]? = some o → isEff P o.op = false → ∃ d ∈ depsOf o, d ∈ rem') := by
  cases f with
  | zero => exact h.elim
  | succ f =>
    rw [gRun_succ] at h
    obtain ⟨rem', e', h1, h2, h3⟩ := sweep_ok F rem [] e (by simpa using I) (by simp) h
    exact ⟨f, rem', e', h1, h2, h3⟩
theorem efStep_ok {call : CallT} (hc : SoundC P call) {o : Oper} (ha : ∀ t ∈ o.looksAt ops, val a t = e t) {K : Env → World → Prop} (h : efStep P call ops nt o e w K) {K' : Act → World → Prop} {Q : Exit → Act → World → Prop}
    (hK : ∀ v w', K (put nt e o.dst v) w' → K' (a.put o.dst v) w') :
    (if Region.wanted o (yielded ops a.tmps) then o.wp P a w K' Q ∨ (o.asks P a w ∧ LetsOut Q) else K' (a.put o.dst undef) w) := by
  rw [wanted_of ha]
  unfold efStep stepE at h
  split at h
  · rename_i hg
    rw [if_pos hg]
    refine .inl (wp_of_runs (k := fun v w' => K (put nt e o.dst v) w') ?_ fun v w' hk => hK v w' hk)
    rw [execOp_agree ha (not_select_of_eop h)]
    exact eop_ok hc h
  · rename_i hg
    rw [if_neg (by rw [hg]; decide)]
    exact hK _ _ h

/-- THE GAME: what the reading says holds of whatever order. -/
theorem game_ok {call : CallT} (hc : SoundC P call) (F : Fits ops nt ms) {Q : Exit → Act → World → Prop} {k : Env → World → Prop}
    (hQ : ∀ e' w' a', a'.tmps.size = nt → a'.defers = [] → (∀ t, val a' t = e' t) → k e' w' → Q .normal a' w') :
    ∀ (n : Nat) (U : List Nat) (listed : Array Bool) (f : Nat) (rem : List Nat) (e : Env) (w : World) (a : Act), U.length ≤ n → U.Nodup → (∀ i, i ∈ U ↔ i < ops.size ∧ ¬ L listed i) →
      Inv P ops nt ms e0 listed rem e w a → (∀ i ∈ rem, ∀ o, ops[i]? = some o → isEff P o.op = false → ∃ d ∈ depsOf o, d ∈ rem) → Settled P call ops nt e0 ms f k w rem e → wpAny P .any ops Q n listed a w := by
  have fin : ∀ (listed : Array Bool) (f : Nat) (rem : List Nat) (e : Env) (w : World) (a : Act), Inv P ops nt ms e0 listed rem e w a → Settled P call ops nt e0 ms f k w rem e → (∀ i < ops.size, L listed i) → Q .normal a w := by
    intro listed f rem e w a I h hall
    have hrem : rem = [] := by
      cases rem with
      | nil => rfl
      | cons i r => exact absurd (List.mem_cons_self ..) (I.sub i (hall i (I.remlt i (List.mem_cons_self ..))))
    subst hrem
    refine hQ e w a I.tsz I.dfr ?_ h
    intro t
    by_cases hw : ∃ (i : Nat) (o : Oper), ops[i]? = some o ∧ o.dst = some t
    · obtain ⟨i, o, ho, hd⟩ := hw
      exact I.a1 i o t ho hd (hall i (lt_of_op ho))
    · have hno : ∀ (i : Nat) (o : Oper), ops[i]? = some o → o.dst = some t → False := fun i o ho hd => hw ⟨i, o, ho, hd⟩
      rw [I.a2 t (fun i o ho hd => (hno i o ho hd).elim), I.e2 t (fun i o ho hd => (hno i o ho hd).elim)]
  have rdy : ∀ (listed : Array Bool), listed.size = ops.size → Region.ready .any ops listed = [] → ∀ i < ops.size, L listed i := by
    intro listed hsz hr i
    induction i using Nat.strongRecOn with
    | _ i ih =>
      intro hi
      refine Classical.byContradiction fun hL => ?_
      have ho : ops[i]? = some ops[i] := Array.getElem?_eq_getElem hi
      have : i ∈ Region.ready .any ops listed := by
        rw [mem_ready]
        refine ⟨?_, ops[i], ho, ?_⟩
        · have : i < listed.size := by omega
          unfold L at hL
          simp [this] at hL ⊢
          exact hL
        · intro x hx hb
          have hd : x.on ∈ depsOf ops[i] := List.mem_map.2 ⟨x, List.mem_filter.2 ⟨Array.mem_toList_iff.2 hx, hb⟩, rfl⟩
          have hlt := F.edge i _ ho _ hd
          exact ih x.on hlt (by omega)
      rw [hr] at this; simp at this
  intro n
  induction n with
  | zero =>
    intro U listed f rem e w a hU hnd hmem I hno h
    have hU0 : U = [] := List.length_eq_zero_iff.1 (by omega)
    subst hU0
    have hall : ∀ i < ops.size, L listed i := fun i hi => Classical.byContradiction fun hL => by simpa using (hmem i).2 ⟨hi, hL⟩
    refine ⟨?_, fin listed f rem e w a I h hall⟩
    cases hr : Region.ready .any ops listed with
    | nil => rfl
    | cons i r =>
      have : i ∈ Region.ready .any ops listed := by rw [hr]; exact List.mem_cons_self ..
      rw [mem_ready] at this
      obtain ⟨h0, o, ho, _⟩ := this
      have hL := hall i (lt_of_op ho)
      have hlt : i < listed.size := by rw [I.size]; exact lt_of_op ho
      unfold L at hL
      simp [hlt] at h0 hL
      rw [h0] at hL; cases hL
  | succ n ih =>
    intro U listed f rem e w a hU hnd hmem I hno h
    refine ⟨fun hr => fin listed f rem e w a I h (rdy listed I.size hr), ?_⟩
    intro i hi
    rw [mem_ready] at hi
    obtain ⟨h0, o, ho, hdeps⟩ := hi
    have hlt : i < listed.size := by rw [I.size]; exact lt_of_op ho
    have hnL : ¬ L listed i := by
      unfold L; simp [hlt] at h0 ⊢; exact h0
    have hd : ∀ d ∈ depsOf o, L listed d := by
      intro d hd
      obtain ⟨x, hx, rfl⟩ := List.mem_map.1 hd
      obtain ⟨hx1, hx2⟩ := List.mem_filter.1 hx
      exact hdeps x (Array.mem_toList_iff.1 hx1) hx2
    have hag := I.agree F ho hnL hd
    have hU' : (U.erase i).length ≤ n := by
      rw [List.length_erase_of_mem ((hmem i).2 ⟨lt_of_op ho, hnL⟩)]; omega
    have hmem' : ∀ j, j ∈ U.erase i ↔ j < ops.size ∧ ¬ L (listed.setIfInBounds i true) j := by
      intro j
      rw [hnd.mem_erase_iff, hmem j, L_set hlt]
      constructor
      · rintro ⟨h1, h2, h3⟩; exact ⟨h2, fun h => h.elim h1 h3⟩
      · rintro ⟨h1, h2⟩; exact ⟨fun h => h2 (.inl h), h1, fun h => h2 (.inr h)⟩
    unfold wpOp
    simp only [ho]
    by_cases hir : i ∈ rem
    · have hE : isEff P o.op = true := by
        cases hE : isEff P o.op with
        | true => rfl
        | false =>
          obtain ⟨d, h1, h2⟩ := hno i hir o ho hE
          exact absurd h2 (I.sub d (hd d h1))
      have hrd : i ∈ readyEff P ops rem := by
        unfold readyEff
        rw [List.mem_filter]
        refine ⟨hir, ?_⟩
        simp only [ho, hE, Bool.true_and]
        exact ready_deps.2 fun d hdd => I.sub d (hd d hdd)
      have heff : efStep P call ops nt o e w fun e2 w2 => match rcs P ops ms rem i with
          | [] => gRun P call ops nt e0 ms f (rem.erase i) e2 w2 k
          | c :: cs => allL (fun j => match ops[j]? with | some oj => floatOk P ops (envAt ops ms j e0 e2) oj w2 | none => True) (c :: cs) ∧ gRun P call ops nt e0 ms f (rem.erase i) e2 w2 k := by
        unfold Settled at h
        split at h
        · simp at hir
        · split at h
          · exact h.elim
          · have := allL_iff.1 h i hrd
            simpa only [ho] using this
      have hage : ∀ t ∈ o.looksAt ops, val a t = e t := fun t ht => (hag t ht).trans (I.agreeD F hir t).symm
      refine efStep_ok hc hage heff ?_
      intro v w' hk
      have hre : (∀ j ∈ rcs P ops ms rem i, ∀ oj, ops[j]? = some oj → floatOk P ops (envAt ops ms j e0 (put nt e o.dst v)) oj w') ∧ gRun P call ops nt e0 ms f (rem.erase i) (put nt e o.dst v) w' k := by
        split at hk
        · rename_i hnil
          exact ⟨fun j hj => by rw [hnil] at hj; simp at hj, hk⟩
        · rename_i c cs hcs
          refine ⟨fun j hj oj hoj => ?_, hk.2⟩
          rw [hcs] at hj
          have := allL_iff.1 hk.1 j hj
          simpa only [hoj] using this
      have I' := I.effect F ho hir hd hre.1
      obtain ⟨f', rem', e', hS, I'', hno'⟩ := settle F I' hre.2
      exact ih (U.erase i) _ f' rem' e' w' _ hU' (hnd.erase i) hmem' I'' hno' hS
    · have hp := I.pend i o ho hir hnL
      rw [wanted_of hag]
      unfold floatOk at hp
      have hdst : ∀ d, o.dst = some d → envAt ops ms i e0 e d = e d := by
        intro d hdd
        have hl : lateW ops ms i d = false := by
          cases hl : lateW ops ms i d with
          | false => rfl
          | true =>
            obtain ⟨k', ok, hk', hkd, hb⟩ := lateW_iff.1 hl
            have : k' = i := Classical.byContradiction fun h => F.nodup k' i ok o d hk' ho hdd h hkd
            subst this
            have := Reach.lt F (F.mask _ _ hb); omega
        simp only [envAt, hl]
      by_cases hg : guardE ops o (envAt ops ms i e0 e) = true
      · rw [if_pos hg]
        left
        have hv : ∃ v, fop P (envAt ops ms i e0 e) o.op w = some v ∧ ∀ d, o.dst = some d → e d = v := by
          cases hdd : o.dst with
          | none =>
            simp only [hdd, hg] at hp
            obtain ⟨v, hv⟩ := Option.isSome_iff_exists.1 hp
            exact ⟨v, hv, fun d h => by cases h⟩
          | some d =>
            simp only [hdd, hg, fok] at hp
            exact ⟨_, hp, fun d' h => by cases h; exact (hdst d hdd).symm⟩
        obtain ⟨v, hf, hv⟩ := hv
        refine wp_of_runs (k := fun v' w' => v' = v ∧ w' = w) ?_ ?_
        · rw [execOp_agree hag (not_select_of_fop hf)]
          exact .inl ⟨v, w, fop_ok hf, rfl, rfl⟩
        · rintro v' w' ⟨rfl, rfl⟩
          exact ih (U.erase i) _ f rem e w' _ hU' (hnd.erase i) hmem' (I.done F ho hir hd hv) hno h
      · rw [if_neg hg]
        refine ih (U.erase i) _ f rem e w _ hU' (hnd.erase i) hmem' (I.done F ho hir hd fun d hdd => ?_) hno h
        have hg : guardE ops o (envAt ops ms i e0 e) = false := by simpa using hg
        simp only [hdd, hg, fok] at hp
        rw [← hdst d hdd]; exact hp
end
end Go.Sx
