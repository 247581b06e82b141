/- A part of the proofs: what stands below it, told in lemmas. No condition. -/
import Derived.Test.YtpbfmiphjcmjjaaSx6
set_option linter.all false
namespace Go.Sx
variable {P : Program} {w : World}

structure Fits (ops : Array Oper) (nt : Nat) (ms : List Nat) : Prop where
  edge : ∀ (i : Nat) (o : Oper), ops[i]? = some o → ∀ d ∈ depsOf o, d < i
  guard : ∀ (i : Nat) (o : Oper) (g : Nat) (want : Bool), ops[i]? = some o → o.guard = some (g, want) → g ∈ depsOf o
  dst : ∀ (i : Nat) (o : Oper) (d : Tmp), ops[i]? = some o → o.dst = some d → d < nt ∧ d ∉ o.looksAt ops
  nodup : ∀ (i k : Nat) (o ok : Oper) (t : Tmp), ops[i]? = some o → ops[k]? = some ok → ok.dst = some t → i ≠ k → o.dst ≠ some t
  ord : ∀ (i k : Nat) (o ok : Oper) (t : Tmp), ops[i]? = some o → ops[k]? = some ok → ok.dst = some t → i ≠ k → t ∈ o.looksAt ops → bef ms i k = true ∨ bef ms k i = true
  mask : ∀ (i k : Nat), bef ms i k = true → Reach ops i k
theorem lt_of_op {ops : Array Oper} {i : Nat} {o : Oper} (h : ops[i]? = some o) : i < ops.size := (Array.getElem?_eq_some_iff.1 h).1
theorem fits_of {ops : Array Oper} {nt : Nat} (h : okR ops nt (masks ops) = true) : Fits ops nt (masks ops) := by
  unfold okR at h
  rw [List.all_eq_true] at h
  have hh := fun (i : Nat) (o : Oper) (ho : ops[i]? = some o) => by
    have := h i (List.mem_range.2 (lt_of_op ho))
    simp only [ho, Bool.and_eq_true] at this
    exact this
  refine ⟨?_, ?_, ?_, ?_, ?_, fun _ _ h => bef_spec h⟩
  · intro i o ho d hd
    have := (hh i o ho).1.1.1
    rw [List.all_eq_true] at this
    have := this d hd
    simpa [Nat.blt_eq] using this
  · intro i o g want ho hg
    have := (hh i o ho).1.1.2
    simp only [hg, Bool.and_eq_true] at this
    simpa using this.1
  · intro i o d ho hd
    have := (hh i o ho).1.2
    simp only [hd, Bool.and_eq_true] at this
    exact ⟨by simpa [Nat.blt_eq] using this.1, by simpa using this.2⟩
  · intro i k o ok t ho hk ht hne
    have := (hh i o ho).2
    rw [List.all_eq_true] at this
    have := this k (List.mem_range.2 (lt_of_op hk))
    simp only [hk, ht, Bool.or_eq_true, beq_iff_eq, hne, false_or, Bool.and_eq_true] at this
    simpa using this.1
  · intro i k o ok t ho hk ht hne hl
    have := (hh i o ho).2
    rw [List.all_eq_true] at this
    have := this k (List.mem_range.2 (lt_of_op hk))
    simp only [hk, ht, Bool.or_eq_true, beq_iff_eq, hne, false_or, Bool.and_eq_true] at this
    rcases this.2 with (h1 | h1) | h1
    · simp at h1; exact absurd hl h1
    · exact .inl h1
    · exact .inr h1

theorem Reach.lt {ops : Array Oper} {nt : Nat} {ms : List Nat} (F : Fits ops nt ms) {i k : Nat} (h : Reach ops i k) : k < i := by
  induction h with
  | base ho hd => exact F.edge _ _ ho _ hd
  | step ho hd _ ih => have := F.edge _ _ ho _ hd; omega

abbrev L (listed : Array Bool) (i : Nat) : Prop := listed.getD i false = true
structure Inv (P : Program) (ops : Array Oper) (nt : Nat) (ms : List Nat) (e0 : Env) (listed : Array Bool) (rem : List Nat) (e : Env) (w : World) (a : Act) : Prop where
  size : listed.size = ops.size
  tsz : a.tmps.size = nt
  dfr : a.defers = []
  sub : ∀ i, L listed i → i ∉ rem
  remlt : ∀ i ∈ rem, i < ops.size
  nd : rem.Pairwise (· < ·)
  closS : ∀ (i : Nat) (o : Oper), ops[i]? = some o → L listed i → ∀ d ∈ depsOf o, L listed d
  closD : ∀ (i : Nat) (o : Oper), ops[i]? = some o → i ∉ rem → ∀ d ∈ depsOf o, d ∉ rem
  eff : ∀ (i : Nat) (o : Oper), ops[i]? = some o → isEff P o.op = true → i ∉ rem → L listed i
  a1 : ∀ (i : Nat) (o : Oper) (t : Tmp), ops[i]? = some o → o.dst = some t → L listed i → val a t = e t
  a2 : ∀ t : Nat, (∀ (i : Nat) (o : Oper), ops[i]? = some o → o.dst = some t → ¬ L listed i) → val a t = e0 t
  e2 : ∀ t : Nat, (∀ (i : Nat) (o : Oper), ops[i]? = some o → o.dst = some t → i ∈ rem) → e t = e0 t
  pend : ∀ (j : Nat) (o : Oper), ops[j]? = some o → j ∉ rem → ¬ L listed j → floatOk P ops (envAt ops ms j e0 e) o w

section
variable {ops : Array Oper} {nt : Nat} {ms : List Nat} {e0 : Env} {listed : Array Bool} {rem : List Nat} {e : Env} {a : Act}

theorem lateW_iff {j t : Nat} : lateW ops ms j t = true ↔ ∃ (k : Nat) (o : Oper), ops[k]? = some o ∧ o.dst = some t ∧ bef ms k j = true := by
  unfold lateW
  rw [List.any_eq_true]
  constructor
  · rintro ⟨k, hk, h⟩
    simp only [Bool.and_eq_true] at h
    cases ho : ops[k]? with
    | none => simp [ho] at h
    | some o => simp only [ho, beq_iff_eq] at h; exact ⟨k, o, ho, h.1, h.2⟩
  · rintro ⟨k, o, ho, hd, hb⟩
    exact ⟨k, List.mem_range.2 (lt_of_op ho), by simp [ho, hd, hb]⟩

theorem Inv.reachS (I : Inv P ops nt ms e0 listed rem e w a) {i k : Nat} (h : Reach ops i k) (hL : L listed i) : L listed k := by
  induction h with
  | base ho hd => exact I.closS _ _ ho hL _ hd
  | step ho hd _ ih => exact ih (I.closS _ _ ho hL _ hd)
theorem Inv.reachS' (I : Inv P ops nt ms e0 listed rem e w a) {i k : Nat} {o : Oper} (ho : ops[i]? = some o) (h : Reach ops i k) (hL : ∀ d ∈ depsOf o, L listed d) : L listed k := by
  cases h with
  | base ho' hd => rw [ho] at ho'; cases ho'; exact hL _ hd
  | step ho' hd h' => rw [ho] at ho'; cases ho'; exact I.reachS h' (hL _ hd)
theorem Inv.reachD (I : Inv P ops nt ms e0 listed rem e w a) {i k : Nat} (h : Reach ops i k) (hD : i ∉ rem) : k ∉ rem := by
  induction h with
  | base ho hd => exact I.closD _ _ ho hD _ hd
  | step ho hd _ ih => exact ih (I.closD _ _ ho hD _ hd)
theorem Inv.reachD' (I : Inv P ops nt ms e0 listed rem e w a) {i k : Nat} {o : Oper} (ho : ops[i]? = some o) (h : Reach ops i k) (hL : ∀ d ∈ depsOf o, d ∉ rem) : k ∉ rem := by
  cases h with
  | base ho' hd => rw [ho] at ho'; cases ho'; exact hL _ hd
  | step ho' hd h' => rw [ho] at ho'; cases ho'; exact I.reachD h' (hL _ hd)

/-- what an operation that is next in the run looks at -/
theorem Inv.agree (F : Fits ops nt ms) (I : Inv P ops nt ms e0 listed rem e w a) {i : Nat} {o : Oper} (ho : ops[i]? = some o) (hn : ¬ L listed i) (hd : ∀ d ∈ depsOf o, L listed d) :
    ∀ t ∈ o.looksAt ops, val a t = envAt ops ms i e0 e t := by
  intro t ht
  by_cases hw : ∃ (k : Nat) (ok : Oper), ops[k]? = some ok ∧ ok.dst = some t
  · obtain ⟨k, ok, hk, hkd⟩ := hw
    have hne : i ≠ k := by
      rintro rfl
      rw [ho] at hk; cases hk
      exact (F.dst i o t ho hkd).2 ht
    have only : ∀ (k' : Nat) (ok' : Oper), ops[k']? = some ok' → ok'.dst = some t → k' = k := fun k' ok' hk' hd' => Classical.byContradiction fun h => F.nodup k' k ok' ok t hk' hk hkd h hd'
    rcases F.ord i k o ok t ho hk hkd hne ht with hb | hb
    · have hr := F.mask _ _ hb
      have hLk := I.reachS' ho hr hd
      rw [I.a1 k ok t hk hkd hLk]
      have : lateW ops ms i t = false := by
        cases hl : lateW ops ms i t with
        | false => rfl
        | true =>
          obtain ⟨k', ok', hk', hd', hb'⟩ := lateW_iff.1 hl
          rw [only k' ok' hk' hd'] at hb'
          have := Reach.lt F hr; have := Reach.lt F (F.mask _ _ hb'); omega
      simp only [envAt, this]
    · have hr := F.mask _ _ hb
      have hnk : ¬ L listed k := fun h => hn (I.reachS hr h)
      rw [I.a2 t (fun k' ok' hk' hd' => by rw [only k' ok' hk' hd']; exact hnk)]
      have : lateW ops ms i t = true := lateW_iff.2 ⟨k, ok, hk, hkd, hb⟩
      simp only [envAt, this]
  · have hno : ∀ (k : Nat) (ok : Oper), ops[k]? = some ok → ok.dst = some t → False := fun k ok hk hd => hw ⟨k, ok, hk, hd⟩
    rw [I.a2 t (fun k ok hk hd => (hno k ok hk hd).elim)]
    have : lateW ops ms i t = false := by
      cases hl : lateW ops ms i t with
      | false => rfl
      | true => obtain ⟨k', ok', hk', hd', _⟩ := lateW_iff.1 hl; exact (hno _ _ hk' hd').elim
    simp only [envAt, this]
    exact (I.e2 t (fun k ok hk hd => (hno k ok hk hd).elim)).symm
/-- what an operation that is next in the reading looks at -/
theorem Inv.agreeD (F : Fits ops nt ms) (I : Inv P ops nt ms e0 listed rem e w a) {i : Nat} (hi : i ∈ rem) :
    ∀ t : Nat, e t = envAt ops ms i e0 e t := by
  intro t
  cases hl : lateW ops ms i t with
  | false => simp only [envAt, hl]
  | true =>
    simp only [envAt, hl]
    obtain ⟨k, ok, hk, hkd, hb⟩ := lateW_iff.1 hl
    have only : ∀ (k' : Nat) (ok' : Oper), ops[k']? = some ok' → ok'.dst = some t → k' = k := fun k' ok' hk' hd' => Classical.byContradiction fun h => F.nodup k' k ok' ok t hk' hk hkd h hd'
    have hkr : k ∈ rem := Classical.byContradiction fun h => I.reachD (F.mask _ _ hb) h hi
    exact I.e2 t fun k' ok' hk' hd' => by rw [only k' ok' hk' hd']; exact hkr
theorem put_ne {d : Option Tmp} {v : Value} {t : Nat} (h : d ≠ some t) : put nt e d v t = e t := by
  cases d with
  | none => rfl
  | some d' =>
    simp only [put]
    cases Nat.ble nt d' with
    | true => rfl
    | false =>
      simp only [Env.set]
      cases hb : Nat.beq t d' with
      | false => rfl
      | true => exact absurd (congrArg some (Nat.eq_of_beq_eq_true hb).symm) h
theorem put_eq {d : Nat} {v : Value} (h : d < nt) : put nt e (some d) v d = v := by
  have : Nat.ble nt d = false := by
    cases hb : Nat.ble nt d with
    | false => rfl
    | true => have := Nat.le_of_ble_eq_true hb; omega
  simp only [put, this, Env.set, Nat.beq_refl]

/-- a value that an operation j, that stands done in the reading, looked at: it does not turn when i is done behind it -/
theorem Inv.keep (F : Fits ops nt ms) (I : Inv P ops nt ms e0 listed rem e w a) {i j : Nat} {o oj : Oper} (ho : ops[i]? = some o) (hi : i ∈ rem) (hoj : ops[j]? = some oj) (hj : j ∉ rem) (v : Value) :
    (∀ t ∈ oj.looksAt ops, envAt ops ms j e0 e t = envAt ops ms j e0 (put nt e o.dst v) t) ∧ (∀ d, oj.dst = some d → envAt ops ms j e0 e d = envAt ops ms j e0 (put nt e o.dst v) d) := by
  have hne : j ≠ i := fun h => hj (h ▸ hi)
  constructor
  · intro t ht
    by_cases hd : o.dst = some t
    · rcases F.ord j i oj o t hoj ho hd hne ht with hb | hb
      · exact absurd hi (I.reachD (F.mask _ _ hb) hj)
      · have : lateW ops ms j t = true := lateW_iff.2 ⟨i, o, ho, hd, hb⟩
        simp only [envAt, this]
    · simp only [envAt, put_ne hd]
  · intro d hd
    have : o.dst ≠ some d := F.nodup i j o oj d ho hoj hd (Ne.symm hne)
    simp only [envAt, put_ne this]

theorem Inv.float (F : Fits ops nt ms) {acc todo : List Nat} {i : Nat} (I : Inv P ops nt ms e0 listed (acc ++ i :: todo) e w a) {o : Oper} (ho : ops[i]? = some o) (hE : isEff P o.op = false)
    (hd : ∀ d ∈ depsOf o, d ∉ acc ++ i :: todo) {v : Value} (hv : (guardE ops o e = true ∧ fop P e o.op w = some v) ∨ (guardE ops o e = false ∧ v = undef)) :
    Inv P ops nt ms e0 listed (acc ++ todo) (put nt e o.dst v) w a := by
  have hmem : i ∈ acc ++ i :: todo := by simp
  have hni : i ∉ acc ++ todo := by
    have := I.nd
    rw [List.pairwise_append] at this
    intro h
    rcases List.mem_append.1 h with h | h
    · have := this.2.2 i h i (by simp); omega
    · have h2 := (List.pairwise_cons.1 this.2.1).1 i h; omega
  have hiff : ∀ j, j ∉ acc ++ todo ↔ (j = i ∨ j ∉ acc ++ i :: todo) := by
    intro j
    constructor
    · intro h
      by_cases hji : j = i
      · exact .inl hji
      · refine .inr fun h' => h ?_
        rcases List.mem_append.1 h' with h' | h'
        · exact List.mem_append_left _ h'
        · rcases List.mem_cons.1 h' with h' | h'
          · exact absurd h' hji
          · exact List.mem_append_right _ h'
    · rintro (rfl | h)
      · exact hni
      · intro h'; refine h ?_
        rcases List.mem_append.1 h' with h' | h'
        · exact List.mem_append_left _ h'
        · exact List.mem_append_right _ (List.mem_cons_of_mem _ h')
  have hLi : ¬ L listed i := fun h => I.sub i h hmem
  refine ⟨I.size, I.tsz, I.dfr, fun j h => (hiff j).2 (.inr (I.sub j h)), ?_, ?_, I.closS, ?_, ?_, ?_, I.a2, ?_, ?_⟩
  · intro j hj
    exact I.remlt j (Classical.byContradiction fun h => (hiff j).2 (.inr h) hj)
  · have := I.nd
    rw [List.pairwise_append] at this ⊢
    exact ⟨this.1, (List.pairwise_cons.1 this.2.1).2, fun x hx y hy => this.2.2 x hx y (List.mem_cons_of_mem _ hy)⟩
  · intro j oj hoj hj d hdj
    rcases (hiff j).1 hj with rfl | hj
    · rw [ho] at hoj; cases hoj
      exact (hiff d).2 (.inr (hd d hdj))
    · exact (hiff d).2 (.inr (I.closD j oj hoj hj d hdj))
  · intro j oj hoj hEj hj
    rcases (hiff j).1 hj with rfl | hj
    · rw [ho] at hoj; cases hoj; rw [hE] at hEj; cases hEj
    · exact I.eff j oj hoj hEj hj
  · intro j oj t hoj hdj hLj
    rw [I.a1 j oj t hoj hdj hLj]
    have hne : j ≠ i := fun h => hLi (h ▸ hLj)
    exact (put_ne (F.nodup i j o oj t ho hoj hdj (Ne.symm hne))).symm
  · intro t ht
    have : o.dst ≠ some t := fun h => hni (ht i o ho h)
    rw [put_ne this]
    exact I.e2 t fun j oj hoj hdj => Classical.byContradiction fun h => (hiff j).2 (.inr h) (ht j oj hoj hdj)
  · intro j oj hoj hj hLj
    by_cases hji : j = i
    · subst hji
      rw [ho] at hoj; cases hoj
      have hag := I.agreeD F hmem
      have hagp : ∀ t ∈ o.looksAt ops, e t = envAt ops ms j e0 (put nt e o.dst v) t := by
        intro t ht
        have hne : o.dst ≠ some t := fun h => (F.dst j o t ho h).2 ht
        rw [hag t]
        simp only [envAt, put_ne hne]
      have hdst : ∀ d, o.dst = some d → envAt ops ms j e0 (put nt e o.dst v) d = v := by
        intro d hdd
        have hl : lateW ops ms j d = false := by
          cases hl : lateW ops ms j d with
          | false => rfl
          | true =>
            obtain ⟨k, ok, hk, hkd, hb⟩ := lateW_iff.1 hl
            have : k = j := Classical.byContradiction fun h => F.nodup k j ok o d hk ho hdd h hkd
            subst this
            have := Reach.lt F (F.mask _ _ hb); omega
        simp only [envAt, hl]
        rw [hdd]; exact put_eq (F.dst j o d ho hdd).1
      have hg := guardE_congr (ops := ops) (o := o) hagp
      have hf := fop_congr (P := P) (e := e) (e' := envAt ops ms j e0 (put nt e o.dst v)) (o := o.op) (fun x hx => by
        cases x with
        | tmp t => exact hagp t (tmp_looks hx)
        | const v => rfl
        | global g => rfl
        | func f => rfl) w
      unfold floatOk
      rcases hv with ⟨h1, h2⟩ | ⟨h1, h2⟩
      · rw [← hg, h1, ← hf, h2]
        cases hdd : o.dst with
        | none => rfl
        | some d => simp only [fok]; rw [← hdd, hdst d hdd]
      · rw [← hg, h1]
        cases hdd : o.dst with
        | none => trivial
        | some d => simp only [fok]; rw [← hdd, hdst d hdd, h2]
    · have hj' := ((hiff j).1 hj).resolve_left hji
      have hk := I.keep F ho hmem hoj hj' v
      exact (floatOk_congr hk.1 hk.2).1 (I.pend j oj hoj hj' hLj)

theorem ready_deps {o : Oper} {rem : List Nat} : readyAt rem o = true ↔ ∀ d ∈ depsOf o, d ∉ rem := by
  unfold readyAt depsOf
  rw [List.all_eq_true]
  constructor
  · intro h d hd
    obtain ⟨x, hx, rfl⟩ := List.mem_map.1 hd
    obtain ⟨hx1, hx2⟩ := List.mem_filter.1 hx
    have := h x hx1
    simpa [hx2] using this
  · intro h x hx
    cases hb : Region.binds .any x with
    | false => rfl
    | true =>
      have := h x.on (List.mem_map.2 ⟨x, List.mem_filter.2 ⟨hx, hb⟩, rfl⟩)
      simpa using this

theorem sweep_ok (F : Fits ops nt ms) {K : List Nat → Env → Prop} : ∀ (todo acc : List Nat) (e : Env), Inv P ops nt ms e0 listed (acc ++ todo) e w a →
    (∀ i ∈ acc, ∀ o, ops[i]? = some o → isEff P o.op = false → ∃ d ∈ depsOf o, d ∈ acc) → gSweep P ops nt todo acc e w K →
    ∃ rem' e', K rem' e' ∧ Inv P ops nt ms e0 listed rem' e' w a ∧ (∀ i ∈ rem', ∀ o, ops[i]? = some o → isEff P o.op = false → ∃ d ∈ depsOf o, d ∈ rem') := by
  intro todo
  induction todo with
  | nil =>
    intro acc e I hacc h
    exact ⟨acc, e, h, by simpa using I, hacc⟩
  | cons i todo ih =>
    intro acc e I hacc h
    unfold gSweep at h
    split at h
    · exact h.elim
    · rename_i o ho
      split at h
      · rename_i hc
        simp only [Bool.and_eq_true, Bool.not_eq_true'] at hc
        have hd : ∀ d ∈ depsOf o, d ∉ acc ++ i :: todo := by
          intro d hd hm
          rcases List.mem_append.1 hm with hm | hm
          · exact ready_deps.1 hc.2 d hd hm
          · have hlt := F.edge i o ho d hd
            have hp := I.nd
            rw [List.pairwise_append] at hp
            rcases List.mem_cons.1 hm with rfl | hm
            · omega
            · have := (List.pairwise_cons.1 hp.2.1).1 d hm; omega
        rw [flStep_eq] at h
        unfold stepG at h
        split at h
        · rename_i hg
          unfold bindP at h
          split at h
          · rename_i v hf
            exact ih acc _ (I.float F ho hc.1 hd (.inl ⟨hg, hf⟩)) hacc h
          · exact h.elim
        · rename_i hg
          exact ih acc _ (I.float F ho hc.1 hd (.inr ⟨hg, rfl⟩)) hacc h
      · rename_i hc
        refine ih (acc ++ [i]) e (by simpa using I) ?_ h
        intro j hj oj hoj hEj
        rcases List.mem_append.1 hj with hj | hj
        · obtain ⟨d, h1, h2⟩ := hacc j hj oj hoj hEj
          exact ⟨d, h1, List.mem_append_left _ h2⟩
        · simp only [List.mem_singleton] at hj; subst hj
          rw [ho] at hoj; cases hoj
          have hr : readyAt acc o = false := by simpa [hEj] using hc
          have : ¬ ∀ d ∈ depsOf o, d ∉ acc := fun h => by rw [ready_deps.2 h] at hr; cases hr
          simp only [Classical.not_forall, Classical.not_not] at this
          obtain ⟨d, h1, h2⟩ := this
          exact ⟨d, h1, List.mem_append_left _ h2⟩
end
end Go.Sx
