/- A part of the proofs: what stands below it, told in lemmas. No condition. -/
import Derived.Test.YtpbfmiphjcmjjaaSx2b
set_option linter.all false
namespace Go.Sx
variable {P : Program} {w : World}

def ckFields (P : Program) (f : TypeId → Value → Bool) (xs : Array Value) : List Field → Bool
  | [] => true
  | fd :: r => if fd.name = "_" then ckFields P f xs r else
    match partV P fd.type xs fd.offset with
    | some x => f fd.type x && ckFields P f xs r
    | none => false
def ckElems (P : Program) (f : TypeId → Value → Bool) (elem n : Nat) (xs : Array Value) : Nat → Nat → Bool
  | 0, _ => true
  | k + 1, i => match partV P elem xs (i * n) with
    | some x => f elem x && ckElems P f elem n xs k (i + 1)
    | none => false
/-- a key that the map takes -/
def ckv (P : Program) : Nat → TypeId → Value → Bool
  | 0, _, _ => false
  | d + 1, t, v => match P.underlying t, v with
    | some (.int _), _ | some .string, _ | some .bool, _ => true
    | some (.struct fields), .agg xs => ckFields P (ckv P d) xs fields.toList
    | some (.array len elem), .agg xs => match P.info? elem with | some i => ckElems P (ckv P d) elem i.size xs len 0 | none => false
    | _, _ => false

theorem ckFields_ok {d : Nat} {em : Bool} {f : TypeId → Value → Bool} (hf : ∀ t x, f t x = true → (Instr.checkKey em d t x).run P w = .ok () w) (xs : Array Value) :
    ∀ fs : List Field, ckFields P f xs fs = true →
    (forIn (m := Sem) fs PUnit.unit fun f _ => if f.name ≠ "_" then do Instr.checkKey em d f.type (← part f.type xs f.offset); pure (ForInStep.yield PUnit.unit) else pure (ForInStep.yield PUnit.unit)).run P w = .ok PUnit.unit w := by
  intro fs
  induction fs with
  | nil => intro _; simp
  | cons fd fs ih =>
    intro h
    unfold ckFields at h
    by_cases hn : fd.name = "_"
    · rw [if_pos hn] at h
      simp only [List.forIn_cons, hn, ne_eq, not_true_eq_false, if_false, Sem.run_bind, Sem.run_pure, Result.andThen_ok]
      exact ih h
    · rw [if_neg hn] at h
      split at h
      · rename_i x hx
        simp only [Bool.and_eq_true] at h
        simp only [List.forIn_cons, hn, ne_eq, not_false_eq_true, if_true, Sem.run_bind, run_part' hx, Result.andThen_ok, hf _ _ h.1, Sem.run_pure]
        exact ih h.2
      · simp at h
theorem ckElems_ok {d : Nat} {em : Bool} {f : TypeId → Value → Bool} (hf : ∀ t x, f t x = true → (Instr.checkKey em d t x).run P w = .ok () w) {elem : Nat} {inf : TypeInfo} (hi : P.info? elem = some inf) (xs : Array Value) :
    ∀ (k i : Nat), ckElems P f elem inf.size xs k i = true →
    (forIn (m := Sem) (List.range' i k) PUnit.unit fun i _ => do Instr.checkKey em d elem (← part elem xs (i * (← sizeOf elem))); pure (ForInStep.yield PUnit.unit)).run P w = .ok PUnit.unit w := by
  intro k
  induction k with
  | zero => intro i _; simp
  | succ k ih =>
    intro i h
    unfold ckElems at h
    split at h
    · rename_i x hx
      simp only [Bool.and_eq_true] at h
      simp only [List.range'_succ, List.forIn_cons, Sem.run_bind, sizeOf, run_typeInfo' hi, run_part' hx, Result.andThen_ok, hf _ _ h.1, Sem.run_pure]
      simpa only [sizeOf] using ih _ h.2
    · simp at h

theorem run_checkKey_ok {em : Bool} : ∀ (d : Nat) (t : TypeId) (v : Value), ckv P d t v = true → (Instr.checkKey em d t v).run P w = .ok () w := by
  intro d
  induction d with
  | zero => intro t v h; simp [ckv] at h
  | succ d ih =>
    intro t v h
    unfold ckv at h
    split at h
    case h_4 =>
      rename_i fields xs hu
      have := ckFields_ok ih xs _ h
      simp only [Instr.checkKey, Sem.run_bind, run_underlying' hu, Result.andThen_ok]
      rw [← Array.forIn_toList]
      simp only [this, Result.andThen_ok, Sem.run_pure]
    case h_5 =>
      rename_i len elem xs hu
      split at h
      · rename_i i hi
        have := ckElems_ok ih hi xs _ _ h
        simp only [Instr.checkKey, Sem.run_bind, run_underlying' hu, Result.andThen_ok]
        rw [Std.Legacy.Range.forIn_eq_forIn_range', Std.Legacy.Range.size]
        simp only [Nat.sub_zero, Nat.add_sub_cancel, Nat.div_one]
        rw [this]; rfl
      · simp at h
    case h_6 => simp at h
    all_goals (rename_i hu; simp [Instr.checkKey, run_underlying' hu])

theorem sameNow_eqv {kt : TypeId} {kind : TypeDesc} (hu : P.underlying kt = some kind) {k x : Value} {b b' : Bool} {d : Nat} (h : Instr.sameNow kind k x = some b) (h' : eqv P (d + 1) kt k x = some b') : b = b' := by
  unfold Instr.sameNow at h
  split at h
  · split at h
    · rename_i hk; simp only [eqv, hu, hk, if_true, Option.some.injEq] at h'; simp_all
    · simp at h
  · simp only [eqv, hu, Option.some.injEq, sEq_eq] at h'; simp_all
  · simp only [eqv, hu, Option.some.injEq] at h'; simp_all
  · simp at h
theorem findNow_ok {kt : TypeId} {kind : TypeDesc} (hu : P.underlying kt = some kind) {k : Value} {d : Nat} : ∀ (es : List MapEntry) (i : Nat) (r r' : Option (Nat × Value)),
    Instr.findNow kind k es i = some r → mFind (eqv P (d + 1) kt k) es i = some r' → r = r' := by
  intro es
  induction es with
  | nil => intro i r r' h h'; simp [Instr.findNow] at h; simp [mFind] at h'; rw [← h, ← h']
  | cons e es ih =>
    intro i r r' h h'
    unfold Instr.findNow at h
    unfold mFind at h'
    split at h
    · rename_i hs
      split at h'
      · simp_all
      · rename_i hq; exact absurd (sameNow_eqv hu hs hq) (by simp)
      · simp at h'
    · rename_i hs
      split at h'
      · rename_i hq; exact absurd (sameNow_eqv hu hs hq) (by simp)
      · exact ih _ _ _ h h'
      · simp at h'
    · simp at h
theorem findAsking_ok {kt : TypeId} {k : Value} : ∀ (es : List MapEntry) (i : Nat) (r : Option (Nat × Value)),
    mFind (eqv P Op.maxDepth kt k) es i = some r → (Instr.findAsking kt k es i).run P w = .ok r w := by
  intro es
  induction es with
  | nil => intro i r h; simp [mFind] at h; subst h; simp [Instr.findAsking]
  | cons e es ih =>
    intro i r h
    unfold mFind at h
    split at h
    · rename_i hq
      simp only [Option.some.injEq] at h; subst h
      simp [Instr.findAsking, Op.equal, run_equalIn_ok _ _ _ _ _ hq]
    · rename_i hq
      simp [Instr.findAsking, Op.equal, run_equalIn_ok _ _ _ _ _ hq, ih _ _ h]
    · simp at h
theorem run_findKey_ok {kt : TypeId} {kind : TypeDesc} (hu : P.underlying kt = some kind) {k : Value} {es : List MapEntry} {r : Option (Nat × Value)}
    (h : mFind (eqv P Op.maxDepth kt k) es 0 = some r) : (Instr.findKey kt k es).run P w = .ok r w := by
  simp only [Instr.findKey, Sem.run_bind, run_underlying' hu, Result.andThen_ok]
  split
  · rename_i r' hn
    rw [findNow_ok hu (d := 9999) es 0 _ _ hn h]; rfl
  · exact findAsking_ok _ _ _ h
end Go.Sx
