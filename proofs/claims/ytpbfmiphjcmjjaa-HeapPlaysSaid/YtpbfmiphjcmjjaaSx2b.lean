/- A part of the proofs: what stands below it, told in lemmas. No condition. -/
import Derived.Test.YtpbfmiphjcmjjaaSx2a
set_option linter.all false
namespace Go.Sx
variable {P : Program} {w : World}

theorem eqFields_ok {d : Nat} {f : TypeId → Value → Value → Option Bool} (hf : ∀ t x y r, f t x y = some r → (Op.equalIn d t x y).run P w = .ok r w)
    (xs ys : Array Value) : ∀ (fs : List Field) (r : Bool), eqFields P f xs ys fs = some r → (Op.eqFields d xs ys fs).run P w = .ok r w := by
  intro fs
  induction fs with
  | nil => intro r h; simp [eqFields] at h; subst h; simp [Op.eqFields]
  | cons fd fs ih =>
    intro r h
    unfold eqFields at h
    by_cases hn : fd.name = "_"
    · rw [if_pos hn] at h
      simp only [Op.eqFields, hn, ne_eq, not_true_eq_false, if_false]
      exact ih r h
    · rw [if_neg hn] at h
      simp only [Op.eqFields, hn, ne_eq, not_false_eq_true, if_true]
      split at h
      · rename_i x y hx hy
        simp only [Sem.run_bind, run_part' hx, run_part' hy, Result.andThen_ok]
        split at h
        · rename_i he
          simp only [hf _ _ _ _ he, Result.andThen_ok, Bool.not_true, Bool.false_eq_true, if_false]
          exact ih r h
        · rename_i he
          simp only [Option.some.injEq] at h; subst h
          simp [hf _ _ _ _ he]
        · simp at h
      · simp at h

theorem eqElems_ok {d : Nat} {f : TypeId → Value → Value → Option Bool} (hf : ∀ t x y r, f t x y = some r → (Op.equalIn d t x y).run P w = .ok r w)
    {elem n : Nat} (xs ys : Array Value) : ∀ (k i : Nat) (r : Bool), eqElems P f elem n xs ys k i = some r →
    (forIn (m := Sem) (List.range' i k) ((none, ()) : Option Bool × Unit) fun i _ => do
        let b ← Op.equalIn d elem (← part elem xs (i * n)) (← part elem ys (i * n))
        if (!b) = true then pure (ForInStep.done (some false, ())) else pure (ForInStep.yield (none, ()))).run P w = .ok (if r then none else some false, ()) w := by
  intro k
  induction k with
  | zero => intro i r h; simp [eqElems] at h; subst h; simp
  | succ k ih =>
    intro i r h
    unfold eqElems at h
    split at h
    · rename_i x y hx hy
      split at h
      · rename_i he
        have := ih (i + 1) r h
        simp only [List.range'_succ, List.forIn_cons, Sem.run_bind, run_part' hx, run_part' hy, Result.andThen_ok, hf _ _ _ _ he, Bool.not_true, Bool.false_eq_true, if_false, Sem.run_pure] at this ⊢
        exact this
      · rename_i he
        simp only [Option.some.injEq] at h; subst h
        simp [List.range'_succ, List.forIn_cons, run_part' hx, run_part' hy, hf _ _ _ _ he]
      · simp at h
    · simp at h

theorem sEq_eq (a b : ByteArray) : sEq a b = (a == b) := (beq_toListBytes a b).symm

theorem run_equalIn_ok : ∀ (d : Nat) (t : TypeId) (x y : Value) (r : Bool), eqv P d t x y = some r → (Op.equalIn d t x y).run P w = .ok r w := by
  intro d
  induction d with
  | zero => intro t x y r h; simp [eqv] at h
  | succ d ih =>
    intro t x y r h
    unfold eqv at h
    split at h
    case h_17 =>
      rename_i fields xs ys hu
      split at h
      · simp at h
      · rename_i hs
        have hfo : P.fieldsOf t = fields := by simp [Program.fieldsOf, hu]
        rw [run_equalIn_struct w d t xs ys (by rw [hfo]; exact hu) (by simpa using hs), hfo]
        exact eqFields_ok ih xs ys _ r h
    case h_18 =>
      rename_i len elem xs ys hu
      split at h
      · rename_i i hi
        have := eqElems_ok (w := w) ih xs ys len 0 r h
        simp only [Op.equalIn, Sem.run_bind, run_underlying' hu, Result.andThen_ok, sizeOf, run_typeInfo' hi, Sem.run_pure]
        rw [Std.Legacy.Range.forIn_eq_forIn_range', Std.Legacy.Range.size]
        simp only [Nat.sub_zero, Nat.add_sub_cancel, Nat.div_one]
        rw [this]
        cases r <;> simp
      · simp at h
    case h_3 => rename_i hu; simp only [Option.some.injEq] at h; simp [Op.equalIn, run_underlying' hu, ← h, sEq_eq]
    case h_6 =>
      rename_i e a b hu
      split at h
      · rename_i hc
        simp only [Option.some.injEq] at h
        obtain ⟨h1, h2⟩ := hc
        have hs : ∃ i, P.info? e = some i := by
          cases hi : P.info? e with
          | some i => exact ⟨i, rfl⟩
          | none => exact absurd (by simp [Program.cellsOf, hi]) h1
        obtain ⟨i, hi⟩ := hs
        have h3 : i.size ≠ 0 := by simpa [Program.cellsOf, hi] using h1
        simp [Op.equalIn, run_underlying' hu, sizeOf, run_typeInfo' hi, h3, sameAddr, h2, ← h]
      · simp at h
    case h_19 => simp at h
    all_goals (rename_i hu; simp only [Op.equalIn, Sem.run_bind, run_underlying' hu, Result.andThen_ok]; simp_all)

theorem run_guard_no {op : BinOp} {t : TypeId} {x y : Operand} {a b : Value} (h : op ≠ .eql) (h' : op ≠ .neq) : (eqGuard op t x y a b).run P w = .ok () w := by
  unfold eqGuard
  cases op <;> first | exact absurd rfl h | exact absurd rfl h' | simp
theorem run_guard_ok {op : BinOp} {t : TypeId} {x y : Operand} {a b : Value} (h : eqPlain P t x y a b = true) : (eqGuard op t x y a b).run P w = .ok () w := by
  have key : ∀ op : BinOp, (op = .eql ∨ op = .neq) → (eqGuard op t x y a b).run P w = .ok () w := by
    intro op h1
    rcases h1 with rfl | rfl
    all_goals
      unfold eqGuard
      simp only [Bool.not_true, Bool.false_eq_true, if_false]
      unfold eqPlain at h
      split at h
      · cases x <;> cases y <;> first | (simp; done) | (simp at h)
      · have : P.eqGuardType P.depth t = false := by simpa using h
        simp [this]
      · rename_i h2 h3
        cases a <;> cases b <;> first | exact (h2 rfl rfl).elim | exact (h3 _ _ rfl rfl).elim | simp
  by_cases h1 : op = .eql ∨ op = .neq
  · exact key op h1
  · exact run_guard_no (fun e => h1 (.inl e)) (fun e => h1 (.inr e))

theorem run_guard_int {op : BinOp} {t : TypeId} {x y : Operand} {k k' : IntKind} {a b : Int} : (eqGuard op t x y (.int k a) (.int k' b)).run P w = .ok () w :=
  run_guard_ok (by rfl)
theorem run_guard_str {op : BinOp} {t : TypeId} {x y : Operand} {a b : ByteArray} : (eqGuard op t x y (.string a) (.string b)).run P w = .ok () w :=
  run_guard_ok (by rfl)
theorem run_eqv_bin {t : TypeId} {x y : Operand} {a b : Value} {r : Bool} (h : bEqv P t x y a b = some r) :
    (binOp .eql t a b).run P w = .ok (.bool r) w ∧ (binOp .neq t a b).run P w = .ok (.bool (!r)) w ∧ ∀ op, (eqGuard op t x y a b).run P w = .ok () w := by
  unfold bEqv at h
  split at h
  · split at h
    · rename_i hk
      simp only [Option.some.injEq] at h; subst h; subst hk
      exact ⟨by simp [binOp, Op.intCmp], by simp [binOp, Op.intCmp, bne], fun _ => run_guard_int⟩
    · simp at h
  · simp only [Option.some.injEq] at h; subst h
    exact ⟨by simp [binOp, Op.stringOp, sEq], by simp [binOp, Op.stringOp, sEq], fun _ => run_guard_str⟩
  · simp at h
  · simp at h
  · simp at h
  · simp at h
  · rename_i h1 h2 h3 h4 h5 h6
    split at h
    · rename_i hp
      have he := run_equalIn_ok (w := w) _ _ _ _ _ h
      refine ⟨?_, ?_, fun _ => run_guard_ok hp⟩
      · cases a <;> cases b <;> (try simp only [binOp, Op.equal, Sem.run_bind, he, Result.andThen_ok, Sem.run_pure]) <;> first
          | rfl | exact (h5 _ _ _ _ rfl rfl).elim | exact (h6 _ _ rfl rfl).elim | exact (h1 _ _ rfl).elim | exact (h2 _ _ _ rfl).elim | exact (h3 _ _ rfl).elim | exact (h4 _ _ _ rfl).elim
      · cases a <;> cases b <;> (try simp only [binOp, Op.equal, Sem.run_bind, he, Result.andThen_ok, Sem.run_pure]) <;> first
          | rfl | exact (h5 _ _ _ _ rfl rfl).elim | exact (h6 _ _ rfl rfl).elim | exact (h1 _ _ rfl).elim | exact (h2 _ _ _ rfl).elim | exact (h3 _ _ rfl).elim | exact (h4 _ _ _ rfl).elim
    · simp at h

theorem run_bits_ok {op : BinOp} {k : IntKind} {a b r : Int} (h : bBits op k a b = some r) : (Op.intBits op k a b).run P w = .ok (.int k r) w := by
  unfold bBits at h
  cases op <;> simp at h <;> subst h <;> simp [Op.intBits]

theorem run_bin_ok' {op : BinOp} {t : TypeId} {x y : Operand} {a b r : Value} (h : fBin P op t x y a b = some r) :
    (binOp op t a b).run P w = .ok r w ∧ (eqGuard op t x y a b).run P w = .ok () w := by
  cases op <;> simp only [fBin] at h
  case eql =>
    simp only [bEq, Option.map_eq_some_iff] at h
    obtain ⟨q, hq, rfl⟩ := h
    obtain ⟨h1, _, h3⟩ := run_eqv_bin (w := w) hq
    exact ⟨h1, h3 _⟩
  case neq =>
    simp only [bNe, Option.map_eq_some_iff] at h
    obtain ⟨q, hq, rfl⟩ := h
    obtain ⟨_, h1, h3⟩ := run_eqv_bin (w := w) hq
    exact ⟨h1, h3 _⟩
  all_goals refine ⟨?_, run_guard_no (by decide) (by decide)⟩
  case add =>
    unfold bAdd at h
    split at h
    · split at h
      · rename_i hk; subst hk; simp only [Option.some.injEq] at h; subst h; simp [binOp, Op.intArith]
      · simp at h
    · split at h
      · simp at h
      · rename_i hn; simp only [Option.some.injEq] at h; subst h; simp only [binOp, Op.stringOp]; rw [if_neg hn]; rfl
    · simp at h
  case sub =>
    unfold bSub at h
    split at h
    · split at h
      · rename_i hk; subst hk; simp only [Option.some.injEq] at h; subst h; simp [binOp, Op.intArith]
      · simp at h
    · simp at h
  case mul =>
    unfold bMul at h
    split at h
    · split at h
      · rename_i hk; subst hk; simp only [Option.some.injEq] at h; subst h; simp [binOp, Op.intArith]
      · simp at h
    · simp at h
  case quo =>
    unfold bQuo at h
    split at h
    · split at h
      · rename_i hk; obtain ⟨hk, h0⟩ := hk; subst hk; simp only [Option.some.injEq] at h; subst h; simp [binOp, Op.intDiv, h0]
      · simp at h
    · simp at h
  case rem =>
    unfold bRem at h
    split at h
    · split at h
      · rename_i hk; obtain ⟨hk, h0⟩ := hk; subst hk; simp only [Option.some.injEq] at h; subst h; simp [binOp, Op.intDiv, h0]
      · simp at h
    · simp at h
  case shl =>
    unfold bShl at h
    split at h
    · split at h
      · simp at h
      · rename_i h0; simp only [Option.some.injEq] at h; subst h; simp only [binOp, Op.shift]; rw [if_neg h0]; rfl
    · simp at h
  case shr =>
    unfold bShr at h
    split at h
    · split at h
      · simp at h
      · rename_i h0; simp only [Option.some.injEq] at h; subst h; simp only [binOp, Op.shift]; rw [if_neg h0]; rfl
    · simp at h
  case and | or | xor | andNot =>
    unfold bBit at h
    split at h
    · split at h
      · rename_i hk; subst hk
        simp only [Option.map_eq_some_iff] at h
        obtain ⟨q, hq, rfl⟩ := h
        simp only [binOp, ne_eq, not_true_eq_false, if_false]
        exact run_bits_ok hq
      · simp at h
    · simp at h
  case lss =>
    unfold bLt at h
    split at h
    · split at h
      · rename_i hk; subst hk; simp only [Option.some.injEq] at h; subst h; simp [binOp, Op.intCmp]
      · simp at h
    · simp only [Option.some.injEq] at h; subst h; simp [binOp, Op.stringOp, sLess]
    · simp at h
  case leq =>
    unfold bLe at h
    split at h
    · split at h
      · rename_i hk; subst hk; simp only [Option.some.injEq] at h; subst h; simp [binOp, Op.intCmp]
      · simp at h
    · simp only [Option.some.injEq] at h; subst h; simp [binOp, Op.stringOp, sLess, sEq]
    · simp at h
  case gtr =>
    unfold bGt at h
    split at h
    · split at h
      · rename_i hk; subst hk; simp only [Option.some.injEq] at h; subst h; simp [binOp, Op.intCmp]
      · simp at h
    · simp only [Option.some.injEq] at h; subst h; simp [binOp, Op.stringOp, sLess, sEq]
    · simp at h
  case geq =>
    unfold bGe at h
    split at h
    · split at h
      · rename_i hk; subst hk; simp only [Option.some.injEq] at h; subst h; simp [binOp, Op.intCmp]
      · simp at h
    · simp only [Option.some.injEq] at h; subst h; simp [binOp, Op.stringOp, sLess]
    · simp at h
theorem run_bin_ok {op : BinOp} {t : TypeId} {x y : Operand} {a b r : Value} (h : fBin P op t x y a b = some r) :
    ((do eqGuard op t x y a b; binOp op t a b) : Sem Value).run P w = .ok r w := by
  obtain ⟨h1, h2⟩ := run_bin_ok' (w := w) h
  simp [h1, h2]
end Go.Sx
