/- A part of the proofs: what stands below it, told in lemmas. No condition. -/
import Derived.Test.YtpbfmiphjcmjjaaSx4
set_option linter.all false
namespace Go.Sx
variable {P : Program} {w : World}

/-- The call comes to what k says, on every tape. -/
def CallOk (P : Program) (f : FuncId) (args : Array Value) (w : World) (k : Value → World → Prop) : Prop :=
  ((callFunc f args).run P w = .ok (.enter f args) w ∧ Calls P f args w (fun e w' => ∃ v, e = .returned v ∧ k v w')) ∨
  (∃ v w', (callFunc f args).run P w = .ok (.value v) w' ∧ k v w')
theorem CallOk.mono {f : FuncId} {args : Array Value} {k k' : Value → World → Prop} (h : CallOk P f args w k) (hk : ∀ v w', k v w' → k' v w') : CallOk P f args w k' := by
  rcases h with ⟨h1, h2⟩ | ⟨v, w', h1, h2⟩
  · exact .inl ⟨h1, h2.mono fun e w' ⟨v, he, h⟩ => ⟨v, he, hk _ _ h⟩⟩
  · exact .inr ⟨v, w', h1, hk _ _ h2⟩
def SoundC (P : Program) (call : CallT) : Prop := ∀ f args w k, call f args w k → CallOk P f args.toArray w k

/-- An operation's run that ends in a value (or in none) of which k holds. -/
def RunsTo (P : Program) (s : Sem Next) (w : World) (k : Value → World → Prop) : Prop :=
  (∃ v w', s.run P w = .ok (.value v) w' ∧ k v w') ∨ (∃ w', s.run P w = .ok .skip w' ∧ k undef w') ∨
  (∃ f args, s.run P w = .ok (.enter f args) w ∧ Calls P f args w (fun e w' => ∃ v, e = .returned v ∧ k v w'))
theorem wp_of_runs {o : Oper} {a : Act} {next : Act → World → Prop} {Q : Exit → Act → World → Prop} {k : Value → World → Prop}
    (h : RunsTo P (execOp a.eval o) w k) (hk : ∀ v w', k v w' → next (a.put o.dst v) w') : o.wp P a w next Q := by
  unfold Oper.wp
  rcases h with ⟨v, w', hr, h⟩ | ⟨w', hr, h⟩ | ⟨f, args, hr, h⟩
  · rw [hr]; exact hk _ _ h
  · rw [hr]; exact hk _ _ h
  · rw [hr, Oper.upon_enter]
    refine h.mono ?_
    rintro e w' ⟨v, rfl, h⟩
    exact hk _ _ h
theorem runs_value {s : Sem Value} {k : Value → World → Prop} {v : Value} {w' : World} (h : s.run P w = .ok v w') (hk : k v w') :
    RunsTo P (do pure (.value (← s))) w k := .inl ⟨v, w', by simp [h], hk⟩
theorem runs_skip {s : Sem Unit} {k : Value → World → Prop} {w' : World} (h : s.run P w = .ok () w') (hk : k undef w') :
    RunsTo P (do s; pure .skip) w k := .inr (.inl ⟨w', by simp [h], hk⟩)

theorem buildSl_ok {t : TypeId} {len : Nat} {parts : Array (Nat × Value)} {k : Value → World → Prop} (h : eBuildSl P t len parts.toList w k) :
    ∃ v w', (Instr.buildSlice t len parts).run P w = .ok v w' ∧ k v w' := by
  unfold eBuildSl at h
  split at h
  · rename_i el hu
    split at h
    · rename_i c hc
      unfold fBuildSl at hc
      split at hc
      · rename_i i hi
        split at hc
        · rename_i hle
          split at hc
          · rename_i z hz
            refine ⟨_, _, ?_, h⟩
            unfold zOf at hz
            split at hz
            · rename_i h0
              simp only [Option.some.injEq] at hz; subst hz
              simp only [Instr.buildSlice, Sem.run_bind, run_underlying' hu, Result.andThen_ok, sizeOf, run_typeInfo' hi, Sem.run_pure]
              rw [if_neg (by omega), if_pos h0]
              simp only [Sem.run_bind, Result.andThen_ok, Sem.run_pure]
              simp only [zcells] at hc
              rw [hc]
              simp [newRow, sl]
            · rename_i h0
              simp only [Option.map_eq_some_iff] at hz
              obtain ⟨v, hv, rfl⟩ := hz
              simp only [Instr.buildSlice, Sem.run_bind, run_underlying' hu, Result.andThen_ok, sizeOf, run_typeInfo' hi, Sem.run_pure]
              rw [if_neg (by omega), if_neg h0]
              simp only [Sem.run_bind, Result.andThen_ok, Sem.run_pure, run_zero' hv]
              simp only [zcells] at hc
              rw [hc]
              simp [newRow, sl]
          · simp at hc
        · simp at hc
      · simp at hc
    · exact h.elim
  · exact h.elim

theorem makeSl_ok {t : TypeId} {l c : Value} {k : Value → World → Prop} (h : eMakeSl P t l c w k) : ∃ v w', (Instr.makeSlice t l c).run P w = .ok v w' ∧ k v w' := by
  unfold eMakeSl at h
  split at h
  · rename_i el hu
    split at h
    · rename_i i l c hi
      obtain ⟨h0, hlc, hc63, hb, h⟩ := h
      split at h
      · rename_i z hz
        refine ⟨_, _, ?_, h⟩
        have hl : IntKind.i64.wrap l = l := IntWalk.i64_in _ (by omega)
        have hc : IntKind.i64.wrap c = c := IntWalk.i64_in _ (by omega)
        have ht : (decide (c < 0) || decide ((i.bytes : Int) * c > 2 ^ 48)) = false := by
          rw [Bool.or_eq_false_iff, decide_eq_false_iff_not, decide_eq_false_iff_not]; omega
        have ht2 : (decide (l < 0) || decide (l > c)) = false := by
          rw [Bool.or_eq_false_iff, decide_eq_false_iff_not, decide_eq_false_iff_not]; omega
        have hcond : ((decide (c < 0) || decide ((i.bytes : Int) * c > 2 ^ 48)) || decide (l < 0) || decide (l > c)) = false := by
          rw [Bool.or_assoc, ht, ht2]; rfl
        unfold zOf at hz
        split at hz
        · rename_i hn
          simp only [Option.some.injEq] at hz; subst hz
          simp only [Instr.makeSlice, Sem.run_bind, run_underlying' hu, Result.andThen_ok, asInt, asIntOf, Sem.run_pure, run_typeInfo' hi, hl, hc]
          rw [if_neg (by rw [hcond]; simp)]
          simp only [Sem.run_bind, run_askRoom, Result.andThen_ok, sizeOf, run_typeInfo' hi, Sem.run_pure]
          rw [if_pos hn]
          simp [newRow, sl, zcells]
        · rename_i hn
          simp only [Option.map_eq_some_iff] at hz
          obtain ⟨v, hv, rfl⟩ := hz
          simp only [Instr.makeSlice, Sem.run_bind, run_underlying' hu, Result.andThen_ok, asInt, asIntOf, Sem.run_pure, run_typeInfo' hi, hl, hc]
          rw [if_neg (by rw [hcond]; simp)]
          simp only [Sem.run_bind, run_askRoom, Result.andThen_ok, sizeOf, run_typeInfo' hi, Sem.run_pure]
          rw [if_neg hn]
          simp [newRow, sl, zcells, run_zero' hv]
      · exact h.elim
    · exact h.elim
  · exact h.elim

theorem add_eq (b o n : Nat) : (⟨b, o, none⟩ : Addr).add n = ⟨b, o + n, none⟩ := by unfold Addr.add; split <;> simp_all
theorem run_firstC {size n : Nat} {x : Value} {c : Array Value} (h : firstC size n x w = some c) : (Builtin.firstCells size n x).run P w = .ok c w := by
  unfold firstC at h
  split at h
  · simp only [Option.some.injEq] at h; subst h; simp [Builtin.firstCells]
  · split at h
    · rename_i h0
      simp only [Option.some.injEq] at h; subst h
      simp [Builtin.firstCells, h0, loadCells, loadCellsFrom]
    · split at h
      · split at h
        · split at h
          · rename_i hb hsz
            simp only [Option.some.injEq] at h; subst h
            simp [Builtin.firstCells, run_loadCells' hb hsz]
          · simp at h
        · simp at h
      · simp at h
  · simp only [Option.some.injEq] at h; subst h; simp [Builtin.firstCells]
  · simp at h
theorem run_lenV {x : Value} {n : Nat} (h : lenV x = some n) : (Builtin.lenOf x).run P w = .ok n w := by
  unfold lenV at h
  split at h <;> simp at h <;> subst h <;> simp [Builtin.lenOf]
theorem run_stMaybe {base : Option Addr} {off : Nat} {vs : List Value} {w' : World} (h : stMaybe w base off vs = some w') :
    (match base with | some a => storeCells (a.add off) vs | none => pure () : Sem Unit).run P w = .ok () w' := by
  unfold stMaybe at h
  split at h
  · simp only [Option.some.injEq] at h; subst h; rfl
  · simp only [add_eq]; exact run_stCells h
  · simp at h
theorem run_isSS {t : TypeId} (h : isSS P t = true) : (∃ e, P.underlying t = some (.slice e)) ∨ P.underlying t = some .string := by
  unfold isSS at h
  split at h
  · rename_i hu; exact .inl ⟨_, hu⟩
  · rename_i hu; exact .inr hu
  · simp at h
theorem append_ok {t xt : TypeId} {ty : TypeId} {s x : Value} {k : Value → World → Prop} (h : eAppend P t xt s x w k) :
    ∃ v w', (Builtin.append_ #[t, xt] ty #[s, x]).run P w = .ok v w' ∧ k v w' := by
  unfold eAppend at h
  split at h
  · rename_i el hu
    split at h
    · rename_i i base sLen sCap n hi hss hlen
      split at h
      · rename_i new hnew
        have hf := run_firstC (P := P) hnew
        have hl := run_lenV (P := P) (w := w) hlen
        obtain ⟨h1, h2⟩ := h
        by_cases hcap : sLen + n ≤ sCap
        · have h1 := h1 hcap
          split at h1
          · rename_i w' hw'
            refine ⟨_, _, ?_, h1⟩
            have hst := run_stMaybe (P := P) hw'
            rcases run_isSS hss with ⟨e, hd⟩ | hd
            all_goals
              simp only [Builtin.append_]
              simp only [Sem.run_bind, run_underlying' hu, Result.andThen_ok, sizeOf, run_typeInfo' hi, Sem.run_pure, List.getElem?_toArray, List.getElem?_cons_succ, List.getElem?_cons_zero]
              simp only [run_underlying' hd, Result.andThen_ok, Bool.false_eq_true, if_false, Sem.run_bind, hl, hcap, if_true, Bool.not_false, hf]
              cases base with
              | none => simp at hst; simp [hst]
              | some a => simp at hst; simp [hst]
          · exact h1.elim
        · obtain ⟨h3, h4, h5⟩ := h2 (by omega)
          split at h5
          · rename_i old z hold hz
            have hq : (Question.appendCap (sLen + n) sCap el).forced = false := rfl
            refine ⟨_, _, ?_, h5 ((Question.appendCap (sLen + n) sCap el).cut (w.tape w.drawn (.appendCap (sLen + n) sCap el))) ?_⟩
            · rcases run_isSS hss with ⟨e, hd⟩ | hd
              all_goals
                have hfo' : (Builtin.firstCells i.size sLen (.slice base sLen sCap)).run P w.drew = .ok old w.drew := run_firstC (w := w.drew) hold
                have hf' : (Builtin.firstCells i.size n x).run P w.drew = .ok new w.drew := run_firstC (w := w.drew) hnew
                simp only [Builtin.append_]
                simp only [Sem.run_bind, run_underlying' hu, Result.andThen_ok, sizeOf, run_typeInfo' hi, Sem.run_pure, List.getElem?_toArray, List.getElem?_cons_succ, List.getElem?_cons_zero]
                simp only [run_underlying' hd, Result.andThen_ok, Bool.false_eq_true, if_false, Sem.run_bind, hl, hcap, Bool.not_false, run_typeInfo' hi, h4, or_false, and_false]
                rw [if_neg (by omega)]
                simp [hq, hfo', hf', run_typeInfo' hi, run_zero' hz, newRow, sl]
            · simp only [Question.cut]; omega
          · exact h5.elim
      · exact h.elim
    · exact h.elim
  · exact h.elim

theorem copy_ok {t xt : TypeId} {ty : TypeId} {d x : Value} {k : Value → World → Prop} (h : eCopy P t d x w k) :
    ∃ v w', (Builtin.copy_ #[t, xt] ty #[d, x]).run P w = .ok v w' ∧ k v w' := by
  unfold eCopy at h
  split at h
  · rename_i el hu
    split at h
    · rename_i i base dLen dCap m hi hlen
      split at h
      · rename_i new hnew
        split at h
        · rename_i w' hw'
          refine ⟨_, _, ?_, h⟩
          have hst := run_stMaybe (P := P) hw'
          have hf := run_firstC (P := P) hnew
          have hl := run_lenV (P := P) (w := w) hlen
          simp only [Builtin.copy_]
          simp only [Sem.run_bind, run_underlying' hu, Result.andThen_ok, sizeOf, run_typeInfo' hi, Sem.run_pure, List.getElem?_toArray, List.getElem?_cons_succ, List.getElem?_cons_zero, hl, hf]
          cases base with
          | none => simp at hst; simp [hst, goInt]
          | some a =>
            have : a.add 0 = a := by simp [Addr.add]
            simp [this] at hst; simp [hst, goInt]
        · exact h.elim
      · exact h.elim
    · exact h.elim
  · exact h.elim
theorem mapSet_ok {t : TypeId} {m key v : Value} {k : Value → World → Prop} (h : eMapSet P t m key v w k) : ∃ w', (Instr.mapUpdate t m key v).run P w = .ok () w' ∧ k unit w' := by
  unfold eMapSet at h
  split at h
  · rename_i kt et hu
    split at h
    · rename_i r
      split at h
      · rename_i es clock hb
        obtain ⟨⟨hck, hk⟩, h⟩ := h
        obtain ⟨kind, hk⟩ := Option.isSome_iff_exists.1 hk
        split at h
        · rename_i i q hf
          obtain ⟨hs, h⟩ := h
          refine ⟨_, ?_, h⟩
          simp only [Instr.mapUpdate, Sem.run_bind, run_underlying' hu, Result.andThen_ok, getObj, Sem.run, hb, run_checkKey_ok _ _ _ hck, run_findKey_ok hk hf, Instr.keyThatStays, hs, if_true, Sem.run_pure, setObj]
          rfl
        · rename_i hf
          refine ⟨_, ?_, h⟩
          simp only [Instr.mapUpdate, Sem.run_bind, run_underlying' hu, Result.andThen_ok, getObj, Sem.run, hb, run_checkKey_ok _ _ _ hck, run_findKey_ok hk hf, setObj]
          rfl
        · exact h.elim
      · exact h.elim
    · exact h.elim
  · exact h.elim
theorem delete_ok {t xt ty : TypeId} {m key : Value} {k : Value → World → Prop} (h : eDelete P t m key w k) : ∃ v w', (Builtin.delete_ #[t, xt] ty #[m, key]).run P w = .ok v w' ∧ k v w' := by
  unfold eDelete at h
  split at h
  · rename_i kt et hu
    split at h
    · rename_i r
      split at h
      · rename_i es clock hb
        obtain ⟨⟨hck, hk⟩, h⟩ := h
        obtain ⟨kind, hk⟩ := Option.isSome_iff_exists.1 hk
        split at h
        · rename_i i q hf
          refine ⟨_, _, ?_, h⟩
          simp only [Builtin.delete_]
          simp only [Sem.run_bind, run_underlying' hu, Result.andThen_ok, Sem.run_pure, List.getElem?_toArray, List.getElem?_cons_succ, List.getElem?_cons_zero, getObj, Sem.run, hb, run_checkKey_ok _ _ _ hck, run_findKey_ok hk hf, setObj]
          rfl
        · rename_i hf
          refine ⟨_, _, ?_, h⟩
          simp only [Builtin.delete_]
          simp only [Sem.run_bind, run_underlying' hu, Result.andThen_ok, Sem.run_pure, List.getElem?_toArray, List.getElem?_cons_succ, List.getElem?_cons_zero, getObj, Sem.run, hb, run_checkKey_ok _ _ _ hck, run_findKey_ok hk hf, setObj]
          rfl
        · exact h.elim
      · exact h.elim
    · exact h.elim
  · exact h.elim
theorem clear_ok {t ty : TypeId} {m : Value} {k : Value → World → Prop} (h : eClear P t m w k) : ∃ v w', (Builtin.clear_ #[t] ty #[m]).run P w = .ok v w' ∧ k v w' := by
  unfold eClear at h
  split at h
  · rename_i kt et hu
    split at h
    · exact ⟨_, _, by simp [Builtin.clear_, run_underlying' hu, unit], h⟩
    · split at h
      · rename_i hb
        refine ⟨_, _, ?_, h⟩
        simp only [Builtin.clear_]
        simp only [Sem.run_bind, run_underlying' hu, Result.andThen_ok, Sem.run_pure, List.getElem?_toArray, List.getElem?_cons_zero, getObj, Sem.run, hb, setObj]
        rfl
      · exact h.elim
    · exact h.elim
  · exact h.elim
theorem range_ok {t : TypeId} {x : Value} {k : Value → World → Prop} (h : eRange P t x w k) : ∃ v w', (Instr.range t x).run P w = .ok v w' ∧ k v w' := by
  unfold eRange at h
  split at h
  · rename_i hu
    split at h
    · exact ⟨_, _, by simp [Instr.range, run_underlying' hu, ptr], h⟩
    · exact h.elim
  · rename_i hu
    split at h
    · exact ⟨_, _, by simp [Instr.range, run_underlying' hu, ptr], h⟩
    · split at h
      · rename_i hb
        exact ⟨_, _, by simp [Instr.range, run_underlying' hu, ptr, getObj, Sem.run, hb], h⟩
      · exact h.elim
    · exact h.elim
  · exact h.elim
theorem run_mark_new (W : World) (c : Array Value) (el : TypeId) : (markStringish ⟨W.heap.size, 0, none⟩).run P (W.alloc (.cells c el)) = .ok () (W.alloc (.cells c el (c.size, c.size + 1))) := by
  have hz : (W.alloc (.cells c el)).shape? W.heap.size = some (el, c.size) := by
    show (match (W.heap.push (.cells c el))[W.heap.size]? with | some (.cells c elem _) => some (elem, c.size) | _ => none) = _
    rw [Array.getElem?_push, if_pos rfl]
  have hzf : (W.alloc (.cells c el)).freeze ⟨W.heap.size, c.size, none⟩ 1 = W.alloc (.cells c el (c.size, c.size + 1)) := by
    have : (W.heap.push (.cells c el)).modify W.heap.size (fun | .cells c1 elem (lo, hi) => .cells c1 elem (if lo == hi then (c.size, c.size + 1) else (min lo c.size, max hi (c.size + 1))) | o => o) = W.heap.push (.cells c el (c.size, c.size + 1)) := by
      apply Array.ext_getElem?
      intro j
      rw [Array.getElem?_modify, Array.getElem?_push, Array.getElem?_push]
      split
      · rename_i hj; subst hj; simp
      · rename_i hj; rw [if_neg (by omega), if_neg (by omega)]
    unfold World.freeze
    rw [if_neg (by omega)]
    exact congrArg (fun h => ({ W with heap := h } : World)) this
  simp only [markStringish, Sem.run_bind, run_shape, hz, Result.andThen_ok, run_freeze, hzf]
theorem toBytes_ok {s d : TypeId} {x : Value} {k : Value → World → Prop} (h : eToBytes P s d x w k) : ∃ v w', (convert s d x).run P w = .ok v w' ∧ k v w' := by
  unfold eToBytes at h
  split at h
  · rename_i el hs hd
    split at h
    · rename_i str he
      have hq : (Question.appendCap str.size 0 el).forced = false := rfl
      have hcap : str.size ≤ (Question.appendCap str.size 0 el).cut (w.tape w.drawn (.appendCap str.size 0 el)) := by simp only [Question.cut]; omega
      have hk := h _ hcap
      refine ⟨_, _, ?_, hk⟩
      have hrun : (choose (.appendCap str.size 0 el)).run P w = .ok ((Question.appendCap str.size 0 el).cut (w.tape w.drawn (.appendCap str.size 0 el))) w.drew := by
        simp [hq]
      generalize (Question.appendCap str.size 0 el).cut (w.tape w.drawn (.appendCap str.size 0 el)) = cap at hcap hrun
      have hsz : ((str.data.map fun b : UInt8 => Value.int .u8 b.toNat) ++ Array.replicate (cap - str.size) (Value.int .u8 0)).size = cap := by
        have : str.data.size = str.size := rfl
        simp [this]; omega
      have hm := run_mark_new (P := P) w.drew ((str.data.map fun b : UInt8 => Value.int .u8 b.toNat) ++ Array.replicate (cap - str.size) (Value.int .u8 0)) el
      rw [hsz] at hm
      have hm : (markStringish ⟨w.heap.size, 0, none⟩).run P _ = .ok () _ := hm
      simp only [convert, Sem.run_bind, run_underlying' hs, run_underlying' hd, run_underlying' he, Result.andThen_ok, Conv.stringToBytes, hrun, newRow, run_newObj, Sem.run_pure, World.alloc_eq, World.size_drew, hm, sl]
    · exact h.elim
  · exact h.elim
theorem next_ok {it : Value} {b : Bool} {ty : TypeId} {k : Value → World → Prop} (h : eNext it b w k) : ∃ v w', (Instr.next it b ty).run P w = .ok v w' ∧ k v w' := by
  unfold eNext at h
  split at h
  · rename_i r sp
    split at h
    · rename_i s pos hb
      split at h
      · rename_i hlt
        exact ⟨_, _, by simp [Instr.next, getObj, Sem.run, hb, hlt, setObj, goInt, setBlk], h⟩
      · rename_i hlt
        exact ⟨_, _, by simp [Instr.next, getObj, Sem.run, hb, hlt, over], h⟩
    · rename_i hb
      exact ⟨_, _, by simp [Instr.next, getObj, Sem.run, hb, over], h⟩
    · rename_i m since seen last hb
      split at h
      · rename_i es clock hm
        obtain ⟨hx, h⟩ := h
        have hlast : (choose (.mapNext (nextC es since seen).size)).run P w = .ok 0 w ∧ (nextC es since seen).size ≤ 1 ∨ ∃ j, (choose (.mapNext (nextC es since seen).size)).run P w = .ok j w.drew ∧ j < (nextC es since seen).size := by
          by_cases hq : (nextC es since seen).size ≤ 1
          · left; simp [Question.forced, hq]
          · right
            refine ⟨_, by simp [Question.forced, hq]; rfl, ?_⟩
            simp only [Question.cut]; exact Nat.mod_lt _ (by omega)
        have hpos : 0 < (nextC es since seen).size := by
          simp only [nextC]
          split
          · simp only [Array.size_append, List.size_toArray, List.length_cons, List.length_nil]; omega
          · rename_i hne
            simp only [Array.isEmpty_iff_size_eq_zero] at hne
            simp only [Array.size_append, Array.size_map, List.size_toArray, List.length_nil]
            omega
        have key : ∀ j w1, (choose (.mapNext (nextC es since seen).size)).run P w = .ok j w1 → (w1 = w ∨ w1 = w.drew) → j < (nextC es since seen).size → ∃ v w', (Instr.next (.pointer (some ⟨r, 0, sp⟩)) false ty).run P w = .ok v w' ∧ k v w' := by
          intro j w1 hc hw1 hj
          have h := h j w1 hw1 hj
          have hb1 : w1.heap[r]? = some (.mapIter (some m) since seen last) := by rcases hw1 with rfl | rfl <;> exact hb
          split at h
          · rename_i e he
            refine ⟨_, _, ?_, h⟩
            simp only [Instr.next, Sem.run_bind, getObj, Sem.run, hb, Result.andThen_ok, hm, hx, Bool.false_eq_true, if_false]
            simp only [nextC] at hc he
            simp only [hc, Result.andThen_ok, he, Sem.run_bind, setObj, Sem.run, hb1]
            rfl
          · rename_i he
            refine ⟨_, _, ?_, h⟩
            simp only [Instr.next, Sem.run_bind, getObj, Sem.run, hb, Result.andThen_ok, hm, hx, Bool.false_eq_true, if_false]
            simp only [nextC] at hc he
            simp only [hc, Result.andThen_ok, he]
            rfl
          · exact h.elim
        rcases hlast with ⟨hc, _⟩ | ⟨j, hc, hj⟩
        · exact key 0 w hc (.inl rfl) hpos
        · exact key j w.drew hc (.inr rfl) hj
      · exact h.elim
    · exact h.elim
  · exact h.elim

theorem eop_ok {call : CallT} (hc : SoundC P call) {e : Env} {o : Oper} {k : Value → World → Prop} (h : eop P call e o.op w k) : RunsTo P (execOp (ev e) o) w k := by
  obtain ⟨dst, op, ty, pos, aft, gd⟩ := o
  simp only at h
  cases op <;> simp only [eop] at h
  case alloc t =>
    unfold eAlloc at h
    split at h
    · rename_i z hz
      refine runs_value (s := Instr.alloc t true (.tuple #[])) ?_ h
      simp [Instr.alloc, run_zero' hz, newVar, newRow, ptr]
    · exact h.elim
  case box t x => exact runs_value (s := Instr.box t (ev e x)) (by simp [Instr.box, newVar, newRow, ptr]) h
  case buildSlice t len parts =>
    have : (parts.map fun p => (p.1, ev e p.2)).toList = parts.toList.map fun p => (p.1, ev e p.2) := by simp
    rw [← this] at h
    obtain ⟨v, w', hr, hk⟩ := buildSl_ok h
    exact runs_value hr hk
  case store t a x =>
    unfold bindW at h
    split at h
    · rename_i w' hs
      exact runs_skip (run_fStore hs) h
    · exact h.elim
  case makeMap t r =>
    unfold eMakeMap at h
    split at h
    · rename_i hr
      refine runs_value (s := Instr.makeMap t (r.map (ev e))) ?_ h
      simp only [hr]
      simp [Instr.makeMap]
    · exact h.elim
  case makeSlice t l c =>
    obtain ⟨v, w', hr, hk⟩ := makeSl_ok h
    exact runs_value hr hk
  case mapUpdate t m key v =>
    obtain ⟨w', hr, hk⟩ := mapSet_ok h
    exact runs_skip hr hk
  case insert t m key v =>
    obtain ⟨w', hr, hk⟩ := mapSet_ok h
    exact runs_skip hr hk
  case range t x =>
    obtain ⟨v, w', hr, hk⟩ := range_ok h
    exact runs_value hr hk
  case next it s =>
    obtain ⟨v, w', hr, hk⟩ := next_ok (ty := ty) h
    exact runs_value hr hk
  case convert s d x =>
    obtain ⟨v, w', hr, hk⟩ := toBytes_ok h
    exact runs_value hr hk
  case call c =>
    obtain ⟨cal, args, ats⟩ := c
    unfold eCall at h
    simp only at h
    split at h
    · rename_i f
      unfold eCallV at h
      split at h
      · rename_i g first captured hf
        obtain ⟨k0, h, hk0⟩ := h
        have hg := (hc _ _ _ _ h).mono hk0
        have hl : (first.toList ++ (args.toList.map (ev e) ++ captured.toList)).toArray = first ++ args.map (ev e) ++ captured := by apply Array.ext'; simp
        rw [hl] at hg
        have he : (execOp (ev e) { dst := dst, op := Op.call { callee := .value f, args := args, argTypes := ats }, type := ty, pos := pos, after := aft, guard := gd }).run P w = (callFunc g (first ++ args.map (ev e) ++ captured)).run P w := by
          simp [execOp, resolve, Deferred.ofValue, hf, invoke]
        rcases hg with ⟨h1, h2⟩ | ⟨v, w', h1, h2⟩
        · exact .inr (.inr ⟨_, _, he.trans h1, h2⟩)
        · exact .inl ⟨_, _, he.trans h1, h2⟩
      · exact h.elim
    · rename_i b
      split at h
      · rename_i s x t xt ha ht
        obtain rfl : args = #[s, x] := Array.ext' ha
        obtain rfl : ats = #[t, xt] := Array.ext' ht
        obtain ⟨v, w', hr, hk⟩ := append_ok (ty := ty) h
        exact .inl ⟨v, w', by simp [execOp, resolve, invoke, builtin, hr], hk⟩
      · rename_i s x t xt ha ht
        obtain rfl : args = #[s, x] := Array.ext' ha
        obtain rfl : ats = #[t, xt] := Array.ext' ht
        obtain ⟨v, w', hr, hk⟩ := copy_ok (xt := xt) (ty := ty) h
        exact .inl ⟨v, w', by simp [execOp, resolve, invoke, builtin, hr], hk⟩
      · rename_i s x t xt ha ht
        obtain rfl : args = #[s, x] := Array.ext' ha
        obtain rfl : ats = #[t, xt] := Array.ext' ht
        obtain ⟨v, w', hr, hk⟩ := delete_ok (xt := xt) (ty := ty) h
        exact .inl ⟨v, w', by simp [execOp, resolve, invoke, builtin, hr], hk⟩
      · rename_i s t ha ht
        obtain rfl : args = #[s] := Array.ext' ha
        obtain rfl : ats = #[t] := Array.ext' ht
        obtain ⟨v, w', hr, hk⟩ := clear_ok (ty := ty) h
        exact .inl ⟨v, w', by simp [execOp, resolve, invoke, builtin, hr], hk⟩
      · exact h.elim
    · exact h.elim
end Go.Sx
