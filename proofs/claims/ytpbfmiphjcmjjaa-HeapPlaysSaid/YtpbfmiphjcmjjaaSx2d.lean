/- A part of the proofs: what stands below it, told in lemmas. No condition. -/
import Derived.Test.YtpbfmiphjcmjjaaSx2c
set_option linter.all false
namespace Go.Sx
variable {P : Program} {w : World}

def fZero (P : Program) (t : TypeId) : Option Value := match P.info? t with | some i => i.zero | none => none
theorem run_zero' {t : TypeId} {z : Value} (h : fZero P t = some z) : (zeroValue t).run P w = .ok z w := by
  unfold fZero at h
  split at h
  · rename_i i hi; simp [zeroValue, run_typeInfo' hi, h]
  · simp at h

def mapOf (v : Value) (w : World) : Option (Array MapEntry) := match v with
  | .map none => some #[]
  | .map (some r) => match w.heap[r]? with | some (.map es _) => some es | _ => none
  | _ => none
def fLook (P : Program) (t : TypeId) (m k : Value) (ok : Bool) (w : World) : Option Value := match P.underlying t with
  | some (.map kt et) => match mapOf m w with
    | some es => if ckv P 10000 kt k = true ∧ (P.underlying kt).isSome then
        match mFind (eqv P Op.maxDepth kt k) es.toList 0 with
        | some (some (_, v)) => some (if ok then .tuple #[v, .bool true] else v)
        | some none => match fZero P et with
          | some z => some (if ok then .tuple #[z, .bool false] else z)
          | none => none
        | none => none
      else none
    | none => none
  | _ => none
theorem run_lookup_ok {t : TypeId} {m k r : Value} {ok : Bool} (h : fLook P t m k ok w = some r) : (Instr.lookup t m k ok).run P w = .ok r w := by
  unfold fLook at h
  split at h
  · rename_i kt et hu
    split at h
    · rename_i es hes
      split at h
      · rename_i hck
        obtain ⟨hck, hk⟩ := hck
        obtain ⟨kind, hk⟩ := Option.isSome_iff_exists.1 hk
        unfold mapOf at hes
        split at hes
        · simp only [Option.some.injEq] at hes; subst hes
          split at h
          · rename_i hf; simp [mFind] at hf
          · rename_i hf
            split at h
            · rename_i z hz
              simp only [Option.some.injEq] at h; subst h
              simp only [Instr.lookup, Sem.run_bind, run_underlying' hu, Result.andThen_ok, Sem.run_pure, run_checkKey_ok _ _ _ hck, run_findKey_ok hk hf, run_zero' hz]
            · simp at h
          · simp at h
        · split at hes
          · rename_i hb
            simp only [Option.some.injEq] at hes; subst hes
            split at h
            · rename_i hf
              simp only [Option.some.injEq] at h; subst h
              simp only [Instr.lookup, getObj, Sem.run, hb, Sem.run_bind, run_underlying' hu, Result.andThen_ok, Sem.run_pure, run_checkKey_ok _ _ _ hck, run_findKey_ok hk hf]
            · rename_i hf
              split at h
              · rename_i z hz
                simp only [Option.some.injEq] at h; subst h
                simp only [Instr.lookup, getObj, Sem.run, hb, Sem.run_bind, run_underlying' hu, Result.andThen_ok, Sem.run_pure, run_checkKey_ok _ _ _ hck, run_findKey_ok hk hf, run_zero' hz]
              · simp at h
            · simp at h
          · simp at hes
        · simp at hes
      · simp at h
    · simp at h
  · simp at h

def placesOf (P : Program) (fields : Array Field) (i : Nat) : Option (Nat × Nat) := (fields[i]?).map fun f => (f.offset, P.cellsOf f.type)
def fBuild (P : Program) (t : TypeId) (parts : List (Nat × Value)) : Option Value := match fZero P t with
  | some z => match P.underlying t with
    | some (.struct fields) => if fields.toList.all (fun f => (P.info? f.type).isSome) then (Instr.fill (placesOf P fields) z.cells parts).map .agg else none
    | some (.array _ elem) => match P.info? elem with
      | some i => (Instr.fill (fun j => some (j * i.size, i.size)) z.cells parts).map .agg
      | none => none
    | _ => none
  | none => none
theorem run_places (l : List Field) (h : l.all (fun f => (P.info? f.type).isSome) = true) :
    (l.mapM (m := Sem) fun f => do pure (f.offset, ← sizeOf f.type)).run P w = .ok (l.map fun f => (f.offset, P.cellsOf f.type)) w := by
  induction l with
  | nil => simp
  | cons f l ih =>
    simp only [List.all_cons, Bool.and_eq_true] at h
    obtain ⟨i, hi⟩ := Option.isSome_iff_exists.1 h.1
    have ih := ih h.2
    have hs : (sizeOf f.type).run P w = .ok (P.cellsOf f.type) w := by simp [sizeOf, run_typeInfo' hi, Program.cellsOf, hi]
    simp only [List.mapM_cons, Sem.run_bind, Result.andThen_ok, hs, Sem.run_pure, ih, List.map_cons]
theorem run_build_ok {t : TypeId} {parts : Array (Nat × Value)} {r : Value} (h : fBuild P t parts.toList = some r) : (Instr.build t parts).run P w = .ok r w := by
  unfold fBuild at h
  split at h
  · rename_i z hz
    split at h
    · rename_i fields hu
      split at h
      · rename_i hall
        simp only [Option.map_eq_some_iff] at h
        obtain ⟨c, hc, rfl⟩ := h
        have hp : (fields.mapM (m := Sem) fun f => do pure (f.offset, ← sizeOf f.type)).run P w = .ok (fields.map fun f => (f.offset, P.cellsOf f.type)) w := by
          rw [Array.mapM_eq_mapM_toList]
          simp only [Sem.run_map, run_places _ hall, Result.andThen_ok]
          congr 1
          apply Array.ext'; simp
        simp only [Instr.build, Sem.run_bind, run_zero' hz, run_underlying' hu, hp, Result.andThen_ok]
        have : (fun x => (fields.map fun f => (f.offset, P.cellsOf f.type))[x]?) = placesOf P fields := by
          funext x; simp [placesOf]
        rw [this, hc]; rfl
      · simp at h
    · rename_i elem hu
      split at h
      · rename_i i hi
        simp only [Option.map_eq_some_iff] at h
        obtain ⟨c, hc, rfl⟩ := h
        simp only [Instr.build, Sem.run_bind, run_zero' hz, run_underlying' hu, sizeOf, run_typeInfo' hi, Result.andThen_ok, Sem.run_pure]
        rw [hc]; rfl
      · simp at h
    · simp at h
  · simp at h

theorem run_bytes_loop : ∀ (l : List Value) (bs : List UInt8) (s : ByteArray), bytesOf l = some bs →
    (forIn (m := Sem) l s fun c s => match c with
      | .int .u8 n => pure (ForInStep.yield (s.push (UInt8.ofNat n.toNat)))
      | _ => do
        (stuck "bytesToString: byte expected" : Sem PUnit)
        pure (ForInStep.yield s)).run P w = .ok ⟨s.data ++ bs.toArray⟩ w := by
  intro l
  induction l with
  | nil => intro bs s h; simp [bytesOf] at h; subst h; simp
  | cons v l ih =>
    intro bs s h
    unfold bytesOf at h
    split at h
    · simp at *
    · rename_i n r heq
      simp only [List.cons.injEq] at heq
      obtain ⟨rfl, rfl⟩ := heq
      simp only [Option.map_eq_some_iff] at h
      obtain ⟨bs', h', rfl⟩ := h
      simp only [List.forIn_cons, Sem.run_bind, Sem.run_pure, Result.andThen_ok]
      rw [ih _ _ h']
      simp [ByteArray.push]
    · simp at h
theorem run_cBytes_ok {x r : Value} (h : cBytes x w = some r) : (Conv.bytesToString x).run P w = .ok r w := by
  unfold cBytes at h
  split at h
  · simp only [Option.some.injEq] at h; subst h; simp [Conv.bytesToString]
  · split at h
    · split at h
      · rename_i hb hsz
        simp only [Option.map_eq_some_iff] at h
        obtain ⟨bs, h, rfl⟩ := h
        simp only [Conv.bytesToString, Sem.run_bind, run_loadCells' hb hsz, Result.andThen_ok]
        rw [← Array.forIn_toList]
        have := run_bytes_loop (P := P) (w := w) _ _ ByteArray.empty h
        refine (congrArg (fun z => Result.andThen z _) this).trans ?_
        simp [ByteArray.empty, ByteArray.emptyWithCapacity]
        rfl
      · simp at h
    · simp at h
  · simp at h
def fConv (P : Program) (s d : TypeId) (x : Value) (w : World) : Option Value := match P.underlying s, P.underlying d with
  | some _, some (.int k) => cInt k x
  | some (.slice e), some .string => match P.underlying e with | some (.int .u8) => cBytes x w | _ => none
  | some _, some .string => cStr x
  | _, _ => none
theorem run_conv_ok {s d : TypeId} {x r : Value} (h : fConv P s d x w = some r) : (convert s d x).run P w = .ok r w := by
  unfold fConv at h
  split at h
  · rename_i u k hs hd
    unfold cInt at h
    split at h
    · simp only [Option.some.injEq] at h; subst h
      cases u <;> simp [convert, run_underlying' hs, run_underlying' hd, Conv.intToInt]
    · simp at h
  · rename_i e hs hd
    split at h
    · rename_i he
      have := run_cBytes_ok (P := P) h
      unfold cBytes at h
      split at h
      · simp [convert, run_underlying' hs, run_underlying' hd, run_underlying' he, this]
      · simp [convert, run_underlying' hs, run_underlying' hd, run_underlying' he, this]
      · simp at h
    · simp at h
  · rename_i u hx hs hd
    unfold cStr at h
    split at h
    · simp only [Option.some.injEq] at h; subst h
      cases u <;> simp [convert, run_underlying' hs, run_underlying' hd]
    · simp at h
  · simp at h
end Go.Sx
