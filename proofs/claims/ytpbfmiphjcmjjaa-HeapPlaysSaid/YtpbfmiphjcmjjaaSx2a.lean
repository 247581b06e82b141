/- A part of the proofs: what stands below it, told in lemmas. No condition. -/
import Derived.Test.YtpbfmiphjcmjjaaSx1
set_option linter.all false
namespace Go.Sx
variable {P : Program} {w : World}

theorem run_underlying' {t : TypeId} {d : TypeDesc} (h : P.underlying t = some d) : (underlying t).run P w = .ok d w := by
  simp [underlying, h]
theorem run_typeInfo' {t : TypeId} {d : TypeInfo} (h : P.info? t = some d) : (typeInfo t).run P w = .ok d w := by
  simp [typeInfo, h]
theorem info_of_underlying {t : TypeId} {d : TypeDesc} (h : P.underlying t = some d) : ∃ i, P.info? t = some i := by
  unfold Program.underlying at h
  cases hi : P.info? t with
  | none => simp [hi] at h
  | some i => exact ⟨i, rfl⟩
theorem run_sizeOf' {t : TypeId} {d : TypeDesc} (h : P.underlying t = some d) : (sizeOf t).run P w = .ok (P.cellsOf t) w := by
  obtain ⟨i, hi⟩ := info_of_underlying h
  simp [sizeOf, run_typeInfo' hi, Program.cellsOf, hi]
def isAggD : TypeDesc → Bool | .struct _ | .array _ _ => true | _ => false
theorem run_isAgg' {t : TypeId} {d : TypeDesc} (h : P.underlying t = some d) : (isAgg t).run P w = .ok (isAggD d) w := by
  simp only [isAgg, Sem.run_bind, run_underlying' h, Result.andThen_ok]
  cases d <;> rfl
theorem run_part' {t : TypeId} {cs : Array Value} {off : Nat} {v : Value} (h : partV P t cs off = some v) : (part t cs off).run P w = .ok v w := by
  unfold partV at h
  cases hu : P.underlying t with
  | none => simp [hu] at h
  | some d =>
    have ha := run_isAgg' (w := w) hu
    have hs := run_sizeOf' (w := w) hu
    cases d <;> simp [hu] at h <;> simp [part, ha, hs, h, isAggD]

theorem loadCellsFrom_ok (c : Array Value) (ty : TypeId) (fz : Nat × Nat) (b o : Nat) (hb : w.heap[b]? = some (.cells c ty fz)) (n : Nat) : ∀ (i : Nat) (acc : Array Value), o + i + n ≤ c.size →
    (loadCellsFrom ⟨b, o, none⟩ i n acc).run P w = .ok (acc ++ c.extract (o + i) (o + i + n)) w := by
  induction n with
  | zero => intro i acc h; simp [loadCellsFrom]; omega
  | succ n ih =>
    intro i acc h
    have hc : w.cell? ((⟨b, o, none⟩ : Addr).add i) = some (c[o + i]'(by omega)) := by
      unfold Addr.add
      by_cases hi : i = 0
      · subst hi; simp [World.cell?, hb]
      · simp [World.cell?, hb, hi, show o + i < c.size by omega]
    simp only [loadCellsFrom, Sem.run_bind, run_load, hc, Result.andThen_ok]
    rw [ih (i + 1) _ (by omega)]
    congr 1
    apply Array.ext'
    simp only [Array.toList_append, Array.toList_push, Array.toList_extract, List.append_assoc]
    congr 1
    rw [List.extract_eq_take_drop, List.extract_eq_take_drop]
    have : o + i < c.toList.length := by simp; omega
    rw [List.drop_eq_getElem_cons this]
    simp only [show o + i + (n+1) - (o + i) = n + 1 by omega, show o + (i + 1) + n - (o + (i + 1)) = n by omega, List.take_succ_cons]
    simp [Nat.add_assoc]
theorem run_loadCells' {c : Array Value} {ty : TypeId} {fz : Nat × Nat} {b o n : Nat} (hb : w.heap[b]? = some (.cells c ty fz)) (h : o + n ≤ c.size) :
    (loadCells ⟨b, o, none⟩ n).run P w = .ok (c.extract o (o + n)) w := by
  have := loadCellsFrom_ok (P := P) c ty fz b o hb n 0 #[] (by omega)
  simpa [loadCells] using this


def fLoad (P : Program) (t : TypeId) (v : Value) (w : World) : Option Value := match P.underlying t with
  | some (.struct _) | some (.array _ _) => ldN (P.cellsOf t) v w
  | some _ => ld1 v w
  | none => none
theorem run_load_ok {t : TypeId} {v r : Value} (h : fLoad P t v w = some r) : (Instr.loadAt t v).run P w = .ok r w := by
  unfold fLoad at h
  cases hu : P.underlying t with
  | none => simp [hu] at h
  | some d =>
    have hag := run_isAgg' (w := w) hu
    have hs := run_sizeOf' (w := w) hu
    have key1 : ld1 v w = some r → isAggD d = false → (Instr.loadAt t v).run P w = .ok r w := by
      intro h1 h2
      rw [h2] at hag
      unfold ld1 at h1
      split at h1
      · simp [Instr.loadAt, Instr.sureAddr, loadVar, hag, h1]
      · simp at h1
    have keyN : ldN (P.cellsOf t) v w = some r → isAggD d = true → (Instr.loadAt t v).run P w = .ok r w := by
      intro h1 h2
      rw [h2] at hag
      unfold ldN at h1
      split at h1
      · split at h1
        · split at h1
          · rename_i hb hsz
            simp only [Option.some.injEq] at h1
            simp [Instr.loadAt, Instr.sureAddr, loadVar, hag, hs, run_loadCells' hb hsz, h1]
          · simp at h1
        · simp at h1
      · simp at h1
    cases d <;> simp only [hu] at h <;> first | exact key1 h rfl | exact keyN h rfl

theorem run_fieldAddr_ok {s : TypeId} {fs : Array Field} {fd : Field} {f : Nat} {v r : Value} (hu : P.underlying s = some (.struct fs)) (hf : fs[f]? = some fd)
    (hs : P.info? fd.type ≠ none) (hz : P.cellsOf fd.type ≠ 0) (h : pFieldAddr fd.offset v = some r) : (Instr.fieldAt s v f).run P w = .ok r w := by
  unfold pFieldAddr at h
  split at h
  · simp only [Option.some.injEq] at h
    subst h
    cases hi : P.info? fd.type with
    | none => exact absurd hi hs
    | some i =>
      have h0 : i.size ≠ 0 := by simpa [Program.cellsOf, hi] using hz
      simp [Instr.fieldAt, run_underlying' hu, hf, Instr.sureAddr, fieldPlace, sizeOf, run_typeInfo' hi, h0, Addr.add]
  · simp at h

theorem run_bound_ok {v : Value} {mx l : Nat} {d : Nat} {code : BoundsCode} (h : bnd (some v) d mx = some l) : (Instr.sliceBound v mx code).run P w = .ok l w := by
  unfold bnd at h
  cases v <;> simp at h
  rename_i k i
  obtain ⟨⟨h1, h2⟩, rfl⟩ := h
  simp [Instr.sliceBound, asIntOf, h1, h2]

theorem run_bounds_ok {isS : Bool} {len cap : Nat} {lo hi mx : Option Value} {m h l : Nat} (hm : bnd mx cap cap = some m)
    (hh : hiB mx hi len m = some h) (hl : bnd lo 0 h = some l) :
    (Instr.sliceBounds isS len cap lo hi mx).run P w = .ok (l, h, m) w := by
  have e1 : ∀ v, lo = some v → ∀ c, (Instr.sliceBound v h c).run P w = .ok l w := by
    intro v hv c; subst hv; exact run_bound_ok hl
  have e0 : lo = none → l = 0 := by intro hv; subst hv; simp [bnd] at hl; omega
  have m1 : ∀ v, mx = some v → ∀ c, (Instr.sliceBound v cap c).run P w = .ok m w := by
    intro v hv c; subst hv; exact run_bound_ok hm
  have m0 : mx = none → m = cap := by intro hv; subst hv; simp [bnd] at hm; omega
  cases mx with
  | none =>
    have := m0 rfl; subst this
    cases hi with
    | none =>
      simp [hiB] at hh; subst hh
      cases lo with
      | none => have := e0 rfl; subst this; simp [Instr.sliceBounds]
      | some lv => simp [Instr.sliceBounds, e1 lv rfl]
    | some hv =>
      have h1 : ∀ c, (Instr.sliceBound hv m c).run P w = .ok h w := fun c => run_bound_ok hh
      cases lo with
      | none => have := e0 rfl; subst this; simp [Instr.sliceBounds, h1]
      | some lv => simp [Instr.sliceBounds, h1, e1 lv rfl]
  | some mv =>
    cases hi with
    | none => simp [hiB] at hh
    | some hv =>
      have h1 : ∀ c, (Instr.sliceBound hv m c).run P w = .ok h w := fun c => run_bound_ok hh
      cases lo with
      | none => have := e0 rfl; subst this; simp [Instr.sliceBounds, h1, m1 mv rfl]
      | some lv => simp [Instr.sliceBounds, h1, e1 lv rfl, m1 mv rfl]

def fSlice (P : Program) (t : TypeId) (v : Value) (lo hi mx : Option Value) : Option Value := match P.underlying t with
  | some (.array n el) => match P.info? el with | some i => pSliceA n i.size v lo hi mx | none => none
  | some .string => match mx with | none => pSliceS v lo hi | some _ => none
  | some (.slice el) => match P.info? el with | some i => pSliceL i.size v lo hi mx | none => none
  | _ => none
theorem run_slice_ok {t : TypeId} {v r : Value} {lo hi mx : Option Value} (h : fSlice P t v lo hi mx = some r) : (Instr.sliceAt t v lo hi mx).run P w = .ok r w := by
  unfold fSlice at h
  split at h
  · rename_i n el hu
    split at h
    · rename_i i hi'
      unfold pSliceA at h
      split at h
      · split at h
        · rename_i m hm
          split at h
          · rename_i hh' hh
            split at h
            · rename_i l hl
              simp only [Option.some.injEq] at h; subst h
              simp [Instr.sliceAt, run_underlying' hu, Instr.sureAddr, run_bounds_ok hm hh hl, sizeOf, run_typeInfo' hi']
            · simp at h
          · simp at h
        · simp at h
      · simp at h
    · simp at h
  · rename_i hu
    split at h
    · unfold pSliceS at h
      split at h
      · split at h
        · rename_i hh' hh
          split at h
          · rename_i l hl
            simp only [Option.some.injEq] at h; subst h
            simp [Instr.sliceAt, run_underlying' hu, Instr.slice, run_bounds_ok (isS := false) (lo := lo) (hi := hi) (mx := none) (m := _) (cap := _) rfl hh hl]
          · simp at h
        · simp at h
      · simp at h
    · simp at h
  · rename_i el hu
    split at h
    · rename_i i hi'
      unfold pSliceL at h
      split at h
      · split at h
        · rename_i m hm
          split at h
          · rename_i hh' hh
            split at h
            · rename_i l hl
              simp only [Option.some.injEq] at h; subst h
              simp [Instr.sliceAt, run_underlying' hu, Instr.slice, run_bounds_ok hm hh hl, sizeOf, run_typeInfo' hi']
            · simp at h
          · simp at h
        · simp at h
      · simp at h
    · simp at h
  · simp at h
end Go.Sx
