/- A part of the proofs: what stands below it, told in lemmas. No condition. -/
import Derived.Test.YtpbfmiphjcmjjaaSz3
import Derived.Deep.Slices
import Derived.ChangeMaps5
set_option linter.all false
namespace Go.Sx
open Go.ChangeShapes Go.WideShapes Go.RowKit
/-! arguments: what a reading says of the cells -/
inductive CK where
  | int (k : IntKind)
  | str
  | bool
def Fit (c : CK) (v : Value) : Prop := match c with
  | .int k => ∃ n, v = .int k n ∧ (Lit.int k n).wf = true
  | .str => ∃ s, v = .string s ∧ s.size ≤ maxLen
  | .bool => ∃ b, v = .bool b
def FitL : List CK → List Value → Prop
  | [], [] => True
  | c :: cs, v :: vs => Fit c v ∧ FitL cs vs
  | _, _ => False
theorem FitL.append : ∀ {a b : List CK} {x y : List Value}, FitL a x → FitL b y → FitL (a ++ b) (x ++ y)
  | [], _, [], _, _, h => h
  | _ :: _, _, _ :: _, _, h, h' => ⟨h.1, h.2.append h'⟩
  | [], _, _ :: _, _, h, _ => h.elim
  | _ :: _, _, [], _, h, _ => h.elim
theorem FitL.length : ∀ {a : List CK} {x : List Value}, FitL a x → x.length = a.length
  | [], [], _ => rfl
  | _ :: _, _ :: _, h => by simp [h.2.length]
  | [], _ :: _, h => h.elim
  | _ :: _, [], h => h.elim
def scalF (P : Program) (r : TypeId → Option (List CK)) : List Field → Nat → Option (List CK)
  | [], _ => some []
  | f :: fs, off => match f.offset == off, r f.type with
    | true, some ks => match ks.length == P.cellsOf f.type, scalF P r fs (off + ks.length) with
      | true, some l => some (ks ++ l)
      | _, _ => none
    | _, _ => none
def repCK (ks : List CK) : Nat → List CK
  | 0 => []
  | n + 1 => ks ++ repCK ks n
def scal (P : Program) : Nat → TypeId → Option (List CK)
  | 0, _ => none
  | d + 1, t => match P.underlying t with
    | some .bool => some [.bool]
    | some (.int k) => some [.int k]
    | some .string => some [.str]
    | some (.struct fs) => match scalF P (scal P d) fs.toList 0 with
      | some ks => if ks.length = P.cellsOf t then some ks else none
      | none => none
    | some (.array n e) => match scal P d e with
      | some ks => if ks.length = P.cellsOf e ∧ n * ks.length = P.cellsOf t then some (repCK ks n) else none
      | none => none
    | _ => none
section
variable {H : Type} {enc : TypeId × Value → H} {P : Program} {w : World} {base : Nat} {sp : Nat → Bool} {held : Bool}
theorem scalF_ok {r : TypeId → Option (List CK)} {R : TypeId → List Value → Option (DataW H × List MemPlace)} {cs : List Value} (hr : ∀ t ks c x, r t = some ks → R t c = some x → FitL ks c) :
    ∀ (fs : List Field) (off : Nat) (ks : List CK) (xs : List (DataW H × List MemPlace)), scalF P r fs off = some ks → fs.mapM (fun f => R f.type ((cs.drop f.offset).take (P.cellsOf f.type))) = some xs → FitL ks ((cs.drop off).take ks.length) := by
  intro fs
  induction fs with
  | nil => intro off ks xs h _; simp [scalF] at h; subst h; simp [FitL]
  | cons f fs ih =>
    intro off ks xs h hm
    unfold scalF at h
    split at h
    · rename_i ks1 ho hks
      split at h
      · rename_i l hl hk
        simp only [Option.some.injEq] at h; subst h
        simp only [beq_iff_eq] at ho hl
        simp only [List.mapM_cons, Option.bind_eq_bind, Option.bind_eq_some_iff] at hm
        obtain ⟨x, hx, ys, hys, _⟩ := hm
        have f1 := hr _ _ _ _ hks hx
        have f2 := ih _ _ _ hk hys
        rw [ho, ← hl] at f1
        have := f1.append f2
        rw [List.length_append, List.take_add, List.drop_drop]
        exact this
      · cases h
    · cases h
theorem repCK_length (ks : List CK) (n : Nat) : (repCK ks n).length = n * ks.length := by
  induction n with
  | zero => simp [repCK]
  | succ n ih => simp [repCK, ih, Nat.add_mul, Nat.add_comm]
theorem rep_ok {ks : List CK} {cs : List Value} : ∀ (n o : Nat), (∀ i, i < n → FitL ks ((cs.drop (o + i * ks.length)).take ks.length)) → FitL (repCK ks n) ((cs.drop o).take (n * ks.length)) := by
  intro n
  induction n with
  | zero => intro o _; simp [repCK, FitL]
  | succ n ih =>
    intro o h
    have h0 := h 0 (by omega)
    simp only [Nat.zero_mul, Nat.add_zero] at h0
    have h1 := ih (o + ks.length) fun i hi => by
      have := h (i + 1) (by omega)
      rwa [Nat.add_mul, Nat.one_mul, Nat.add_comm (i * ks.length), ← Nat.add_assoc] at this
    have := h0.append h1
    rw [show (n + 1) * ks.length = ks.length + n * ks.length by rw [Nat.add_mul]; omega, List.take_add, List.drop_drop]
    exact this
theorem mapM_each {α β : Type} {f : α → Option β} : ∀ {l : List α} {r : List β}, l.mapM f = some r → ∀ x ∈ l, ∃ y, f x = some y := by
  intro l
  induction l with
  | nil => intro r _ x hx; simp at hx
  | cons a l ih =>
    intro r h x hx
    simp only [List.mapM_cons, Option.bind_eq_bind, Option.bind_eq_some_iff] at h
    obtain ⟨y, hy, ys, hys, _⟩ := h
    rcases List.mem_cons.1 hx with rfl | hx
    · exact ⟨y, hy⟩
    · exact ih hys x hx
theorem scal_ok : ∀ (d : Nat) (t : TypeId) (ks : List CK), scal P d t = some ks → ∀ (fuel : Nat) (cs : List Value) (x : DataW H × List MemPlace), DataW.trod enc P w base sp held fuel t cs = some x → FitL ks cs := by
  intro d
  induction d with
  | zero => intro t ks h; simp [scal] at h
  | succ d ih =>
    intro t ks h fuel cs x hx
    cases fuel with
    | zero => simp [DataW.trod] at hx
    | succ fuel =>
    unfold scal at h
    split at h
    · rename_i hu
      simp only [Option.some.injEq] at h; subst h
      unfold DataW.trod at hx
      rw [hu] at hx
      split at hx <;> first | (simp_all; done) | (exact ⟨⟨_, rfl⟩, trivial⟩) | (rename_i h1; simp at h1)
    · rename_i k hu
      simp only [Option.some.injEq] at h; subst h
      unfold DataW.trod at hx
      rw [hu] at hx
      split at hx
      all_goals first | (rename_i h1; simp at h1; done) | skip
      all_goals first | (simp at hx; done) | skip
      all_goals
        rename_i h1
        simp at h1
        subst h1
        split at hx
        · rename_i h2; obtain ⟨rfl, h3⟩ := h2; exact ⟨⟨_, rfl, h3⟩, trivial⟩
        · simp at hx
    · rename_i hu
      simp only [Option.some.injEq] at h; subst h
      unfold DataW.trod at hx
      rw [hu] at hx
      split at hx
      all_goals first | (rename_i h1; simp at h1; done) | skip
      all_goals first | (simp at hx; done) | skip
      all_goals
        split at hx
        · rename_i h3; exact ⟨⟨_, rfl, h3⟩, trivial⟩
        · simp at hx
    · rename_i fs hu
      split at h
      · rename_i ks' hks
        split at h
        · rename_i hlen
          simp only [Option.some.injEq] at h; subst h
          have : cs.length = P.cellsOf t ∧ ∃ xs, fs.toList.mapM (fun f => DataW.trod enc P w base sp held fuel f.type ((cs.drop f.offset).take (P.cellsOf f.type))) = some xs := by
            unfold DataW.trod at hx
            rw [hu] at hx
            split at hx
            all_goals first | (rename_i h1; simp at h1; done) | skip
            all_goals first | (simp at hx; done) | skip
            all_goals first | exact (‹∀ (fs_1 : Array Field), some (TypeDesc.struct fs) = some (TypeDesc.struct fs_1) → False› fs rfl).elim | skip
            all_goals
              have h1 := ‹some (TypeDesc.struct fs) = some (TypeDesc.struct _)›
              cases h1
              split at hx
              · rename_i hl
                simp only [Option.map_eq_some_iff] at hx
                obtain ⟨xs, hxs, _⟩ := hx
                exact ⟨hl, xs, hxs⟩
              · simp at hx
          obtain ⟨hl, xs, hxs⟩ := this
          have := scalF_ok (R := DataW.trod enc P w base sp held fuel) (fun t ks c x h1 h2 => ih t ks h1 fuel c x h2) fs.toList 0 ks' xs hks hxs
          rw [List.drop_zero, List.take_of_length_le (by omega)] at this
          exact this
        · cases h
      · cases h
    · rename_i n e hu
      split at h
      · rename_i ks' hks
        split at h
        · rename_i hlen
          simp only [Option.some.injEq] at h; subst h
          have : cs.length = P.cellsOf t ∧ ∃ xs, (List.range n).mapM (fun i => DataW.trod enc P w base sp held fuel e ((cs.drop (i * P.cellsOf e)).take (P.cellsOf e))) = some xs := by
            unfold DataW.trod at hx
            rw [hu] at hx
            split at hx
            all_goals first | (rename_i h1; simp at h1; done) | skip
            all_goals first | (simp at hx; done) | skip
            all_goals first | exact (‹∀ (n_1 : Nat) (e_1 : TypeId), some (TypeDesc.array n e) = some (TypeDesc.array n_1 e_1) → False› n e rfl).elim | skip
            all_goals
              have h1 := ‹some (TypeDesc.array n e) = some (TypeDesc.array _ _)›
              cases h1
              split at hx
              · rename_i hl
                simp only [Option.map_eq_some_iff] at hx
                obtain ⟨xs, hxs, _⟩ := hx
                exact ⟨hl, xs, hxs⟩
              · simp at hx
          obtain ⟨hl, xs, hxs⟩ := this
          have := rep_ok (ks := ks') (cs := cs) n 0 fun i hi => by
            obtain ⟨y, hy⟩ := mapM_each hxs i (by simpa using hi)
            have := ih _ _ hks _ _ _ hy
            rw [Nat.zero_add, hlen.1]; exact this
          rw [List.drop_zero, List.take_of_length_le (by omega)] at this
          exact this
        · cases h
      · cases h
    · cases h
theorem add_add (a : Addr) (x y : Nat) : (a.add x).add y = a.add (x + y) := by
  unfold Addr.add
  by_cases hx : x = 0 <;> by_cases hy : y = 0 <;> simp [hx, hy]
  omega
theorem arg_slice {t e : TypeId} {es : Nat} {ks : List CK} {v : Value} {d : DataW H} {ps : List MemPlace} {n0 : Nat} {r : _root_.Go.Reach} (ht : P.underlying t = some (.slice e)) (he : P.cellsOf e = es) (hpos : 0 < es) (hks : scal P n0 e = some ks)
    {b0 : Nat} (hval : Value.okWide P w r b0 t v) (hd : DataW.Trod enc P w base (fun _ => true) held t v d ps) :
    ∃ n cs, Rd w es v n cs ∧ n ≤ maxLen ∧ ∀ i, i < n → FitL ks ((cs.drop (i * es)).take es) := by
  obtain ⟨fuel, hx⟩ := hd
  have hv : v.cells.toList = [v] := by
    simp only [Value.okWide, ht, Cell.okWide, Cell.ok] at hval
    split at hval <;> first | rfl | (exact hval.elim) | simp_all [Value.cells]
  rw [hv] at hx
  rcases Go.Deep.open_slice ht hx with ⟨h1, _⟩ | ⟨a, len, cap, m, n, D, Pl, h1, hb, hlc, hcm, hm, _, hel⟩
  · simp only [List.cons.injEq, and_true] at h1; subst h1
    exact ⟨0, [], .emp _ _, Nat.zero_le _, fun i hi => by omega⟩
  · simp only [List.cons.injEq, and_true] at h1; subst h1
    simp only [if_true] at hm; subst hm
    by_cases hc0 : m = 0
    · have : len = 0 := by omega
      subst this
      exact ⟨0, [], .emp _ _, Nat.zero_le _, fun i hi => by omega⟩
    rw [he] at hel
    have cell : ∀ k, k < m * es → ∃ u, w.cell? (a.add k) = some u := by
      intro k hk
      have hi : k / es < m := by rw [Nat.div_lt_iff_lt_mul hpos]; exact hk
      obtain ⟨cs', h1, _⟩ := hel _ hi
      obtain ⟨_, h2, h3⟩ := World.cells?_some h1
      have hm := Nat.mod_lt k hpos
      have h4 := h3 (k % es) hm
      rw [add_add, show k / es * es + k % es = k by rw [Nat.mul_comm]; exact Nat.div_add_mod k es] at h4
      exact ⟨cs'[k % es]'(by omega), by rw [h4, List.getElem?_eq_getElem]⟩
    have hpos2 : 0 < m * es := Nat.mul_pos (by omega) hpos
    obtain ⟨b, o, spot⟩ := a
    have hspot : spot = none ∧ ∃ arr ty fz, w.heap[b]? = some (.cells arr ty fz) := by
      obtain ⟨u, hu⟩ := cell 0 hpos2
      simp only [Addr.add, if_true, World.cell?] at hu
      split at hu
      · rename_i arr ty fz hb'
        cases spot with
        | none => exact ⟨rfl, _, _, _, hb'⟩
        | some s => simp at hu
      · cases hu
    obtain ⟨rfl, arr, ty, fz, hb'⟩ := hspot
    have cell2 : ∀ k, k < m * es → o + k < arr.size := by
      intro k hk
      obtain ⟨u, hu⟩ := cell k hk
      rw [addr_add, cell_of hb'] at hu
      rcases Nat.lt_or_ge (o + k) arr.size with h | h
      · exact h
      · rw [Array.getElem?_eq_none h] at hu; cases hu
    have hsz := cell2 (m * es - 1) (by omega)
    have hle := Nat.mul_le_mul_right es hlc
    refine ⟨len, _, .blk hb' hlc (by omega) rfl, by omega, fun i hi => ?_⟩
    obtain ⟨cs', h1, h2⟩ := hel i (by omega)
    have h3 := scal_ok _ _ _ hks _ _ _ h2
    obtain ⟨_, h4, h5⟩ := World.cells?_some h1
    have hi2 : i * es + es ≤ len * es := by
      have := Nat.mul_le_mul_right es (show i + 1 ≤ len by omega)
      rw [Nat.add_mul] at this; omega
    have : (((arr.toList.drop o).take (len * es)).drop (i * es)).take es = cs' := by
      apply List.ext_getElem
      · simp; omega
      · intro j j1 j2
        have := h5 j (by omega)
        rw [addr_add, addr_add, cell_of hb', List.getElem?_eq_getElem j2, Array.getElem?_eq_getElem (cell2 (i * es + j) (by omega) |> fun h => by omega)] at this
        simp only [Option.some.injEq] at this
        rw [← this]
        simp [Nat.add_assoc]
    rw [this]; exact h3
theorem fit_list {α : Type} {f : α → List Value} {good : α → Prop} {ks : List CK} {es : Nat} (hf : ∀ c, FitL ks c → ∃ x, c = f x ∧ good x) : ∀ (n : Nat) (cs : List Value), cs.length = n * es → (∀ i, i < n → FitL ks ((cs.drop (i * es)).take es)) →
    ∃ l : List α, l.length = n ∧ cs = l.flatMap f ∧ ∀ x ∈ l, good x := by
  intro n
  induction n with
  | zero => intro cs h _; exact ⟨[], rfl, by simpa using h, by simp⟩
  | succ n ih =>
    intro cs h hx
    obtain ⟨x, e1, g1⟩ := hf _ (hx 0 (by omega))
    obtain ⟨l, e2, e3, g2⟩ := ih (cs.drop es) (by simp [h, Nat.add_mul]) fun i hi => by
      have := hx (i + 1) (by omega)
      rwa [Nat.add_mul, Nat.one_mul, Nat.add_comm (i * es), ← List.drop_drop] at this
    refine ⟨x :: l, by simp [e2], ?_, by simpa using ⟨g1, g2⟩⟩
    rw [List.flatMap_cons, ← e3, ← e1]
    simp
theorem flat_at {α : Type} {f : α → List Value} {es : Nat} (hf : ∀ x, (f x).length = es) : ∀ (l : List α) (i : Nat) (hi : i < l.length), ((l.flatMap f).drop (i * es)).take es = f l[i]
  | x :: l, 0, _ => by
    rw [List.flatMap_cons, Nat.zero_mul, List.drop_zero, List.take_left' (hf x)]; rfl
  | x :: l, i + 1, hi => by
    rw [List.flatMap_cons, Nat.add_mul, Nat.one_mul, Nat.add_comm, ← List.drop_drop, List.drop_left' (hf x)]
    exact flat_at hf l i (by simpa using hi)
theorem Rd.elem {α : Type} {f : α → List Value} {es n i : Nat} {v : Value} {l : List α} {j : IntKind} (h : Rd w es v n (l.flatMap f)) (hf : ∀ x, (f x).length = es) (hn : n = l.length) (hi : i < l.length) :
    ∃ b o, pIndexL es v (.int j i) = some (.pointer (some ⟨b, o, none⟩)) ∧ ldN es (.pointer (some ⟨b, o, none⟩)) w = some (.agg (f l[i]).toArray) ∧ ∀ k, w.cell? ⟨b, o + k, none⟩ = (f l[i])[k]? ∨ es ≤ k := by
  have hc2 := flat_at hf l i hi
  generalize l.flatMap f = cs at h hc2
  cases h with
  | emp => omega
  | blk hb hn ha hc =>
    rename_i b o cap a ty fz
    have e1 : i * es + es ≤ n * es := by
      have := Nat.mul_le_mul_right es (show i + 1 ≤ n by omega)
      rw [Nat.add_mul] at this; omega
    have e2 : f l[i] = (a.toList.drop (o + i * es)).take es := by
      rw [← hc2, hc, List.drop_take, List.take_take, List.drop_drop, Nat.min_eq_left (by omega)]
    refine ⟨b, o + i * es, ?_, ?_, fun k => ?_⟩
    · simp only [pIndexL]; rw [if_pos ⟨by omega, by omega⟩]; simp
    · rw [ldN_of hb (by omega), e2]
      congr 2
      apply Array.ext'
      simp only [Array.toList_extract, List.extract_eq_take_drop]
      rw [show o + i * es + es - (o + i * es) = es by omega]
    · rcases Nat.lt_or_ge k es with hk | hk
      · left
        rw [cell_of hb, e2, List.getElem?_take_of_lt hk, List.getElem?_drop, Array.getElem?_toList]
      · exact .inr hk
end
end Go.Sx
