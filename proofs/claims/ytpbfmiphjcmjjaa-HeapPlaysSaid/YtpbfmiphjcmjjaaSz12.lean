/- A part of the proofs: what stands below it, told in lemmas. No condition. -/
import Derived.Test.YtpbfmiphjcmjjaaSz11
import Derived.SizedLaws
set_option linter.all false
namespace Go.Sx
open Go.ChangeShapes Go.WideShapes Go.RowKit
/-! arguments, slices within them, and how long all is -/
inductive CK2 where
  | int (k : IntKind)
  | str
  | bool
  | sl (es : Nat) (ks : List CK2)
mutual
def Fit2 (w : World) (B : Nat) : CK2 → Value → Prop
  | .int k, v => ∃ n, v = .int k n ∧ (Lit.int k n).wf = true
  | .str, v => ∃ s, v = .string s ∧ s.size ≤ B
  | .bool, v => ∃ b, v = .bool b
  | .sl es ks, v => ∃ n cs, Rd w es v n cs ∧ n ≤ B ∧ ∀ i, i < n → FitL2 w B ks ((cs.drop (i * es)).take es)
def FitL2 (w : World) (B : Nat) : List CK2 → List Value → Prop
  | [], vs => vs = []
  | c :: cs, vs => ∃ v r, vs = v :: r ∧ Fit2 w B c v ∧ FitL2 w B cs r
end
section
variable {w : World} {B : Nat}
theorem FitL2.append : ∀ {a b : List CK2} {x y : List Value}, FitL2 w B a x → FitL2 w B b y → FitL2 w B (a ++ b) (x ++ y)
  | [], _, x, _, h, h' => by simp only [FitL2] at h; subst h; exact h'
  | _ :: _, _, x, _, h, h' => by
    simp only [FitL2] at h
    obtain ⟨v, r, rfl, h1, h2⟩ := h
    simp only [List.cons_append, FitL2]
    exact ⟨v, _, rfl, h1, h2.append h'⟩
theorem FitL2.length : ∀ {a : List CK2} {x : List Value}, FitL2 w B a x → x.length = a.length
  | [], x, h => by simp only [FitL2] at h; subst h; rfl
  | _ :: _, x, h => by
    simp only [FitL2] at h
    obtain ⟨v, r, rfl, _, h2⟩ := h
    simp [h2.length]
theorem fitL2_nil {cs : List Value} (h : FitL2 w B [] cs) : cs = [] := by simpa only [FitL2] using h
theorem fitL2_int {k : IntKind} {ks : List CK2} {cs : List Value} (h : FitL2 w B (.int k :: ks) cs) : ∃ (n : Int) (vs : List Value), cs = .int k n :: vs ∧ (Lit.int k n).wf = true ∧ FitL2 w B ks vs := by
  simp only [FitL2, Fit2] at h
  obtain ⟨v, r, rfl, ⟨n, rfl, hn⟩, h2⟩ := h
  exact ⟨n, r, rfl, hn, h2⟩
theorem fitL2_bool {ks : List CK2} {cs : List Value} (h : FitL2 w B (.bool :: ks) cs) : ∃ (b : Bool) (vs : List Value), cs = .bool b :: vs ∧ FitL2 w B ks vs := by
  simp only [FitL2, Fit2] at h
  obtain ⟨v, r, rfl, ⟨n, rfl⟩, h2⟩ := h
  exact ⟨n, r, rfl, h2⟩
theorem fitL2_str {ks : List CK2} {cs : List Value} (h : FitL2 w B (.str :: ks) cs) : ∃ (l : List UInt8) (vs : List Value), cs = .string (bs l) :: vs ∧ l.length ≤ B ∧ FitL2 w B ks vs := by
  simp only [FitL2, Fit2] at h
  obtain ⟨v, r, rfl, ⟨s, rfl, hs⟩, h2⟩ := h
  obtain ⟨l, rfl, hl⟩ := str_bs (s := s)
  exact ⟨l, r, rfl, by omega, h2⟩
theorem fitL2_sl {es : Nat} {k ks : List CK2} {cs : List Value} (h : FitL2 w B (.sl es k :: ks) cs) : ∃ (v : Value) (vs : List Value), cs = v :: vs ∧ (∃ n ds, Rd w es v n ds ∧ n ≤ B ∧ ∀ i, i < n → FitL2 w B k ((ds.drop (i * es)).take es)) ∧ FitL2 w B ks vs := by
  simp only [FitL2, Fit2] at h
  obtain ⟨v, r, rfl, h1, h2⟩ := h
  exact ⟨v, r, rfl, h1, h2⟩
end
def scal2F (P : Program) (r : TypeId → Option (List CK2)) : List Field → Nat → Option (List CK2)
  | [], _ => some []
  | f :: fs, off => match f.offset == off, r f.type with
    | true, some ks => match ks.length == P.cellsOf f.type, scal2F P r fs (off + ks.length) with
      | true, some l => some (ks ++ l)
      | _, _ => none
    | _, _ => none
def repCK2 (ks : List CK2) : Nat → List CK2
  | 0 => []
  | n + 1 => ks ++ repCK2 ks n
def scal2 (P : Program) : Nat → TypeId → Option (List CK2)
  | 0, _ => none
  | d + 1, t => match P.underlying t with
    | some .bool => some [.bool]
    | some (.int k) => some [.int k]
    | some .string => some [.str]
    | some (.slice e) => match scal2 P d e with
      | some ks => if 0 < P.cellsOf e ∧ 0 < P.bytesOf e then some [.sl (P.cellsOf e) ks] else none
      | none => none
    | some (.struct fs) => match scal2F P (scal2 P d) fs.toList 0 with
      | some ks => if ks.length = P.cellsOf t then some ks else none
      | none => none
    | some (.array n e) => match scal2 P d e with
      | some ks => if ks.length = P.cellsOf e ∧ n * ks.length = P.cellsOf t then some (repCK2 ks n) else none
      | none => none
    | _ => none
section
variable {H : Type} {enc : TypeId × Value → H} {P : Program} {w : World} {base : Nat} {held : Bool} {B : Nat}
theorem weightsAll_mem {e : TypeId} : ∀ {l : List (DataW H)} {d : DataW H}, d ∈ l → ∀ n ∈ d.weights P e, n ∈ DataW.weightsAll P e l
  | x :: l, d, hd, n, hn => by
    simp only [DataW.weightsAll, List.mem_append]
    rcases List.mem_cons.1 hd with rfl | hd
    · exact .inl hn
    · exact .inr (weightsAll_mem hd n hn)
  | [], _, hd, _, _ => by simp at hd
theorem scal2F_ok {r : TypeId → Option (List CK2)} {R : TypeId → List Value → Option (DataW H × List MemPlace)} {cs : List Value} (hr : ∀ t ks c x, r t = some ks → R t c = some x → (∀ n ∈ x.1.weights P t, n ≤ B) → FitL2 w B ks c) :
    ∀ (fs : List Field) (off : Nat) (ks : List CK2) (xs : List (DataW H × List MemPlace)), scal2F P r fs off = some ks → fs.mapM (fun f => R f.type ((cs.drop f.offset).take (P.cellsOf f.type))) = some xs →
      (∀ n ∈ DataW.weightsEach P (fs.map (·.type)) (xs.map (·.1)), n ≤ B) → FitL2 w B ks ((cs.drop off).take ks.length) := by
  intro fs
  induction fs with
  | nil => intro off ks xs h _ _; simp [scal2F] at h; subst h; simp [FitL2]
  | cons f fs ih =>
    intro off ks xs h hm hw
    unfold scal2F at h
    split at h
    · rename_i ks1 ho hks
      split at h
      · rename_i l hl hk
        simp only [Option.some.injEq] at h; subst h
        simp only [beq_iff_eq] at ho hl
        simp only [List.mapM_cons, Option.bind_eq_bind, Option.bind_eq_some_iff] at hm
        obtain ⟨x, hx, ys, hys, he⟩ := hm
        simp only [Option.pure_def, Option.some.injEq] at he; subst he
        simp only [List.map_cons, DataW.weightsEach, List.mem_append] at hw
        have f1 := hr _ _ _ _ hks hx fun n hn => hw n (.inl hn)
        have f2 := ih _ _ _ hk hys fun n hn => hw n (.inr hn)
        rw [ho, ← hl] at f1
        have := f1.append f2
        rw [List.length_append, List.take_add, List.drop_drop]
        exact this
      · cases h
    · cases h
theorem rep2_ok {ks : List CK2} {cs : List Value} : ∀ (n o : Nat), (∀ i, i < n → FitL2 w B ks ((cs.drop (o + i * ks.length)).take ks.length)) → FitL2 w B (repCK2 ks n) ((cs.drop o).take (n * ks.length)) := by
  intro n
  induction n with
  | zero => intro o _; simp [repCK2, FitL2]
  | succ n ih =>
    intro o h
    have h0 := h 0 (by omega)
    simp only [Nat.zero_mul, Nat.add_zero] at h0
    have h1 := ih (o + ks.length) fun i hi => by
      have := h (i + 1) (by omega)
      rwa [Nat.add_mul, Nat.one_mul, Nat.add_comm (i * ks.length), ← Nat.add_assoc] at this
    have := h0.append h1
    rw [show (n + 1) * ks.length = ks.length + n * ks.length by rw [Nat.add_mul]; omega, List.take_add, List.drop_drop]
    exact this
theorem mapM_mem {α β : Type} {f : α → Option β} : ∀ {l : List α} {r : List β}, l.mapM f = some r → ∀ x ∈ l, ∃ y ∈ r, f x = some y := by
  intro l
  induction l with
  | nil => intro r _ x hx; simp at hx
  | cons a l ih =>
    intro r h x hx
    simp only [List.mapM_cons, Option.bind_eq_bind, Option.bind_eq_some_iff] at h
    obtain ⟨y, hy, ys, hys, he⟩ := h
    simp only [Option.pure_def, Option.some.injEq] at he; subst he
    rcases List.mem_cons.1 hx with rfl | hx
    · exact ⟨y, by simp, hy⟩
    · obtain ⟨z, hz, h2⟩ := ih hys x hx; exact ⟨z, by simp [hz], h2⟩
theorem rd_of_slice {e : TypeId} {es : Nat} {a : Addr} {len cap m : Nat} {R : Nat → List Value → Prop} (he : P.cellsOf e = es) (hpos : 0 < es) (hlc : len ≤ cap) (hm : m = cap)
    (hel : ∀ i, i < m → ∃ cs', w.cells? base (a.add (i * es)) es = some cs' ∧ R i cs') :
    ∃ cs, Rd w es (.slice (some a) len cap) len cs ∧ ∀ i, i < len → R i ((cs.drop (i * es)).take es) := by
  subst hm
  by_cases hc0 : m = 0
  · have : len = 0 := by omega
    subst this
    exact ⟨[], .emp _ _, fun i hi => by omega⟩
  have cell : ∀ k, k < m * es → ∃ u, w.cell? (a.add k) = some u := by
    intro k hk
    have hi : k / es < m := by rw [Nat.div_lt_iff_lt_mul hpos]; exact hk
    obtain ⟨cs', h1, _⟩ := hel _ hi
    obtain ⟨_, h2, h3⟩ := World.cells?_some h1
    have hm := Nat.mod_lt k hpos
    have h4 := h3 (k % es) hm
    rw [add_add, show k / es * es + k % es = k by rw [Nat.mul_comm]; exact Nat.div_add_mod k es] at h4
    exact ⟨cs'[k % es]'(by omega), by rw [h4, List.getElem?_eq_getElem]⟩
  have hpos2 : 0 < m * es := Nat.mul_pos (by omega) hpos
  obtain ⟨b, o, spot⟩ := a
  have hspot : spot = none ∧ ∃ arr ty fz, w.heap[b]? = some (.cells arr ty fz) := by
    obtain ⟨u, hu⟩ := cell 0 hpos2
    simp only [Addr.add, if_true, World.cell?] at hu
    split at hu
    · rename_i arr ty fz hb'
      cases spot with
      | none => exact ⟨rfl, _, _, _, hb'⟩
      | some s => simp at hu
    · cases hu
  obtain ⟨rfl, arr, ty, fz, hb'⟩ := hspot
  have cell2 : ∀ k, k < m * es → o + k < arr.size := by
    intro k hk
    obtain ⟨u, hu⟩ := cell k hk
    rw [addr_add, cell_of hb'] at hu
    rcases Nat.lt_or_ge (o + k) arr.size with h | h
    · exact h
    · rw [Array.getElem?_eq_none h] at hu; cases hu
  have hsz := cell2 (m * es - 1) (by omega)
  have hle := Nat.mul_le_mul_right es hlc
  refine ⟨_, .blk hb' hlc (by omega) rfl, fun i hi => ?_⟩
  obtain ⟨cs', h1, h2⟩ := hel i (by omega)
  obtain ⟨_, h4, h5⟩ := World.cells?_some h1
  have hi2 : i * es + es ≤ len * es := by
    have := Nat.mul_le_mul_right es (show i + 1 ≤ len by omega)
    rw [Nat.add_mul] at this; omega
  have : (((arr.toList.drop o).take (len * es)).drop (i * es)).take es = cs' := by
    apply List.ext_getElem
    · simp; omega
    · intro j j1 j2
      have := h5 j (by omega)
      rw [addr_add, addr_add, cell_of hb', List.getElem?_eq_getElem j2, Array.getElem?_eq_getElem (cell2 (i * es + j) (by omega) |> fun h => by omega)] at this
      simp only [Option.some.injEq] at this
      rw [← this]
      simp [Nat.add_assoc]
  rw [this]; exact h2
theorem scal2_ok : ∀ (d : Nat) (t : TypeId) (ks : List CK2), scal2 P d t = some ks → ∀ (fuel : Nat) (cs : List Value) (x : DataW H × List MemPlace), DataW.trod enc P w base (fun _ => true) held fuel t cs = some x → (∀ n ∈ x.1.weights P t, n ≤ B) → FitL2 w B ks cs := by
  intro d
  induction d with
  | zero => intro t ks h; simp [scal2] at h
  | succ d ih =>
    intro t ks h fuel cs x hx hw
    cases fuel with
    | zero => simp [DataW.trod] at hx
    | succ fuel =>
    unfold scal2 at h
    split at h
    · rename_i hu
      simp only [Option.some.injEq] at h; subst h
      unfold DataW.trod at hx
      rw [hu] at hx
      split at hx <;> first | (simp_all; done) | (exact (by simp only [FitL2, Fit2]; exact ⟨_, _, rfl, ⟨_, rfl⟩, rfl⟩)) | (rename_i h1; simp at h1)
    · rename_i k hu
      simp only [Option.some.injEq] at h; subst h
      unfold DataW.trod at hx
      rw [hu] at hx
      split at hx
      all_goals first | (rename_i h1; simp at h1; done) | skip
      all_goals first | (simp at hx; done) | skip
      all_goals
        rename_i h1
        simp at h1
        subst h1
        split at hx
        · rename_i h2; obtain ⟨rfl, h3⟩ := h2; simp only [FitL2, Fit2]; exact ⟨_, _, rfl, ⟨_, rfl, h3⟩, rfl⟩
        · simp at hx
    · rename_i hu
      simp only [Option.some.injEq] at h; subst h
      unfold DataW.trod at hx
      rw [hu] at hx
      split at hx
      all_goals first | (rename_i h1; simp at h1; done) | skip
      all_goals first | (simp at hx; done) | skip
      all_goals
        split at hx
        · simp only [Option.some.injEq] at hx; subst hx
          rename_i s _ _
          have := hw s.size (by simp [DataW.weights])
          simp only [FitL2, Fit2]; exact ⟨_, _, rfl, ⟨_, rfl, this⟩, rfl⟩
        · simp at hx
    · rename_i e hu
      split at h
      · rename_i ks' hks
        split at h
        · rename_i hcell
          simp only [Option.some.injEq] at h; subst h
          rcases Go.Deep.open_slice hu hx with ⟨rfl, rfl⟩ | ⟨a, len, cap, m, n, D, Pl, rfl, hb, hlc, hcm, hm, rfl, hel⟩
          · simp only [FitL2, Fit2]
            exact ⟨_, _, rfl, ⟨0, [], .emp _ _, Nat.zero_le _, fun i hi => by omega⟩, rfl⟩
          · simp only [if_true] at hm
            simp only [DataW.weights, hu, List.mem_cons, List.mem_append, List.length_map, List.length_range] at hw
            have hn : len ≤ B := by
              have := hw _ (.inl rfl)
              have h3 := Nat.le_mul_of_pos_right (len + (m - len)) hcell.2
              omega
            obtain ⟨cs, hr, hR⟩ := rd_of_slice (R := fun i cs' => i < len → FitL2 w B ks' cs') rfl hcell.1 hlc hm fun i hi => by
              obtain ⟨cs', h1, h2⟩ := hel i hi
              refine ⟨cs', h1, fun hi2 => ih _ _ hks _ _ _ h2 fun n hn => hw n (.inr (.inl (weightsAll_mem (d := D i) ?_ n hn)))⟩
              exact List.mem_map.2 ⟨i, by simpa using hi2, rfl⟩
            simp only [FitL2, Fit2]
            exact ⟨_, _, rfl, ⟨len, cs, hr, hn, fun i hi => hR i hi hi⟩, rfl⟩
        · cases h
      · cases h
    · rename_i fs hu
      split at h
      · rename_i ks' hks
        split at h
        · rename_i hlen
          simp only [Option.some.injEq] at h; subst h
          have : cs.length = P.cellsOf t ∧ ∃ xs, fs.toList.mapM (fun f => DataW.trod enc P w base (fun _ => true) held fuel f.type ((cs.drop f.offset).take (P.cellsOf f.type))) = some xs ∧ x.1 = .agg (xs.map (·.1)) := by
            unfold DataW.trod at hx
            rw [hu] at hx
            split at hx
            all_goals first | (rename_i h1; simp at h1; done) | skip
            all_goals first | (simp at hx; done) | skip
            all_goals first | exact (‹∀ (fs_1 : Array Field), some (TypeDesc.struct fs) = some (TypeDesc.struct fs_1) → False› fs rfl).elim | skip
            all_goals
              have h1 := ‹some (TypeDesc.struct fs) = some (TypeDesc.struct _)›
              cases h1
              split at hx
              · rename_i hl
                simp only [Option.map_eq_some_iff] at hx
                obtain ⟨xs, hxs, rfl⟩ := hx
                exact ⟨hl, xs, hxs, rfl⟩
              · simp at hx
          obtain ⟨hl, xs, hxs, hx1⟩ := this
          rw [hx1] at hw
          simp only [DataW.weights, hu] at hw
          have := scal2F_ok (R := DataW.trod enc P w base (fun _ => true) held fuel) (fun t ks c x h1 h2 h3 => ih t ks h1 fuel c x h2 h3) fs.toList 0 ks' xs hks hxs hw
          rw [List.drop_zero, List.take_of_length_le (by omega)] at this
          exact this
        · cases h
      · cases h
    · rename_i n e hu
      split at h
      · rename_i ks' hks
        split at h
        · rename_i hlen
          simp only [Option.some.injEq] at h; subst h
          have : cs.length = P.cellsOf t ∧ ∃ xs, (List.range n).mapM (fun i => DataW.trod enc P w base (fun _ => true) held fuel e ((cs.drop (i * P.cellsOf e)).take (P.cellsOf e))) = some xs ∧ x.1 = .agg (xs.map (·.1)) := by
            unfold DataW.trod at hx
            rw [hu] at hx
            split at hx
            all_goals first | (rename_i h1; simp at h1; done) | skip
            all_goals first | (simp at hx; done) | skip
            all_goals first | exact (‹∀ (n_1 : Nat) (e_1 : TypeId), some (TypeDesc.array n e) = some (TypeDesc.array n_1 e_1) → False› n e rfl).elim | skip
            all_goals
              have h1 := ‹some (TypeDesc.array n e) = some (TypeDesc.array _ _)›
              cases h1
              split at hx
              · rename_i hl
                simp only [Option.map_eq_some_iff] at hx
                obtain ⟨xs, hxs, rfl⟩ := hx
                exact ⟨hl, xs, hxs, rfl⟩
              · simp at hx
          obtain ⟨hl, xs, hxs, hx1⟩ := this
          rw [hx1] at hw
          simp only [DataW.weights, hu] at hw
          have := rep2_ok (w := w) (B := B) (ks := ks') (cs := cs) n 0 fun i hi => by
            obtain ⟨y, hym, hy⟩ := mapM_mem hxs i (by simpa using hi)
            have := ih _ _ hks _ _ _ hy fun n hn => hw n (weightsAll_mem (List.mem_map.2 ⟨y, hym, rfl⟩) n hn)
            rw [Nat.zero_add, hlen.1]; exact this
          rw [List.drop_zero, List.take_of_length_le (by omega)] at this
          exact this
        · cases h
      · cases h
    · cases h
def isSlB (P : Program) (t : TypeId) : Bool := match P.underlying t with | some (.struct _) => false | some (.array _ _) => false | some _ => true | none => false
/-- an argument, of whatever kind, as cells -/
theorem arg_any {t : TypeId} {ks : List CK2} {v : Value} {d : DataW H} {ps : List MemPlace} {n0 : Nat} (hks : scal2 P n0 t = some ks)
    (hd : DataW.Trod enc P w base (fun _ => true) held t v d ps) (hw : ∀ n ∈ d.weights P t, n ≤ B) : FitL2 w B ks v.cells.toList := by
  obtain ⟨fuel, hx⟩ := hd
  exact scal2_ok _ _ _ hks _ _ _ hx hw
theorem arg_agg {t : TypeId} {v : Value} {r : _root_.Go.Reach} {b0 : Nat} (hst : isStB P t = true) (hval : Value.okWide P w r b0 t v) : ∃ cs : List Value, v = .agg cs.toArray := by
  obtain ⟨fs, ht⟩ : ∃ fs, P.underlying t = some (.struct fs) := by
    unfold isStB at hst
    split at hst
    · exact ⟨_, by assumption⟩
    · cases hst
  simp only [Value.okWide, ht] at hval
  obtain ⟨cs, rfl, _, _⟩ := hval
  exact ⟨cs.toList, by simp⟩
theorem arg_sl {t e : TypeId} {v : Value} {r : _root_.Go.Reach} {b0 : Nat} (ht : P.underlying t = some (.slice e)) (hval : Value.okWide P w r b0 t v) : v.cells.toList = [v] := by
  simp only [Value.okWide, ht, Cell.okWide, Cell.ok] at hval
  split at hval <;> first | rfl | (exact hval.elim) | simp_all [Value.cells]
end
theorem fit_list2 {α : Type} {f : α → List Value} {good : α → Prop} {Q : List Value → Prop} {es : Nat} (hf : ∀ c, Q c → ∃ x, c = f x ∧ good x) : ∀ (n : Nat) (cs : List Value), cs.length = n * es → (∀ i, i < n → Q ((cs.drop (i * es)).take es)) →
    ∃ l : List α, l.length = n ∧ cs = l.flatMap f ∧ ∀ x ∈ l, good x := by
  intro n
  induction n with
  | zero => intro cs h _; exact ⟨[], rfl, by simpa using h, by simp⟩
  | succ n ih =>
    intro cs h hx
    obtain ⟨x, e1, g1⟩ := hf _ (hx 0 (by omega))
    obtain ⟨l, e2, e3, g2⟩ := ih (cs.drop es) (by simp [h, Nat.add_mul]) fun i hi => by
      have := hx (i + 1) (by omega)
      rwa [Nat.add_mul, Nat.one_mul, Nat.add_comm (i * es), ← List.drop_drop] at this
    refine ⟨x :: l, by simp [e2], ?_, by simpa using ⟨g1, g2⟩⟩
    rw [List.flatMap_cons, ← e3, ← e1]
    simp
/-! parts of slices that are only read -/
section
variable {w0 w : World} {L : List HP} {k : Value → Prop} {K : Value → World → Prop} {α : Type} {f : α → List Value} {es i : Nat} {ty : TypeId} {v : Value} {l : List α}
theorem go_subTo {j : IntKind} (h : Sat w0 L w) [m : LsIn v L α f es ty l] [C : CodC f es] (hi : i ≤ l.length) (hk : ∀ v', Rd w es v' (l.take i).length ((l.take i).flatMap f) → k v') : bindP (pSliceL es v none (some (.int j i)) none) k := by
  have hr := ls_of h (.refl _) m
  obtain ⟨v', e, _⟩ := hr.sub (L := none) (H := some (.int j i)) (M := none) (lo := 0) (hi := i) .none (.some _ _) (.none _) (Nat.zero_le _) hi
  have := rd_sub C.cod hr e (lo := 0) (hi := i) .none (.some _ _) (.none _) (Nat.zero_le _) hi
  rw [List.drop_zero] at this
  exact go_some e (hk v' this)
theorem go_subFrom {j : IntKind} (h : Sat w0 L w) [m : LsIn v L α f es ty l] [C : CodC f es] (hi : i ≤ l.length) (hk : ∀ v', Rd w es v' (l.drop i).length ((l.drop i).flatMap f) → k v') : bindP (pSliceL es v (some (.int j i)) none none) k := by
  have hr := ls_of h (.refl _) m
  obtain ⟨v', e, _⟩ := hr.sub (L := some (.int j i)) (H := none) (M := none) (lo := i) (hi := l.length) (.some _ _) .none (.none _) hi (Nat.le_refl _)
  have := rd_sub C.cod hr e (lo := i) (hi := l.length) (.some _ _) .none (.none _) hi (Nat.le_refl _)
  rw [List.take_length] at this
  exact go_some e (hk v' this)
/-- a slice of one, written out -/
theorem go_lit1 {P : Program} {t : TypeId} {x : α} {y : Value} {c : Array Value} {w1 : World} (C : Cod f es) (h : Sat w0 L w) [e : SameC w w1] (hu : P.underlying t = some (.slice ty)) (hc : fBuildSl P ty 1 [(0, y)] = some c) (hm : c.toList = f x)
    (hK : ∀ s w', Sat w0 (LsH f es ty s [x] :: L) w' → K s w') : eBuildSl P t 1 [(0, y)] w1 K :=
  ls_lit (m := [x]) C (h.to e.same) hu hc (by simp [hm]) hK
theorem go_lit0 {P : Program} {t : TypeId} {w1 : World} (C : Cod f es) (h : Sat w0 L w) [e : SameC w w1] (hu : P.underlying t = some (.slice ty)) (hc : fBuildSl P ty 0 [] = some #[])
    (hK : ∀ s w', Sat w0 (LsH f es ty s [] :: L) w' → K s w') : eBuildSl P t 0 [] w1 K :=
  ls_lit (m := []) C (h.to e.same) hu hc (by simp) hK
end
theorem flat_setF {α : Type} {f : α → List Value} {es j : Nat} (C : Cod f es) (hj : j < es) {x' : α} {y : Value} : ∀ {l : List α} {i : Nat} (hi : i < l.length), (f l[i]).set j y = f x' → (l.flatMap f).set (i * es + j) y = (l.set i x').flatMap f
  | a :: l, 0, _, hx => by
    have h1 : j < (f a).length := by rw [C.len]; exact hj
    simp only [List.getElem_cons_zero] at hx
    rw [Nat.zero_mul, Nat.zero_add, List.flatMap_cons, List.set_append_left _ _ h1, hx, List.set_cons_zero, List.flatMap_cons]
  | a :: l, i + 1, hi, hx => by
    have h1 : (f a).length = es := C.len a
    simp only [List.getElem_cons_succ] at hx
    rw [List.flatMap_cons, List.set_append_right _ _ (by rw [h1, Nat.add_mul]; omega), h1, show (i + 1) * es + j - es = i * es + j by rw [Nat.add_mul]; omega, flat_setF C hj (by simpa using hi) hx, List.set_cons_succ, List.flatMap_cons]
theorem go_stF {α : Type} {f : α → List Value} {es i j : Nat} {ty : TypeId} {v y : Value} {l : List α} {w0 w w1 : World} {L M : List HP} {k : World → Prop} [OneV y] {x' : α} (h : Sat w0 L w) [e : SameC w w1] (hm : Fnt (LsH f es ty v l) L M) (C : Cod f es) (hi : i < l.length) (hj : j < es) (hx : (f l[i]).set j y = f x')
    (hk : ∀ w', Sat w0 (LsH f es ty v (l.set i x') :: M) w' → k w') : bindW (st 1 (elF es v i j) y w1) k := by
  have h := (h.to e.same).front hm
  obtain ⟨b, q, e1, w', e2, h2⟩ := st_elem (j := .i64) h hi hj y
  have e3 : elF es v i j = .pointer (some ⟨b, q + j, none⟩) := by
    unfold elF elP; rw [e1]; rfl
  rw [e3, e2, bindW_some]
  refine hk w' ?_
  unfold LsH
  rw [List.length_set, ← flat_setF C hj hi hx]
  exact h2
end Go.Sx
