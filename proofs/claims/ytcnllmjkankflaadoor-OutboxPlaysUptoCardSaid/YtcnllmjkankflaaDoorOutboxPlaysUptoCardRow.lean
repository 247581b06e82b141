/- The statement Rows.OutboxPlaysUptoSaid: for every input the law returns true and leaves its input as it was. No condition but the bulk that the statement names. -/
import Derived.Test.YtcnllmjkankflaaDoorRows
import Derived.SizedLaws
import Derived.Deep.CondSized
import Derived.WalkKit
import Derived.Test.YtcnllmjkankflaaDoorP1
import Derived.Test.YtcnllmjkankflaaDoorP4
import Derived.ProofKit
import Derived.OpenShut
import Derived.Test.YtcnllmjkankflaaDoorCards
import Derived.Test.YtcnllmjkankflaaDoorTie
import Derived.Deep.DeepHandedRow
set_option linter.all false
namespace Go.Proofs.YtcnllmjkankflaaDoor.outboxPlays
open Go.ChangeShapes Go.WideShapes Go.ChangeAt Go.RowKit Go.Sx Go.Proofs.Gong
theorem own : ownKnob Tryd.prog.godebug = none := by kernel_rfl
theorem gv : Tryd.prog.globalNamed "gong/ticket.whats" = some 0 := by kernel_rfl
theorem gvT : (Tryd.prog.globals[0]?).map (·.type) = some 82 := by kernel_rfl
theorem gvA : Tryd.prog.underlying 82 = some (.array 256 4) := by kernel_rfl
theorem gvE : Tryd.prog.underlying 4 = some .bool := by kernel_rfl
theorem table : (Rows.laid_gong_ticket_whats : DataW Unit) = .agg ((List.range 256).map fun i => .lit (.bool (decide (1 ≤ i) && decide (i ≤ 5)))) := by kernel_rfl
theorem whats {W : World} (h : laidMetH Tryd.prog Rows.outboxPlaysUptoRow.laid W) : Whats W := by
  have h' : laidMet Tryd.prog [("gong/ticket.whats", Rows.laid_gong_ticket_whats)] W := h
  rw [table] at h'
  exact laid_bools gv gvT gvA gvE (by kernel_rfl) (by kernel_rfl) h'
theorem laid : laidOutB Tryd.prog = true := by kernel_rfl
def okT (P : Program) (t : TypeId) : Bool := match P.underlying t with
  | some (.pointer e) => decide (e < P.types.size)
  | some (.slice e) => decide (e < P.types.size) && decide (P.bytesOf e ≤ 500)
  | some (.struct fs) => fs.toList.all fun f => decide (f.type < P.types.size)
  | some (.array _ e) => decide (e < P.types.size)
  | some (.map k e) => decide (e < P.types.size) && decide (P.bytesOf k ≤ 500) && decide (P.bytesOf e ≤ 500)
  | _ => true
theorem okTs : (List.range Tryd.prog.types.size).all (okT Tryd.prog) = true := by kernel_rfl
theorem okAll (t : TypeId) (h : t < Tryd.prog.types.size) : okT Tryd.prog t = true := List.all_eq_true.1 okTs t (List.mem_range.2 h)
set_option maxRecDepth 100000
theorem one_le {H : Type} (d : DataW H) : 1 ≤ Rows.uptoBulk d := by
  cases d with
  | lit l => cases l <;> simp [Rows.uptoBulk]
  | _ => simp [Rows.uptoBulk]
theorem len_le {H : Type} (l : List (DataW H)) : l.length ≤ Rows.uptoBulkAll l := by
  induction l with
  | nil => simp [Rows.uptoBulkAll]
  | cons x r ih => have := one_le x; simp only [Rows.uptoBulkAll, List.length_cons]; omega
theorem entry_le {H : Type} (x : Lit × DataW H) : Rows.uptoBulk x.2 + 1 ≤ Rows.uptoBulkEntry x := by
  obtain ⟨l, d⟩ := x
  cases l <;> simp only [Rows.uptoBulkEntry] <;> omega
theorem lenE_le {H : Type} (l : List (Lit × DataW H)) : l.length ≤ Rows.uptoBulkEntries l := by
  induction l with
  | nil => simp [Rows.uptoBulkEntries]
  | cons x r ih => have := entry_le x; simp only [Rows.uptoBulkEntries, List.length_cons]; omega
mutual
theorem wle {H : Type} {P : Program} {M : Nat} (hM : 1000 ≤ M) (hT : ∀ t, t < P.types.size → okT P t = true) : ∀ (d : DataW H) (t : TypeId) (n : Nat), t < P.types.size → n ∈ d.weights P t → n ≤ Rows.uptoBulk d * M
  | .lit l, t, n, _, h => by
    cases l with
    | string b =>
      simp only [DataW.weights, List.mem_singleton] at h; subst h
      exact Nat.le_trans (Nat.le_trans (Nat.le_of_eq (Nat.mul_one _).symm) (Nat.mul_le_mul_left _ (show 1 ≤ M by omega))) (Nat.mul_le_mul_right M (by simp only [Rows.uptoBulk]; omega))
    | _ => simp [DataW.weights] at h
  | .nil, t, n, _, h => by simp [DataW.weights] at h
  | .ptr d, t, n, ht, h => by
    have hk := hT t ht
    unfold okT at hk
    simp only [DataW.weights] at h
    split at h
    · rename_i e he
      rw [he] at hk
      exact Nat.le_trans (wle hM hT d e n (of_decide_eq_true hk) h) (Nat.mul_le_mul_right M (by simp only [Rows.uptoBulk]; omega))
    · cases h
  | .slice es sp, t, n, ht, h => by
    have hk := hT t ht
    unfold okT at hk
    simp only [DataW.weights] at h
    split at h
    · rename_i e he
      rw [he] at hk
      simp only [Bool.and_eq_true, decide_eq_true_eq] at hk
      rcases List.mem_cons.1 h with rfl | h
      · have h1 := len_le es
        have h2 := len_le sp
        exact Nat.mul_le_mul (by simp only [Rows.uptoBulk]; omega) (by omega)
      · rcases List.mem_append.1 h with h | h
        · exact Nat.le_trans (wleAll hM hT es _ n hk.1 h) (Nat.mul_le_mul_right M (by simp only [Rows.uptoBulk]; omega))
        · exact Nat.le_trans (wleAll hM hT sp _ n hk.1 h) (Nat.mul_le_mul_right M (by simp only [Rows.uptoBulk]; omega))
    · cases h
  | .agg ps, t, n, ht, h => by
    have hk := hT t ht
    unfold okT at hk
    simp only [DataW.weights] at h
    split at h
    · rename_i fs he
      rw [he] at hk
      refine Nat.le_trans (wleEach hM hT ps _ n (fun x hx => ?_) h) (Nat.mul_le_mul_right M (by simp only [Rows.uptoBulk]; omega))
      obtain ⟨f, hf, rfl⟩ := List.mem_map.1 hx
      exact of_decide_eq_true (List.all_eq_true.1 hk f hf)
    · rename_i e he
      rw [he] at hk
      exact Nat.le_trans (wleAll hM hT ps _ n (of_decide_eq_true hk) h) (Nat.mul_le_mul_right M (by simp only [Rows.uptoBulk]; omega))
    · cases h
  | .iface _ _, t, n, _, h => by simp [DataW.weights] at h
  | .map en, t, n, ht, h => by
    have hk := hT t ht
    unfold okT at hk
    simp only [DataW.weights] at h
    split at h
    · rename_i k e he
      rw [he] at hk
      simp only [Bool.and_eq_true, decide_eq_true_eq] at hk
      rcases List.mem_cons.1 h with rfl | h
      · have h1 := lenE_le en
        exact Nat.mul_le_mul (by simp only [Rows.uptoBulk]; omega) (by omega)
      · exact Nat.le_trans (wleEntries hM hT en _ n hk.1.1 h) (Nat.mul_le_mul_right M (by simp only [Rows.uptoBulk]; omega))
    · cases h
  | .held _, t, n, _, h => by simp [DataW.weights] at h
theorem wleAll {H : Type} {P : Program} {M : Nat} (hM : 1000 ≤ M) (hT : ∀ t, t < P.types.size → okT P t = true) : ∀ (l : List (DataW H)) (e : TypeId) (n : Nat), e < P.types.size → n ∈ DataW.weightsAll P e l → n ≤ Rows.uptoBulkAll l * M
  | [], e, n, _, h => by simp [DataW.weightsAll] at h
  | d :: r, e, n, he, h => by
    simp only [DataW.weightsAll] at h
    rcases List.mem_append.1 h with h | h
    · exact Nat.le_trans (wle hM hT d _ n he h) (Nat.mul_le_mul_right M (by simp only [Rows.uptoBulkAll]; omega))
    · exact Nat.le_trans (wleAll hM hT r _ n he h) (Nat.mul_le_mul_right M (by simp only [Rows.uptoBulkAll]; omega))
theorem wleEach {H : Type} {P : Program} {M : Nat} (hM : 1000 ≤ M) (hT : ∀ t, t < P.types.size → okT P t = true) : ∀ (l : List (DataW H)) (ts : List TypeId) (n : Nat), (∀ t ∈ ts, t < P.types.size) → n ∈ DataW.weightsEach P ts l → n ≤ Rows.uptoBulkAll l * M
  | [], ts, n, _, h => by cases ts <;> simp [DataW.weightsEach] at h
  | d :: r, [], n, _, h => by simp [DataW.weightsEach] at h
  | d :: r, t :: ts, n, ht, h => by
    simp only [DataW.weightsEach] at h
    rcases List.mem_append.1 h with h | h
    · exact Nat.le_trans (wle hM hT d _ n (ht t (by simp)) h) (Nat.mul_le_mul_right M (by simp only [Rows.uptoBulkAll]; omega))
    · exact Nat.le_trans (wleEach hM hT r _ n (fun x hx => ht x (List.mem_cons_of_mem _ hx)) h) (Nat.mul_le_mul_right M (by simp only [Rows.uptoBulkAll]; omega))
theorem wleEntries {H : Type} {P : Program} {M : Nat} (hM : 1000 ≤ M) (hT : ∀ t, t < P.types.size → okT P t = true) : ∀ (l : List (Lit × DataW H)) (e : TypeId) (n : Nat), e < P.types.size → n ∈ DataW.weightsEntries P e l → n ≤ Rows.uptoBulkEntries l * M
  | [], e, n, _, h => by simp [DataW.weightsEntries] at h
  | x :: r, e, n, he, h => by
    simp only [DataW.weightsEntries] at h
    rcases List.mem_append.1 h with h | h
    · exact Nat.le_trans (wleEntry hM hT x _ n he h) (Nat.mul_le_mul_right M (by simp only [Rows.uptoBulkEntries]; omega))
    · exact Nat.le_trans (wleEntries hM hT r _ n he h) (Nat.mul_le_mul_right M (by simp only [Rows.uptoBulkEntries]; omega))
theorem wleEntry {H : Type} {P : Program} {M : Nat} (hM : 1000 ≤ M) (hT : ∀ t, t < P.types.size → okT P t = true) : ∀ (x : Lit × DataW H) (e : TypeId) (n : Nat), e < P.types.size → n ∈ DataW.weightsEntry P e x → n ≤ Rows.uptoBulkEntry x * M
  | (l, d), e, n, he, h => by
    cases l with
    | string b =>
      simp only [DataW.weightsEntry] at h
      rcases List.mem_cons.1 h with rfl | h
      · exact Nat.le_trans (Nat.le_trans (Nat.le_of_eq (Nat.mul_one _).symm) (Nat.mul_le_mul_left _ (show 1 ≤ M by omega))) (Nat.mul_le_mul_right M (by simp only [Rows.uptoBulkEntry]; omega))
      · exact Nat.le_trans (wle hM hT d _ n he h) (Nat.mul_le_mul_right M (by simp only [Rows.uptoBulkEntry]; omega))
    | _ =>
      simp only [DataW.weightsEntry] at h
      exact Nat.le_trans (wle hM hT d _ n he h) (Nat.mul_le_mul_right M (by simp only [Rows.uptoBulkEntry]; omega))
end
set_option maxRecDepth 100000 in
theorem contract (H : Type) (enc : TypeId × Value → H) (W : World) (base : Nat) (args : Array Value) (ds gs : List (DataW H)) (before : List MemPlace)
    (hval0 : ∀ (j : Nat) t v, Tryd.f4.params[j]? = some t → args[j]? = some v → Value.okWide Tryd.prog W .any base t v)
    (hW : DataW.Whole enc Tryd.prog Tryd.f4.params.toList Rows.outboxPlaysSpec.vars false W args.toList ds gs before)
    (hwt0 : (DataW.weightsEach Tryd.prog (Tryd.f4.params.toList ++ Rows.outboxPlaysSpec.plain.varTypes Tryd.prog) (ds ++ gs)).all (· ≤ reachBytes) = true) (hk : Rows.uptoSmall H (ds ++ gs) = true) (hL : laidMetH Tryd.prog Rows.outboxPlaysUptoRow.laid W) :
    Calls Tryd.prog 4 args W fun e W' => ∃ v, e = .returned v ∧ Rows.outboxPlaysSpec.post enc Tryd.prog Tryd.f4 false true false false W args v W' := by
  have hval : ∀ (j : Nat) t v, Tryd.f4.params[j]? = some t → args[j]? = some v → Value.okWide Tryd.prog W .any base t v := hval0
  have hW' := hW
  obtain ⟨p, q, hA0, hV, rfl, hfz, hnd⟩ := hW
  have hA : DataW.TrodAll enc Tryd.prog W 0 (fun _ => true) true Tryd.f4.params.toList args.toList ds p := hA0
  have hwt := hwt0
  rw [Tryd.params4] at hA hval hwt
  obtain ⟨v0, vs0, d0, ds0, p0, q0, hargs, rfl, rfl, h0, r0⟩ := trodAll_cons hA
  obtain ⟨v1, vs1, d1, ds1, p1, q1, rfl, rfl, rfl, h1, r1⟩ := trodAll_cons r0
  obtain ⟨rfl, rfl, rfl⟩ := trodAll_nil r1
  obtain rfl : args = #[v0, v1] := by cases args; simp_all
  obtain ⟨rfl, rfl⟩ := trodVars_none hV
  have hk0 : Rows.uptoBulkAll _ ≤ 1048576 := of_decide_eq_true hk
  simp only [List.cons_append, List.nil_append, Rows.uptoBulkAll] at hk0
  have wt0 : ∀ n ∈ d0.weights Tryd.prog 45, n ≤ 1048576000 := fun n hn => Nat.le_trans (wle (P := Tryd.prog) (M := 1000) (Nat.le_refl _) okAll d0 45 n (of_decide_eq_true (by kernel_rfl)) hn) (Nat.le_trans (Nat.mul_le_mul_right 1000 (show _ ≤ 1048576 by omega)) (by decide))
  obtain ⟨cs0, rfl⟩ := arg_aggA (t := 45) (by kernel_rfl) (hval 0 45 v0 rfl rfl)
  have ft0 := arg_any (n0 := 12) (t := 45) (B := 1048576000) (ks := [.int .i64, .int .i64, .int .i64]) (by kernel_rfl) h0 wt0
  simp only [cells_agg] at ft0
  have wt1 : ∀ n ∈ d1.weights Tryd.prog 46, n ≤ 1048576000 := fun n hn => Nat.le_trans (wle (P := Tryd.prog) (M := 1000) (Nat.le_refl _) okAll d1 46 n (of_decide_eq_true (by kernel_rfl)) hn) (Nat.le_trans (Nat.mul_le_mul_right 1000 (show _ ≤ 1048576 by omega)) (by decide))
  have ft1 := arg_any (n0 := 12) (t := 46) (B := 1048576000) (ks := [.sl 14 [.int .i64, .int .i64, .int .i64, .str, .str, .str, .int .i64, .str, .int .i64, .int .i64, .int .i64, .bool, .str, .sl 13 [.int .i64, .int .i64, .int .i64, .str, .str, .str, .int .i64, .str, .int .i64, .int .i64, .int .i64, .bool, .str]]]) (by kernel_rfl) h1 wt1
  rw [arg_sl (t := 46) (e := 51) (by kernel_rfl) (hval 1 46 v1 rfl rfl)] at ft1
  obtain ⟨_, _, e1, ⟨n1, cs1, rd1, mx1, fc1⟩, _⟩ := fitL2_sl ft1
  obtain ⟨rfl, _⟩ := List.cons.inj e1
  refine (law_calls ok4 Tryd.call4 (lawOutboxPlays (whats hL) ft0 rd1 mx1 fc1)).mono fun e W' ⟨he, hf⟩ => ?_
  subst he
  exact ⟨_, rfl, law_post (tb := 4) laid (by kernel_rfl) hW' rfl rfl (by kernel_rfl) (by kernel_rfl) hf⟩
noncomputable def laidWorld (os : Os) : World :=
  { World.holding Tryd.prog os ⟨#[], #[], []⟩ with heap := (World.holding Tryd.prog os ⟨#[], #[], []⟩).heap.modify 0 fun
      | .cells _ t frozen => .cells (((List.range 256).map fun i => Value.bool (decide (1 ≤ i) && decide (i ≤ 5))).toArray) t frozen
      | o => o }
theorem laid_met (os : Os) : laidMet Tryd.prog Rows.outboxPlaysUptoRow.laid ((laidWorld os).forCall (fun _ _ => 0) ⟨#[], #[(.agg #[(.int .i64 0), (.int .i64 0), (.int .i64 0)]), (.slice none 0 0)], []⟩).memory :=
  laidMet_of_run' 8 (by kernel_rfl) (by kernel_rfl)
theorem reads (os : Os) {H : Type} (enc : TypeId × Value → H) : ∃ places, DataW.whole enc Tryd.prog ((laidWorld os).forCall (fun _ _ => 0) ⟨#[], #[(.agg #[(.int .i64 0), (.int .i64 0), (.int .i64 0)]), (.slice none 0 0)], []⟩).memory Tryd.f4.params.toList Rows.outboxPlaysSpec.vars false (#[(.agg #[(.int .i64 0), (.int .i64 0), (.int .i64 0)]), (.slice none 0 0)] : Array Value).toList 8 = some ([.agg [.lit (.int .i64 0), .lit (.int .i64 0), .lit (.int .i64 0)], .nil], [], places) :=
  ⟨[], by kernel_rfl⟩
set_option maxRecDepth 100000 in
theorem lifted (os : Os) (started : os.Started) (H : Type) (enc : TypeId × Value → H) (F : Stop.Interp) :
    ReturnsInHanded {} Tryd.checked os 4 .any ((Rows.OpenSpec.upto Rows.outboxPlaysSpec).preRow enc Tryd.prog Tryd.f4 Rows.outboxPlaysUptoRow.domain false Rows.outboxPlaysUptoRow.laid) (((Rows.OpenSpec.upto Rows.outboxPlaysSpec).at F).post enc Tryd.prog Tryd.f4 false true false false) := by
  obtain ⟨places, hx⟩ := reads os enc
  refine returnsInHanded_of_row (C := Tryd.checked) (s := (Rows.OpenSpec.upto Rows.outboxPlaysSpec)) own started (by kernel_rfl) Tryd.func4
    (witness_row_at (enc := enc) (C := Tryd.checked) false (laidWorld os) #[(.agg #[(.int .i64 0), (.int .i64 0), (.int .i64 0)]), (.slice none 0 0)] rfl (by kernel_rfl) (by kernel_rfl) (by kernel_rfl)
      (OpenSpec.preRow_of_cond 8 hx (by kernel_rfl) (fun k hk => by cases hk; kernel_rfl) (by kernel_rfl) (laid_met os))) ?_
  intro W base args ds gs before hval hW _ hcond hsz hL _ _
  exact contract H enc W base args ds gs before hval hW hsz (hcond _ rfl) hL
theorem j0 : (Rows.outboxPlaysUptoRow.wf (OpenSpec.ofChange (Rows.OpenSpec.upto Rows.outboxPlaysSpec).bare)) = true := by kernel_rfl
theorem j1 : (laidOutB Tryd.prog) = true := by kernel_rfl
theorem j2 : (mapsRowed Tryd.prog) = true := by kernel_rfl
theorem j3 : (Tryd.f4.params.all (Tryd.prog.readableRec ·)) = true := by kernel_rfl
theorem j4 : (namedTie Tryd.prog Rows.outboxPlaysUptoRow.named (Rows.OpenSpec.upto Rows.outboxPlaysSpec).bare.vars) = true := by kernel_rfl
theorem j5 : ((Rows.outboxPlaysUptoRow.stops == [])) = true := by kernel_rfl
theorem j6 : ((Tryd.prog.stops == [])) = true := by kernel_rfl
theorem j7 : ((Rows.outboxPlaysUptoRow.knobs == [])) = true := by kernel_rfl
theorem j8 : ((Tryd.prog.stopKnobs == [])) = true := by kernel_rfl
theorem j9 : ((Rows.outboxPlaysUptoRow.inPlace == Tryd.prog.inPlace 4)) = true := by kernel_rfl
theorem j10 : ((Rows.outboxPlaysUptoRow.unfollowed == Tryd.prog.unfollowed 4)) = true := by kernel_rfl
theorem j11 : ((Rows.outboxPlaysUptoRow.recurses == Tryd.prog.recurses 4)) = true := by kernel_rfl
theorem j12 : ((Rows.outboxPlaysUptoRow.named == Tryd.prog.varsNamed 4)) = true := by kernel_rfl
theorem j13 : ((Rows.outboxPlaysUptoRow.maps == (Tryd.f4.params.toList ++ (Rows.OpenSpec.upto Rows.outboxPlaysSpec).bare.plain.varTypes Tryd.prog).any (Tryd.prog.mapsRec ·))) = true := by kernel_rfl
theorem j14 : ((Rows.outboxPlaysUptoRow.ifaces == (Tryd.f4.params.toList ++ (Rows.OpenSpec.upto Rows.outboxPlaysSpec).bare.plain.varTypes Tryd.prog).any (Tryd.prog.ifacesRec ·))) = true := by kernel_rfl
theorem j15 : ((Rows.outboxPlaysUptoRow.mapsOut == Tryd.prog.mapsAmong Tryd.f4.resultTypes.toList)) = true := by kernel_rfl
theorem j16 : ((Rows.outboxPlaysUptoRow.loops == (Tryd.f4.params.toList ++ (Rows.OpenSpec.upto Rows.outboxPlaysSpec).bare.plain.varTypes Tryd.prog).any (Tryd.prog.loopsFrom ·))) = true := by kernel_rfl
theorem j17 : ((Rows.outboxPlaysUptoRow.wideKeys == (Tryd.f4.params.toList ++ (Rows.OpenSpec.upto Rows.outboxPlaysSpec).bare.plain.varTypes Tryd.prog ++ Tryd.f4.resultTypes.toList).any (Tryd.prog.wideKeysFrom ·))) = true := by kernel_rfl
theorem j18 : ((Rows.OpenSpec.upto Rows.outboxPlaysSpec).bare.vars.all (Tryd.prog.varReadable ·)) = true := by kernel_rfl
theorem j19 : (Tryd.f4.resultTypes.all (fun t => Tryd.prog.readableRec t && decide (t < Tryd.prog.types.size))) = true := by kernel_rfl
theorem j20 : ((Rows.outboxPlaysUptoRow.ifacesOut == Tryd.f4.resultTypes.toList.any (Tryd.prog.ifacesRec ·))) = true := by kernel_rfl
theorem j21 : ((Rows.outboxPlaysUptoRow.loopsOut == Tryd.f4.resultTypes.toList.any (Tryd.prog.loopsFrom ·))) = true := by kernel_rfl
theorem j22 : ((Rows.outboxPlaysUptoRow.plainKeys == Tryd.prog.plainKeys)) = true := by kernel_rfl
theorem j23 : (Rows.outboxPlaysUptoRow.shortTexts.isNone) = true := by kernel_rfl
theorem j24 : (Tryd.prog.stopsHeard) = true := by kernel_rfl
theorem j25 : (Tryd.prog.mayEnter) = true := by kernel_rfl
theorem j26 : ((Rows.outboxPlaysUptoRow.lifted == Tryd.prog.liftsFinal)) = true := by kernel_rfl
theorem j27 : ((Tryd.prog.make == some Rows.outboxPlaysUptoRow.make)) = true := by kernel_rfl
theorem j28 : ((Rows.outboxPlaysUptoRow.kinds == (if Rows.outboxPlaysUptoRow.domain.isEmpty then [] else Tryd.f4.params.toList.map fun t => match Tryd.prog.underlying t with | some (.int k) => some k | _ => none))) = true := by kernel_rfl
theorem j29 : ((Rows.outboxPlaysUptoRow.pinned == Rows.outboxPlaysUptoRow.pinnedBy)) = true := by kernel_rfl
theorem j30 : ((Rows.outboxPlaysUptoRow.veiled == (Tryd.f4.params.toList ++ (Rows.OpenSpec.upto Rows.outboxPlaysSpec).bare.plain.varTypes Tryd.prog ++ Tryd.f4.resultTypes.toList).any (Tryd.prog.veiledRec ·))) = true := by kernel_rfl
theorem j31 : (Rows.outboxPlaysUptoRow.veiledFits Tryd.prog Tryd.f4.params.toList (Tryd.f4.params.toList ++ (Rows.OpenSpec.upto Rows.outboxPlaysSpec).bare.plain.varTypes Tryd.prog ++ Tryd.f4.resultTypes.toList)) = true := by kernel_rfl
theorem join_and {a b : Bool} (h1 : a = true) (h2 : b = true) : (a && b) = true := by rw [h1, h2]; rfl
set_option maxRecDepth 100000 in
theorem closed : joinedFacts Tryd.prog 4 Tryd.f4 (Rows.OpenSpec.upto Rows.outboxPlaysSpec).bare Rows.outboxPlaysUptoRow = true := by
  unfold joinedFacts
  exact join_and (join_and (join_and (join_and (join_and (join_and (join_and (join_and (join_and (join_and (join_and (join_and (join_and (join_and (join_and (join_and (join_and (join_and (join_and (join_and (join_and (join_and (join_and (join_and (join_and (join_and (join_and (join_and (join_and (join_and (join_and (j0) j1) j2) j3) j4) j5) j6) j7) j8) j9) j10) j11) j12) j13) j14) j15) j16) j17) j18) j19) j20) j21) j22) j23) j24) j25) j26) j27) j28) j29) j30) j31
theorem named : Tryd.prog.funcNamed Rows.outboxPlaysUptoRow.func = some 4 := by kernel_rfl
theorem inst : Tryd.f4.isInstance Tryd.prog Rows.outboxPlaysUptoRow.origin Rows.outboxPlaysUptoRow.targs := of_decide_eq_true (by kernel_rfl)
theorem wrap : Tryd.f4.isWrapper Tryd.prog Rows.outboxPlaysUptoRow.wrapper Rows.outboxPlaysUptoRow.mainSum := by
  unfold Func.isWrapper; first | (rw [if_pos (by decide +kernel)]; kernel_rfl) | (rw [if_neg (by decide +kernel)]; exact ⟨rfl, rfl⟩)
theorem said : Rows.OutboxPlaysUptoSaid :=
  OpenClaim.holds_of_cond 4 Tryd.f4 rfl rfl rfl rfl rfl rfl rfl ⟨rfl, rfl, rfl, rfl, rfl⟩ rfl rfl rfl rfl rfl named Tryd.func4 closed inst wrap
    (fun os started H enc _ F => by rw [OpenClaim.pre_eq_preRow]; exact lifted os started H enc F)
theorem noStand : (Tryd.f4.params.toList.all fun t => !Tryd.prog.wantsStandIn t) = true := by kernel_rfl
theorem looksIs : true = Tryd.pinned.checked.prog.looks [] := by kernel_rfl
theorem plain (f : FuncId) (fn : Func) (hf : Tryd.pinned.checked.prog.funcNamed "gong/gonglaw24.OutboxPlays" = some f) (hfn : Tryd.pinned.checked.prog.funcs[f]? = some fn) :
    true = Tryd.pinned.checked.prog.looks [] ∧ ∀ (j : Nat) t, fn.params[j]? = some t → Tryd.pinned.checked.prog.wantsStandIn t = false := by
  obtain rfl : f = 4 := Option.some.inj ((show Tryd.prog.funcNamed "gong/gonglaw24.OutboxPlays" = some 4 by kernel_rfl).symm.trans hf) |>.symm
  obtain rfl : fn = Tryd.f4 := (Option.some.inj (Tryd.func4.symm.trans hfn)).symm
  refine ⟨looksIs, fun j t ht => ?_⟩
  have h := List.all_eq_true.1 noStand t (Array.mem_toList_iff.2 (Array.mem_of_getElem? ht))
  show Tryd.prog.wantsStandIn t = false
  simpa using h
theorem proved : Rows.OutboxPlaysUptoCardSaid :=
  Claim7.holds_tied_plain_at .later [] _ _ _ _ said (fun _ h => by cases h) (by kernel_rfl) (fun _ h => by cases h) outboxPlaysUpto_row_tie rfl ⟨rfl, rfl⟩ (by kernel_rfl) rfl plain (by kernel_rfl)
#print axioms proved
end Go.Proofs.YtcnllmjkankflaaDoor.outboxPlays
