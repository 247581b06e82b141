/- The statement Rows.BoardPlaysUptoSaid: for every input the law returns true and leaves its input as it was. No condition but the bulk that the statement names. -/
import Derived.Test.YtpbfmiphjcmjjaaRows
import Derived.SizedLaws
import Derived.Deep.CondSized
import Derived.WalkKit
import Derived.Test.YtpbfmiphjcmjjaaP7
import Derived.ProofKit
import Derived.OpenShut
set_option linter.all false
namespace Go.Proofs.Ytpbfmiphjcmjjaa.boardPlays
open Go.ChangeShapes Go.WideShapes Go.ChangeAt Go.RowKit Go.Sx Go.Proofs.Gong
theorem own : ownKnob Try.prog.godebug = none := by kernel_rfl
theorem laid : laidOutB Try.prog = true := by kernel_rfl
def okT (P : Program) (t : TypeId) : Bool := match P.underlying t with
  | some (.pointer e) => decide (e < P.types.size)
  | some (.slice e) => decide (e < P.types.size) && decide (P.bytesOf e ≤ 500)
  | some (.struct fs) => fs.toList.all fun f => decide (f.type < P.types.size)
  | some (.array _ e) => decide (e < P.types.size)
  | some (.map k e) => decide (e < P.types.size) && decide (P.bytesOf k ≤ 500) && decide (P.bytesOf e ≤ 500)
  | _ => true
theorem okTs : (List.range Try.prog.types.size).all (okT Try.prog) = true := by kernel_rfl
theorem okAll (t : TypeId) (h : t < Try.prog.types.size) : okT Try.prog t = true := List.all_eq_true.1 okTs t (List.mem_range.2 h)
set_option maxRecDepth 100000
theorem one_le {H : Type} (d : DataW H) : 1 ≤ Rows.uptoBulk d := by
  cases d with
  | lit l => cases l <;> simp [Rows.uptoBulk]
  | _ => simp [Rows.uptoBulk]
theorem len_le {H : Type} (l : List (DataW H)) : l.length ≤ Rows.uptoBulkAll l := by
  induction l with
  | nil => simp [Rows.uptoBulkAll]
  | cons x r ih => have := one_le x; simp only [Rows.uptoBulkAll, List.length_cons]; omega
theorem entry_le {H : Type} (x : Lit × DataW H) : Rows.uptoBulk x.2 + 1 ≤ Rows.uptoBulkEntry x := by
  obtain ⟨l, d⟩ := x
  cases l <;> simp only [Rows.uptoBulkEntry] <;> omega
theorem lenE_le {H : Type} (l : List (Lit × DataW H)) : l.length ≤ Rows.uptoBulkEntries l := by
  induction l with
  | nil => simp [Rows.uptoBulkEntries]
  | cons x r ih => have := entry_le x; simp only [Rows.uptoBulkEntries, List.length_cons]; omega
mutual
theorem wle {H : Type} {P : Program} {M : Nat} (hM : 1000 ≤ M) (hT : ∀ t, t < P.types.size → okT P t = true) : ∀ (d : DataW H) (t : TypeId) (n : Nat), t < P.types.size → n ∈ d.weights P t → n ≤ Rows.uptoBulk d * M
  | .lit l, t, n, _, h => by
    cases l with
    | string b =>
      simp only [DataW.weights, List.mem_singleton] at h; subst h
      exact Nat.le_trans (Nat.le_trans (Nat.le_of_eq (Nat.mul_one _).symm) (Nat.mul_le_mul_left _ (show 1 ≤ M by omega))) (Nat.mul_le_mul_right M (by simp only [Rows.uptoBulk]; omega))
    | _ => simp [DataW.weights] at h
  | .nil, t, n, _, h => by simp [DataW.weights] at h
  | .ptr d, t, n, ht, h => by
    have hk := hT t ht
    unfold okT at hk
    simp only [DataW.weights] at h
    split at h
    · rename_i e he
      rw [he] at hk
      exact Nat.le_trans (wle hM hT d e n (of_decide_eq_true hk) h) (Nat.mul_le_mul_right M (by simp only [Rows.uptoBulk]; omega))
    · cases h
  | .slice es sp, t, n, ht, h => by
    have hk := hT t ht
    unfold okT at hk
    simp only [DataW.weights] at h
    split at h
    · rename_i e he
      rw [he] at hk
      simp only [Bool.and_eq_true, decide_eq_true_eq] at hk
      rcases List.mem_cons.1 h with rfl | h
      · have h1 := len_le es
        have h2 := len_le sp
        exact Nat.mul_le_mul (by simp only [Rows.uptoBulk]; omega) (by omega)
      · rcases List.mem_append.1 h with h | h
        · exact Nat.le_trans (wleAll hM hT es _ n hk.1 h) (Nat.mul_le_mul_right M (by simp only [Rows.uptoBulk]; omega))
        · exact Nat.le_trans (wleAll hM hT sp _ n hk.1 h) (Nat.mul_le_mul_right M (by simp only [Rows.uptoBulk]; omega))
    · cases h
  | .agg ps, t, n, ht, h => by
    have hk := hT t ht
    unfold okT at hk
    simp only [DataW.weights] at h
    split at h
    · rename_i fs he
      rw [he] at hk
      refine Nat.le_trans (wleEach hM hT ps _ n (fun x hx => ?_) h) (Nat.mul_le_mul_right M (by simp only [Rows.uptoBulk]; omega))
      obtain ⟨f, hf, rfl⟩ := List.mem_map.1 hx
      exact of_decide_eq_true (List.all_eq_true.1 hk f hf)
    · rename_i e he
      rw [he] at hk
      exact Nat.le_trans (wleAll hM hT ps _ n (of_decide_eq_true hk) h) (Nat.mul_le_mul_right M (by simp only [Rows.uptoBulk]; omega))
    · cases h
  | .iface _ _, t, n, _, h => by simp [DataW.weights] at h
  | .map en, t, n, ht, h => by
    have hk := hT t ht
    unfold okT at hk
    simp only [DataW.weights] at h
    split at h
    · rename_i k e he
      rw [he] at hk
      simp only [Bool.and_eq_true, decide_eq_true_eq] at hk
      rcases List.mem_cons.1 h with rfl | h
      · have h1 := lenE_le en
        exact Nat.mul_le_mul (by simp only [Rows.uptoBulk]; omega) (by omega)
      · exact Nat.le_trans (wleEntries hM hT en _ n hk.1.1 h) (Nat.mul_le_mul_right M (by simp only [Rows.uptoBulk]; omega))
    · cases h
  | .held _, t, n, _, h => by simp [DataW.weights] at h
theorem wleAll {H : Type} {P : Program} {M : Nat} (hM : 1000 ≤ M) (hT : ∀ t, t < P.types.size → okT P t = true) : ∀ (l : List (DataW H)) (e : TypeId) (n : Nat), e < P.types.size → n ∈ DataW.weightsAll P e l → n ≤ Rows.uptoBulkAll l * M
  | [], e, n, _, h => by simp [DataW.weightsAll] at h
  | d :: r, e, n, he, h => by
    simp only [DataW.weightsAll] at h
    rcases List.mem_append.1 h with h | h
    · exact Nat.le_trans (wle hM hT d _ n he h) (Nat.mul_le_mul_right M (by simp only [Rows.uptoBulkAll]; omega))
    · exact Nat.le_trans (wleAll hM hT r _ n he h) (Nat.mul_le_mul_right M (by simp only [Rows.uptoBulkAll]; omega))
theorem wleEach {H : Type} {P : Program} {M : Nat} (hM : 1000 ≤ M) (hT : ∀ t, t < P.types.size → okT P t = true) : ∀ (l : List (DataW H)) (ts : List TypeId) (n : Nat), (∀ t ∈ ts, t < P.types.size) → n ∈ DataW.weightsEach P ts l → n ≤ Rows.uptoBulkAll l * M
  | [], ts, n, _, h => by cases ts <;> simp [DataW.weightsEach] at h
  | d :: r, [], n, _, h => by simp [DataW.weightsEach] at h
  | d :: r, t :: ts, n, ht, h => by
    simp only [DataW.weightsEach] at h
    rcases List.mem_append.1 h with h | h
    · exact Nat.le_trans (wle hM hT d _ n (ht t (by simp)) h) (Nat.mul_le_mul_right M (by simp only [Rows.uptoBulkAll]; omega))
    · exact Nat.le_trans (wleEach hM hT r _ n (fun x hx => ht x (List.mem_cons_of_mem _ hx)) h) (Nat.mul_le_mul_right M (by simp only [Rows.uptoBulkAll]; omega))
theorem wleEntries {H : Type} {P : Program} {M : Nat} (hM : 1000 ≤ M) (hT : ∀ t, t < P.types.size → okT P t = true) : ∀ (l : List (Lit × DataW H)) (e : TypeId) (n : Nat), e < P.types.size → n ∈ DataW.weightsEntries P e l → n ≤ Rows.uptoBulkEntries l * M
  | [], e, n, _, h => by simp [DataW.weightsEntries] at h
  | x :: r, e, n, he, h => by
    simp only [DataW.weightsEntries] at h
    rcases List.mem_append.1 h with h | h
    · exact Nat.le_trans (wleEntry hM hT x _ n he h) (Nat.mul_le_mul_right M (by simp only [Rows.uptoBulkEntries]; omega))
    · exact Nat.le_trans (wleEntries hM hT r _ n he h) (Nat.mul_le_mul_right M (by simp only [Rows.uptoBulkEntries]; omega))
theorem wleEntry {H : Type} {P : Program} {M : Nat} (hM : 1000 ≤ M) (hT : ∀ t, t < P.types.size → okT P t = true) : ∀ (x : Lit × DataW H) (e : TypeId) (n : Nat), e < P.types.size → n ∈ DataW.weightsEntry P e x → n ≤ Rows.uptoBulkEntry x * M
  | (l, d), e, n, he, h => by
    cases l with
    | string b =>
      simp only [DataW.weightsEntry] at h
      rcases List.mem_cons.1 h with rfl | h
      · exact Nat.le_trans (Nat.le_trans (Nat.le_of_eq (Nat.mul_one _).symm) (Nat.mul_le_mul_left _ (show 1 ≤ M by omega))) (Nat.mul_le_mul_right M (by simp only [Rows.uptoBulkEntry]; omega))
      · exact Nat.le_trans (wle hM hT d _ n he h) (Nat.mul_le_mul_right M (by simp only [Rows.uptoBulkEntry]; omega))
    | _ =>
      simp only [DataW.weightsEntry] at h
      exact Nat.le_trans (wle hM hT d _ n he h) (Nat.mul_le_mul_right M (by simp only [Rows.uptoBulkEntry]; omega))
end
set_option maxRecDepth 100000 in
theorem contract (H : Type) (enc : TypeId × Value → H) (W : World) (base : Nat) (args : Array Value) (ds gs : List (DataW H)) (before : List MemPlace)
    (hval0 : ∀ (j : Nat) t v, Try.f10.params[j]? = some t → args[j]? = some v → Value.okWide Try.prog W .any base t v)
    (hW : DataW.Whole enc Try.prog Try.f10.params.toList Rows.boardPlaysSpec.vars false W args.toList ds gs before)
    (hwt0 : (DataW.weightsEach Try.prog (Try.f10.params.toList ++ Rows.boardPlaysSpec.plain.varTypes Try.prog) (ds ++ gs)).all (· ≤ reachBytes) = true) (hk : Rows.uptoSmall H (ds ++ gs) = true) :
    Calls Try.prog 10 args W fun e W' => ∃ v, e = .returned v ∧ Rows.boardPlaysSpec.post enc Try.prog Try.f10 false true false false W args v W' := by
  have hval : ∀ (j : Nat) t v, Try.f10.params[j]? = some t → args[j]? = some v → Value.okWide Try.prog W .any base t v := hval0
  have hW' := hW
  obtain ⟨p, q, hA0, hV, rfl, hfz, hnd⟩ := hW
  have hA : DataW.TrodAll enc Try.prog W 0 (fun _ => true) true Try.f10.params.toList args.toList ds p := hA0
  have hwt := hwt0
  rw [Try.params10] at hA hval hwt
  obtain ⟨v0, vs0, d0, ds0, p0, q0, hargs, rfl, rfl, h0, r0⟩ := trodAll_cons hA
  obtain ⟨v1, vs1, d1, ds1, p1, q1, rfl, rfl, rfl, h1, r1⟩ := trodAll_cons r0
  obtain ⟨rfl, rfl, rfl⟩ := trodAll_nil r1
  obtain rfl : args = #[v0, v1] := by cases args; simp_all
  obtain ⟨rfl, rfl⟩ := trodVars_none hV
  have hk0 : Rows.uptoBulkAll _ ≤ 1048576 := of_decide_eq_true hk
  simp only [List.cons_append, List.nil_append, Rows.uptoBulkAll] at hk0
  obtain ⟨a0, rfl, rfl, rfl, w0⟩ := open_int (show Try.prog.underlying 3 = some (.int .i64) by kernel_rfl) (hval 0 3 v0 rfl rfl) h0
  have wt1 : ∀ n ∈ d1.weights Try.prog 85, n ≤ 1048576000 := fun n hn => Nat.le_trans (wle (P := Try.prog) (M := 1000) (Nat.le_refl _) okAll d1 85 n (of_decide_eq_true (by kernel_rfl)) hn) (Nat.le_trans (Nat.mul_le_mul_right 1000 (show _ ≤ 1048576 by omega)) (by decide))
  have ft1 := arg_any (n0 := 12) (t := 85) (B := 1048576000) (ks := [.sl 11 [.int .i64, .int .i64, .int .i64, .int .i64, .str, .str, .str, .int .i64, .str, .str, .sl 11 [.int .i64, .str, .str, .str, .int .i64, .str, .int .i64, .int .i64, .int .i64, .bool, .str]]]) (by kernel_rfl) h1 wt1
  rw [arg_sl (t := 85) (e := 90) (by kernel_rfl) (hval 1 85 v1 rfl rfl)] at ft1
  obtain ⟨_, _, e1, ⟨n1, cs1, rd1, mx1, fc1⟩, _⟩ := fitL2_sl ft1
  obtain ⟨rfl, _⟩ := List.cons.inj e1
  refine (law_calls ok10 Try.call10 (lawBoardPlays a0 w0 rd1 mx1 fc1)).mono fun e W' ⟨he, hf⟩ => ?_
  subst he
  exact ⟨_, rfl, law_post (tb := 4) laid (by kernel_rfl) hW' rfl rfl (by kernel_rfl) (by kernel_rfl) hf⟩
set_option maxRecDepth 100000 in
theorem lifted (os : Os) (started : os.Started) (H : Type) (enc : TypeId × Value → H) (F : Stop.Interp) :
    ReturnsInHanded {} Try.checked os 10 .any ((Rows.OpenSpec.upto Rows.boardPlaysSpec).pre6 enc Try.prog Try.f10 Rows.boardPlaysUptoRow.domain false) (((Rows.OpenSpec.upto Rows.boardPlaysSpec).at F).post enc Try.prog Try.f10 false true false false) := by
  refine returnsInHanded_of_cond_sized (C := Try.checked) (s := (Rows.OpenSpec.upto Rows.boardPlaysSpec)) (k := Rows.uptoSmall) rfl own started (by kernel_rfl) Try.func10
    (OpenSpec.witness (enc := enc) (C := Try.checked) (s := (Rows.OpenSpec.upto Rows.boardPlaysSpec)) (k := Rows.uptoSmall) rfl false ⟨#[], #[(.int .i64 0), (.slice none 0 0)], []⟩ 8 (by kernel_rfl) (by kernel_rfl) (by kernel_rfl)
      (x := ([.lit (.int .i64 0), .nil], [], [])) (by kernel_rfl) rfl (by kernel_rfl)) ?_
  intro W base args ds gs before hval0 hW _ hk hwt _
  exact contract H enc W base args ds gs before hval0 hW hwt hk
theorem j0 : (Rows.boardPlaysUptoRow.wf (OpenSpec.ofChange (Rows.OpenSpec.upto Rows.boardPlaysSpec).bare)) = true := by kernel_rfl
theorem j1 : (laidOutB Try.prog) = true := by kernel_rfl
theorem j2 : (mapsRowed Try.prog) = true := by kernel_rfl
theorem j3 : (Try.f10.params.all (Try.prog.readableRec ·)) = true := by kernel_rfl
theorem j4 : (namedTie Try.prog Rows.boardPlaysUptoRow.named (Rows.OpenSpec.upto Rows.boardPlaysSpec).bare.vars) = true := by kernel_rfl
theorem j5 : ((Rows.boardPlaysUptoRow.stops == [])) = true := by kernel_rfl
theorem j6 : ((Try.prog.stops == [])) = true := by kernel_rfl
theorem j7 : ((Rows.boardPlaysUptoRow.knobs == [])) = true := by kernel_rfl
theorem j8 : ((Try.prog.stopKnobs == [])) = true := by kernel_rfl
theorem j9 : ((Rows.boardPlaysUptoRow.inPlace == Try.prog.inPlace 10)) = true := by kernel_rfl
theorem j10 : ((Rows.boardPlaysUptoRow.unfollowed == Try.prog.unfollowed 10)) = true := by kernel_rfl
theorem j11 : ((Rows.boardPlaysUptoRow.recurses == Try.prog.recurses 10)) = true := by kernel_rfl
theorem j12 : ((Rows.boardPlaysUptoRow.named == Try.prog.varsNamed 10)) = true := by kernel_rfl
theorem j13 : ((Rows.boardPlaysUptoRow.maps == (Try.f10.params.toList ++ (Rows.OpenSpec.upto Rows.boardPlaysSpec).bare.plain.varTypes Try.prog).any (Try.prog.mapsRec ·))) = true := by kernel_rfl
theorem j14 : ((Rows.boardPlaysUptoRow.ifaces == (Try.f10.params.toList ++ (Rows.OpenSpec.upto Rows.boardPlaysSpec).bare.plain.varTypes Try.prog).any (Try.prog.ifacesRec ·))) = true := by kernel_rfl
theorem j15 : ((Rows.boardPlaysUptoRow.mapsOut == Try.prog.mapsAmong Try.f10.resultTypes.toList)) = true := by kernel_rfl
theorem j16 : ((Rows.boardPlaysUptoRow.loops == (Try.f10.params.toList ++ (Rows.OpenSpec.upto Rows.boardPlaysSpec).bare.plain.varTypes Try.prog).any (Try.prog.loopsFrom ·))) = true := by kernel_rfl
theorem j17 : ((Rows.boardPlaysUptoRow.wideKeys == (Try.f10.params.toList ++ (Rows.OpenSpec.upto Rows.boardPlaysSpec).bare.plain.varTypes Try.prog ++ Try.f10.resultTypes.toList).any (Try.prog.wideKeysFrom ·))) = true := by kernel_rfl
theorem j18 : ((Rows.OpenSpec.upto Rows.boardPlaysSpec).bare.vars.all (Try.prog.varReadable ·)) = true := by kernel_rfl
theorem j19 : (Try.f10.resultTypes.all (fun t => Try.prog.readableRec t && decide (t < Try.prog.types.size))) = true := by kernel_rfl
theorem j20 : ((Rows.boardPlaysUptoRow.ifacesOut == Try.f10.resultTypes.toList.any (Try.prog.ifacesRec ·))) = true := by kernel_rfl
theorem j21 : ((Rows.boardPlaysUptoRow.loopsOut == Try.f10.resultTypes.toList.any (Try.prog.loopsFrom ·))) = true := by kernel_rfl
theorem j22 : ((Rows.boardPlaysUptoRow.plainKeys == Try.prog.plainKeys)) = true := by kernel_rfl
theorem j23 : (Rows.boardPlaysUptoRow.shortTexts.isNone) = true := by kernel_rfl
theorem j24 : (Try.prog.stopsHeard) = true := by kernel_rfl
theorem j25 : (Try.prog.mayEnter) = true := by kernel_rfl
theorem j26 : ((Rows.boardPlaysUptoRow.lifted == Try.prog.liftsFinal)) = true := by kernel_rfl
theorem j27 : ((Try.prog.make == some Rows.boardPlaysUptoRow.make)) = true := by kernel_rfl
theorem j28 : ((Rows.boardPlaysUptoRow.kinds == (if Rows.boardPlaysUptoRow.domain.isEmpty then [] else Try.f10.params.toList.map fun t => match Try.prog.underlying t with | some (.int k) => some k | _ => none))) = true := by kernel_rfl
theorem j29 : ((Rows.boardPlaysUptoRow.pinned == Rows.boardPlaysUptoRow.pinnedBy)) = true := by kernel_rfl
theorem j30 : ((Rows.boardPlaysUptoRow.veiled == (Try.f10.params.toList ++ (Rows.OpenSpec.upto Rows.boardPlaysSpec).bare.plain.varTypes Try.prog ++ Try.f10.resultTypes.toList).any (Try.prog.veiledRec ·))) = true := by kernel_rfl
theorem j31 : (Rows.boardPlaysUptoRow.veiledFits Try.prog Try.f10.params.toList (Try.f10.params.toList ++ (Rows.OpenSpec.upto Rows.boardPlaysSpec).bare.plain.varTypes Try.prog ++ Try.f10.resultTypes.toList)) = true := by kernel_rfl
theorem join_and {a b : Bool} (h1 : a = true) (h2 : b = true) : (a && b) = true := by rw [h1, h2]; rfl
set_option maxRecDepth 100000 in
theorem closed : joinedFacts Try.prog 10 Try.f10 (Rows.OpenSpec.upto Rows.boardPlaysSpec).bare Rows.boardPlaysUptoRow = true := by
  unfold joinedFacts
  exact join_and (join_and (join_and (join_and (join_and (join_and (join_and (join_and (join_and (join_and (join_and (join_and (join_and (join_and (join_and (join_and (join_and (join_and (join_and (join_and (join_and (join_and (join_and (join_and (join_and (join_and (join_and (join_and (join_and (join_and (join_and (j0) j1) j2) j3) j4) j5) j6) j7) j8) j9) j10) j11) j12) j13) j14) j15) j16) j17) j18) j19) j20) j21) j22) j23) j24) j25) j26) j27) j28) j29) j30) j31
theorem named : Try.prog.funcNamed Rows.boardPlaysUptoRow.func = some 10 := by kernel_rfl
theorem inst : Try.f10.isInstance Try.prog Rows.boardPlaysUptoRow.origin Rows.boardPlaysUptoRow.targs := of_decide_eq_true (by kernel_rfl)
theorem wrap : Try.f10.isWrapper Try.prog Rows.boardPlaysUptoRow.wrapper Rows.boardPlaysUptoRow.mainSum := by
  unfold Func.isWrapper; first | (rw [if_pos (by decide +kernel)]; kernel_rfl) | (rw [if_neg (by decide +kernel)]; exact ⟨rfl, rfl⟩)
theorem over : Rows.boardPlaysUptoRow.holds Try.pinned (Rows.OpenSpec.upto Rows.boardPlaysSpec) :=
  OpenClaim.holds_of_cond 10 Try.f10 rfl rfl rfl rfl rfl rfl rfl ⟨rfl, rfl, rfl, rfl, rfl⟩ rfl rfl rfl rfl rfl named Try.func10 closed inst wrap
    (fun os started H enc _ F => lifted os started H enc F)
theorem proved : Rows.BoardPlaysUptoSaid := over
#print axioms proved
end Go.Proofs.Ytpbfmiphjcmjjaa.boardPlays
