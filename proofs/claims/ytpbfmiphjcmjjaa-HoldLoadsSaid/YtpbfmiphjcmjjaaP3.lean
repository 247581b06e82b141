/- A part of the proofs: what stands below it, told in lemmas. No condition. -/
import Derived.Test.YtpbfmiphjcmjjaaP1
import Derived.Test.YtpbfmiphjcmjjaaP2
set_option linter.all false

/- Hold2 -/
namespace Go.Proofs.Gong
open Go Go.Sx Go.Proofs
set_option linter.all false
set_option maxRecDepth 100000
def T51 : List (Nat × FnT) := [(15, G15)]
def F51 (x0 : Value) (w : World) (K : Value → World → Prop) : Prop :=
eAlloc Try.prog 41 w fun v2 w1 =>
callP G15 [x0, (.int .i64 1048576)] w1 fun v4 w3 =>
bindP (bRem v4 (.int .i64 3)) fun v5 =>
bindP (bQuo v4 (.int .i64 3)) fun v6 =>
bindP (bRem v6 (.int .i64 4)) fun v7 =>
bindP (bAdd (.int .i64 97) v7) fun v8 =>
bindP (cInt .u8 v8) fun v9 =>
bindP (bQuo v4 (.int .i64 12)) fun v10 =>
bindP (bRem v10 (.int .i64 2)) fun v11 =>
bindP (pSliceS (.string ⟨#[107]⟩) none (some v11)) fun v12 =>
bindP (bQuo v4 (.int .i64 24)) fun v13 =>
bindP (bRem v13 (.int .i64 50)) fun v14 =>
eBuildSl Try.prog 29 1 [(0, v9)] w3.drew fun v16 w15 =>
bindP (cBytes v16 w15) fun v17 =>
bindP (fBuild Try.prog 41 [(1, v5), (2, v17), (3, v12), (4, v14)]) fun v18 =>
bindW (st 11 v2 v18 w15) fun w19 =>
bindP (ldN 11 v2 w19) fun v21 =>
K v21 w19
def G51 : FnT := fun args w K => on1 (fun x0 => F51 x0 w K) args
theorem c51 {x0 : Value} {w : World} {K : Value → World → Prop} (h : F51 x0 w K) : callP G51 [x0] w K := callP_intro (on1_mk (p := fun x0 => F51 x0 w K) h)
theorem ok51 : OkF Try.prog 51 G51 := by
  refine okF_of (tab_ok (l := T51) ⟨ok15, trivial⟩) mixed (n := fuel) Try.func51 Try.call51 fun args w K h => ?_
  obtain ⟨x0, rfl, hh⟩ := of_on1 h
  exact fnD_list (c := bodyOf Try.f51) (by kernel_rfl) (by kernel_rfl) (Eq.mp (by kernel_rfl) hh)
def LayK108_ren : Go.Shelf.Ren := ⟨fun | 7 => 108 | 10 => 134 | n => n, fun | 23 => 156 | 26 => 3 | 3 => 41 | 28 => 164 | 0 => 0 | 27 => 163 | 33 => 51 | 4 => 4 | n => n, fun | n => n⟩
theorem LayK108 : Go.Proofs.SlLaysZI.n7 Try.prog LayK108_ren := {
  mixed := by kernel_rfl
  f7 := ⟨Try.f108.name, by decide, Try.func108.trans (congrArg some (by kernel_rfl))⟩
  f10 := ⟨Try.f134.name, by decide, Try.func134.trans (congrArg some (by kernel_rfl))⟩
  t0 := Try.underlying0
  a0 := Try.isAgg0
  z0 := Try.sizeOf0
  v0 := Try.zeroValue0
  t4 := Try.underlying4
  a4 := Try.isAgg4
  z4 := Try.sizeOf4
  v4 := Try.zeroValue4
  t23 := Try.underlying156
  a23 := Try.isAgg156
  z23 := Try.sizeOf156
  v23 := Try.zeroValue156
  t26 := Try.underlying3
  a26 := Try.isAgg3
  z26 := Try.sizeOf3
  v26 := Try.zeroValue3
  t27 := Try.underlying163
  a27 := Try.isAgg163
  z27 := Try.sizeOf163
  v27 := Try.zeroValue163
  t28 := Try.underlying164
  a28 := Try.isAgg164
  z28 := Try.sizeOf164
  v28 := Try.zeroValue164
  t33 := Try.underlying51
  a33 := Try.isAgg51
  z33 := Try.sizeOf51
  v33 := Try.zeroValue51 }
def LayS107_ren : Go.Shelf.Ren := ⟨fun | 6 => 107 | 8 => 132 | 9 => 133 | 11 => 159 | 13 => 115 | 12 => 160 | 23 => 148 | 24 => 149 | 14 => 172 | 15 => 173 | 16 => 174 | 17 => 175 | 18 => 176 | 19 => 177 | 20 => 113 | 21 => 178 | 22 => 179 | 25 => 188 | 26 => 165 | 27 => 166 | 28 => 189 | 29 => 190 | 30 => 139 | 31 => 191 | n => n, fun | 26 => 3 | 28 => 164 | 24 => 22 | 0 => 0 | 3 => 3 | 37 => 171 | 48 => 197 | 50 => 199 | 4 => 4 | 40 => 191 | 39 => 190 | 45 => 112 | 5 => 5 | 9 => 9 | 51 => 211 | 55 => 215 | 57 => 228 | 58 => 224 | 33 => 51 | n => n, fun | n => n⟩
theorem LayS107 : Go.Proofs.SlLaysZI.n6 Try.prog LayS107_ren := {
  mixed := by kernel_rfl
  f6 := ⟨Try.f107.name, by decide, Try.func107.trans (congrArg some (by kernel_rfl))⟩
  f8 := ⟨Try.f132.name, by decide, Try.func132.trans (congrArg some (by kernel_rfl))⟩
  f11 := ⟨Try.f159.name, by decide, Try.func159.trans (congrArg some (by kernel_rfl))⟩
  t0 := Try.underlying0
  a0 := Try.isAgg0
  z0 := Try.sizeOf0
  v0 := Try.zeroValue0
  t24 := Try.underlying22
  a24 := Try.isAgg22
  z24 := Try.sizeOf22
  v24 := Try.zeroValue22
  t26 := Try.underlying3
  a26 := Try.isAgg3
  z26 := Try.sizeOf3
  v26 := Try.zeroValue3
  t28 := Try.underlying164
  a28 := Try.isAgg164
  z28 := Try.sizeOf164
  v28 := Try.zeroValue164
  i26 := by kernel_rfl }
def LayM133_ren : Go.Shelf.Ren := ⟨fun | 5 => 133 | 8 => 115 | 7 => 160 | 19 => 148 | 20 => 149 | 10 => 172 | 11 => 173 | 12 => 174 | 13 => 175 | 14 => 176 | 15 => 177 | 16 => 113 | 17 => 178 | 18 => 179 | 30 => 188 | 31 => 165 | 32 => 166 | 33 => 189 | 34 => 190 | 35 => 139 | 40 => 191 | n => n, fun | 23 => 22 | 25 => 3 | 3 => 3 | 32 => 171 | 22 => 22 | 0 => 0 | 44 => 197 | 46 => 199 | 4 => 4 | 36 => 191 | 35 => 190 | 41 => 112 | 5 => 5 | 9 => 9 | 53 => 211 | 57 => 215 | 63 => 228 | 64 => 224 | n => n, fun | n => n⟩
theorem LayM133 : Go.Proofs.SlLaysM.n5 Try.prog LayM133_ren := {
  mixed := by kernel_rfl
  f5 := ⟨Try.f133.name, by decide, Try.func133.trans (congrArg some (by kernel_rfl))⟩
  f7 := ⟨Try.f160.name, by decide, Try.func160.trans (congrArg some (by kernel_rfl))⟩
  f8 := Try.func115.trans (congrArg some (by kernel_rfl))
  f10 := ⟨Try.f172.name, by decide, Try.func172.trans (congrArg some (by kernel_rfl))⟩
  f11 := ⟨Try.f173.name, by decide, Try.func173.trans (congrArg some (by kernel_rfl))⟩
  f12 := ⟨Try.f174.name, by decide, Try.func174.trans (congrArg some (by kernel_rfl))⟩
  f13 := ⟨Try.f175.name, by decide, Try.func175.trans (congrArg some (by kernel_rfl))⟩
  f14 := ⟨Try.f176.name, by decide, Try.func176.trans (congrArg some (by kernel_rfl))⟩
  f15 := ⟨Try.f177.name, by decide, Try.func177.trans (congrArg some (by kernel_rfl))⟩
  f16 := ⟨Try.f113.name, by decide, Try.func113.trans (congrArg some (by kernel_rfl))⟩
  f17 := ⟨Try.f178.name, by decide, Try.func178.trans (congrArg some (by kernel_rfl))⟩
  f18 := ⟨Try.f179.name, by decide, Try.func179.trans (congrArg some (by kernel_rfl))⟩
  f19 := Try.func148.trans (congrArg some (by kernel_rfl))
  f20 := Try.func149.trans (congrArg some (by kernel_rfl))
  f30 := ⟨Try.f188.name, by decide, Try.func188.trans (congrArg some (by kernel_rfl))⟩
  f31 := Try.func165.trans (congrArg some (by kernel_rfl))
  f32 := Try.func166.trans (congrArg some (by kernel_rfl))
  f33 := ⟨Try.f189.name, by decide, Try.func189.trans (congrArg some (by kernel_rfl))⟩
  f34 := ⟨Try.f190.name, by decide, Try.func190.trans (congrArg some (by kernel_rfl))⟩
  f35 := ⟨Try.f139.name, by decide, Try.func139.trans (congrArg some (by kernel_rfl))⟩
  f40 := ⟨Try.f191.name, by decide, Try.func191.trans (congrArg some (by kernel_rfl))⟩
  t0 := Try.underlying0
  a0 := Try.isAgg0
  z0 := Try.sizeOf0
  v0 := Try.zeroValue0
  t3 := Try.underlying3
  a3 := Try.isAgg3
  z3 := Try.sizeOf3
  v3 := Try.zeroValue3
  t4 := Try.underlying4
  a4 := Try.isAgg4
  z4 := Try.sizeOf4
  v4 := Try.zeroValue4
  t5 := Try.underlying5
  a5 := Try.isAgg5
  z5 := Try.sizeOf5
  v5 := Try.zeroValue5
  t9 := Try.underlying9
  a9 := Try.isAgg9
  z9 := Try.sizeOf9
  v9 := Try.zeroValue9
  t22 := Try.underlying22
  a22 := Try.isAgg22
  z22 := Try.sizeOf22
  v22 := Try.zeroValue22
  t23 := Try.underlying22
  a23 := Try.isAgg22
  z23 := Try.sizeOf22
  v23 := Try.zeroValue22
  t25 := Try.underlying3
  a25 := Try.isAgg3
  z25 := Try.sizeOf3
  v25 := Try.zeroValue3
  t32 := Try.underlying171
  a32 := Try.isAgg171
  z32 := Try.sizeOf171
  v32 := Try.zeroValue171
  t35 := Try.underlying190
  a35 := Try.isAgg190
  z35 := Try.sizeOf190
  v35 := Try.zeroValue190
  t36 := Try.underlying191
  a36 := Try.isAgg191
  z36 := Try.sizeOf191
  v36 := Try.zeroValue191
  t41 := Try.underlying112
  a41 := Try.isAgg112
  z41 := Try.sizeOf112
  v41 := Try.zeroValue112
  t44 := Try.underlying197
  a44 := Try.isAgg197
  z44 := Try.sizeOf197
  v44 := Try.zeroValue197
  t46 := Try.underlying199
  a46 := Try.isAgg199
  z46 := Try.sizeOf199
  v46 := Try.zeroValue199
  t53 := Try.underlying211
  a53 := Try.isAgg211
  z53 := Try.sizeOf211
  v53 := Try.zeroValue211
  t57 := Try.underlying215
  a57 := Try.isAgg215
  z57 := Try.sizeOf215
  v57 := Try.zeroValue215
  t63 := Try.underlying228
  a63 := Try.isAgg228
  z63 := Try.sizeOf228
  v63 := Try.zeroValue228
  t64 := Try.underlying224
  a64 := Try.isAgg224
  z64 := Try.sizeOf224
  v64 := Try.zeroValue224 }
def G107 : FnT := gSortedI 134 3
theorem ok107 : OkF Try.prog 107 G107 := okSortedI (f := 107) (g := 134) (ty := 3) LayK108 LayS107 LayM133 rfl rfl rfl rfl Try.call107 Try.call133 Try.call134
def T108 : List (Nat × FnT) := []
def F108 (x0 : Value) (w : World) (K : Value → World → Prop) : Prop :=
eBox 156 x0 w fun v2 w1 =>
bindP (some (.func (.func 134) #[] #[v2])) fun v3 =>
K v3 w1
def G108 : FnT := fun args w K => on1 (fun x0 => F108 x0 w K) args
theorem c108 {x0 : Value} {w : World} {K : Value → World → Prop} (h : F108 x0 w K) : callP G108 [x0] w K := callP_intro (on1_mk (p := fun x0 => F108 x0 w K) h)
theorem ok108 : OkF Try.prog 108 G108 := by
  refine okF_of (tab_ok (l := T108) trivial) mixed (n := fuel) Try.func108 Try.call108 fun args w K h => ?_
  obtain ⟨x0, rfl, hh⟩ := of_on1 h
  exact fnD_list (c := bodyOf Try.f108) (by kernel_rfl) (by kernel_rfl) (Eq.mp (by kernel_rfl) hh)
def T54 : List (Nat × FnT) := [(105, G105), (107, G107), (108, G108)]
def F54_3b (s3 : Value) (w : World) (K : Value → World → Prop) : Prop :=
K s3 w
def F54_3 (s3 : Value) (w : World) (K : Value → World → Prop) : Prop := F54_3b s3 w K
theorem ok54_3 {K : Value → World → Prop} {kn kr : Env → World → Prop} {ke : Nat → Env → World → Prop}
    (hn : ∀ e w, (fun e w => K (e 2) w) e w → kn e w) (hr : ∀ e w, endD Try.prog [.tmp 2] K e w → kr e w) (he : ∀ i e w, noE i e w → ke i e w) :
    ∀ e w, F54_3 (e 3) w K → denL Try.prog (tabOf T54) 29 fuel ((flat (bodyOf Try.f54)).drop 4) e w kn kr ke := by
  intro e w h
  unfold F54_3 at h
  have e1 : ∀ (_ : Unit), F54_3b (e 3) w K = denL Try.prog (tabOf T54) 29 fuel ((flat (bodyOf Try.f54)).drop 4) e w (fun e w => K (e 2) w) (endD Try.prog [.tmp 2] K) noE := by intro _; kernel_rfl
  exact seg_end (Eq.mp (e1 ()) h) hn hr he
def F54_2b (s0 : Value) (s3 : Value) (s11 : Value) (s12 : Value) (s13 : Value) (w : World) (_K : Value → World → Prop) (Y0 : Value → Value → Value → Value → Value → World → Prop) (Y1 : Value → World → Prop) : Prop :=
bindP (bLt s13 s12) fun v1 =>
ifB v1 (
bindP (pIndexL 1 s11 s13) fun v2 =>
bindP (ld1 v2 w) fun v3 =>
bindP (pNil s0) fun v4 =>
bindP (pFieldAddr 3 v4) fun v5 =>
bindP (ld1 v5 w) fun v6 =>
bindP (fLook Try.prog 156 v6 v3 false w) fun v7 =>
callP G105 [v7] w fun v9 w8 =>
eBuildSl Try.prog 101 1 [(0, v9)] w8 fun v11 w10 =>
eAppend Try.prog 101 101 s3 v11 w10 fun v13 w12 =>
bindP (bAdd s13 (.int .i64 1)) fun v14 =>
Y0 s0 v13 s11 s12 v14 w12) (
Y1 s3 w)
def F54_2L : Nat → Value → Value → Value → Value → Value → World → (Value → World → Prop) → Prop
  | 0, _, _, _, _, _, _, _ => False
  | n + 1, s0, s3, s11, s12, s13, w, K => F54_2b s0 s3 s11 s12 s13 w K (fun a0 a3 a11 a12 a13 w => F54_2L n a0 a3 a11 a12 a13 w K) (fun a3 w => F54_3 a3 w K)
def F54_2 (s0 : Value) (s3 : Value) (s11 : Value) (s12 : Value) (s13 : Value) (w : World) (K : Value → World → Prop) : Prop := F54_2L fuel s0 s3 s11 s12 s13 w K
theorem ok54_2 {K : Value → World → Prop} {kn kr : Env → World → Prop} {ke : Nat → Env → World → Prop}
    (hn : ∀ e w, (fun e w => K (e 2) w) e w → kn e w) (hr : ∀ e w, endD Try.prog [.tmp 2] K e w → kr e w) (he : ∀ i e w, noE i e w → ke i e w) :
    ∀ e w, F54_2 (e 0) (e 3) (e 11) (e 12) (e 13) w K → denL Try.prog (tabOf T54) 29 fuel ((flat (bodyOf Try.f54)).drop 3) e w kn kr ke := by
  intro e w h
  unfold F54_2 at h
  refine seg_loop (id := 0) (body := (loopB (blkB (nthC (flat (bodyOf Try.f54)) 3)))) (l2 := (flat (bodyOf Try.f54)).drop 4) (by kernel_rfl) ?_
  refine loop_ok (FL := fun m e w => F54_2L m (e 0) (e 3) (e 11) (e 12) (e 13) w K) (fr := endD Try.prog [.tmp 2] K) (fe := (blkK 0 (fun e w => F54_3 (e 3) w K) noE)) (fun _ _ h => h) ?_ hr (blkK_mono (fun e w h => ok54_3 hn hr he e w h) he) fuel e w h
  intro m e w h
  have h : F54_2L (m + 1) (e 0) (e 3) (e 11) (e 12) (e 13) w K := h
  rw [F54_2L] at h
  have e1 : ∀ (Y0 : Value → Value → Value → Value → Value → World → Prop) (Y1 : Value → World → Prop), F54_2b (e 0) (e 3) (e 11) (e 12) (e 13) w K Y0 Y1 = denL Try.prog (tabOf T54) 29 fuel (flat (loopB (blkB (nthC (flat (bodyOf Try.f54)) 3)))) e w (fun e w => Y0 (e 0) (e 3) (e 11) (e 12) (e 13) w) (endD Try.prog [.tmp 2] K) (blkK 0 (fun e w => Y1 (e 3) w) noE) := by intro Y0 Y1; kernel_rfl
  exact Eq.mp (e1 (fun a0 a3 a11 a12 a13 w => F54_2L m a0 a3 a11 a12 a13 w K) (fun a3 w => F54_3 a3 w K)) h
def F54_1b (s0 : Value) (w : World) (_K : Value → World → Prop) (Y0 : Value → Value → Value → Value → Value → World → Prop) : Prop :=
bindP (pNil s0) fun v15 =>
bindP (pFieldAddr 3 v15) fun v16 =>
bindP (ld1 v16 w) fun v17 =>
callP G108 [v17] w fun v19 w18 =>
callP G107 [v19] w18 fun v21 w20 =>
bindP (lenL v21) fun v22 =>
Y0 s0 (.slice none 0 0) v21 v22 (.int .i64 0) w20
def F54_1 (s0 : Value) (w : World) (K : Value → World → Prop) : Prop := F54_1b s0 w K (fun a0 a3 a11 a12 a13 w => F54_2 a0 a3 a11 a12 a13 w K)
theorem ok54_1 {K : Value → World → Prop} {kn kr : Env → World → Prop} {ke : Nat → Env → World → Prop}
    (hn : ∀ e w, (fun e w => K (e 2) w) e w → kn e w) (hr : ∀ e w, endD Try.prog [.tmp 2] K e w → kr e w) (he : ∀ i e w, noE i e w → ke i e w) :
    ∀ e w, F54_1 (e 0) w K → denL Try.prog (tabOf T54) 29 fuel ((flat (bodyOf Try.f54)).drop 0) e w kn kr ke := by
  intro e w h
  unfold F54_1 at h
  have e1 : ∀ (Y0 : Value → Value → Value → Value → Value → World → Prop), F54_1b (e 0) w K Y0 = denL Try.prog (tabOf T54) 29 fuel (((flat (bodyOf Try.f54)).drop 0).take 3) e w (fun e w => Y0 (e 0) (e 3) (e 11) (e 12) (e 13) w) (endD Try.prog [.tmp 2] K) noE := by intro Y0; kernel_rfl
  exact seg 3 (Eq.mp (e1 (fun a0 a3 a11 a12 a13 w => F54_2 a0 a3 a11 a12 a13 w K)) h) (fun e w h => ok54_2 hn hr he e w h) hr he
def F54 (x0 : Value) (w : World) (K : Value → World → Prop) : Prop := F54_1 x0 w K
def G54 : FnT := fun args w K => on1 (fun x0 => F54 x0 w K) args
theorem c54 {x0 : Value} {w : World} {K : Value → World → Prop} (h : F54 x0 w K) : callP G54 [x0] w K := callP_intro (on1_mk (p := fun x0 => F54 x0 w K) h)
theorem ok54 : OkF Try.prog 54 G54 := by
  refine okF_of (tab_ok (l := T54) ⟨ok105, ok107, ok108, trivial⟩) mixed (n := fuel) Try.func54 Try.call54 fun args w K h => ?_
  obtain ⟨x0, rfl, hh⟩ := of_on1 h
  unfold F54 at hh
  exact fnD_list (c := bodyOf Try.f54) (by kernel_rfl) (by kernel_rfl) (ok54_1 (fun _ _ h => h) (fun _ _ h => h) (fun _ _ _ h => h) (initE [x0]) w hh)
def T109 : List (Nat × FnT) := [(83, G83)]
def F109 (x0 : Value) (w : World) (K : Value → World → Prop) : Prop :=
eBox 155 x0 w fun v2 w1 =>
bindP (pFieldAddr 0 v2) fun v3 =>
bindP (ld1 v3 w1) fun v4 =>
callP G83 [v4] w1 fun v6 w5 =>
bindP (pTuple v6 0) fun v7 =>
bindP (pTuple v6 1) fun v8 =>
eAlloc Try.prog 55 w5 fun v10 w9 =>
bindW (st 2 v10 v7 w9) fun w11 =>
bindP (pFieldAddr 0 v10) fun v13 =>
bindP (ld1 v13 w11) fun v14 =>
K (.tuple #[v14, v8]) w11
def G109 : FnT := fun args w K => on1 (fun x0 => F109 x0 w K) args
theorem c109 {x0 : Value} {w : World} {K : Value → World → Prop} (h : F109 x0 w K) : callP G109 [x0] w K := callP_intro (on1_mk (p := fun x0 => F109 x0 w K) h)
theorem ok109 : OkF Try.prog 109 G109 := by
  refine okF_of (tab_ok (l := T109) ⟨ok83, trivial⟩) mixed (n := fuel) Try.func109 Try.call109 fun args w K h => ?_
  obtain ⟨x0, rfl, hh⟩ := of_on1 h
  exact fnD_list (c := bodyOf Try.f109) (by kernel_rfl) (by kernel_rfl) (Eq.mp (by kernel_rfl) hh)
def T56 : List (Nat × FnT) := [(105, G105), (109, G109)]
def F56 (x0 : Value) (w : World) (K : Value → World → Prop) : Prop :=
eAlloc Try.prog 41 w fun v2 w1 =>
bindP (pNil x0) fun v3 =>
bindP (pFieldAddr 0 v3) fun v4 =>
bindP (ldN 1 v4 w1) fun v5 =>
callP G109 [v5] w1 fun v7 w6 =>
bindP (pTuple v7 0) fun v8 =>
bindP (pTuple v7 1) fun v9 =>
bindP (uNot v9) fun v10 =>
ifB v10 (
bindP (fBuild Try.prog 41 []) fun v11 =>
bindW (st 11 v2 v11 w6) fun w12 =>
bindP (ldN 11 v2 w12) fun v14 =>
K (.tuple #[v14, (.bool false)]) w12) (
bindP (pNil x0) fun v15 =>
bindP (pFieldAddr 3 v15) fun v16 =>
bindP (ld1 v16 w6) fun v17 =>
bindP (fLook Try.prog 156 v17 v8 false w6) fun v18 =>
callP G105 [v18] w6 fun v20 w19 =>
bindW (st 11 v2 v20 w19) fun w21 =>
bindP (ldN 11 v2 w21) fun v23 =>
K (.tuple #[v23, (.bool true)]) w21)
def G56 : FnT := fun args w K => on1 (fun x0 => F56 x0 w K) args
theorem c56 {x0 : Value} {w : World} {K : Value → World → Prop} (h : F56 x0 w K) : callP G56 [x0] w K := callP_intro (on1_mk (p := fun x0 => F56 x0 w K) h)
theorem ok56 : OkF Try.prog 56 G56 := by
  refine okF_of (tab_ok (l := T56) ⟨ok105, ok109, trivial⟩) mixed (n := fuel) Try.func56 Try.call56 fun args w K h => ?_
  obtain ⟨x0, rfl, hh⟩ := of_on1 h
  exact fnD_list (c := bodyOf Try.f56) (by kernel_rfl) (by kernel_rfl) (Eq.mp (by kernel_rfl) hh)
def T110 : List (Nat × FnT) := [(29, G29)]
def F110 (x0 : Value) (x1 : Value) (w : World) (K : Value → World → Prop) : Prop :=
eBox 155 x0 w fun v2 w1 =>
bindP (pFieldAddr 0 v2) fun v3 =>
bindP (ld1 v3 w1) fun v4 =>
callP G29 [v4, x1] w1 fun _ w5 =>
K (.tuple #[]) w5
def G110 : FnT := fun args w K => on2 (fun x0 x1 => F110 x0 x1 w K) args
theorem c110 {x0 x1 : Value} {w : World} {K : Value → World → Prop} (h : F110 x0 x1 w K) : callP G110 [x0, x1] w K := callP_intro (on2_mk (p := fun x0 x1 => F110 x0 x1 w K) h)
theorem ok110 : OkF Try.prog 110 G110 := by
  refine okF_of (tab_ok (l := T110) ⟨ok29, trivial⟩) mixed (n := fuel) Try.func110 Try.call110 fun args w K h => ?_
  obtain ⟨x0, x1, rfl, hh⟩ := of_on2 h
  exact fnD_list (c := bodyOf Try.f110) (by kernel_rfl) (by kernel_rfl) (Eq.mp (by kernel_rfl) hh)
def T57 : List (Nat × FnT) := [(73, G73), (110, G110)]
def F57 (x0 : Value) (x1 : Value) (w : World) (K : Value → World → Prop) : Prop :=
eAlloc Try.prog 41 w fun v2 w1 =>
bindP (pNil x0) fun v3 =>
bindP (pFieldAddr 3 v3) fun v4 =>
bindP (ld1 v4 w1) fun v5 =>
bindP (fLook Try.prog 156 v5 x1 true w1) fun v6 =>
bindP (pTuple v6 0) fun v7 =>
bindP (pTuple v6 1) fun v8 =>
eAlloc Try.prog 41 w1 fun v10 w9 =>
bindW (st 11 v10 v7 w9) fun w11 =>
bindP (uNot v8) fun v13 =>
ifB v13 (
bindP (fBuild Try.prog 41 []) fun v14 =>
bindW (st 11 v2 v14 w11) fun w15 =>
bindP (ldN 11 v2 w15) fun v17 =>
K (.tuple #[v17, (.int .i64 5)]) w15) (
bindP (pNil x0) fun v18 =>
bindP (pFieldAddr 3 v18) fun v19 =>
bindP (ld1 v19 w11) fun v20 =>
eDelete Try.prog 156 v20 x1 w11 fun _ w21 =>
bindP (pNil x0) fun v23 =>
bindP (pFieldAddr 4 v23) fun v24 =>
bindP (ld1 v24 w21.drew) fun v25 =>
bindP (ldN 11 v10 w21.drew) fun v26 =>
callP G73 [v26] w21.drew fun v28 w27 =>
fok true (ld1 v24 w27) v25 ∧ (eDelete Try.prog 157 v25 v28 w27 fun _ w29 =>
bindP (pNil x0) fun v31 =>
bindP (pFieldAddr 0 v31) fun v32 =>
bindP (ldN 1 v32 w29) fun v33 =>
callP G110 [v33, x1] w29 fun _ w34 =>
bindP (ldN 11 v10 w34) fun v36 =>
bindW (st 11 v2 v36 w34) fun w37 =>
bindP (ldN 11 v2 w37) fun v39 =>
K (.tuple #[v39, (.int .i64 0)]) w37))
def G57 : FnT := fun args w K => on2 (fun x0 x1 => F57 x0 x1 w K) args
theorem c57 {x0 x1 : Value} {w : World} {K : Value → World → Prop} (h : F57 x0 x1 w K) : callP G57 [x0, x1] w K := callP_intro (on2_mk (p := fun x0 x1 => F57 x0 x1 w K) h)
theorem ok57 : OkF Try.prog 57 G57 := by
  refine okF_of (tab_ok (l := T57) ⟨ok73, ok110, trivial⟩) mixed (n := fuel) Try.func57 Try.call57 fun args w K h => ?_
  obtain ⟨x0, x1, rfl, hh⟩ := of_on2 h
  exact fnD_list (c := bodyOf Try.f57) (by kernel_rfl) (by kernel_rfl) (Eq.mp (by kernel_rfl) hh)
def T59 : List (Nat × FnT) := []
def F59 (x0 : Value) (w : World) (K : Value → World → Prop) : Prop :=
bindP (pNil x0) fun v1 =>
bindP (pFieldAddr 2 v1) fun v2 =>
bindP (ld1 v2 w) fun v3 =>
K v3 w
def G59 : FnT := fun args w K => on1 (fun x0 => F59 x0 w K) args
theorem c59 {x0 : Value} {w : World} {K : Value → World → Prop} (h : F59 x0 w K) : callP G59 [x0] w K := callP_intro (on1_mk (p := fun x0 => F59 x0 w K) h)
theorem ok59 : OkF Try.prog 59 G59 := by
  refine okF_of (tab_ok (l := T59) trivial) mixed (n := fuel) Try.func59 Try.call59 fun args w K h => ?_
  obtain ⟨x0, rfl, hh⟩ := of_on1 h
  exact fnD_list (c := bodyOf Try.f59) (by kernel_rfl) (by kernel_rfl) (Eq.mp (by kernel_rfl) hh)
def T60 : List (Nat × FnT) := [(22, G22), (73, G73), (104, G104), (106, G106)]
def F60_3b (s0 : Value) (s1 : Value) (s7 : Value) (w : World) (K : Value → World → Prop) : Prop :=
bindP (lenL s1) fun v1 =>
bindP (pNil s0) fun v2 =>
bindP (pFieldAddr 1 v2) fun v3 =>
bindP (ld1 v3 w) fun v4 =>
bindP (bGt v1 v4) fun v5 =>
ifB v5 (
K (.int .i64 200) w) (
bindP (pNil s0) fun v6 =>
bindP (pFieldAddr 1 v6) fun v7 =>
bindP (ld1 v7 w) fun v8 =>
bindP (pNil s7) fun v9 =>
bindP (pFieldAddr 1 v9) fun v10 =>
bindW (st 1 v10 v8 w) fun w11 =>
bindP (pNil s7) fun v13 =>
bindP (ldN 5 v13 w11) fun v14 =>
bindP (pNil s0) fun v15 =>
bindW (st 5 v15 v14 w11) fun w16 =>
K (.int .i64 0) w16)
def F60_3 (s0 : Value) (s1 : Value) (s7 : Value) (w : World) (K : Value → World → Prop) : Prop := F60_3b s0 s1 s7 w K
theorem ok60_3 {K : Value → World → Prop} {kn kr : Env → World → Prop} {ke : Nat → Env → World → Prop}
    (hn : ∀ e w, (fun e w => K (e 6) w) e w → kn e w) (hr : ∀ e w, endD Try.prog [.tmp 6] K e w → kr e w) (he : ∀ i e w, noE i e w → ke i e w) :
    ∀ e w, F60_3 (e 0) (e 1) (e 7) w K → denL Try.prog (tabOf T60) 94 fuel ((flat (bodyOf Try.f60)).drop 6) e w kn kr ke := by
  intro e w h
  unfold F60_3 at h
  have e1 : ∀ (_ : Unit), F60_3b (e 0) (e 1) (e 7) w K = denL Try.prog (tabOf T60) 94 fuel ((flat (bodyOf Try.f60)).drop 6) e w (fun e w => K (e 6) w) (endD Try.prog [.tmp 6] K) noE := by intro _; kernel_rfl
  exact seg_end (Eq.mp (e1 ()) h) hn hr he
def F60_5b (s0 : Value) (s1 : Value) (s2 : Value) (s7 : Value) (s22 : Value) (s23 : Value) (s24 : Value) (w : World) (_K : Value → World → Prop) (R3 : Value → Value → Value → Value → Value → Value → Value → World → Prop) : Prop :=
bindP (bAdd s24 (.int .i64 1)) fun v18 =>
R3 s0 s1 s2 s7 s22 s23 v18 w
def F60_5 (s0 : Value) (s1 : Value) (s2 : Value) (s7 : Value) (s22 : Value) (s23 : Value) (s24 : Value) (w : World) (K : Value → World → Prop) (R3 : Value → Value → Value → Value → Value → Value → Value → World → Prop) : Prop := F60_5b s0 s1 s2 s7 s22 s23 s24 w K R3
theorem ok60_5 (R3 : Value → Value → Value → Value → Value → Value → Value → World → Prop) {K : Value → World → Prop} {kn kr : Env → World → Prop} {ke : Nat → Env → World → Prop}
    (hn : ∀ e w, (fun e w => R3 (e 0) (e 1) (e 2) (e 7) (e 22) (e 23) (e 24) w) e w → kn e w) (hr : ∀ e w, endD Try.prog [.tmp 6] K e w → kr e w) (he : ∀ i e w, (blkK 0 (fun e w => F60_3 (e 0) (e 1) (e 7) w K) noE) i e w → ke i e w) :
    ∀ e w, F60_5 (e 0) (e 1) (e 2) (e 7) (e 22) (e 23) (e 24) w K R3 → denL Try.prog (tabOf T60) 94 fuel ((flat (loopB (blkB (nthC (flat (bodyOf Try.f60)) 5)))).drop 3) e w kn kr ke := by
  intro e w h
  unfold F60_5 at h
  have e1 : ∀ (_ : Unit), F60_5b (e 0) (e 1) (e 2) (e 7) (e 22) (e 23) (e 24) w K R3 = denL Try.prog (tabOf T60) 94 fuel ((flat (loopB (blkB (nthC (flat (bodyOf Try.f60)) 5)))).drop 3) e w (fun e w => R3 (e 0) (e 1) (e 2) (e 7) (e 22) (e 23) (e 24) w) (endD Try.prog [.tmp 6] K) (blkK 0 (fun e w => F60_3 (e 0) (e 1) (e 7) w K) noE) := by intro _; kernel_rfl
  exact seg_end (Eq.mp (e1 ()) h) hn hr he
def F60_4b (s0 : Value) (s1 : Value) (s2 : Value) (s7 : Value) (s22 : Value) (s23 : Value) (s24 : Value) (w : World) (K : Value → World → Prop) (R3 : Value → Value → Value → Value → Value → Value → Value → World → Prop) (Y0 : Value → Value → Value → Value → Value → Value → Value → World → Prop) (Y1 : Value → Value → Value → World → Prop) : Prop :=
bindP (bLt s24 s23) fun v19 =>
ifB v19 (
bindP (pIndexL 11 s22 s24) fun v20 =>
bindP (ldN 11 v20 w) fun v21 =>
eAlloc Try.prog 41 w fun v23 w22 =>
bindW (st 11 v23 v21 w22) fun w24 =>
bindP (pNil s7) fun v26 =>
bindP (pFieldAddr 3 v26) fun v27 =>
bindP (ld1 v27 w24.drew) fun v28 =>
bindP (pFieldAddr 0 v23) fun v29 =>
bindP (ld1 v29 w24.drew) fun v30 =>
bindP (fLook Try.prog 156 v28 v30 true w24.drew) fun v31 =>
bindP (pTuple v31 0) fun v32 =>
bindP (pTuple v31 1) fun v33 =>
eAlloc Try.prog 41 w24.drew fun v35 w34 =>
(fok true (ld1 v27 w34) v28 ∧ fok true (ld1 v29 w34) v30 ∧ fok true (fLook Try.prog 156 v28 v30 true w34) v31) ∧ (bindW (st 11 v35 v32 w34) fun w36 =>
bindP (pNil s7) fun v38 =>
bindP (pFieldAddr 4 v38) fun v39 =>
bindP (ld1 v39 w36.drew) fun v40 =>
bindP (ldN 11 v23 w36.drew) fun v41 =>
callP G73 [v41] w36.drew fun v43 w42 =>
fok true (ld1 v39 w42) v40 ∧ (bindP (fLook Try.prog 157 v40 v43 true w42) fun v44 =>
bindP (pTuple v44 0) fun _ =>
bindP (pTuple v44 1) fun v46 =>
bindP (ldN 11 v23 w42) fun v47 =>
callP G22 [v47] w42 fun v49 w48 =>
bindP (bNe Try.prog 24 (.tmp 50) (.const (.int .i64 0)) v49 (.int .i64 0)) fun v50 =>
Sx.stepG (gd false v50) (pFieldAddr 0 v23) fun v51 =>
Sx.stepG (gd false v50) (ld1 v51 w48) fun v52 =>
Sx.stepG (gd false v50) (bLt v52 (.int .i64 1)) fun v53 =>
bindP (pPick v50 (.bool true) v53) fun v54 =>
Sx.stepG (gd false v54) (pFieldAddr 0 v23) fun v55 =>
Sx.stepG (gd false v54) (ld1 v55 w48) fun v56 =>
stepM (gd false v54) s2 fun v57 =>
Sx.stepG (gd false v54) (bGe v56 v57) fun v58 =>
bindP (pPick v54 (.bool true) v58) fun v59 =>
stepM (gd false v59) v33 fun v60 =>
bindP (pPick v59 (.bool true) v60) fun v61 =>
stepM (gd false v61) v46 fun v62 =>
bindP (pPick v61 (.bool true) v62) fun v63 =>
ifB v63 (
K (.int .i64 4) w48) (
bindP (bLt s24 (.int .i64 65536)) fun v64 =>
ifB v64 (
bindP (ldN 11 v23 w48) fun v65 =>
callP G106 [s7, v65] w48 fun _ w66 =>
Y0 s0 s1 s2 s7 s22 s23 s24 w66) (
Y0 s0 s1 s2 s7 s22 s23 s24 w48))))) (
Y1 s0 s1 s7 w)
def F60_4 (s0 : Value) (s1 : Value) (s2 : Value) (s7 : Value) (s22 : Value) (s23 : Value) (s24 : Value) (w : World) (K : Value → World → Prop) (R3 : Value → Value → Value → Value → Value → Value → Value → World → Prop) : Prop := F60_4b s0 s1 s2 s7 s22 s23 s24 w K R3 (fun a0 a1 a2 a7 a22 a23 a24 w => F60_5 a0 a1 a2 a7 a22 a23 a24 w K R3) (fun a0 a1 a7 w => F60_3 a0 a1 a7 w K)
theorem ok60_4 (R3 : Value → Value → Value → Value → Value → Value → Value → World → Prop) {K : Value → World → Prop} {kn kr : Env → World → Prop} {ke : Nat → Env → World → Prop}
    (hn : ∀ e w, (fun e w => R3 (e 0) (e 1) (e 2) (e 7) (e 22) (e 23) (e 24) w) e w → kn e w) (hr : ∀ e w, endD Try.prog [.tmp 6] K e w → kr e w) (he : ∀ i e w, (blkK 0 (fun e w => F60_3 (e 0) (e 1) (e 7) w K) noE) i e w → ke i e w) :
    ∀ e w, F60_4 (e 0) (e 1) (e 2) (e 7) (e 22) (e 23) (e 24) w K R3 → denL Try.prog (tabOf T60) 94 fuel ((flat (loopB (blkB (nthC (flat (bodyOf Try.f60)) 5)))).drop 0) e w kn kr ke := by
  intro e w h
  unfold F60_4 at h
  have e1 : ∀ (Y0 : Value → Value → Value → Value → Value → Value → Value → World → Prop) (Y1 : Value → Value → Value → World → Prop), F60_4b (e 0) (e 1) (e 2) (e 7) (e 22) (e 23) (e 24) w K R3 Y0 Y1 = denL Try.prog (tabOf T60) 94 fuel (((flat (loopB (blkB (nthC (flat (bodyOf Try.f60)) 5)))).drop 0).take 3) e w (fun e w => Y0 (e 0) (e 1) (e 2) (e 7) (e 22) (e 23) (e 24) w) (endD Try.prog [.tmp 6] K) (blkK 0 (fun e w => Y1 (e 0) (e 1) (e 7) w) noE) := by intro Y0 Y1; kernel_rfl
  exact seg 3 (Eq.mp (e1 (fun a0 a1 a2 a7 a22 a23 a24 w => F60_5 a0 a1 a2 a7 a22 a23 a24 w K R3) (fun a0 a1 a7 w => F60_3 a0 a1 a7 w K)) h) (fun e w h => ok60_5 R3 hn hr he e w h) hr he
def F60_2L : Nat → Value → Value → Value → Value → Value → Value → Value → World → (Value → World → Prop) → Prop
  | 0, _, _, _, _, _, _, _, _, _ => False
  | n + 1, s0, s1, s2, s7, s22, s23, s24, w, K => F60_4 s0 s1 s2 s7 s22 s23 s24 w K (fun a0 a1 a2 a7 a22 a23 a24 w => F60_2L n a0 a1 a2 a7 a22 a23 a24 w K)
def F60_2 (s0 : Value) (s1 : Value) (s2 : Value) (s7 : Value) (s22 : Value) (s23 : Value) (s24 : Value) (w : World) (K : Value → World → Prop) : Prop := F60_2L fuel s0 s1 s2 s7 s22 s23 s24 w K
theorem ok60_2 {K : Value → World → Prop} {kn kr : Env → World → Prop} {ke : Nat → Env → World → Prop}
    (hn : ∀ e w, (fun e w => K (e 6) w) e w → kn e w) (hr : ∀ e w, endD Try.prog [.tmp 6] K e w → kr e w) (he : ∀ i e w, noE i e w → ke i e w) :
    ∀ e w, F60_2 (e 0) (e 1) (e 2) (e 7) (e 22) (e 23) (e 24) w K → denL Try.prog (tabOf T60) 94 fuel ((flat (bodyOf Try.f60)).drop 5) e w kn kr ke := by
  intro e w h
  unfold F60_2 at h
  refine seg_loop (id := 0) (body := (loopB (blkB (nthC (flat (bodyOf Try.f60)) 5)))) (l2 := (flat (bodyOf Try.f60)).drop 6) (by kernel_rfl) ?_
  refine loop_ok (FL := fun m e w => F60_2L m (e 0) (e 1) (e 2) (e 7) (e 22) (e 23) (e 24) w K) (fr := endD Try.prog [.tmp 6] K) (fe := (blkK 0 (fun e w => F60_3 (e 0) (e 1) (e 7) w K) noE)) (fun _ _ h => h) ?_ hr (blkK_mono (fun e w h => ok60_3 hn hr he e w h) he) fuel e w h
  intro m e w h
  have h : F60_2L (m + 1) (e 0) (e 1) (e 2) (e 7) (e 22) (e 23) (e 24) w K := h
  rw [F60_2L] at h
  exact ok60_4 (fun a0 a1 a2 a7 a22 a23 a24 w => F60_2L m a0 a1 a2 a7 a22 a23 a24 w K) (fun _ _ h => h) (fun _ _ h => h) (fun _ _ _ h => h) e w h
def F60_1b (s0 : Value) (s1 : Value) (s2 : Value) (w : World) (K : Value → World → Prop) (Y0 : Value → Value → Value → Value → Value → Value → Value → World → Prop) : Prop :=
bindP (bLt s2 (.int .i64 1)) fun v68 =>
stepM (gd false v68) s2 fun v69 =>
Sx.stepG (gd false v68) (bGt v69 (.int .i64 1152921504606846976)) fun v70 =>
bindP (pPick v68 (.bool true) v70) fun v71 =>
ifB v71 (
K (.int .i64 4) w) (
callP G104 [(.int .i64 65536), s2] w fun v73 w72 =>
bindP (lenL s1) fun v74 =>
Y0 s0 s1 s2 v73 s1 v74 (.int .i64 0) w72)
def F60_1 (s0 : Value) (s1 : Value) (s2 : Value) (w : World) (K : Value → World → Prop) : Prop := F60_1b s0 s1 s2 w K (fun a0 a1 a2 a7 a22 a23 a24 w => F60_2 a0 a1 a2 a7 a22 a23 a24 w K)
theorem ok60_1 {K : Value → World → Prop} {kn kr : Env → World → Prop} {ke : Nat → Env → World → Prop}
    (hn : ∀ e w, (fun e w => K (e 6) w) e w → kn e w) (hr : ∀ e w, endD Try.prog [.tmp 6] K e w → kr e w) (he : ∀ i e w, noE i e w → ke i e w) :
    ∀ e w, F60_1 (e 0) (e 1) (e 2) w K → denL Try.prog (tabOf T60) 94 fuel ((flat (bodyOf Try.f60)).drop 0) e w kn kr ke := by
  intro e w h
  unfold F60_1 at h
  have e1 : ∀ (Y0 : Value → Value → Value → Value → Value → Value → Value → World → Prop), F60_1b (e 0) (e 1) (e 2) w K Y0 = denL Try.prog (tabOf T60) 94 fuel (((flat (bodyOf Try.f60)).drop 0).take 5) e w (fun e w => Y0 (e 0) (e 1) (e 2) (e 7) (e 22) (e 23) (e 24) w) (endD Try.prog [.tmp 6] K) noE := by intro Y0; kernel_rfl
  exact seg 5 (Eq.mp (e1 (fun a0 a1 a2 a7 a22 a23 a24 w => F60_2 a0 a1 a2 a7 a22 a23 a24 w K)) h) (fun e w h => ok60_2 hn hr he e w h) hr he
def F60 (x0 : Value) (x1 : Value) (x2 : Value) (w : World) (K : Value → World → Prop) : Prop := F60_1 x0 x1 x2 w K
def G60 : FnT := fun args w K => on3 (fun x0 x1 x2 => F60 x0 x1 x2 w K) args
theorem c60 {x0 x1 x2 : Value} {w : World} {K : Value → World → Prop} (h : F60 x0 x1 x2 w K) : callP G60 [x0, x1, x2] w K := callP_intro (on3_mk (p := fun x0 x1 x2 => F60 x0 x1 x2 w K) h)
theorem ok60 : OkF Try.prog 60 G60 := by
  refine okF_of (tab_ok (l := T60) ⟨ok22, ok73, ok104, ok106, trivial⟩) mixed (n := fuel) Try.func60 Try.call60 fun args w K h => ?_
  obtain ⟨x0, x1, x2, rfl, hh⟩ := of_on3 h
  unfold F60 at hh
  exact fnD_list (c := bodyOf Try.f60) (by kernel_rfl) (by kernel_rfl) (ok60_1 (fun _ _ h => h) (fun _ _ h => h) (fun _ _ _ h => h) (initE [x0, x1, x2]) w hh)
def T12 : List (Nat × FnT) := [(15, G15), (21, G21), (24, G24), (50, G50), (51, G51), (53, G53), (54, G54), (56, G56), (57, G57), (59, G59), (60, G60)]
def F12_7b (w : World) (K : Value → World → Prop) : Prop :=
K (.bool true) w
def F12_7 (w : World) (K : Value → World → Prop) : Prop := F12_7b w K
theorem ok12_7 {K : Value → World → Prop} {kn kr : Env → World → Prop} {ke : Nat → Env → World → Prop}
    (hn : ∀ e w, (fun e w => K (e 6) w) e w → kn e w) (hr : ∀ e w, endD Try.prog [.tmp 6] K e w → kr e w) (he : ∀ i e w, noE i e w → ke i e w) :
    ∀ e w, F12_7 w K → denL Try.prog (tabOf T12) 207 fuel ((flat (bodyOf Try.f12)).drop 18) e w kn kr ke := by
  intro e w h
  unfold F12_7 at h
  have e1 : ∀ (_ : Unit), F12_7b w K = denL Try.prog (tabOf T12) 207 fuel ((flat (bodyOf Try.f12)).drop 18) e w (fun e w => K (e 6) w) (endD Try.prog [.tmp 6] K) noE := by intro _; kernel_rfl
  exact seg_end (Eq.mp (e1 ()) h) hn hr he
def F12_6b (s23 : Value) (s24 : Value) (s192 : Value) (s193 : Value) (w : World) (K : Value → World → Prop) (Y0 : Value → Value → Value → Value → World → Prop) (Y1 : World → Prop) : Prop :=
bindP (bLt s193 s192) fun v1 =>
ifB v1 (
bindP (pIndexL 11 s23 s193) fun v2 =>
bindP (ldN 11 v2 w.drew) fun v3 =>
bindP (pIndexL 11 s24 s193) fun v4 =>
bindP (ldN 11 v4 w.drew) fun v5 =>
callP G24 [v3, v5] w.drew fun v7 w6 =>
bindP (uNot v7) fun v8 =>
ifB v8 (
K (.bool false) w6) (
bindP (bAdd s193 (.int .i64 1)) fun v9 =>
Y0 s23 s24 s192 v9 w6)) (
Y1 w)
def F12_6L : Nat → Value → Value → Value → Value → World → (Value → World → Prop) → Prop
  | 0, _, _, _, _, _, _ => False
  | n + 1, s23, s24, s192, s193, w, K => F12_6b s23 s24 s192 s193 w K (fun a23 a24 a192 a193 w => F12_6L n a23 a24 a192 a193 w K) (fun w => F12_7 w K)
def F12_6 (s23 : Value) (s24 : Value) (s192 : Value) (s193 : Value) (w : World) (K : Value → World → Prop) : Prop := F12_6L fuel s23 s24 s192 s193 w K
theorem ok12_6 {K : Value → World → Prop} {kn kr : Env → World → Prop} {ke : Nat → Env → World → Prop}
    (hn : ∀ e w, (fun e w => K (e 6) w) e w → kn e w) (hr : ∀ e w, endD Try.prog [.tmp 6] K e w → kr e w) (he : ∀ i e w, noE i e w → ke i e w) :
    ∀ e w, F12_6 (e 23) (e 24) (e 192) (e 193) w K → denL Try.prog (tabOf T12) 207 fuel ((flat (bodyOf Try.f12)).drop 17) e w kn kr ke := by
  intro e w h
  unfold F12_6 at h
  refine seg_loop (id := 4) (body := (loopB (blkB (nthC (flat (bodyOf Try.f12)) 17)))) (l2 := (flat (bodyOf Try.f12)).drop 18) (by kernel_rfl) ?_
  refine loop_ok (FL := fun m e w => F12_6L m (e 23) (e 24) (e 192) (e 193) w K) (fr := endD Try.prog [.tmp 6] K) (fe := (blkK 4 (fun e w => F12_7 w K) noE)) (fun _ _ h => h) ?_ hr (blkK_mono (fun e w h => ok12_7 hn hr he e w h) he) fuel e w h
  intro m e w h
  have h : F12_6L (m + 1) (e 23) (e 24) (e 192) (e 193) w K := h
  rw [F12_6L] at h
  have e1 : ∀ (Y0 : Value → Value → Value → Value → World → Prop) (Y1 : World → Prop), F12_6b (e 23) (e 24) (e 192) (e 193) w K Y0 Y1 = denL Try.prog (tabOf T12) 207 fuel (flat (loopB (blkB (nthC (flat (bodyOf Try.f12)) 17)))) e w (fun e w => Y0 (e 23) (e 24) (e 192) (e 193) w) (endD Try.prog [.tmp 6] K) (blkK 4 (fun e w => Y1 w) noE) := by intro Y0 Y1; kernel_rfl
  exact Eq.mp (e1 (fun a23 a24 a192 a193 w => F12_6L m a23 a24 a192 a193 w K) (fun w => F12_7 w K)) h
def F12_5b (s7 : Value) (s9 : Value) (w : World) (K : Value → World → Prop) (Y0 : Value → Value → Value → Value → World → Prop) : Prop :=
callP G54 [s7] w fun v11 w10 =>
callP G54 [s9] w10 fun v13 w12 =>
bindP (lenL v11) fun v14 =>
bindP (lenL v13) fun v15 =>
bindP (bNe Try.prog 3 (.tmp 180) (.tmp 182) v14 v15) fun v16 =>
stepM (gd false v16) s7 fun v17 =>
stepE (gd false v16) (fun k => callP G59 [v17] w12 k) w12 fun v19 w18 =>
stepM (gd false v16) s9 fun v20 =>
stepE (gd false v16) (fun k => callP G59 [v20] w18 k) w18 fun v22 w21 =>
Sx.stepG (gd false v16) (bNe Try.prog 3 (.tmp 186) (.tmp 188) v19 v22) fun v23 =>
bindP (pPick v16 (.bool true) v23) fun v24 =>
ifB v24 (
K (.bool false) w21) (
bindP (lenL v11) fun v25 =>
Y0 v11 v13 v25 (.int .i64 0) w21)
def F12_5 (s7 : Value) (s9 : Value) (w : World) (K : Value → World → Prop) : Prop := F12_5b s7 s9 w K (fun a23 a24 a192 a193 w => F12_6 a23 a24 a192 a193 w K)
theorem ok12_5 {K : Value → World → Prop} {kn kr : Env → World → Prop} {ke : Nat → Env → World → Prop}
    (hn : ∀ e w, (fun e w => K (e 6) w) e w → kn e w) (hr : ∀ e w, endD Try.prog [.tmp 6] K e w → kr e w) (he : ∀ i e w, noE i e w → ke i e w) :
    ∀ e w, F12_5 (e 7) (e 9) w K → denL Try.prog (tabOf T12) 207 fuel ((flat (bodyOf Try.f12)).drop 13) e w kn kr ke := by
  intro e w h
  unfold F12_5 at h
  have e1 : ∀ (Y0 : Value → Value → Value → Value → World → Prop), F12_5b (e 7) (e 9) w K Y0 = denL Try.prog (tabOf T12) 207 fuel (((flat (bodyOf Try.f12)).drop 13).take 4) e w (fun e w => Y0 (e 23) (e 24) (e 192) (e 193) w) (endD Try.prog [.tmp 6] K) noE := by intro Y0; kernel_rfl
  exact seg 4 (Eq.mp (e1 (fun a23 a24 a192 a193 w => F12_6 a23 a24 a192 a193 w K)) h) (fun e w h => ok12_6 hn hr he e w h) hr he
def F12_9b (s1 : Value) (s7 : Value) (s9 : Value) (s14 : Value) (w : World) (_K : Value → World → Prop) (R7 : Value → Value → Value → Value → World → Prop) : Prop :=
bindP (bAdd s14 (.int .i64 1)) fun v26 =>
R7 s1 s7 s9 v26 w
def F12_9 (s1 : Value) (s7 : Value) (s9 : Value) (s14 : Value) (w : World) (K : Value → World → Prop) (R7 : Value → Value → Value → Value → World → Prop) : Prop := F12_9b s1 s7 s9 s14 w K R7
theorem ok12_9 (R7 : Value → Value → Value → Value → World → Prop) {K : Value → World → Prop} {kn kr : Env → World → Prop} {ke : Nat → Env → World → Prop}
    (hn : ∀ e w, (fun e w => R7 (e 1) (e 7) (e 9) (e 14) w) e w → kn e w) (hr : ∀ e w, endD Try.prog [.tmp 6] K e w → kr e w) (he : ∀ i e w, (blkK 2 (fun e w => F12_5 (e 7) (e 9) w K) noE) i e w → ke i e w) :
    ∀ e w, F12_9 (e 1) (e 7) (e 9) (e 14) w K R7 → denL Try.prog (tabOf T12) 207 fuel ((flat (loopB (blkB (nthC (flat (bodyOf Try.f12)) 12)))).drop 3) e w kn kr ke := by
  intro e w h
  unfold F12_9 at h
  have e1 : ∀ (_ : Unit), F12_9b (e 1) (e 7) (e 9) (e 14) w K R7 = denL Try.prog (tabOf T12) 207 fuel ((flat (loopB (blkB (nthC (flat (bodyOf Try.f12)) 12)))).drop 3) e w (fun e w => R7 (e 1) (e 7) (e 9) (e 14) w) (endD Try.prog [.tmp 6] K) (blkK 2 (fun e w => F12_5 (e 7) (e 9) w K) noE) := by intro _; kernel_rfl
  exact seg_end (Eq.mp (e1 ()) h) hn hr he
def F12_8b (s1 : Value) (s7 : Value) (s9 : Value) (s14 : Value) (w : World) (K : Value → World → Prop) (R7 : Value → Value → Value → Value → World → Prop) (Y0 : Value → Value → Value → Value → World → Prop) (Y1 : Value → Value → World → Prop) : Prop :=
bindP (lenL s1) fun v27 =>
bindP (bLt s14 v27) fun v28 =>
stepM (gd true v28) s14 fun v29 =>
Sx.stepG (gd true v28) (bLt v29 (.int .i64 60)) fun v30 =>
bindP (pPick v28 v30 (.bool false)) fun v31 =>
ifB v31 (
bindP (pIndexL 1 s1 s14) fun v32 =>
bindP (ld1 v32 w) fun v33 =>
callP G51 [v33] w fun v35 w34 =>
callP G53 [s7, v35] w34 fun v37 w36 =>
bindP (pTuple v37 0) fun v38 =>
bindP (pTuple v37 1) fun v39 =>
bindP (pIndexL 1 s1 s14) fun v40 =>
bindP (ld1 v40 w36) fun v41 =>
callP G51 [v41] w36 fun v43 w42 =>
callP G53 [s9, v43] w42 fun v45 w44 =>
bindP (pTuple v45 0) fun v46 =>
bindP (pTuple v45 1) fun v47 =>
bindP (bNe Try.prog 3 (.tmp 134) (.tmp 135) v38 v46) fun v48 =>
stepM (gd false v48) v39 fun v49 =>
stepM (gd false v48) v47 fun v50 =>
Sx.stepG (gd false v48) (bNe Try.prog 24 (.tmp 138) (.tmp 139) v49 v50) fun v51 =>
bindP (pPick v48 (.bool true) v51) fun v52 =>
ifB v52 (
K (.bool false) w44) (
bindP (pIndexL 1 s1 s14) fun v53 =>
bindP (ld1 v53 w44) fun v54 =>
bindP (bRem v54 (.int .i64 3)) fun v55 =>
bindP (bEq Try.prog 3 (.tmp 146) (.const (.int .i64 0)) v55 (.int .i64 0)) fun v56 =>
ifB v56 (
callP G56 [s7] w44 fun v58 w57 =>
bindP (pTuple v58 0) fun v59 =>
bindP (pTuple v58 1) fun v60 =>
eAlloc Try.prog 41 w57 fun v62 w61 =>
bindW (st 11 v62 v59 w61) fun w63 =>
callP G56 [s9] w63 fun v66 w65 =>
bindP (pTuple v66 0) fun v67 =>
bindP (pTuple v66 1) fun v68 =>
eAlloc Try.prog 41 w65 fun v70 w69 =>
bindW (st 11 v70 v67 w69) fun w71 =>
bindP (pFieldAddr 0 v62) fun v73 =>
bindP (ld1 v73 w71) fun v74 =>
callP G57 [s7, v74] w71 fun _ w75 =>
bindP (pFieldAddr 0 v70) fun v77 =>
bindP (ld1 v77 w75) fun v78 =>
callP G57 [s9, v78] w75 fun _ w79 =>
bindP (ldN 11 v62 w79) fun v81 =>
bindP (ldN 11 v70 w79) fun v82 =>
callP G24 [v81, v82] w79 fun v84 w83 =>
bindP (uNot v84) fun v85 =>
stepM (gd false v85) v60 fun v86 =>
stepM (gd false v85) v68 fun v87 =>
Sx.stepG (gd false v85) (bNe Try.prog 4 (.tmp 171) (.tmp 172) v86 v87) fun v88 =>
bindP (pPick v85 (.bool true) v88) fun v89 =>
ifB v89 (
K (.bool false) w83) (
Y0 s1 s7 s9 s14 w83)) (
Y0 s1 s7 s9 s14 w44))) (
Y1 s7 s9 w)
def F12_8 (s1 : Value) (s7 : Value) (s9 : Value) (s14 : Value) (w : World) (K : Value → World → Prop) (R7 : Value → Value → Value → Value → World → Prop) : Prop := F12_8b s1 s7 s9 s14 w K R7 (fun a1 a7 a9 a14 w => F12_9 a1 a7 a9 a14 w K R7) (fun a7 a9 w => F12_5 a7 a9 w K)
theorem ok12_8 (R7 : Value → Value → Value → Value → World → Prop) {K : Value → World → Prop} {kn kr : Env → World → Prop} {ke : Nat → Env → World → Prop}
    (hn : ∀ e w, (fun e w => R7 (e 1) (e 7) (e 9) (e 14) w) e w → kn e w) (hr : ∀ e w, endD Try.prog [.tmp 6] K e w → kr e w) (he : ∀ i e w, (blkK 2 (fun e w => F12_5 (e 7) (e 9) w K) noE) i e w → ke i e w) :
    ∀ e w, F12_8 (e 1) (e 7) (e 9) (e 14) w K R7 → denL Try.prog (tabOf T12) 207 fuel ((flat (loopB (blkB (nthC (flat (bodyOf Try.f12)) 12)))).drop 0) e w kn kr ke := by
  intro e w h
  unfold F12_8 at h
  have e1 : ∀ (Y0 : Value → Value → Value → Value → World → Prop) (Y1 : Value → Value → World → Prop), F12_8b (e 1) (e 7) (e 9) (e 14) w K R7 Y0 Y1 = denL Try.prog (tabOf T12) 207 fuel (((flat (loopB (blkB (nthC (flat (bodyOf Try.f12)) 12)))).drop 0).take 3) e w (fun e w => Y0 (e 1) (e 7) (e 9) (e 14) w) (endD Try.prog [.tmp 6] K) (blkK 2 (fun e w => Y1 (e 7) (e 9) w) noE) := by intro Y0 Y1; kernel_rfl
  exact seg 3 (Eq.mp (e1 (fun a1 a7 a9 a14 w => F12_9 a1 a7 a9 a14 w K R7) (fun a7 a9 w => F12_5 a7 a9 w K)) h) (fun e w h => ok12_9 R7 hn hr he e w h) hr he
def F12_4L : Nat → Value → Value → Value → Value → World → (Value → World → Prop) → Prop
  | 0, _, _, _, _, _, _ => False
  | n + 1, s1, s7, s9, s14, w, K => F12_8 s1 s7 s9 s14 w K (fun a1 a7 a9 a14 w => F12_4L n a1 a7 a9 a14 w K)
def F12_4 (s1 : Value) (s7 : Value) (s9 : Value) (s14 : Value) (w : World) (K : Value → World → Prop) : Prop := F12_4L fuel s1 s7 s9 s14 w K
theorem ok12_4 {K : Value → World → Prop} {kn kr : Env → World → Prop} {ke : Nat → Env → World → Prop}
    (hn : ∀ e w, (fun e w => K (e 6) w) e w → kn e w) (hr : ∀ e w, endD Try.prog [.tmp 6] K e w → kr e w) (he : ∀ i e w, noE i e w → ke i e w) :
    ∀ e w, F12_4 (e 1) (e 7) (e 9) (e 14) w K → denL Try.prog (tabOf T12) 207 fuel ((flat (bodyOf Try.f12)).drop 12) e w kn kr ke := by
  intro e w h
  unfold F12_4 at h
  refine seg_loop (id := 2) (body := (loopB (blkB (nthC (flat (bodyOf Try.f12)) 12)))) (l2 := (flat (bodyOf Try.f12)).drop 13) (by kernel_rfl) ?_
  refine loop_ok (FL := fun m e w => F12_4L m (e 1) (e 7) (e 9) (e 14) w K) (fr := endD Try.prog [.tmp 6] K) (fe := (blkK 2 (fun e w => F12_5 (e 7) (e 9) w K) noE)) (fun _ _ h => h) ?_ hr (blkK_mono (fun e w h => ok12_5 hn hr he e w h) he) fuel e w h
  intro m e w h
  have h : F12_4L (m + 1) (e 1) (e 7) (e 9) (e 14) w K := h
  rw [F12_4L] at h
  exact ok12_8 (fun a1 a7 a9 a14 w => F12_4L m a1 a7 a9 a14 w K) (fun _ _ h => h) (fun _ _ h => h) (fun _ _ _ h => h) e w h
def F12_3b (s1 : Value) (s2 : Value) (s7 : Value) (s9 : Value) (w : World) (K : Value → World → Prop) (Y0 : Value → Value → Value → Value → World → Prop) : Prop :=
callP G54 [s7] w fun v91 w90 =>
bindP (lenL v91) fun v92 =>
bindP (bAdd v92 (.int .i64 1)) fun v93 =>
callP G15 [s2, v93] w90 fun v95 w94 =>
bindP (pSliceL 11 v91 (some v95) none none) fun v96 =>
bindP (pSliceL 11 v91 none (some v95) none) fun v97 =>
eBuildSl Try.prog 101 0 [] w94.drew fun v99 w98 =>
eAppend Try.prog 101 101 v99 v96 w98 fun v101 w100 =>
eAppend Try.prog 101 101 v101 v97 w100 fun v103 w102 =>
callP G59 [s7] w102 fun v105 w104 =>
callP G60 [s9, v103, v105] w104 fun v107 w106 =>
bindP (bNe Try.prog 24 (.tmp 102) (.const (.int .i64 0)) v107 (.int .i64 0)) fun v108 =>
ifB v108 (
K (.bool false) w106) (
Y0 s1 s7 s9 (.int .i64 0) w106)
def F12_3 (s1 : Value) (s2 : Value) (s7 : Value) (s9 : Value) (w : World) (K : Value → World → Prop) : Prop := F12_3b s1 s2 s7 s9 w K (fun a1 a7 a9 a14 w => F12_4 a1 a7 a9 a14 w K)
theorem ok12_3 {K : Value → World → Prop} {kn kr : Env → World → Prop} {ke : Nat → Env → World → Prop}
    (hn : ∀ e w, (fun e w => K (e 6) w) e w → kn e w) (hr : ∀ e w, endD Try.prog [.tmp 6] K e w → kr e w) (he : ∀ i e w, noE i e w → ke i e w) :
    ∀ e w, F12_3 (e 1) (e 2) (e 7) (e 9) w K → denL Try.prog (tabOf T12) 207 fuel ((flat (bodyOf Try.f12)).drop 7) e w kn kr ke := by
  intro e w h
  unfold F12_3 at h
  have e1 : ∀ (Y0 : Value → Value → Value → Value → World → Prop), F12_3b (e 1) (e 2) (e 7) (e 9) w K Y0 = denL Try.prog (tabOf T12) 207 fuel (((flat (bodyOf Try.f12)).drop 7).take 5) e w (fun e w => Y0 (e 1) (e 7) (e 9) (e 14) w) (endD Try.prog [.tmp 6] K) noE := by intro Y0; kernel_rfl
  exact seg 5 (Eq.mp (e1 (fun a1 a7 a9 a14 w => F12_4 a1 a7 a9 a14 w K)) h) (fun e w h => ok12_4 hn hr he e w h) hr he
def F12_11b (s0 : Value) (s1 : Value) (s2 : Value) (s7 : Value) (s9 : Value) (s11 : Value) (w : World) (_K : Value → World → Prop) (R9 : Value → Value → Value → Value → Value → Value → World → Prop) : Prop :=
bindP (bAdd s11 (.int .i64 1)) fun v109 =>
R9 s0 s1 s2 s7 s9 v109 w
def F12_11 (s0 : Value) (s1 : Value) (s2 : Value) (s7 : Value) (s9 : Value) (s11 : Value) (w : World) (K : Value → World → Prop) (R9 : Value → Value → Value → Value → Value → Value → World → Prop) : Prop := F12_11b s0 s1 s2 s7 s9 s11 w K R9
theorem ok12_11 (R9 : Value → Value → Value → Value → Value → Value → World → Prop) {K : Value → World → Prop} {kn kr : Env → World → Prop} {ke : Nat → Env → World → Prop}
    (hn : ∀ e w, (fun e w => R9 (e 0) (e 1) (e 2) (e 7) (e 9) (e 11) w) e w → kn e w) (hr : ∀ e w, endD Try.prog [.tmp 6] K e w → kr e w) (he : ∀ i e w, (blkK 0 (fun e w => F12_3 (e 1) (e 2) (e 7) (e 9) w K) noE) i e w → ke i e w) :
    ∀ e w, F12_11 (e 0) (e 1) (e 2) (e 7) (e 9) (e 11) w K R9 → denL Try.prog (tabOf T12) 207 fuel ((flat (loopB (blkB (nthC (flat (bodyOf Try.f12)) 6)))).drop 3) e w kn kr ke := by
  intro e w h
  unfold F12_11 at h
  have e1 : ∀ (_ : Unit), F12_11b (e 0) (e 1) (e 2) (e 7) (e 9) (e 11) w K R9 = denL Try.prog (tabOf T12) 207 fuel ((flat (loopB (blkB (nthC (flat (bodyOf Try.f12)) 6)))).drop 3) e w (fun e w => R9 (e 0) (e 1) (e 2) (e 7) (e 9) (e 11) w) (endD Try.prog [.tmp 6] K) (blkK 0 (fun e w => F12_3 (e 1) (e 2) (e 7) (e 9) w K) noE) := by intro _; kernel_rfl
  exact seg_end (Eq.mp (e1 ()) h) hn hr he
def F12_10b (s0 : Value) (s1 : Value) (s2 : Value) (s7 : Value) (s9 : Value) (s11 : Value) (w : World) (_K : Value → World → Prop) (R9 : Value → Value → Value → Value → Value → Value → World → Prop) (Y0 : Value → Value → Value → Value → Value → Value → World → Prop) (Y1 : Value → Value → Value → Value → World → Prop) : Prop :=
bindP (lenL s0) fun v110 =>
bindP (bLt s11 v110) fun v111 =>
stepM (gd true v111) s11 fun v112 =>
Sx.stepG (gd true v111) (bLt v112 (.int .i64 60)) fun v113 =>
bindP (pPick v111 v113 (.bool false)) fun v114 =>
ifB v114 (
bindP (pIndexL 1 s0 s11) fun v115 =>
bindP (ld1 v115 w) fun v116 =>
callP G51 [v116] w fun v118 w117 =>
callP G53 [s7, v118] w117 fun _ w119 =>
bindP (pIndexL 1 s0 s11) fun v121 =>
bindP (ld1 v121 w119) fun v122 =>
bindP (bRem v122 (.int .i64 5)) fun v123 =>
bindP (bEq Try.prog 3 (.tmp 73) (.const (.int .i64 0)) v123 (.int .i64 0)) fun v124 =>
ifB v124 (
bindP (pIndexL 1 s0 s11) fun v125 =>
bindP (ld1 v125 w119) fun v126 =>
bindP (bQuo v126 (.int .i64 5)) fun v127 =>
callP G15 [v127, (.int .i64 20)] w119 fun v129 w128 =>
callP G57 [s7, v129] w128 fun _ w130 =>
Y0 s0 s1 s2 s7 s9 s11 w130) (
Y0 s0 s1 s2 s7 s9 s11 w119)) (
Y1 s1 s2 s7 s9 w)
def F12_10 (s0 : Value) (s1 : Value) (s2 : Value) (s7 : Value) (s9 : Value) (s11 : Value) (w : World) (K : Value → World → Prop) (R9 : Value → Value → Value → Value → Value → Value → World → Prop) : Prop := F12_10b s0 s1 s2 s7 s9 s11 w K R9 (fun a0 a1 a2 a7 a9 a11 w => F12_11 a0 a1 a2 a7 a9 a11 w K R9) (fun a1 a2 a7 a9 w => F12_3 a1 a2 a7 a9 w K)
theorem ok12_10 (R9 : Value → Value → Value → Value → Value → Value → World → Prop) {K : Value → World → Prop} {kn kr : Env → World → Prop} {ke : Nat → Env → World → Prop}
    (hn : ∀ e w, (fun e w => R9 (e 0) (e 1) (e 2) (e 7) (e 9) (e 11) w) e w → kn e w) (hr : ∀ e w, endD Try.prog [.tmp 6] K e w → kr e w) (he : ∀ i e w, (blkK 0 (fun e w => F12_3 (e 1) (e 2) (e 7) (e 9) w K) noE) i e w → ke i e w) :
    ∀ e w, F12_10 (e 0) (e 1) (e 2) (e 7) (e 9) (e 11) w K R9 → denL Try.prog (tabOf T12) 207 fuel ((flat (loopB (blkB (nthC (flat (bodyOf Try.f12)) 6)))).drop 0) e w kn kr ke := by
  intro e w h
  unfold F12_10 at h
  have e1 : ∀ (Y0 : Value → Value → Value → Value → Value → Value → World → Prop) (Y1 : Value → Value → Value → Value → World → Prop), F12_10b (e 0) (e 1) (e 2) (e 7) (e 9) (e 11) w K R9 Y0 Y1 = denL Try.prog (tabOf T12) 207 fuel (((flat (loopB (blkB (nthC (flat (bodyOf Try.f12)) 6)))).drop 0).take 3) e w (fun e w => Y0 (e 0) (e 1) (e 2) (e 7) (e 9) (e 11) w) (endD Try.prog [.tmp 6] K) (blkK 0 (fun e w => Y1 (e 1) (e 2) (e 7) (e 9) w) noE) := by intro Y0 Y1; kernel_rfl
  exact seg 3 (Eq.mp (e1 (fun a0 a1 a2 a7 a9 a11 w => F12_11 a0 a1 a2 a7 a9 a11 w K R9) (fun a1 a2 a7 a9 w => F12_3 a1 a2 a7 a9 w K)) h) (fun e w h => ok12_11 R9 hn hr he e w h) hr he
def F12_2L : Nat → Value → Value → Value → Value → Value → Value → World → (Value → World → Prop) → Prop
  | 0, _, _, _, _, _, _, _, _ => False
  | n + 1, s0, s1, s2, s7, s9, s11, w, K => F12_10 s0 s1 s2 s7 s9 s11 w K (fun a0 a1 a2 a7 a9 a11 w => F12_2L n a0 a1 a2 a7 a9 a11 w K)
def F12_2 (s0 : Value) (s1 : Value) (s2 : Value) (s7 : Value) (s9 : Value) (s11 : Value) (w : World) (K : Value → World → Prop) : Prop := F12_2L fuel s0 s1 s2 s7 s9 s11 w K
theorem ok12_2 {K : Value → World → Prop} {kn kr : Env → World → Prop} {ke : Nat → Env → World → Prop}
    (hn : ∀ e w, (fun e w => K (e 6) w) e w → kn e w) (hr : ∀ e w, endD Try.prog [.tmp 6] K e w → kr e w) (he : ∀ i e w, noE i e w → ke i e w) :
    ∀ e w, F12_2 (e 0) (e 1) (e 2) (e 7) (e 9) (e 11) w K → denL Try.prog (tabOf T12) 207 fuel ((flat (bodyOf Try.f12)).drop 6) e w kn kr ke := by
  intro e w h
  unfold F12_2 at h
  refine seg_loop (id := 0) (body := (loopB (blkB (nthC (flat (bodyOf Try.f12)) 6)))) (l2 := (flat (bodyOf Try.f12)).drop 7) (by kernel_rfl) ?_
  refine loop_ok (FL := fun m e w => F12_2L m (e 0) (e 1) (e 2) (e 7) (e 9) (e 11) w K) (fr := endD Try.prog [.tmp 6] K) (fe := (blkK 0 (fun e w => F12_3 (e 1) (e 2) (e 7) (e 9) w K) noE)) (fun _ _ h => h) ?_ hr (blkK_mono (fun e w h => ok12_3 hn hr he e w h) he) fuel e w h
  intro m e w h
  have h : F12_2L (m + 1) (e 0) (e 1) (e 2) (e 7) (e 9) (e 11) w K := h
  rw [F12_2L] at h
  exact ok12_10 (fun a0 a1 a2 a7 a9 a11 w => F12_2L m a0 a1 a2 a7 a9 a11 w K) (fun _ _ h => h) (fun _ _ h => h) (fun _ _ _ h => h) e w h
def F12_1b (s0 : Value) (s1 : Value) (s2 : Value) (w : World) (K : Value → World → Prop) (Y0 : Value → Value → Value → Value → Value → Value → World → Prop) : Prop :=
callP G50 [(.int .i64 20)] w fun v133 w132 =>
bindP (pTuple v133 0) fun v134 =>
bindP (pTuple v133 1) fun v135 =>
callP G50 [(.int .i64 20)] w132 fun v137 w136 =>
bindP (pTuple v137 0) fun v138 =>
bindP (pTuple v137 1) fun v139 =>
bindP (bEq Try.prog 93 (.tmp 34) (.const (.pointer none)) v134 (.pointer none)) fun v140 =>
stepM (gd false v140) v138 fun v141 =>
Sx.stepG (gd false v140) (bEq Try.prog 93 (.tmp 37) (.const (.pointer none)) v141 (.pointer none)) fun v142 =>
bindP (pPick v140 (.bool true) v142) fun v143 =>
stepM (gd false v143) v135 fun v144 =>
Sx.stepG (gd false v143) (bNe Try.prog 24 (.tmp 41) (.const (.int .i64 0)) v144 (.int .i64 0)) fun v145 =>
bindP (pPick v143 (.bool true) v145) fun v146 =>
stepM (gd false v146) v139 fun v147 =>
Sx.stepG (gd false v146) (bNe Try.prog 24 (.tmp 45) (.const (.int .i64 0)) v147 (.int .i64 0)) fun v148 =>
bindP (pPick v146 (.bool true) v148) fun v149 =>
stepE (gd false v149) (fun k => callP G21 [] w136 k) w136 fun v151 w150 =>
Sx.stepG (gd false v149) (uNot v151) fun v152 =>
bindP (pPick v149 (.bool true) v152) fun v153 =>
ifB v153 (
K (.bool false) w150) (
Y0 s0 s1 s2 v134 v138 (.int .i64 0) w150)
def F12_1 (s0 : Value) (s1 : Value) (s2 : Value) (w : World) (K : Value → World → Prop) : Prop := F12_1b s0 s1 s2 w K (fun a0 a1 a2 a7 a9 a11 w => F12_2 a0 a1 a2 a7 a9 a11 w K)
theorem ok12_1 {K : Value → World → Prop} {kn kr : Env → World → Prop} {ke : Nat → Env → World → Prop}
    (hn : ∀ e w, (fun e w => K (e 6) w) e w → kn e w) (hr : ∀ e w, endD Try.prog [.tmp 6] K e w → kr e w) (he : ∀ i e w, noE i e w → ke i e w) :
    ∀ e w, F12_1 (e 0) (e 1) (e 2) w K → denL Try.prog (tabOf T12) 207 fuel ((flat (bodyOf Try.f12)).drop 0) e w kn kr ke := by
  intro e w h
  unfold F12_1 at h
  have e1 : ∀ (Y0 : Value → Value → Value → Value → Value → Value → World → Prop), F12_1b (e 0) (e 1) (e 2) w K Y0 = denL Try.prog (tabOf T12) 207 fuel (((flat (bodyOf Try.f12)).drop 0).take 6) e w (fun e w => Y0 (e 0) (e 1) (e 2) (e 7) (e 9) (e 11) w) (endD Try.prog [.tmp 6] K) noE := by intro Y0; kernel_rfl
  exact seg 6 (Eq.mp (e1 (fun a0 a1 a2 a7 a9 a11 w => F12_2 a0 a1 a2 a7 a9 a11 w K)) h) (fun e w h => ok12_2 hn hr he e w h) hr he
def F12 (x0 : Value) (x1 : Value) (x2 : Value) (w : World) (K : Value → World → Prop) : Prop := F12_1 x0 x1 x2 w K
def G12 : FnT := fun args w K => on3 (fun x0 x1 x2 => F12 x0 x1 x2 w K) args
theorem c12 {x0 x1 x2 : Value} {w : World} {K : Value → World → Prop} (h : F12 x0 x1 x2 w K) : callP G12 [x0, x1, x2] w K := callP_intro (on3_mk (p := fun x0 x1 x2 => F12 x0 x1 x2 w K) h)
theorem ok12 : OkF Try.prog 12 G12 := by
  refine okF_of (tab_ok (l := T12) ⟨ok15, ok21, ok24, ok50, ok51, ok53, ok54, ok56, ok57, ok59, ok60, trivial⟩) mixed (n := fuel) Try.func12 Try.call12 fun args w K h => ?_
  obtain ⟨x0, x1, x2, rfl, hh⟩ := of_on3 h
  unfold F12 at hh
  exact fnD_list (c := bodyOf Try.f12) (by kernel_rfl) (by kernel_rfl) (ok12_1 (fun _ _ h => h) (fun _ _ h => h) (fun _ _ _ h => h) (initE [x0, x1, x2]) w hh)
end Go.Proofs.Gong

/- Ho6 -/
namespace Go.Proofs.Gong
open Go Go.Sx Go.Proofs
set_option maxRecDepth 100000
attribute [local irreducible] fBuild fLook fZero eqv bEqv Cl MapH LsH SlH ld1 ldN st callP eBox eAlloc lenM lenL eMapSet eDelete eAppend eBuildSl eRange eNext
def HoldA (v : Value) (n next : Int) (cs : List Ctx) : HP := HEx fun hn => HEx fun m => HEx fun I => HEx fun M => HPr (HInv n next hn m I M cs ∧ 1 ≤ next ∧ next ≤ 4611686018427387904) (HoldI v n next hn m I M)
def zeroC : Ctx := ⟨0, 0, [], [], 0, ⟨[], [], [], 0, []⟩, []⟩
section
variable {w0 w : World} {L : List HP} {K : Value → World → Prop} {v : Value} {n next hn : Int} {m : Held} {I : List (Sgn × Int)} {M : List It} {cs : List Ctx} {c : Ctx} {tv s : Value}
theorem holdA_iff : Sat w0 (HoldA v n next cs :: L) w ↔ ∃ hn m I M, (HInv n next hn m I M cs ∧ 1 ≤ next ∧ next ≤ 4611686018427387904) ∧ Sat w0 (HoldI v n next hn m I M :: L) w := by
  simp only [HoldA, Sat.ex_iff, Sat.pr_iff]
theorem holdA_inv (h : Sat w0 (HoldA v n next cs :: L) w) : ∃ hn m I M, HInv n next hn m I M cs := by
  obtain ⟨hn, m, I, M, H, _⟩ := holdA_iff.1 h
  exact ⟨hn, m, I, M, H.1⟩
theorem bag_get {k : Int} (hg : aGet k m = some (c, s)) (h : Sat w0 (bag m :: L) w) : Sat w0 (LsH cI 1 3 s c.times :: bag (aDel k m) :: L) w := by
  have h1 := bag_iff.1 h
  have h2 : Sat w0 (((k, (c, s)) :: aDel k m).map heldP ++ L) w := h1.perm (((aDel_perm hg).symm.map heldP).append_right L)
  have h3 : Sat w0 (heldP (k, (c, s)) :: ((aDel k m).map heldP ++ L)) w := h2
  have h4 : Sat w0 (bag (aDel k m) :: heldP (k, (c, s)) :: L) w := bag_iff.2 (h3.perm List.perm_middle.symm)
  exact h4.perm (.swap _ _ _)
theorem bag_rd {k : Int} {L' : List HP} (hg : aGet k m = some (c, s)) (g : Fnt (bag m) L L') : RdL w0 L cI 1 s c.times := fun w hs => ls_rd (bag_get hg (hs.front g))
theorem hnext_spec (h : Sat w0 (HoldA v n next cs :: L) w) (hK : K (.int .i64 next) w) : callP G59 [v] w K := by
  refine c59 ?_
  unfold F59
  replace h := holdA_iff.1 h
  obtain ⟨hn, m, I, M, H, h⟩ := h
  replace h := hold_iff.1 h
  obtain ⟨p, dp, ml, mi, rfl, h⟩ := h
  (repeat (first
 | (simp (disch := omega) only [evA, evB, bAdd_i64, bSub_i64, ptr, Nat.zero_add, Bool.not_true, Bool.not_false, Option.isNone_some, Option.isNone_none, Option.isSome_some, Option.isSome_none, decide_true, decide_false, eq_self, true_and, and_assoc])
 | ((with_reducible apply go_ld1 h))
 | ((with_reducible apply go_ldA h); (rfl))
 | ((with_reducible apply go_ldN h))
 | ((with_reducible apply go_st h); intro _ h)
 | ((with_reducible apply go_stA h); (rfl); (rfl); (first | rfl | simp [OneV.o]); intro _ h)
 | ((with_reducible apply go_stN h); (rfl); (first | rfl | simp [OneV.o]); intro _ h)
 | ((with_reducible apply go_box h); rfl; intro _ _ h)
 | ((with_reducible apply go_rd h); (rfl))
 | ((with_reducible apply go_rdN h); (rfl))
 | ((with_reducible apply go_rlen h); (rfl))
 | ((with_reducible apply go_lenL h))
 | ((with_reducible apply go_ix h); (omega))
 | ((with_reducible apply go_elN h); (case hi => omega))
 | ((with_reducible apply go_fa h); (omega); (omega))
 | ((with_reducible apply go_f1 h); (case hi => omega); (case hx => exact inferInstance))
 | ((with_reducible apply go_rf1 h); (case hi => omega); (case hx => exact inferInstance); (case hv => rfl))
 | ((with_reducible apply go_rel h); (case hi => omega); (case hv => rfl))
))
  exact hK
theorem anew_spec (h1 : 1 ≤ n) (h2 : n ≤ 65536) (h : Sat w0 L w) (hK : ∀ p w', Sat w0 (HoldA (ptr p) n 1 [] :: L) w' → K (.tuple #[ptr p, .int .i64 0]) w') : callP G50 [.int .i64 n] w K :=
  hnew_spec h1 h2 h fun p w h => hK p w (holdA_iff.2 ⟨n, [], [], [], ⟨.start h1 h2 1, by omega, by omega⟩, h⟩)
def addA (n : Int) (cs : List Ctx) (c : Ctx) : Int := if okC c = false then 4 else if (cs.find? fun d => decide (sgnOf d = sgnOf c)).isSome = true then 6 else if n ≤ (cs.length : Int) then 200 else 0
theorem HInv.find (H : HInv n next hn m I M cs) (g : Sgn) : aGet g I = (cs.find? fun d => decide (sgnOf d = g)).map (·.id) := by
  cases hf : cs.find? fun d => decide (sgnOf d = g) with
  | none =>
    rw [List.find?_eq_none] at hf
    exact H.snone fun d hd e => by have := hf d hd; simp [e] at this
  | some d =>
    have h1 := List.mem_of_find?_eq_some hf
    have h2 := List.find?_some hf
    simp only [decide_eq_true_eq] at h2
    rw [← h2]; exact H.sget h1
theorem aadd_spec (hf : c.fits) (hnx : next + 1 ≤ 4611686018427387904) (hr : RdL w0 L cI 1 tv c.times) (h : Sat w0 (HoldA v n next cs :: L) w)
    (hK0 : addA n cs c ≠ 0 → ∀ w', Sat w0 (HoldA v n next cs :: L) w' → K (.tuple #[.int .i64 0, .int .i64 (addA n cs c)]) w')
    (hK1 : addA n cs c = 0 → ∀ w', Sat w0 (HoldA v n (next + 1) (cs ++ [{ c with id := next }]) :: L) w' → K (.tuple #[.int .i64 next, .int .i64 0]) w') : callP G53 [v, ctxV c tv] w K := by
  replace h := holdA_iff.1 h
  obtain ⟨hn, m, I, M, ⟨H, hn1, hn2⟩, h⟩ := h
  have e : addC n m I c = addA n cs c := by
    unfold addC addA
    rw [H.find, H.len, Option.isSome_map]
  refine hadd_spec (c := c) hf (by omega) hr h (fun hne w h => ?_) (fun he s w h => ?_)
  · rw [e] at hne ⊢
    exact hK0 hne w (holdA_iff.2 ⟨hn, m, I, M, ⟨H, hn1, hn2⟩, h⟩)
  · rw [e] at he
    refine hK1 he w (holdA_iff.2 ⟨hn, _, _, _, ⟨?_, by omega, hnx⟩, h⟩)
    unfold addA at he
    split at he
    · cases he
    · rename_i h1
      split at he
      · cases he
      · rename_i h2
        split at he
        · cases he
        · rename_i h3
          refine H.add (by simpa using h1) hf (fun d hd e => ?_) (by omega) hn1
          have : (cs.find? fun d => decide (sgnOf d = sgnOf c)).isSome = true := List.find?_isSome.2 ⟨d, hd, by simpa using e⟩
          exact h2 this
theorem zc41 : fZero Try.prog 41 = some (ctxV zeroC (.slice none 0 0)) := z41
theorem soonest_spec {dp : Value} (h : Sat w0 (HeapH dp hn M :: L) w) (hK : ∀ w', Sat w0 (HeapH dp hn M :: L) w' → K (.tuple #[.int .i64 (M.head?.getD (0, 0)).1, .bool M.head?.isSome]) w') : callP G109 [.agg #[dp]] w K := by
  refine c109 ?_
  unfold F109
  obtain ⟨d, rfl⟩ := heap_ptr h
  (repeat (first
 | (simp (disch := omega) only [evA, evB, bAdd_i64, bSub_i64, ptr, Nat.zero_add, Bool.not_true, Bool.not_false, Option.isNone_some, Option.isNone_none, Option.isSome_some, Option.isSome_none, decide_true, decide_false, eq_self, true_and, and_assoc])
 | ((with_reducible apply go_ld1 h))
 | ((with_reducible apply go_ldA h); (rfl))
 | ((with_reducible apply go_ldN h))
 | ((with_reducible apply go_st h); intro _ h)
 | ((with_reducible apply go_stA h); (rfl); (rfl); (first | rfl | simp [OneV.o]); intro _ h)
 | ((with_reducible apply go_stN h); (rfl); (first | rfl | simp [OneV.o]); intro _ h)
 | ((with_reducible apply go_box h); rfl; intro _ _ h)
 | ((with_reducible apply go_rd h); (rfl))
 | ((with_reducible apply go_rdN h); (rfl))
 | ((with_reducible apply go_rlen h); (rfl))
 | ((with_reducible apply go_lenL h))
 | ((with_reducible apply go_ix h); (omega))
 | ((with_reducible apply go_elN h); (case hi => omega))
 | ((with_reducible apply go_fa h); (omega); (omega))
 | ((with_reducible apply go_f1 h); (case hi => omega); (case hx => exact inferInstance))
 | ((with_reducible apply go_rf1 h); (case hi => omega); (case hx => exact inferInstance); (case hv => rfl))
 | ((with_reducible apply go_rel h); (case hi => omega); (case hv => rfl))
))
  refine first_spec (M := M) (n := hn) (h.front (by repeat (first | exact .here | apply Fnt.there))) fun w h => ?_
  unfold firstR
  (repeat (first
 | (simp (disch := omega) only [evA, evB, bAdd_i64, bSub_i64, ptr, Nat.zero_add, Bool.not_true, Bool.not_false, Option.isNone_some, Option.isNone_none, Option.isSome_some, Option.isSome_none, decide_true, decide_false, eq_self, true_and, and_assoc])
 | ((with_reducible apply go_ld1 h))
 | ((with_reducible apply go_ldA h); (rfl))
 | ((with_reducible apply go_ldN h))
 | ((with_reducible apply go_st h); intro _ h)
 | ((with_reducible apply go_stA h); (rfl); (rfl); (first | rfl | simp [OneV.o]); intro _ h)
 | ((with_reducible apply go_stN h); (rfl); (first | rfl | simp [OneV.o]); intro _ h)
 | ((with_reducible apply go_box h); rfl; intro _ _ h)
 | ((with_reducible apply go_alloc h); (first | exact z55); rfl; intro _ _ h)
 | ((with_reducible apply go_rd h); (rfl))
 | ((with_reducible apply go_rdN h); (rfl))
 | ((with_reducible apply go_rlen h); (rfl))
 | ((with_reducible apply go_lenL h))
 | ((with_reducible apply go_ix h); (omega))
 | ((with_reducible apply go_elN h); (case hi => omega))
 | ((with_reducible apply go_fa h); (omega); (omega))
 | ((with_reducible apply go_f1 h); (case hi => omega); (case hx => exact inferInstance))
 | ((with_reducible apply go_rf1 h); (case hi => omega); (case hx => exact inferInstance); (case hv => rfl))
 | ((with_reducible apply go_rel h); (case hi => omega); (case hv => rfl))
))
  exact hK _ (h.get (by (repeat (first | exact .done | (refine .pick (by repeat (first | exact .here | apply Fnt.there)) ?_) | refine .skip ?_))))
theorem never_spec {dp : Value} {id : Int} (h : Sat w0 (HeapH dp hn M :: L) w) (hK : ∀ w', Sat w0 (HeapH dp hn (dropM id M) :: L) w' → K (.tuple #[]) w') : callP G110 [.agg #[dp], .int .i64 id] w K := by
  refine c110 ?_
  unfold F110
  obtain ⟨d, rfl⟩ := heap_ptr h
  (repeat (first
 | (simp (disch := omega) only [evA, evB, bAdd_i64, bSub_i64, ptr, Nat.zero_add, Bool.not_true, Bool.not_false, Option.isNone_some, Option.isNone_none, Option.isSome_some, Option.isSome_none, decide_true, decide_false, eq_self, true_and, and_assoc])
 | ((with_reducible apply go_ld1 h))
 | ((with_reducible apply go_ldA h); (rfl))
 | ((with_reducible apply go_ldN h))
 | ((with_reducible apply go_st h); intro _ h)
 | ((with_reducible apply go_stA h); (rfl); (rfl); (first | rfl | simp [OneV.o]); intro _ h)
 | ((with_reducible apply go_stN h); (rfl); (first | rfl | simp [OneV.o]); intro _ h)
 | ((with_reducible apply go_box h); rfl; intro _ _ h)
 | ((with_reducible apply go_rd h); (rfl))
 | ((with_reducible apply go_rdN h); (rfl))
 | ((with_reducible apply go_rlen h); (rfl))
 | ((with_reducible apply go_lenL h))
 | ((with_reducible apply go_ix h); (omega))
 | ((with_reducible apply go_elN h); (case hi => omega))
 | ((with_reducible apply go_fa h); (omega); (omega))
 | ((with_reducible apply go_f1 h); (case hi => omega); (case hx => exact inferInstance))
 | ((with_reducible apply go_rf1 h); (case hi => omega); (case hx => exact inferInstance); (case hv => rfl))
 | ((with_reducible apply go_rel h); (case hi => omega); (case hv => rfl))
))
  refine drop_spec (M := M) (n := hn) (h.front (by repeat (first | exact .here | apply Fnt.there))) fun w h => ?_
  exact hK _ (h.get (by (repeat (first | exact .done | (refine .pick (by repeat (first | exact .here | apply Fnt.there)) ?_) | refine .skip ?_))))
theorem afirst_spec (h : Sat w0 (HoldA v n next cs :: L) w)
    (hK0 : cs = [] → ∀ w', Sat w0 (HoldA v n next cs :: L) w' → K (.tuple #[ctxV zeroC (.slice none 0 0), .bool false]) w')
    (hK1 : ∀ c, FirstC c cs → ∀ s w', Sat w0 (LsH cI 1 3 s c.times :: HoldA v n next cs :: L) w' → K (.tuple #[ctxV c s, .bool true]) w') : callP G56 [v] w K := by
  refine c56 ?_
  unfold F56
  replace h := holdA_iff.1 h
  obtain ⟨hn, m, I, M, H, h⟩ := h
  replace h := hold_iff.1 h
  obtain ⟨p, dp, ml, mi, rfl, h⟩ := h
  have close : ∀ {w : World} {L' L2 : List HP}, Sat w0 L' w → Get L' (Cl p #[dp, .int .i64 n, .int .i64 next, ml, mi] 159 :: HeapH dp hn M :: MapH kH ctxE ml m :: MapH sgnV kH mi I :: bag m :: L2) → Sat w0 (HoldA (ptr p) n next cs :: L2) w := fun h g => holdA_iff.2 ⟨hn, m, I, M, H, hold_iff.2 ⟨p, dp, ml, mi, rfl, h.get g⟩⟩
  have := map_one (h.front (A := MapH kH ctxE ml m) (by repeat (first | exact .here | apply Fnt.there)))
  have := map_one (h.front (A := MapH sgnV kH mi I) (by repeat (first | exact .here | apply Fnt.there)))
  obtain ⟨d, rfl⟩ := heap_ptr (h.front (A := HeapH dp hn M) (by repeat (first | exact .here | apply Fnt.there)))
  have zc := zc41
  refine go_alloc h zc rfl fun _ _ h => ?_
  (repeat (first
 | (simp (disch := omega) only [evA, evB, bAdd_i64, bSub_i64, ptr, Nat.zero_add, Bool.not_true, Bool.not_false, Option.isNone_some, Option.isNone_none, Option.isSome_some, Option.isSome_none, decide_true, decide_false, eq_self, true_and, and_assoc])
 | ((with_reducible apply go_ld1 h))
 | ((with_reducible apply go_ldA h); (rfl))
 | ((with_reducible apply go_ldN h))
 | ((with_reducible apply go_st h); intro _ h)
 | ((with_reducible apply go_stA h); (rfl); (rfl); (first | rfl | simp [OneV.o]); intro _ h)
 | ((with_reducible apply go_stN h); (rfl); (first | rfl | simp [OneV.o]); intro _ h)
 | ((with_reducible apply go_box h); rfl; intro _ _ h)
 | ((with_reducible apply go_rd h); (rfl))
 | ((with_reducible apply go_rdN h); (rfl))
 | ((with_reducible apply go_rlen h); (rfl))
 | ((with_reducible apply go_lenL h))
 | ((with_reducible apply go_ix h); (omega))
 | ((with_reducible apply go_elN h); (case hi => omega))
 | ((with_reducible apply go_fa h); (omega); (omega))
 | ((with_reducible apply go_f1 h); (case hi => omega); (case hx => exact inferInstance))
 | ((with_reducible apply go_rf1 h); (case hi => omega); (case hx => exact inferInstance); (case hv => rfl))
 | ((with_reducible apply go_rel h); (case hi => omega); (case hv => rfl))
))
  refine soonest_spec (M := M) (hn := hn) (h.front (by repeat (first | exact .here | apply Fnt.there))) fun w h => ?_
  cases g : M.head? with
  | none =>
    simp only [Option.getD_none, Option.isSome_none]
    (repeat (first
 | (simp (disch := omega) only [evA, evB, bAdd_i64, bSub_i64, ptr, Nat.zero_add, Bool.not_true, Bool.not_false, Option.isNone_some, Option.isNone_none, Option.isSome_some, Option.isSome_none, decide_true, decide_false, eq_self, true_and, and_assoc])
 | (refine go_some (fb41 ..) ?_)
 | ((with_reducible apply go_ld1 h))
 | ((with_reducible apply go_ldA h); (rfl))
 | ((with_reducible apply go_ldN h))
 | ((with_reducible apply go_st h); intro _ h)
 | ((with_reducible apply go_stA h); (rfl); (rfl); (first | rfl | simp [OneV.o]); intro _ h)
 | ((with_reducible apply go_stN h); (rfl); (first | rfl | simp [OneV.o]); intro _ h)
 | ((with_reducible apply go_box h); rfl; intro _ _ h)
 | ((with_reducible apply go_rd h); (rfl))
 | ((with_reducible apply go_rdN h); (rfl))
 | ((with_reducible apply go_rlen h); (rfl))
 | ((with_reducible apply go_lenL h))
 | ((with_reducible apply go_ix h); (omega))
 | ((with_reducible apply go_elN h); (case hi => omega))
 | ((with_reducible apply go_fa h); (omega); (omega))
 | ((with_reducible apply go_f1 h); (case hi => omega); (case hx => exact inferInstance))
 | ((with_reducible apply go_rf1 h); (case hi => omega); (case hx => exact inferInstance); (case hv => rfl))
 | ((with_reducible apply go_rel h); (case hi => omega); (case hv => rfl))
))
    exact hK0 (H.1.empty_iff.1 g) _ (close h (by (repeat (first | exact .done | (refine .pick (by repeat (first | exact .here | apply Fnt.there)) ?_) | refine .skip ?_))))
  | some x =>
    simp only [Option.getD_some, Option.isSome_some]
    obtain ⟨c, hc, e1, e2⟩ := H.1.first g
    obtain ⟨s, hg⟩ := H.1.get hc.1
    rw [e1] at hg
    (repeat (first
 | (simp (disch := omega) only [evA, evB, bAdd_i64, bSub_i64, ptr, Nat.zero_add, Bool.not_true, Bool.not_false, Option.isNone_some, Option.isNone_none, Option.isSome_some, Option.isSome_none, decide_true, decide_false, eq_self, true_and, and_assoc])
 | ((with_reducible apply go_ld1 h))
 | ((with_reducible apply go_ldA h); (rfl))
 | ((with_reducible apply go_ldN h))
 | ((with_reducible apply go_st h); intro _ h)
 | ((with_reducible apply go_stA h); (rfl); (rfl); (first | rfl | simp [OneV.o]); intro _ h)
 | ((with_reducible apply go_stN h); (rfl); (first | rfl | simp [OneV.o]); intro _ h)
 | ((with_reducible apply go_box h); rfl; intro _ _ h)
 | ((with_reducible apply go_rd h); (rfl))
 | ((with_reducible apply go_rdN h); (rfl))
 | ((with_reducible apply go_rlen h); (rfl))
 | ((with_reducible apply go_lenL h))
 | ((with_reducible apply go_ix h); (omega))
 | ((with_reducible apply go_elN h); (case hi => omega))
 | ((with_reducible apply go_fa h); (omega); (omega))
 | ((with_reducible apply go_f1 h); (case hi => omega); (case hx => exact inferInstance))
 | ((with_reducible apply go_rf1 h); (case hi => omega); (case hx => exact inferInstance); (case hv => rfl))
 | ((with_reducible apply go_rel h); (case hi => omega); (case hv => rfl))
))
    refine go_look1 h (by repeat (first | exact .here | apply Fnt.there)) KIh um156 zc x.1 ?_
    rw [hg]
    simp only [Option.elim_some]
    have hr : RdL w0 (bag m :: L) cI 1 s c.times := bag_rd hg .here
    have hl : c.times.length ≤ 1000000 := by have := (H.1.ok c hc.1).2.1.2.2.2; omega
    refine own_spec (c := c) hl (hr.get (by (repeat (first | exact .done | (refine .pick (by repeat (first | exact .here | apply Fnt.there)) ?_) | refine .skip ?_)))) h fun s w h => ?_
    have := ls_one h
    (repeat (first
 | (simp (disch := omega) only [evA, evB, bAdd_i64, bSub_i64, ptr, Nat.zero_add, Bool.not_true, Bool.not_false, Option.isNone_some, Option.isNone_none, Option.isSome_some, Option.isSome_none, decide_true, decide_false, eq_self, true_and, and_assoc])
 | ((with_reducible apply go_ld1 h))
 | ((with_reducible apply go_ldA h); (rfl))
 | ((with_reducible apply go_ldN h))
 | ((with_reducible apply go_st h); intro _ h)
 | ((with_reducible apply go_stA h); (rfl); (rfl); (first | rfl | simp [OneV.o]); intro _ h)
 | ((with_reducible apply go_stN h); (rfl); (first | rfl | simp [OneV.o]); intro _ h)
 | ((with_reducible apply go_box h); rfl; intro _ _ h)
 | ((with_reducible apply go_rd h); (rfl))
 | ((with_reducible apply go_rdN h); (rfl))
 | ((with_reducible apply go_rlen h); (rfl))
 | ((with_reducible apply go_lenL h))
 | ((with_reducible apply go_ix h); (omega))
 | ((with_reducible apply go_elN h); (case hi => omega))
 | ((with_reducible apply go_fa h); (omega); (omega))
 | ((with_reducible apply go_f1 h); (case hi => omega); (case hx => exact inferInstance))
 | ((with_reducible apply go_rf1 h); (case hi => omega); (case hx => exact inferInstance); (case hv => rfl))
 | ((with_reducible apply go_rel h); (case hi => omega); (case hv => rfl))
))
    exact hK1 c hc s _ (close (L2 := LsH cI 1 3 s c.times :: L) h (by (repeat (first | exact .done | (refine .pick (by repeat (first | exact .here | apply Fnt.there)) ?_) | refine .skip ?_)))).f1
theorem adrop_spec {id : Int} (h : Sat w0 (HoldA v n next cs :: L) w)
    (hK0 : (∀ c ∈ cs, c.id ≠ id) → ∀ w', Sat w0 (HoldA v n next cs :: L) w' → K (.tuple #[ctxV zeroC (.slice none 0 0), .int .i64 5]) w')
    (hK1 : ∀ c ∈ cs, c.id = id → ∀ s w', Sat w0 (LsH cI 1 3 s c.times :: HoldA v n next (dropL id cs) :: L) w' → K (.tuple #[ctxV c s, .int .i64 0]) w') : callP G57 [v, .int .i64 id] w K := by
  refine c57 ?_
  unfold F57
  replace h := holdA_iff.1 h
  obtain ⟨hn, m, I, M, H, h⟩ := h
  replace h := hold_iff.1 h
  obtain ⟨p, dp, ml, mi, rfl, h⟩ := h
  have := map_one (h.front (A := MapH kH ctxE ml m) (by repeat (first | exact .here | apply Fnt.there)))
  have := map_one (h.front (A := MapH sgnV kH mi I) (by repeat (first | exact .here | apply Fnt.there)))
  obtain ⟨d, rfl⟩ := heap_ptr (h.front (A := HeapH dp hn M) (by repeat (first | exact .here | apply Fnt.there)))
  have zc := zc41
  refine go_alloc h zc rfl fun _ _ h => ?_
  (repeat (first
 | (simp (disch := omega) only [evA, evB, bAdd_i64, bSub_i64, ptr, Nat.zero_add, Bool.not_true, Bool.not_false, Option.isNone_some, Option.isNone_none, Option.isSome_some, Option.isSome_none, decide_true, decide_false, eq_self, true_and, and_assoc])
 | ((with_reducible apply go_ld1 h))
 | ((with_reducible apply go_ldA h); (rfl))
 | ((with_reducible apply go_ldN h))
 | ((with_reducible apply go_st h); intro _ h)
 | ((with_reducible apply go_stA h); (rfl); (rfl); (first | rfl | simp [OneV.o]); intro _ h)
 | ((with_reducible apply go_stN h); (rfl); (first | rfl | simp [OneV.o]); intro _ h)
 | ((with_reducible apply go_box h); rfl; intro _ _ h)
 | ((with_reducible apply go_rd h); (rfl))
 | ((with_reducible apply go_rdN h); (rfl))
 | ((with_reducible apply go_rlen h); (rfl))
 | ((with_reducible apply go_lenL h))
 | ((with_reducible apply go_ix h); (omega))
 | ((with_reducible apply go_elN h); (case hi => omega))
 | ((with_reducible apply go_fa h); (omega); (omega))
 | ((with_reducible apply go_f1 h); (case hi => omega); (case hx => exact inferInstance))
 | ((with_reducible apply go_rf1 h); (case hi => omega); (case hx => exact inferInstance); (case hv => rfl))
 | ((with_reducible apply go_rel h); (case hi => omega); (case hv => rfl))
))
  refine go_look2 h (by repeat (first | exact .here | apply Fnt.there)) KIh um156 zc id ?_
  cases hg : aGet id m with
  | none =>
    simp only [Option.elim_none, Option.isSome_none]
    (repeat (first
 | (simp (disch := omega) only [evA, evB, bAdd_i64, bSub_i64, ptr, Nat.zero_add, Bool.not_true, Bool.not_false, Option.isNone_some, Option.isNone_none, Option.isSome_some, Option.isSome_none, decide_true, decide_false, eq_self, true_and, and_assoc])
 | ((with_reducible apply go_ld1 h))
 | ((with_reducible apply go_ldA h); (rfl))
 | ((with_reducible apply go_ldN h))
 | ((with_reducible apply go_st h); intro _ h)
 | ((with_reducible apply go_stA h); (rfl); (rfl); (first | rfl | simp [OneV.o]); intro _ h)
 | ((with_reducible apply go_stN h); (rfl); (first | rfl | simp [OneV.o]); intro _ h)
 | ((with_reducible apply go_box h); rfl; intro _ _ h)
 | ((with_reducible apply go_rd h); (rfl))
 | ((with_reducible apply go_rdN h); (rfl))
 | ((with_reducible apply go_rlen h); (rfl))
 | ((with_reducible apply go_lenL h))
 | ((with_reducible apply go_ix h); (omega))
 | ((with_reducible apply go_elN h); (case hi => omega))
 | ((with_reducible apply go_fa h); (omega); (omega))
 | ((with_reducible apply go_f1 h); (case hi => omega); (case hx => exact inferInstance))
 | ((with_reducible apply go_rf1 h); (case hi => omega); (case hx => exact inferInstance); (case hv => rfl))
 | ((with_reducible apply go_rel h); (case hi => omega); (case hv => rfl))
))
    refine go_alloc h zc rfl fun _ _ h => ?_
    (repeat (first
 | (simp (disch := omega) only [evA, evB, bAdd_i64, bSub_i64, ptr, Nat.zero_add, Bool.not_true, Bool.not_false, Option.isNone_some, Option.isNone_none, Option.isSome_some, Option.isSome_none, decide_true, decide_false, eq_self, true_and, and_assoc])
 | (refine go_some (fb41 ..) ?_)
 | ((with_reducible apply go_ld1 h))
 | ((with_reducible apply go_ldA h); (rfl))
 | ((with_reducible apply go_ldN h))
 | ((with_reducible apply go_st h); intro _ h)
 | ((with_reducible apply go_stA h); (rfl); (rfl); (first | rfl | simp [OneV.o]); intro _ h)
 | ((with_reducible apply go_stN h); (rfl); (first | rfl | simp [OneV.o]); intro _ h)
 | ((with_reducible apply go_box h); rfl; intro _ _ h)
 | ((with_reducible apply go_rd h); (rfl))
 | ((with_reducible apply go_rdN h); (rfl))
 | ((with_reducible apply go_rlen h); (rfl))
 | ((with_reducible apply go_lenL h))
 | ((with_reducible apply go_ix h); (omega))
 | ((with_reducible apply go_elN h); (case hi => omega))
 | ((with_reducible apply go_fa h); (omega); (omega))
 | ((with_reducible apply go_f1 h); (case hi => omega); (case hx => exact inferInstance))
 | ((with_reducible apply go_rf1 h); (case hi => omega); (case hx => exact inferInstance); (case hv => rfl))
 | ((with_reducible apply go_rel h); (case hi => omega); (case hv => rfl))
))
    refine hK0 (fun c hc e => ?_) _ (holdA_iff.2 ⟨hn, m, I, M, H, hold_iff.2 ⟨p, ptr d, ml, mi, rfl, h.get (by (repeat (first | exact .done | (refine .pick (by repeat (first | exact .here | apply Fnt.there)) ?_) | refine .skip ?_)))⟩⟩)
    obtain ⟨s, h1⟩ := H.1.get hc
    rw [e, hg] at h1; cases h1
  | some x =>
    obtain ⟨c, s⟩ := x
    obtain ⟨hc, hid⟩ := H.1.mem hg
    subst hid
    simp only [Option.elim_some, Option.isSome_some]
    have h1 : Sat w0 (LsH cI 1 3 s c.times :: bag (aDel c.id m) :: Cl _ _ _ :: Cl p #[ptr d, .int .i64 n, .int .i64 next, ml, mi] 159 :: HeapH (ptr d) hn M :: MapH kH ctxE ml m :: MapH sgnV kH mi I :: L) _ := bag_get hg (h.get (by (repeat (first | exact .done | (refine .pick (by repeat (first | exact .here | apply Fnt.there)) ?_) | refine .skip ?_))))
    clear h
    have h := h1
    clear h1
    have := ls_one h
    (repeat (first
 | (simp (disch := omega) only [evA, evB, bAdd_i64, bSub_i64, ptr, Nat.zero_add, Bool.not_true, Bool.not_false, Option.isNone_some, Option.isNone_none, Option.isSome_some, Option.isSome_none, decide_true, decide_false, eq_self, true_and, and_assoc])
 | ((with_reducible apply go_ld1 h))
 | ((with_reducible apply go_ldA h); (rfl))
 | ((with_reducible apply go_ldN h))
 | ((with_reducible apply go_st h); intro _ h)
 | ((with_reducible apply go_stA h); (rfl); (rfl); (first | rfl | simp [OneV.o]); intro _ h)
 | ((with_reducible apply go_stN h); (rfl); (first | rfl | simp [OneV.o]); intro _ h)
 | ((with_reducible apply go_box h); rfl; intro _ _ h)
 | ((with_reducible apply go_rd h); (rfl))
 | ((with_reducible apply go_rdN h); (rfl))
 | ((with_reducible apply go_rlen h); (rfl))
 | ((with_reducible apply go_lenL h))
 | ((with_reducible apply go_ix h); (omega))
 | ((with_reducible apply go_elN h); (case hi => omega))
 | ((with_reducible apply go_fa h); (omega); (omega))
 | ((with_reducible apply go_f1 h); (case hi => omega); (case hx => exact inferInstance))
 | ((with_reducible apply go_rf1 h); (case hi => omega); (case hx => exact inferInstance); (case hv => rfl))
 | ((with_reducible apply go_rel h); (case hi => omega); (case hv => rfl))
))
    refine go_alloc h zc rfl fun _ _ h => ?_
    (repeat (first
 | (simp (disch := omega) only [evA, evB, bAdd_i64, bSub_i64, ptr, Nat.zero_add, Bool.not_true, Bool.not_false, Option.isNone_some, Option.isNone_none, Option.isSome_some, Option.isSome_none, decide_true, decide_false, eq_self, true_and, and_assoc])
 | ((with_reducible apply go_ld1 h))
 | ((with_reducible apply go_ldA h); (rfl))
 | ((with_reducible apply go_ldN h))
 | ((with_reducible apply go_st h); intro _ h)
 | ((with_reducible apply go_stA h); (rfl); (rfl); (first | rfl | simp [OneV.o]); intro _ h)
 | ((with_reducible apply go_stN h); (rfl); (first | rfl | simp [OneV.o]); intro _ h)
 | ((with_reducible apply go_box h); rfl; intro _ _ h)
 | ((with_reducible apply go_rd h); (rfl))
 | ((with_reducible apply go_rdN h); (rfl))
 | ((with_reducible apply go_rlen h); (rfl))
 | ((with_reducible apply go_lenL h))
 | ((with_reducible apply go_ix h); (omega))
 | ((with_reducible apply go_elN h); (case hi => omega))
 | ((with_reducible apply go_fa h); (omega); (omega))
 | ((with_reducible apply go_f1 h); (case hi => omega); (case hx => exact inferInstance))
 | ((with_reducible apply go_rf1 h); (case hi => omega); (case hx => exact inferInstance); (case hv => rfl))
 | ((with_reducible apply go_rel h); (case hi => omega); (case hv => rfl))
))
    refine eDelete_sat (h.front (by repeat (first | exact .here | apply Fnt.there))) KIh um156 c.id fun w h => ?_
    (repeat (first
 | (simp (disch := omega) only [evA, evB, bAdd_i64, bSub_i64, ptr, Nat.zero_add, Bool.not_true, Bool.not_false, Option.isNone_some, Option.isNone_none, Option.isSome_some, Option.isSome_none, decide_true, decide_false, eq_self, true_and, and_assoc])
 | ((with_reducible apply go_ld1 h))
 | ((with_reducible apply go_ldA h); (rfl))
 | ((with_reducible apply go_ldN h))
 | ((with_reducible apply go_st h); intro _ h)
 | ((with_reducible apply go_stA h); (rfl); (rfl); (first | rfl | simp [OneV.o]); intro _ h)
 | ((with_reducible apply go_stN h); (rfl); (first | rfl | simp [OneV.o]); intro _ h)
 | ((with_reducible apply go_box h); rfl; intro _ _ h)
 | ((with_reducible apply go_rd h); (rfl))
 | ((with_reducible apply go_rdN h); (rfl))
 | ((with_reducible apply go_rlen h); (rfl))
 | ((with_reducible apply go_lenL h))
 | ((with_reducible apply go_ix h); (omega))
 | ((with_reducible apply go_elN h); (case hi => omega))
 | ((with_reducible apply go_fa h); (omega); (omega))
 | ((with_reducible apply go_f1 h); (case hi => omega); (case hx => exact inferInstance))
 | ((with_reducible apply go_rf1 h); (case hi => omega); (case hx => exact inferInstance); (case hv => rfl))
 | ((with_reducible apply go_rel h); (case hi => omega); (case hv => rfl))
))
    refine hof_spec (a := c) h.drew fun w h => ?_
    (repeat (first
 | (simp (disch := omega) only [evA, evB, bAdd_i64, bSub_i64, ptr, Nat.zero_add, Bool.not_true, Bool.not_false, Option.isNone_some, Option.isNone_none, Option.isSome_some, Option.isSome_none, decide_true, decide_false, eq_self, true_and, and_assoc])
 | ((with_reducible apply go_ld1 h))
 | ((with_reducible apply go_ldA h); (rfl))
 | ((with_reducible apply go_ldN h))
 | ((with_reducible apply go_st h); intro _ h)
 | ((with_reducible apply go_stA h); (rfl); (rfl); (first | rfl | simp [OneV.o]); intro _ h)
 | ((with_reducible apply go_stN h); (rfl); (first | rfl | simp [OneV.o]); intro _ h)
 | ((with_reducible apply go_box h); rfl; intro _ _ h)
 | ((with_reducible apply go_rd h); (rfl))
 | ((with_reducible apply go_rdN h); (rfl))
 | ((with_reducible apply go_rlen h); (rfl))
 | ((with_reducible apply go_lenL h))
 | ((with_reducible apply go_ix h); (omega))
 | ((with_reducible apply go_elN h); (case hi => omega))
 | ((with_reducible apply go_fa h); (omega); (omega))
 | ((with_reducible apply go_f1 h); (case hi => omega); (case hx => exact inferInstance))
 | ((with_reducible apply go_rf1 h); (case hi => omega); (case hx => exact inferInstance); (case hv => rfl))
 | ((with_reducible apply go_rel h); (case hi => omega); (case hv => rfl))
))
    refine eDelete_sat (h.front (by repeat (first | exact .here | apply Fnt.there))) KSgn um157 (sgnOf c) fun w h => ?_
    (repeat (first
 | (simp (disch := omega) only [evA, evB, bAdd_i64, bSub_i64, ptr, Nat.zero_add, Bool.not_true, Bool.not_false, Option.isNone_some, Option.isNone_none, Option.isSome_some, Option.isSome_none, decide_true, decide_false, eq_self, true_and, and_assoc])
 | ((with_reducible apply go_ld1 h))
 | ((with_reducible apply go_ldA h); (rfl))
 | ((with_reducible apply go_ldN h))
 | ((with_reducible apply go_st h); intro _ h)
 | ((with_reducible apply go_stA h); (rfl); (rfl); (first | rfl | simp [OneV.o]); intro _ h)
 | ((with_reducible apply go_stN h); (rfl); (first | rfl | simp [OneV.o]); intro _ h)
 | ((with_reducible apply go_box h); rfl; intro _ _ h)
 | ((with_reducible apply go_rd h); (rfl))
 | ((with_reducible apply go_rdN h); (rfl))
 | ((with_reducible apply go_rlen h); (rfl))
 | ((with_reducible apply go_lenL h))
 | ((with_reducible apply go_ix h); (omega))
 | ((with_reducible apply go_elN h); (case hi => omega))
 | ((with_reducible apply go_fa h); (omega); (omega))
 | ((with_reducible apply go_f1 h); (case hi => omega); (case hx => exact inferInstance))
 | ((with_reducible apply go_rf1 h); (case hi => omega); (case hx => exact inferInstance); (case hv => rfl))
 | ((with_reducible apply go_rel h); (case hi => omega); (case hv => rfl))
))
    refine never_spec (M := M) (hn := hn) (h.front (by repeat (first | exact .here | apply Fnt.there))) fun w h => ?_
    (repeat (first
 | (simp (disch := omega) only [evA, evB, bAdd_i64, bSub_i64, ptr, Nat.zero_add, Bool.not_true, Bool.not_false, Option.isNone_some, Option.isNone_none, Option.isSome_some, Option.isSome_none, decide_true, decide_false, eq_self, true_and, and_assoc])
 | ((with_reducible apply go_ld1 h))
 | ((with_reducible apply go_ldA h); (rfl))
 | ((with_reducible apply go_ldN h))
 | ((with_reducible apply go_st h); intro _ h)
 | ((with_reducible apply go_stA h); (rfl); (rfl); (first | rfl | simp [OneV.o]); intro _ h)
 | ((with_reducible apply go_stN h); (rfl); (first | rfl | simp [OneV.o]); intro _ h)
 | ((with_reducible apply go_box h); rfl; intro _ _ h)
 | ((with_reducible apply go_rd h); (rfl))
 | ((with_reducible apply go_rdN h); (rfl))
 | ((with_reducible apply go_rlen h); (rfl))
 | ((with_reducible apply go_lenL h))
 | ((with_reducible apply go_ix h); (omega))
 | ((with_reducible apply go_elN h); (case hi => omega))
 | ((with_reducible apply go_fa h); (omega); (omega))
 | ((with_reducible apply go_f1 h); (case hi => omega); (case hx => exact inferInstance))
 | ((with_reducible apply go_rf1 h); (case hi => omega); (case hx => exact inferInstance); (case hv => rfl))
 | ((with_reducible apply go_rel h); (case hi => omega); (case hv => rfl))
))
    refine hK1 c hc rfl s _ (Sat.f1 (holdA_iff.2 ⟨hn, _, _, _, ⟨H.1.drop hc, H.2⟩, hold_iff.2 ⟨p, ptr d, ml, mi, rfl, h.get (by (repeat (first | exact .done | (refine .pick (by repeat (first | exact .here | apply Fnt.there)) ?_) | refine .skip ?_)))⟩⟩))
end
end Go.Proofs.Gong

/- Ho7 -/
namespace Go.Proofs.Gong
open Go Go.Sx Go.Proofs
set_option maxRecDepth 100000
attribute [local irreducible] fBuild fLook fZero eqv bEqv Cl MapH LsH SlH ld1 ldN st callP eBox eAlloc lenM lenL eMapSet eDelete eAppend eBuildSl eRange eNext
section
variable {w0 w : World} {L : List HP} {K : Value → World → Prop} {v : Value} {n next hn : Int} {m : Held} {I : List (Sgn × Int)} {M : List It} {cs : List Ctx} {c : Ctx} {tv s : Value}
abbrev SV := Option Addr × Nat × Nat
abbrev svV (x : SV) : Value := .slice x.1 x.2.1 x.2.2
@[reducible] def cX (x : Ctx × SV) : List Value := cCtx x.1 (svV x.2)
theorem CX : Cod cX 11 := ⟨fun _ => rfl, fun _ => rfl, by omega⟩
instance : CodC cX 11 := ⟨CX⟩
def hlX (xs : List (Ctx × SV)) : Held := xs.map fun x => (x.1.id, (x.1, svV x.2))
def CtxL (sv : Value) (cs : List Ctx) : HP := HEx fun xs : List (Ctx × SV) => HPr (xs.map Prod.fst = cs) (HSt (LsH cX 11 41 sv xs) (bag (hlX xs)))
theorem ctxL_iff {sv : Value} : Sat w0 (CtxL sv cs :: L) w ↔ ∃ xs : List (Ctx × SV), xs.map Prod.fst = cs ∧ Sat w0 (LsH cX 11 41 sv xs :: bag (hlX xs) :: L) w := by
  simp only [CtxL, Sat.ex_iff, Sat.pr_iff, Sat.star_iff]
theorem bag_add {x : Ctx × Value} {k : Int} (h : Sat w0 (LsH cI 1 3 x.2 x.1.times :: bag m :: L) w) : Sat w0 (bag (m ++ [(k, x)]) :: L) w := by
  have h1 := bag_iff.1 h.f1
  have h2 : Sat w0 (heldP (k, x) :: (m.map heldP ++ L)) w := h1.perm List.perm_middle
  refine bag_iff.2 ?_
  rw [List.map_append]
  refine h2.perm ?_
  rw [List.append_assoc]
  exact List.perm_middle.symm
theorem fbX (c : Ctx) (x : SV) : fBuildSl Try.prog 41 1 [(0, ctxV c (svV x))] = some (cX (c, x)).toArray := by kernel_rfl
theorem all_loop {p : Nat} {dp ml mi ks : Value} (H : HInv n next hn m I M cs) (hK : ∀ sv w', Sat w0 (CtxL sv cs :: Cl p #[dp, .int .i64 n, .int .i64 next, ml, mi] 159 :: MapH kH ctxE ml m :: bag m :: L) w' → K sv w') :
    ∀ (d i : Nat) (xs : List (Ctx × SV)) (sv : Value) (w : World), cs.length - i < d → i ≤ cs.length → xs.map Prod.fst = cs.take i →
      Sat w0 (LsH cX 11 41 sv xs :: bag (hlX xs) :: LsH cI 1 3 ks (cs.map (·.id)) :: Cl p #[dp, .int .i64 n, .int .i64 next, ml, mi] 159 :: MapH kH ctxE ml m :: bag m :: L) w →
      F54_2L d (ptr p) sv ks (.int .i64 (cs.length : Nat)) (.int .i64 i) w K := by
  intro d
  induction d with
  | zero => intro i _ _ _ hd; omega
  | succ d ih =>
    intro i xs sv w hd hi hx h
    rw [F54_2L]
    unfold F54_2b
    have hb := H.bd
    have := map_one (h.front (A := MapH kH ctxE ml m) (by repeat (first | exact .here | apply Fnt.there)))
    by_cases g : i < cs.length
    · have g' : decide ((i : Int) < (cs.length : Int)) = true := by simpa using g
      have g2 : i < (cs.map (·.id)).length := by simpa using g
      have ge : (cs.map (·.id))[i] = cs[i].id := by simp
      obtain ⟨s, hg⟩ := H.get (List.getElem_mem g)
      (repeat (first
 | (simp (disch := omega) only [evA, evB, bAdd_i64, bSub_i64, ptr, Nat.zero_add, Bool.not_true, Bool.not_false, Option.isNone_some, Option.isNone_none, Option.isSome_some, Option.isSome_none, decide_true, decide_false, eq_self, true_and, and_assoc, g'])
 | ((with_reducible apply go_ld1 h))
 | ((with_reducible apply go_ldA h); (rfl))
 | ((with_reducible apply go_ldN h))
 | ((with_reducible apply go_st h); intro _ h)
 | ((with_reducible apply go_stA h); (rfl); (rfl); (first | rfl | simp [OneV.o]); intro _ h)
 | ((with_reducible apply go_stN h); (rfl); (first | rfl | simp [OneV.o]); intro _ h)
 | ((with_reducible apply go_box h); rfl; intro _ _ h)
 | ((with_reducible apply go_rd h); (rfl))
 | ((with_reducible apply go_rdN h); (rfl))
 | ((with_reducible apply go_rlen h); (rfl))
 | ((with_reducible apply go_lenL h))
 | ((with_reducible apply go_ix h); (omega))
 | ((with_reducible apply go_elN h); (case hi => omega))
 | ((with_reducible apply go_fa h); (omega); (omega))
 | ((with_reducible apply go_f1 h); (case hi => omega); (case hx => exact inferInstance))
 | ((with_reducible apply go_rf1 h); (case hi => omega); (case hx => exact inferInstance); (case hv => rfl))
 | ((with_reducible apply go_rel h); (case hi => omega); (case hv => rfl))
))
      refine go_some (i_at (ls_rd (h.front (A := LsH cI 1 3 ks (cs.map (·.id))) (by repeat (first | exact .here | apply Fnt.there)))) g2).2 ?_
      (repeat (first
 | (simp (disch := omega) only [evA, evB, bAdd_i64, bSub_i64, ptr, Nat.zero_add, Bool.not_true, Bool.not_false, Option.isNone_some, Option.isNone_none, Option.isSome_some, Option.isSome_none, decide_true, decide_false, eq_self, true_and, and_assoc, ge])
 | ((with_reducible apply go_ld1 h))
 | ((with_reducible apply go_ldA h); (rfl))
 | ((with_reducible apply go_ldN h))
 | ((with_reducible apply go_st h); intro _ h)
 | ((with_reducible apply go_stA h); (rfl); (rfl); (first | rfl | simp [OneV.o]); intro _ h)
 | ((with_reducible apply go_stN h); (rfl); (first | rfl | simp [OneV.o]); intro _ h)
 | ((with_reducible apply go_box h); rfl; intro _ _ h)
 | ((with_reducible apply go_rd h); (rfl))
 | ((with_reducible apply go_rdN h); (rfl))
 | ((with_reducible apply go_rlen h); (rfl))
 | ((with_reducible apply go_lenL h))
 | ((with_reducible apply go_ix h); (omega))
 | ((with_reducible apply go_elN h); (case hi => omega))
 | ((with_reducible apply go_fa h); (omega); (omega))
 | ((with_reducible apply go_f1 h); (case hi => omega); (case hx => exact inferInstance))
 | ((with_reducible apply go_rf1 h); (case hi => omega); (case hx => exact inferInstance); (case hv => rfl))
 | ((with_reducible apply go_rel h); (case hi => omega); (case hv => rfl))
))
      refine go_look1 h (by repeat (first | exact .here | apply Fnt.there)) KIh um156 zc41 cs[i].id ?_
      rw [hg]
      simp only [Option.elim_some]
      have hr : RdL w0 (bag m :: L) cI 1 s cs[i].times := bag_rd hg .here
      have hl : cs[i].times.length ≤ 1000000 := by have := (H.ok cs[i] (List.getElem_mem g)).2.1.2.2.2; omega
      refine own_spec (c := cs[i]) hl (hr.get (by (repeat (first | exact .done | (refine .pick (by repeat (first | exact .here | apply Fnt.there)) ?_) | refine .skip ?_)))) h fun s w h => ?_
      obtain ⟨a1, c1, rfl, _⟩ := (ls_rd h).cap
      (repeat (first
 | (simp (disch := omega) only [evA, evB, bAdd_i64, bSub_i64, ptr, Nat.zero_add, Bool.not_true, Bool.not_false, Option.isNone_some, Option.isNone_none, Option.isSome_some, Option.isSome_none, decide_true, decide_false, eq_self, true_and, and_assoc])
 | ((with_reducible apply go_ld1 h))
 | ((with_reducible apply go_ldA h); (rfl))
 | ((with_reducible apply go_ldN h))
 | ((with_reducible apply go_st h); intro _ h)
 | ((with_reducible apply go_stA h); (rfl); (rfl); (first | rfl | simp [OneV.o]); intro _ h)
 | ((with_reducible apply go_stN h); (rfl); (first | rfl | simp [OneV.o]); intro _ h)
 | ((with_reducible apply go_box h); rfl; intro _ _ h)
 | ((with_reducible apply go_rd h); (rfl))
 | ((with_reducible apply go_rdN h); (rfl))
 | ((with_reducible apply go_rlen h); (rfl))
 | ((with_reducible apply go_lenL h))
 | ((with_reducible apply go_ix h); (omega))
 | ((with_reducible apply go_elN h); (case hi => omega))
 | ((with_reducible apply go_fa h); (omega); (omega))
 | ((with_reducible apply go_f1 h); (case hi => omega); (case hx => exact inferInstance))
 | ((with_reducible apply go_rf1 h); (case hi => omega); (case hx => exact inferInstance); (case hv => rfl))
 | ((with_reducible apply go_rel h); (case hi => omega); (case hv => rfl))
))
      have hlen : xs.length = i := by
        have := congrArg List.length hx
        simp at this; omega
      refine go_lit1 (f := cX) (x := (cs[i], (a1, cs[i].times.length, c1))) CX h u101 (fbX cs[i] (a1, cs[i].times.length, c1)) (by simp) fun s1 w h => ?_
      refine ls_app (l := xs) (m := [(cs[i], (a1, cs[i].times.length, c1))]) CX (h.front (by repeat (first | exact .here | apply Fnt.there))) sl101 ss101 (ls_rd (h.front (by repeat (first | exact .here | apply Fnt.there)))) (by have := H.bd; rw [hlen]; simp only [List.length_cons, List.length_nil]; omega) fun s2 w h => ?_
      (repeat (first
 | (simp (disch := omega) only [evA, evB, bAdd_i64, bSub_i64, ptr, Nat.zero_add, Bool.not_true, Bool.not_false, Option.isNone_some, Option.isNone_none, Option.isSome_some, Option.isSome_none, decide_true, decide_false, eq_self, true_and, and_assoc])
 | ((with_reducible apply go_ld1 h))
 | ((with_reducible apply go_ldA h); (rfl))
 | ((with_reducible apply go_ldN h))
 | ((with_reducible apply go_st h); intro _ h)
 | ((with_reducible apply go_stA h); (rfl); (rfl); (first | rfl | simp [OneV.o]); intro _ h)
 | ((with_reducible apply go_stN h); (rfl); (first | rfl | simp [OneV.o]); intro _ h)
 | ((with_reducible apply go_box h); rfl; intro _ _ h)
 | ((with_reducible apply go_rd h); (rfl))
 | ((with_reducible apply go_rdN h); (rfl))
 | ((with_reducible apply go_rlen h); (rfl))
 | ((with_reducible apply go_lenL h))
 | ((with_reducible apply go_ix h); (omega))
 | ((with_reducible apply go_elN h); (case hi => omega))
 | ((with_reducible apply go_fa h); (omega); (omega))
 | ((with_reducible apply go_f1 h); (case hi => omega); (case hx => exact inferInstance))
 | ((with_reducible apply go_rf1 h); (case hi => omega); (case hx => exact inferInstance); (case hv => rfl))
 | ((with_reducible apply go_rel h); (case hi => omega); (case hv => rfl))
))
      refine ih (i + 1) (xs ++ [(cs[i], (a1, cs[i].times.length, c1))]) s2 w (by omega) (by omega) ?_ ?_
      · rw [List.map_append, hx, List.take_succ_eq_append_getElem g]; rfl
      · have h3 := bag_add (m := hlX xs) (x := (cs[i], .slice a1 cs[i].times.length c1)) (k := cs[i].id) (h.get (L' := LsH cI 1 3 (.slice a1 cs[i].times.length c1) cs[i].times :: bag (hlX xs) :: LsH cX 11 41 s2 (xs ++ [(cs[i], (a1, cs[i].times.length, c1))]) :: LsH cI 1 3 ks (cs.map (·.id)) :: Cl p #[dp, .int .i64 n, .int .i64 next, ml, mi] 159 :: MapH kH ctxE ml m :: bag m :: L) (by (repeat (first | exact .done | (refine .pick (by repeat (first | exact .here | apply Fnt.there)) ?_) | refine .skip ?_))))
        have e3 : hlX (xs ++ [(cs[i], (a1, cs[i].times.length, c1))]) = hlX xs ++ [(cs[i].id, (cs[i], .slice a1 cs[i].times.length c1))] := by unfold hlX; rw [List.map_append]; rfl
        rw [e3]
        exact h3.f1
    · have g' : decide ((i : Int) < (cs.length : Int)) = false := by simpa using g
      have e : i = cs.length := by omega
      subst e
      (repeat (first
 | (simp (disch := omega) only [evA, evB, bAdd_i64, bSub_i64, ptr, Nat.zero_add, Bool.not_true, Bool.not_false, Option.isNone_some, Option.isNone_none, Option.isSome_some, Option.isSome_none, decide_true, decide_false, eq_self, true_and, and_assoc, g'])
 | ((with_reducible apply go_ld1 h))
 | ((with_reducible apply go_ldA h); (rfl))
 | ((with_reducible apply go_ldN h))
 | ((with_reducible apply go_st h); intro _ h)
 | ((with_reducible apply go_stA h); (rfl); (rfl); (first | rfl | simp [OneV.o]); intro _ h)
 | ((with_reducible apply go_stN h); (rfl); (first | rfl | simp [OneV.o]); intro _ h)
 | ((with_reducible apply go_box h); rfl; intro _ _ h)
 | ((with_reducible apply go_rd h); (rfl))
 | ((with_reducible apply go_rdN h); (rfl))
 | ((with_reducible apply go_rlen h); (rfl))
 | ((with_reducible apply go_lenL h))
 | ((with_reducible apply go_ix h); (omega))
 | ((with_reducible apply go_elN h); (case hi => omega))
 | ((with_reducible apply go_fa h); (omega); (omega))
 | ((with_reducible apply go_f1 h); (case hi => omega); (case hx => exact inferInstance))
 | ((with_reducible apply go_rf1 h); (case hi => omega); (case hx => exact inferInstance); (case hv => rfl))
 | ((with_reducible apply go_rel h); (case hi => omega); (case hv => rfl))
))
      unfold F54_3 F54_3b
      refine hK sv w (ctxL_iff.2 ⟨xs, by rw [hx, List.take_length], h.get (by (repeat (first | exact .done | (refine .pick (by repeat (first | exact .here | apply Fnt.there)) ?_) | refine .skip ?_)))⟩)
theorem aall_spec (h : Sat w0 (HoldA v n next cs :: L) w) (hid : next ≤ 4611686018427387904) (hK : ∀ sv w', Sat w0 (CtxL sv cs :: HoldA v n next cs :: L) w' → K sv w') : callP G54 [v] w K := by
  refine c54 ?_
  unfold F54 F54_1 F54_1b
  replace h := holdA_iff.1 h
  obtain ⟨hn, m, I, M, H, h⟩ := h
  replace h := hold_iff.1 h
  obtain ⟨p, dp, ml, mi, rfl, h⟩ := h
  have := map_one (h.front (A := MapH kH ctxE ml m) (by repeat (first | exact .here | apply Fnt.there)))
  have := map_one (h.front (A := MapH sgnV kH mi I) (by repeat (first | exact .here | apply Fnt.there)))
  obtain ⟨r1, _, _, ⟨rfl, _⟩, _⟩ := map_iff.1 (h.front (A := MapH kH ctxE ml m) (by repeat (first | exact .here | apply Fnt.there)))
  (repeat (first
 | (simp (disch := omega) only [evA, evB, bAdd_i64, bSub_i64, ptr, Nat.zero_add, Bool.not_true, Bool.not_false, Option.isNone_some, Option.isNone_none, Option.isSome_some, Option.isSome_none, decide_true, decide_false, eq_self, true_and, and_assoc])
 | ((with_reducible apply go_ld1 h))
 | ((with_reducible apply go_ldA h); (rfl))
 | ((with_reducible apply go_ldN h))
 | ((with_reducible apply go_st h); intro _ h)
 | ((with_reducible apply go_stA h); (rfl); (rfl); (first | rfl | simp [OneV.o]); intro _ h)
 | ((with_reducible apply go_stN h); (rfl); (first | rfl | simp [OneV.o]); intro _ h)
 | ((with_reducible apply go_box h); rfl; intro _ _ h)
 | ((with_reducible apply go_rd h); (rfl))
 | ((with_reducible apply go_rdN h); (rfl))
 | ((with_reducible apply go_rlen h); (rfl))
 | ((with_reducible apply go_lenL h))
 | ((with_reducible apply go_ix h); (omega))
 | ((with_reducible apply go_elN h); (case hi => omega))
 | ((with_reducible apply go_fa h); (omega); (omega))
 | ((with_reducible apply go_f1 h); (case hi => omega); (case hx => exact inferInstance))
 | ((with_reducible apply go_rf1 h); (case hi => omega); (case hx => exact inferInstance); (case hv => rfl))
 | ((with_reducible apply go_rel h); (case hi => omega); (case hv => rfl))
))
  refine c108 ?_
  unfold F108
  (repeat (first
 | (simp (disch := omega) only [evA, evB, bAdd_i64, bSub_i64, ptr, Nat.zero_add, Bool.not_true, Bool.not_false, Option.isNone_some, Option.isNone_none, Option.isSome_some, Option.isSome_none, decide_true, decide_false, eq_self, true_and, and_assoc])
 | ((with_reducible apply go_ld1 h))
 | ((with_reducible apply go_ldA h); (rfl))
 | ((with_reducible apply go_ldN h))
 | ((with_reducible apply go_st h); intro _ h)
 | ((with_reducible apply go_stA h); (rfl); (rfl); (first | rfl | simp [OneV.o]); intro _ h)
 | ((with_reducible apply go_stN h); (rfl); (first | rfl | simp [OneV.o]); intro _ h)
 | ((with_reducible apply go_box h); rfl; intro _ _ h)
 | ((with_reducible apply go_rd h); (rfl))
 | ((with_reducible apply go_rdN h); (rfl))
 | ((with_reducible apply go_rlen h); (rfl))
 | ((with_reducible apply go_lenL h))
 | ((with_reducible apply go_ix h); (omega))
 | ((with_reducible apply go_elN h); (case hi => omega))
 | ((with_reducible apply go_fa h); (omega); (omega))
 | ((with_reducible apply go_f1 h); (case hi => omega); (case hx => exact inferInstance))
 | ((with_reducible apply go_rf1 h); (case hi => omega); (case hx => exact inferInstance); (case hv => rfl))
 | ((with_reducible apply go_rel h); (case hi => omega); (case hv => rfl))
))
  refine sortedI_sat (m := m) (ev := ctxE) (L := Cl p #[dp, .int .i64 n, .int .i64 next, .map (some r1), mi] 159 :: HeapH dp hn M :: MapH sgnV kH mi I :: bag m :: L) (h.get (by (repeat (first | exact .done | (refine .pick (by repeat (first | exact .here | apply Fnt.there)) ?_) | refine .skip ?_)))) ?_ ?_ fun l v w hp hs h => ?_
  · intro x hx
    have h1 := H.1.key x hx
    have h2 := (H.1.ok x.2.1 (H.1.pm.mem_iff.1 (List.mem_map.2 ⟨x, hx, rfl⟩))).2.2
    omega
  · rw [H.1.len]; have := H.1.bd; omega
  have el : l = cs.map (·.id) := by
    refine List.Perm.eq_of_pairwise (le := fun a b : Int => a ≤ b) (fun a b _ _ h1 h2 => by omega) hs ?_ (hp.trans ?_)
    · exact List.pairwise_map.2 (H.1.asc.imp fun h => by omega)
    · have e : m.map Prod.fst = (m.map fun x => x.2.1).map (·.id) := by
        rw [List.map_map]
        exact List.map_congr_left fun x hx => H.1.key x hx
      rw [e]
      exact H.1.pm.map _
  subst el
  have hll := ls_len h
  rw [List.length_map] at hll
  (repeat (first
 | (simp (disch := omega) only [evA, evB, bAdd_i64, bSub_i64, ptr, Nat.zero_add, Bool.not_true, Bool.not_false, Option.isNone_some, Option.isNone_none, Option.isSome_some, Option.isSome_none, decide_true, decide_false, eq_self, true_and, and_assoc, hll])
 | ((with_reducible apply go_ld1 h))
 | ((with_reducible apply go_ldA h); (rfl))
 | ((with_reducible apply go_ldN h))
 | ((with_reducible apply go_st h); intro _ h)
 | ((with_reducible apply go_stA h); (rfl); (rfl); (first | rfl | simp [OneV.o]); intro _ h)
 | ((with_reducible apply go_stN h); (rfl); (first | rfl | simp [OneV.o]); intro _ h)
 | ((with_reducible apply go_box h); rfl; intro _ _ h)
 | ((with_reducible apply go_rd h); (rfl))
 | ((with_reducible apply go_rdN h); (rfl))
 | ((with_reducible apply go_rlen h); (rfl))
 | ((with_reducible apply go_lenL h))
 | ((with_reducible apply go_ix h); (omega))
 | ((with_reducible apply go_elN h); (case hi => omega))
 | ((with_reducible apply go_fa h); (omega); (omega))
 | ((with_reducible apply go_f1 h); (case hi => omega); (case hx => exact inferInstance))
 | ((with_reducible apply go_rf1 h); (case hi => omega); (case hx => exact inferInstance); (case hv => rfl))
 | ((with_reducible apply go_rel h); (case hi => omega); (case hv => rfl))
))
  unfold F54_2
  refine all_loop (w0 := w0) (mi := mi) (ml := .map (some r1)) (dp := dp) (L := HeapH dp hn M :: MapH sgnV kH mi I :: L) H.1 (fun sv w h => ?_) fuel 0 [] (.slice none 0 0) _ (by have := H.1.bd; unfold fuel; omega) (by omega) rfl ?_
  · exact hK sv w (Sat.f1 (holdA_iff.2 ⟨hn, m, I, M, H, hold_iff.2 ⟨p, dp, _, mi, rfl, h.get (by (repeat (first | exact .done | (refine .pick (by repeat (first | exact .here | apply Fnt.there)) ?_) | refine .skip ?_)))⟩⟩))
  · have h3 : Sat w0 (bag [] :: _) _ := bag_iff.2 h
    have h4 := ls_nil (f := cX) (es := 11) (ty := 41) h3
    exact h4.get (by (repeat (first | exact .done | (refine .pick (by repeat (first | exact .here | apply Fnt.there)) ?_) | refine .skip ?_)))
end
end Go.Proofs.Gong

/- Ho8 -/
namespace Go.Proofs.Gong
open Go Go.Sx Go.Proofs
set_option maxRecDepth 100000
def ctxK (k : Nat) : Ctx := ⟨0, (k % 3 : Nat), [UInt8.ofNat (97 + k / 3 % 4)], if k / 12 % 2 = 0 then [] else [107], (k / 24 % 50 : Nat), ⟨[], [], [], 0, []⟩, []⟩
def ctxN' (x : Int) : Ctx := ctxK (bel x 1048576).toNat
theorem okSign_k : ∀ a < 4, okSign [UInt8.ofNat (97 + a)] [] = true ∧ okSign [UInt8.ofNat (97 + a)] [107] = true := by decide +kernel
theorem ctxK_ok (k : Nat) : okC (ctxK k) = true := by
  have h := okSign_k (k / 3 % 4) (by omega)
  have h2 : okSign (ctxK k).node (ctxK k).key = true := by
    unfold ctxK
    by_cases g : k / 12 % 2 = 0
    · simp only [g, if_true]; exact h.1
    · simp only [g, if_false]; exact h.2
  unfold okC
  rw [h2]
  have e1 : okEv (ctxK k).e = true := by unfold okEv ctxK zeroE; simp
  have e2 : okTimes (ctxK k).times = true := by unfold okTimes ctxK; simp [ascI]
  rw [e1, e2]
  unfold ctxK timeP
  simp
  omega
theorem ctxK_fits (k : Nat) : (ctxK k).fits := by
  unfold Ctx.fits Evt.fits ctxK
  split <;> simp
def insC (c : Ctx) (cs : List Ctx) : List Ctx := cs.takeWhile (fun d => decide (d.id < c.id)) ++ c :: cs.dropWhile (fun d => decide (d.id < c.id))
theorem insC_perm (c : Ctx) (cs : List Ctx) : (insC c cs).Perm (c :: cs) := by
  unfold insC
  exact List.perm_middle.trans (by rw [List.takeWhile_append_dropWhile])
theorem insC_asc {c : Ctx} : ∀ {cs : List Ctx}, (cs.Pairwise fun a b => a.id < b.id) → (∀ d ∈ cs, d.id ≠ c.id) → (insC c cs).Pairwise fun a b => a.id < b.id
  | [], _, _ => by simp [insC]
  | d :: r, h, hn => by
    obtain ⟨h1, h2⟩ := List.pairwise_cons.1 h
    have hd := hn d (by simp)
    by_cases g : d.id < c.id
    · have e : insC c (d :: r) = d :: insC c r := by simp [insC, g]
      rw [e]
      refine List.pairwise_cons.2 ⟨fun x hx => ?_, insC_asc h2 fun x hx => hn x (List.mem_cons_of_mem _ hx)⟩
      rcases List.mem_cons.1 ((insC_perm c r).mem_iff.1 hx) with rfl | hx
      · exact g
      · exact h1 x hx
    · have e : insC c (d :: r) = c :: d :: r := by simp [insC, g]
      rw [e]
      refine List.pairwise_cons.2 ⟨fun x hx => ?_, h⟩
      rcases List.mem_cons.1 hx with rfl | hx
      · omega
      · have := h1 x hx; omega
theorem HInv.ins {n next hn : Int} {m : Held} {I : List (Sgn × Int)} {M : List It} {cs : List Ctx} {c : Ctx} {s : Value} (H : HInv n next hn m I M cs) (ho : okC c = true) (hf : c.fits) (hs : ∀ d ∈ cs, sgnOf d ≠ sgnOf c) (hnew : ∀ d ∈ cs, d.id ≠ c.id) (hl : (cs.length : Int) < n)
    (h1 : 1 ≤ c.id) (h2 : c.id < next) : HInv n next hn (aSet c.id (c, s) m) (aSet (sgnOf c) c.id I) (setR hn c.id c.at' M).2 (insC c cs) := by
  have g1 := H.get_none hnew
  have g2 := H.snone hs
  have g3 : ∀ t, (c.id, t) ∉ M := fun t ht => by
    obtain ⟨d, hd, e⟩ := List.mem_map.1 (H.pM.mem_iff.1 ht)
    simp only [Prod.mk.injEq] at e
    exact hnew d hd e.1
  have hb := H.bd
  have ht := okC_time ho
  have hM : (setR hn c.id c.at' M).2 = setM c.id c.at' M := by
    unfold setR
    rw [if_neg (by omega), if_neg (by rw [H.mlen]; omega)]
  rw [aSet_new g1, aSet_new g2, hM]
  have hp := insC_perm c cs
  refine ⟨?_, ?_, insC_asc H.asc hnew, ?_, ?_, ?_, ?_, ?_, ?_⟩
  · rw [List.map_append]
    refine (List.perm_append_comm.trans ?_).trans hp.symm
    exact H.pm.cons _
  · intro x hx
    rcases List.mem_append.1 hx with hx | hx
    · exact H.key x hx
    · simp at hx; subst hx; rfl
  · refine (List.perm_append_comm.trans ?_).trans (hp.map _).symm
    exact H.pI.cons _
  · refine hp.symm.pairwise ?_ (fun h => h.symm)
    exact List.pairwise_cons.2 ⟨fun d hd e => hs d hd e.symm, H.sg⟩
  · unfold setM
    refine ((insM_perm _ _).trans ?_).trans (hp.map _).symm
    rw [drop_absent g3]
    exact H.pM.cons _
  · exact (H.aM.drop _).ins _
  · have := hp.length_eq; simp at this; omega
  · intro d hd
    rcases List.mem_cons.1 (hp.mem_iff.1 hd) with rfl | hd
    · exact ⟨ho, hf, h1, h2⟩
    · exact H.ok d hd
def loadStep (next : Int) (cs : List Ctx) (c : Ctx) : Option (List Ctx) :=
  if okC c = true ∧ 1 ≤ c.id ∧ c.id < next ∧ (∀ d ∈ cs, d.id ≠ c.id) ∧ (∀ d ∈ cs, sgnOf d ≠ sgnOf c) then some (insC c cs) else none
def loadL (next : Int) : List Ctx → List Ctx → Option (List Ctx)
  | [], cs => some cs
  | c :: l, cs => (loadStep next cs c).bind (loadL next l)
theorem loadL_len {next : Int} : ∀ {l cs ds : List Ctx}, loadL next l cs = some ds → ds.length = cs.length + l.length
  | [], cs, ds, h => by simp [loadL] at h; subst h; simp
  | c :: l, cs, ds, h => by
    unfold loadL loadStep at h
    split at h
    · have := loadL_len (l := l) h
      have h2 := (insC_perm c cs).length_eq
      simp at h2 ⊢; omega
    · cases h
attribute [local irreducible] fBuild fLook fZero eqv bEqv Cl MapH LsH SlH ld1 ldN st callP eBox eAlloc lenM lenL eMapSet eDelete eAppend eBuildSl eRange eNext
section
variable {w0 w : World} {L : List HP} {K : Value → World → Prop} {v : Value} {n next hn : Int} {m : Held} {I : List (Sgn × Int)} {M : List It} {cs : List Ctx} {c : Ctx} {tv s : Value}
theorem context_spec {x : Int} (h : Sat w0 L w) (hK : ∀ w', Sat w0 L w' → K (ctxV (ctxN' x) (.slice none 0 0)) w') : callP G51 [.int .i64 x] w K := by
  refine c51 ?_
  unfold F51
  refine go_alloc h zc41 rfl fun _ _ h => ?_
  refine Below_spec (by decide) (by decide) fun r h1 h2 hr => ?_
  unfold ctxN' at hK
  rw [← hr] at hK
  obtain ⟨k, rfl⟩ : ∃ k : Nat, r = k := ⟨r.toNat, by omega⟩
  rw [show ((k : Nat) : Int).toNat = k from by omega] at hK
  have e1 : bRem (.int .i64 (k : Int)) (.int .i64 3) = some (.int .i64 ((k % 3 : Nat) : Int)) := by
    rw [bRem_int _ _ _ (by decide), Int.tmod_eq_emod_of_nonneg (by omega)]; congr 2
  have e2 : bQuo (.int .i64 (k : Int)) (.int .i64 3) = some (.int .i64 ((k / 3 : Nat) : Int)) := by
    rw [bQuo_int _ _ _ (by decide), Int.tdiv_eq_ediv_of_nonneg (by omega), wrap_id (by omega)]; congr 2
  have e3 : bRem (.int .i64 ((k / 3 : Nat) : Int)) (.int .i64 4) = some (.int .i64 ((k / 3 % 4 : Nat) : Int)) := by
    rw [bRem_int _ _ _ (by decide), Int.tmod_eq_emod_of_nonneg (by omega)]; congr 2
  have e5 : bQuo (.int .i64 (k : Int)) (.int .i64 12) = some (.int .i64 ((k / 12 : Nat) : Int)) := by
    rw [bQuo_int _ _ _ (by decide), Int.tdiv_eq_ediv_of_nonneg (by omega), wrap_id (by omega)]; congr 2
  have e6 : bRem (.int .i64 ((k / 12 : Nat) : Int)) (.int .i64 2) = some (.int .i64 ((k / 12 % 2 : Nat) : Int)) := by
    rw [bRem_int _ _ _ (by decide), Int.tmod_eq_emod_of_nonneg (by omega)]; congr 2
  have e7 : bQuo (.int .i64 (k : Int)) (.int .i64 24) = some (.int .i64 ((k / 24 : Nat) : Int)) := by
    rw [bQuo_int _ _ _ (by decide), Int.tdiv_eq_ediv_of_nonneg (by omega), wrap_id (by omega)]; congr 2
  have e8 : bRem (.int .i64 ((k / 24 : Nat) : Int)) (.int .i64 50) = some (.int .i64 ((k / 24 % 50 : Nat) : Int)) := by
    rw [bRem_int _ _ _ (by decide), Int.tmod_eq_emod_of_nonneg (by omega)]; congr 2
  have e4 : ∀ a < 4, (bAdd (.int .i64 97) (.int .i64 ((a : Nat) : Int))).bind (cInt .u8) = some (.int .u8 ((UInt8.ofNat (97 + a)).toNat : Nat)) := by
    intro a ha
    obtain rfl | rfl | rfl | rfl : a = 0 ∨ a = 1 ∨ a = 2 ∨ a = 3 := by omega
    all_goals rfl
  have e9 : pSliceS (.string ⟨#[107]⟩) none (some (.int .i64 ((k / 12 % 2 : Nat) : Int))) = some (.string (bs (if k / 12 % 2 = 0 then [] else [107]))) := by
    have : pSliceS (.string (bs [107])) none (some (.int .i64 ((k / 12 % 2 : Nat) : Int))) = _ := sub_to (l := [107]) (j := .i64) (show k / 12 % 2 ≤ 1 by omega)
    rw [show (⟨#[107]⟩ : ByteArray) = bs [107] from rfl, this]
    rcases Nat.mod_two_eq_zero_or_one (k / 12) with g | g <;> rw [g] <;> rfl
  have e4' := e4 (k / 3 % 4) (by omega)
  obtain ⟨y, ey, ec⟩ := Option.bind_eq_some_iff.1 e4'
  have e0 : ∀ X : Value → Prop, bindP (some y) X = X y := fun X => rfl
  simp only [e1, e2, e3, bindP_some, ey, ec, e5, e6, e9, e7, e8]
  refine go_lit1 (f := fun b : UInt8 => [.int .u8 b.toNat]) (x := UInt8.ofNat (97 + k / 3 % 4)) (show Cod (fun b : UInt8 => [Value.int .u8 b.toNat]) 1 from ⟨fun _ => rfl, fun _ => rfl, by omega⟩) h u29 (c := #[.int .u8 ((UInt8.ofNat (97 + k / 3 % 4)).toNat : Nat)]) (by kernel_rfl) rfl fun s w h => ?_
  have hb : cBytes s w = some (.string (bs [UInt8.ofNat (97 + k / 3 % 4)])) := cBytes_rd (ls_rd h) (by simp)
  (repeat (first
 | (simp (disch := omega) only [evA, evB, bAdd_i64, bSub_i64, ptr, Nat.zero_add, Bool.not_true, Bool.not_false, Option.isNone_some, Option.isNone_none, Option.isSome_some, Option.isSome_none, decide_true, decide_false, eq_self, true_and, and_assoc, hb])
 | (refine go_some (fb41_1_2_3_4 ..) ?_)
 | ((with_reducible apply go_ld1 h))
 | ((with_reducible apply go_ldA h); (rfl))
 | ((with_reducible apply go_ldN h))
 | ((with_reducible apply go_st h); intro _ h)
 | ((with_reducible apply go_stA h); (rfl); (rfl); (first | rfl | simp [OneV.o]); intro _ h)
 | ((with_reducible apply go_stN h); (rfl); (first | rfl | simp [OneV.o]); intro _ h)
 | ((with_reducible apply go_box h); rfl; intro _ _ h)
 | ((with_reducible apply go_rd h); (rfl))
 | ((with_reducible apply go_rdN h); (rfl))
 | ((with_reducible apply go_rlen h); (rfl))
 | ((with_reducible apply go_lenL h))
 | ((with_reducible apply go_ix h); (omega))
 | ((with_reducible apply go_elN h); (case hi => omega))
 | ((with_reducible apply go_fa h); (omega); (omega))
 | ((with_reducible apply go_f1 h); (case hi => omega); (case hx => exact inferInstance))
 | ((with_reducible apply go_rf1 h); (case hi => omega); (case hx => exact inferInstance); (case hv => rfl))
 | ((with_reducible apply go_rel h); (case hi => omega); (case hv => rfl))
))
  exact hK _ (h.get (by (repeat (first | exact .done | (refine .pick (by repeat (first | exact .here | apply Fnt.there)) ?_) | refine .skip ?_))))
def RdC (w0 : World) (L : List HP) (sv : Value) (l : List (Ctx × SV)) : Prop := RdL w0 L cX 11 sv l ∧ ∀ x ∈ l, RdL w0 L cI 1 (svV x.2) x.1.times
theorem load_loop {p q : Nat} {sv : Value} {l : List (Ctx × SV)} (hfit : ∀ x ∈ l, x.1.fits) (hlen : l.length ≤ 65536) (hnx : 1 ≤ next ∧ next ≤ 1152921504606846976)
    (hrd : RdC w0 L sv l) (hK0 : loadL next (l.map Prod.fst) [] = none → ∀ w', Sat w0 L w' → K (.int .i64 4) w')
    (hK1 : ∀ cs, loadL next (l.map Prod.fst) [] = some cs → ∀ w', Sat w0 (HoldA (ptr q) 65536 next cs :: L) w' → F60_3 (ptr p) sv (ptr q) w' K) :
    ∀ (d i : Nat) (cs : List Ctx) (w : World), l.length - i < d → i ≤ l.length → cs.length = i → loadL next (l.map Prod.fst) [] = loadL next ((l.drop i).map Prod.fst) cs →
      Sat w0 (HoldA (ptr q) 65536 next cs :: L) w → F60_2L d (ptr p) sv (.int .i64 next) (ptr q) sv (.int .i64 (l.length : Nat)) (.int .i64 i) w K := by
  intro d
  induction d with
  | zero => intro i _ _ hd; omega
  | succ d ih =>
    intro i cs w hd hi hc he h
    rw [F60_2L]
    unfold F60_4 F60_4b F60_5 F60_5b
    by_cases g : i < l.length
    · have g' : decide ((i : Int) < (l.length : Int)) = true := by simpa using g
      have hd1 : (l.drop i).map Prod.fst = l[i].1 :: (l.drop (i + 1)).map Prod.fst := by rw [List.drop_eq_getElem_cons g]; rfl
      rw [hd1] at he
      replace h := holdA_iff.1 h
      obtain ⟨hn, m, I, M, H, h⟩ := h
      replace h := hold_iff.1 h
      obtain ⟨p', dp, ml, mi, e, h⟩ := h
      cases e
      have := map_one (h.front (A := MapH kH ctxE ml m) (by repeat (first | exact .here | apply Fnt.there)))
      have := map_one (h.front (A := MapH sgnV kH mi I) (by repeat (first | exact .here | apply Fnt.there)))
      have hrL : Rd w 11 sv l.length (l.flatMap cX) := hrd.1 w (h.get (by (repeat (first | exact .done | (refine .pick (by repeat (first | exact .here | apply Fnt.there)) ?_) | refine .skip ?_))))
      (repeat (first
 | (simp (disch := omega) only [evA, evB, bAdd_i64, bSub_i64, ptr, Nat.zero_add, Bool.not_true, Bool.not_false, Option.isNone_some, Option.isNone_none, Option.isSome_some, Option.isSome_none, decide_true, decide_false, eq_self, true_and, and_assoc, g'])
 | ((with_reducible apply go_ld1 h))
 | ((with_reducible apply go_ldA h); (rfl))
 | ((with_reducible apply go_ldN h))
 | ((with_reducible apply go_st h); intro _ h)
 | ((with_reducible apply go_stA h); (rfl); (rfl); (first | rfl | simp [OneV.o]); intro _ h)
 | ((with_reducible apply go_stN h); (rfl); (first | rfl | simp [OneV.o]); intro _ h)
 | ((with_reducible apply go_box h); rfl; intro _ _ h)
 | ((with_reducible apply go_rd h); (rfl))
 | ((with_reducible apply go_rdN h); (rfl))
 | ((with_reducible apply go_rlen h); (rfl))
 | ((with_reducible apply go_lenL h))
 | ((with_reducible apply go_ix h); (omega))
 | ((with_reducible apply go_elN h); (case hi => omega))
 | ((with_reducible apply go_fa h); (omega); (omega))
 | ((with_reducible apply go_f1 h); (case hi => omega); (case hx => exact inferInstance))
 | ((with_reducible apply go_rf1 h); (case hi => omega); (case hx => exact inferInstance); (case hv => rfl))
 | ((with_reducible apply go_rel h); (case hi => omega); (case hv => rfl))
))
      refine go_some (ix_el hrL g) ?_
      refine go_some (rd_ld CX hrL g) ?_
      (repeat (first
 | (simp (disch := omega) only [evA, evB, bAdd_i64, bSub_i64, ptr, Nat.zero_add, Bool.not_true, Bool.not_false, Option.isNone_some, Option.isNone_none, Option.isSome_some, Option.isSome_none, decide_true, decide_false, eq_self, true_and, and_assoc])
 | ((with_reducible apply go_ld1 h))
 | ((with_reducible apply go_ldA h); (rfl))
 | ((with_reducible apply go_ldN h))
 | ((with_reducible apply go_st h); intro _ h)
 | ((with_reducible apply go_stA h); (rfl); (rfl); (first | rfl | simp [OneV.o]); intro _ h)
 | ((with_reducible apply go_stN h); (rfl); (first | rfl | simp [OneV.o]); intro _ h)
 | ((with_reducible apply go_box h); rfl; intro _ _ h)
 | ((with_reducible apply go_rd h); (rfl))
 | ((with_reducible apply go_rdN h); (rfl))
 | ((with_reducible apply go_rlen h); (rfl))
 | ((with_reducible apply go_lenL h))
 | ((with_reducible apply go_ix h); (omega))
 | ((with_reducible apply go_elN h); (case hi => omega))
 | ((with_reducible apply go_fa h); (omega); (omega))
 | ((with_reducible apply go_f1 h); (case hi => omega); (case hx => exact inferInstance))
 | ((with_reducible apply go_rf1 h); (case hi => omega); (case hx => exact inferInstance); (case hv => rfl))
 | ((with_reducible apply go_rel h); (case hi => omega); (case hv => rfl))
))
      have hx := List.getElem_mem g
      have hro : RdL w0 L cI 1 (svV l[i].2) l[i].1.times := hrd.2 _ hx
      have hfc := hfit _ hx
      generalize l[i] = y at he hro hfc
      obtain ⟨c, t⟩ := y
      have hbad : loadStep next cs c = none → loadL next (l.map Prod.fst) [] = none := fun h => by rw [he]; simp [loadL, h]
      refine go_alloc h zc41 rfl fun _ _ h => ?_
      (repeat (first
 | (simp (disch := omega) only [evA, evB, bAdd_i64, bSub_i64, ptr, Nat.zero_add, Bool.not_true, Bool.not_false, Option.isNone_some, Option.isNone_none, Option.isSome_some, Option.isSome_none, decide_true, decide_false, eq_self, true_and, and_assoc])
 | ((with_reducible apply go_ld1 h))
 | ((with_reducible apply go_ldA h); (rfl))
 | ((with_reducible apply go_ldN h))
 | ((with_reducible apply go_st h); intro _ h)
 | ((with_reducible apply go_stA h); (rfl); (rfl); (first | rfl | simp [OneV.o]); intro _ h)
 | ((with_reducible apply go_stN h); (rfl); (first | rfl | simp [OneV.o]); intro _ h)
 | ((with_reducible apply go_box h); rfl; intro _ _ h)
 | ((with_reducible apply go_rd h); (rfl))
 | ((with_reducible apply go_rdN h); (rfl))
 | ((with_reducible apply go_rlen h); (rfl))
 | ((with_reducible apply go_lenL h))
 | ((with_reducible apply go_ix h); (omega))
 | ((with_reducible apply go_elN h); (case hi => omega))
 | ((with_reducible apply go_fa h); (omega); (omega))
 | ((with_reducible apply go_f1 h); (case hi => omega); (case hx => exact inferInstance))
 | ((with_reducible apply go_rf1 h); (case hi => omega); (case hx => exact inferInstance); (case hv => rfl))
 | ((with_reducible apply go_rel h); (case hi => omega); (case hv => rfl))
))
      refine go_look2 h (by repeat (first | exact .here | apply Fnt.there)) KIh um156 zc41 c.id ?_
      obtain ⟨b0, s0, e0, ho0⟩ : ∃ b0 s0, (aGet c.id m).elim (ctxV zeroC (.slice none 0 0)) ctxE = ctxV b0 s0 ∧ OneV s0 := by
        cases hg : aGet c.id m with
        | none => exact ⟨zeroC, _, rfl, inferInstance⟩
        | some x =>
          have hrb : RdL w0 (bag m :: L) cI 1 x.2 x.1.times := bag_rd (c := x.1) (s := x.2) hg .here
          exact ⟨x.1, x.2, rfl, (hrb _ (h.get (by (repeat (first | exact .done | (refine .pick (by repeat (first | exact .here | apply Fnt.there)) ?_) | refine .skip ?_))))).one⟩
      rw [e0]
      (repeat (first
 | (simp (disch := omega) only [evA, evB, bAdd_i64, bSub_i64, ptr, Nat.zero_add, Bool.not_true, Bool.not_false, Option.isNone_some, Option.isNone_none, Option.isSome_some, Option.isSome_none, decide_true, decide_false, eq_self, true_and, and_assoc])
 | ((with_reducible apply go_ld1 h))
 | ((with_reducible apply go_ldA h); (rfl))
 | ((with_reducible apply go_ldN h))
 | ((with_reducible apply go_st h); intro _ h)
 | ((with_reducible apply go_stA h); (rfl); (rfl); (first | rfl | simp [OneV.o]); intro _ h)
 | ((with_reducible apply go_stN h); (rfl); (first | rfl | simp [OneV.o]); intro _ h)
 | ((with_reducible apply go_box h); rfl; intro _ _ h)
 | ((with_reducible apply go_rd h); (rfl))
 | ((with_reducible apply go_rdN h); (rfl))
 | ((with_reducible apply go_rlen h); (rfl))
 | ((with_reducible apply go_lenL h))
 | ((with_reducible apply go_ix h); (omega))
 | ((with_reducible apply go_elN h); (case hi => omega))
 | ((with_reducible apply go_fa h); (omega); (omega))
 | ((with_reducible apply go_f1 h); (case hi => omega); (case hx => exact inferInstance))
 | ((with_reducible apply go_rf1 h); (case hi => omega); (case hx => exact inferInstance); (case hv => rfl))
 | ((with_reducible apply go_rel h); (case hi => omega); (case hv => rfl))
))
      refine go_alloc h zc41 rfl fun _ _ h => ?_
      (repeat (first
 | (simp (disch := omega) only [evA, evB, bAdd_i64, bSub_i64, ptr, Nat.zero_add, Bool.not_true, Bool.not_false, Option.isNone_some, Option.isNone_none, Option.isSome_some, Option.isSome_none, decide_true, decide_false, eq_self, true_and, and_assoc])
 | ((with_reducible apply go_ld1 h))
 | ((with_reducible apply go_ldA h); (rfl))
 | ((with_reducible apply go_ldN h))
 | ((with_reducible apply go_st h); intro _ h)
 | ((with_reducible apply go_stA h); (rfl); (rfl); (first | rfl | simp [OneV.o]); intro _ h)
 | ((with_reducible apply go_stN h); (rfl); (first | rfl | simp [OneV.o]); intro _ h)
 | ((with_reducible apply go_box h); rfl; intro _ _ h)
 | ((with_reducible apply go_rd h); (rfl))
 | ((with_reducible apply go_rdN h); (rfl))
 | ((with_reducible apply go_rlen h); (rfl))
 | ((with_reducible apply go_lenL h))
 | ((with_reducible apply go_ix h); (omega))
 | ((with_reducible apply go_elN h); (case hi => omega))
 | ((with_reducible apply go_fa h); (omega); (omega))
 | ((with_reducible apply go_f1 h); (case hi => omega); (case hx => exact inferInstance))
 | ((with_reducible apply go_rf1 h); (case hi => omega); (case hx => exact inferInstance); (case hv => rfl))
 | ((with_reducible apply go_rel h); (case hi => omega); (case hv => rfl))
))
      refine go_fok ((look2 (h.front (by repeat (first | exact .here | apply Fnt.there))) KIh um156 zc41 c.id).trans (by rw [e0])) ?_
      (repeat (first
 | (simp (disch := omega) only [evA, evB, bAdd_i64, bSub_i64, ptr, Nat.zero_add, Bool.not_true, Bool.not_false, Option.isNone_some, Option.isNone_none, Option.isSome_some, Option.isSome_none, decide_true, decide_false, eq_self, true_and, and_assoc])
 | ((with_reducible apply go_ld1 h))
 | ((with_reducible apply go_ldA h); (rfl))
 | ((with_reducible apply go_ldN h))
 | ((with_reducible apply go_st h); intro _ h)
 | ((with_reducible apply go_stA h); (rfl); (rfl); (first | rfl | simp [OneV.o]); intro _ h)
 | ((with_reducible apply go_stN h); (rfl); (first | rfl | simp [OneV.o]); intro _ h)
 | ((with_reducible apply go_box h); rfl; intro _ _ h)
 | ((with_reducible apply go_rd h); (rfl))
 | ((with_reducible apply go_rdN h); (rfl))
 | ((with_reducible apply go_rlen h); (rfl))
 | ((with_reducible apply go_lenL h))
 | ((with_reducible apply go_ix h); (omega))
 | ((with_reducible apply go_elN h); (case hi => omega))
 | ((with_reducible apply go_fa h); (omega); (omega))
 | ((with_reducible apply go_f1 h); (case hi => omega); (case hx => exact inferInstance))
 | ((with_reducible apply go_rf1 h); (case hi => omega); (case hx => exact inferInstance); (case hv => rfl))
 | ((with_reducible apply go_rel h); (case hi => omega); (case hv => rfl))
))
      refine hof_spec (a := c) h.drew fun w h => ?_
      (repeat (first
 | (simp (disch := omega) only [evA, evB, bAdd_i64, bSub_i64, ptr, Nat.zero_add, Bool.not_true, Bool.not_false, Option.isNone_some, Option.isNone_none, Option.isSome_some, Option.isSome_none, decide_true, decide_false, eq_self, true_and, and_assoc])
 | ((with_reducible apply go_ld1 h))
 | ((with_reducible apply go_ldA h); (rfl))
 | ((with_reducible apply go_ldN h))
 | ((with_reducible apply go_st h); intro _ h)
 | ((with_reducible apply go_stA h); (rfl); (rfl); (first | rfl | simp [OneV.o]); intro _ h)
 | ((with_reducible apply go_stN h); (rfl); (first | rfl | simp [OneV.o]); intro _ h)
 | ((with_reducible apply go_box h); rfl; intro _ _ h)
 | ((with_reducible apply go_rd h); (rfl))
 | ((with_reducible apply go_rdN h); (rfl))
 | ((with_reducible apply go_rlen h); (rfl))
 | ((with_reducible apply go_lenL h))
 | ((with_reducible apply go_ix h); (omega))
 | ((with_reducible apply go_elN h); (case hi => omega))
 | ((with_reducible apply go_fa h); (omega); (omega))
 | ((with_reducible apply go_f1 h); (case hi => omega); (case hx => exact inferInstance))
 | ((with_reducible apply go_rf1 h); (case hi => omega); (case hx => exact inferInstance); (case hv => rfl))
 | ((with_reducible apply go_rel h); (case hi => omega); (case hv => rfl))
))
      refine go_look2 h (by repeat (first | exact .here | apply Fnt.there)) KSgn um157 z3 (sgnOf c) ?_
      (repeat (first
 | (simp (disch := omega) only [evA, evB, bAdd_i64, bSub_i64, ptr, Nat.zero_add, Bool.not_true, Bool.not_false, Option.isNone_some, Option.isNone_none, Option.isSome_some, Option.isSome_none, decide_true, decide_false, eq_self, true_and, and_assoc])
 | ((with_reducible apply go_ld1 h))
 | ((with_reducible apply go_ldA h); (rfl))
 | ((with_reducible apply go_ldN h))
 | ((with_reducible apply go_st h); intro _ h)
 | ((with_reducible apply go_stA h); (rfl); (rfl); (first | rfl | simp [OneV.o]); intro _ h)
 | ((with_reducible apply go_stN h); (rfl); (first | rfl | simp [OneV.o]); intro _ h)
 | ((with_reducible apply go_box h); rfl; intro _ _ h)
 | ((with_reducible apply go_rd h); (rfl))
 | ((with_reducible apply go_rdN h); (rfl))
 | ((with_reducible apply go_rlen h); (rfl))
 | ((with_reducible apply go_lenL h))
 | ((with_reducible apply go_ix h); (omega))
 | ((with_reducible apply go_elN h); (case hi => omega))
 | ((with_reducible apply go_fa h); (omega); (omega))
 | ((with_reducible apply go_f1 h); (case hi => omega); (case hx => exact inferInstance))
 | ((with_reducible apply go_rf1 h); (case hi => omega); (case hx => exact inferInstance); (case hv => rfl))
 | ((with_reducible apply go_rel h); (case hi => omega); (case hv => rfl))
))
      refine hcheck_spec (c := c) hfc (hro.get (by (repeat (first | exact .done | (refine .pick (by repeat (first | exact .here | apply Fnt.there)) ?_) | refine .skip ?_)))) h fun w h => ?_
      unfold chkC
      cases g1 : okC c
      · have d4 : decide ((4 : Int) = 0) = false := by decide
        (repeat (first
 | (simp (disch := omega) only [evA, evB, bAdd_i64, bSub_i64, ptr, Nat.zero_add, Bool.not_true, Bool.not_false, Option.isNone_some, Option.isNone_none, Option.isSome_some, Option.isSome_none, decide_true, decide_false, eq_self, true_and, and_assoc, Bool.false_eq_true, if_false, d4])
 | ((with_reducible apply go_ld1 h))
 | ((with_reducible apply go_ldA h); (rfl))
 | ((with_reducible apply go_ldN h))
 | ((with_reducible apply go_st h); intro _ h)
 | ((with_reducible apply go_stA h); (rfl); (rfl); (first | rfl | simp [OneV.o]); intro _ h)
 | ((with_reducible apply go_stN h); (rfl); (first | rfl | simp [OneV.o]); intro _ h)
 | ((with_reducible apply go_box h); rfl; intro _ _ h)
 | ((with_reducible apply go_rd h); (rfl))
 | ((with_reducible apply go_rdN h); (rfl))
 | ((with_reducible apply go_rlen h); (rfl))
 | ((with_reducible apply go_lenL h))
 | ((with_reducible apply go_ix h); (omega))
 | ((with_reducible apply go_elN h); (case hi => omega))
 | ((with_reducible apply go_fa h); (omega); (omega))
 | ((with_reducible apply go_f1 h); (case hi => omega); (case hx => exact inferInstance))
 | ((with_reducible apply go_rf1 h); (case hi => omega); (case hx => exact inferInstance); (case hv => rfl))
 | ((with_reducible apply go_rel h); (case hi => omega); (case hv => rfl))
))
        exact hK0 (hbad (by unfold loadStep; rw [if_neg]; simp [g1])) _ (h.get (by (repeat (first | exact .done | (refine .pick (by repeat (first | exact .here | apply Fnt.there)) ?_) | refine .skip ?_))))
      by_cases g2 : c.id < 1
      · have g2' : decide (c.id < 1) = true := by simpa using g2
        (repeat (first
 | (simp (disch := omega) only [evA, evB, bAdd_i64, bSub_i64, ptr, Nat.zero_add, Bool.not_true, Bool.not_false, Option.isNone_some, Option.isNone_none, Option.isSome_some, Option.isSome_none, decide_true, decide_false, eq_self, true_and, and_assoc, if_true, g2'])
 | ((with_reducible apply go_ld1 h))
 | ((with_reducible apply go_ldA h); (rfl))
 | ((with_reducible apply go_ldN h))
 | ((with_reducible apply go_st h); intro _ h)
 | ((with_reducible apply go_stA h); (rfl); (rfl); (first | rfl | simp [OneV.o]); intro _ h)
 | ((with_reducible apply go_stN h); (rfl); (first | rfl | simp [OneV.o]); intro _ h)
 | ((with_reducible apply go_box h); rfl; intro _ _ h)
 | ((with_reducible apply go_rd h); (rfl))
 | ((with_reducible apply go_rdN h); (rfl))
 | ((with_reducible apply go_rlen h); (rfl))
 | ((with_reducible apply go_lenL h))
 | ((with_reducible apply go_ix h); (omega))
 | ((with_reducible apply go_elN h); (case hi => omega))
 | ((with_reducible apply go_fa h); (omega); (omega))
 | ((with_reducible apply go_f1 h); (case hi => omega); (case hx => exact inferInstance))
 | ((with_reducible apply go_rf1 h); (case hi => omega); (case hx => exact inferInstance); (case hv => rfl))
 | ((with_reducible apply go_rel h); (case hi => omega); (case hv => rfl))
))
        exact hK0 (hbad (by unfold loadStep; rw [if_neg]; omega)) _ (h.get (by (repeat (first | exact .done | (refine .pick (by repeat (first | exact .here | apply Fnt.there)) ?_) | refine .skip ?_))))
      have g2' : decide (c.id < 1) = false := by simpa using g2
      by_cases g3 : c.id ≥ next
      · have g3' : decide (c.id ≥ next) = true := by simpa using g3
        (repeat (first
 | (simp (disch := omega) only [evA, evB, bAdd_i64, bSub_i64, ptr, Nat.zero_add, Bool.not_true, Bool.not_false, Option.isNone_some, Option.isNone_none, Option.isSome_some, Option.isSome_none, decide_true, decide_false, eq_self, true_and, and_assoc, if_true, g2', g3'])
 | ((with_reducible apply go_ld1 h))
 | ((with_reducible apply go_ldA h); (rfl))
 | ((with_reducible apply go_ldN h))
 | ((with_reducible apply go_st h); intro _ h)
 | ((with_reducible apply go_stA h); (rfl); (rfl); (first | rfl | simp [OneV.o]); intro _ h)
 | ((with_reducible apply go_stN h); (rfl); (first | rfl | simp [OneV.o]); intro _ h)
 | ((with_reducible apply go_box h); rfl; intro _ _ h)
 | ((with_reducible apply go_rd h); (rfl))
 | ((with_reducible apply go_rdN h); (rfl))
 | ((with_reducible apply go_rlen h); (rfl))
 | ((with_reducible apply go_lenL h))
 | ((with_reducible apply go_ix h); (omega))
 | ((with_reducible apply go_elN h); (case hi => omega))
 | ((with_reducible apply go_fa h); (omega); (omega))
 | ((with_reducible apply go_f1 h); (case hi => omega); (case hx => exact inferInstance))
 | ((with_reducible apply go_rf1 h); (case hi => omega); (case hx => exact inferInstance); (case hv => rfl))
 | ((with_reducible apply go_rel h); (case hi => omega); (case hv => rfl))
))
        exact hK0 (hbad (by unfold loadStep; rw [if_neg]; omega)) _ (h.get (by (repeat (first | exact .done | (refine .pick (by repeat (first | exact .here | apply Fnt.there)) ?_) | refine .skip ?_))))
      have g3' : decide (c.id ≥ next) = false := by simpa using g3
      cases g4 : (aGet c.id m).isSome
      case true =>
        (repeat (first
 | (simp (disch := omega) only [evA, evB, bAdd_i64, bSub_i64, ptr, Nat.zero_add, Bool.not_true, Bool.not_false, Option.isNone_some, Option.isNone_none, Option.isSome_some, Option.isSome_none, decide_true, decide_false, eq_self, true_and, and_assoc, if_true, g2', g3'])
 | ((with_reducible apply go_ld1 h))
 | ((with_reducible apply go_ldA h); (rfl))
 | ((with_reducible apply go_ldN h))
 | ((with_reducible apply go_st h); intro _ h)
 | ((with_reducible apply go_stA h); (rfl); (rfl); (first | rfl | simp [OneV.o]); intro _ h)
 | ((with_reducible apply go_stN h); (rfl); (first | rfl | simp [OneV.o]); intro _ h)
 | ((with_reducible apply go_box h); rfl; intro _ _ h)
 | ((with_reducible apply go_rd h); (rfl))
 | ((with_reducible apply go_rdN h); (rfl))
 | ((with_reducible apply go_rlen h); (rfl))
 | ((with_reducible apply go_lenL h))
 | ((with_reducible apply go_ix h); (omega))
 | ((with_reducible apply go_elN h); (case hi => omega))
 | ((with_reducible apply go_fa h); (omega); (omega))
 | ((with_reducible apply go_f1 h); (case hi => omega); (case hx => exact inferInstance))
 | ((with_reducible apply go_rf1 h); (case hi => omega); (case hx => exact inferInstance); (case hv => rfl))
 | ((with_reducible apply go_rel h); (case hi => omega); (case hv => rfl))
))
        refine hK0 (hbad ?_) _ (h.get (by (repeat (first | exact .done | (refine .pick (by repeat (first | exact .here | apply Fnt.there)) ?_) | refine .skip ?_))))
        unfold loadStep
        rw [if_neg]
        intro hh
        rw [H.1.get_none hh.2.2.2.1] at g4; cases g4
      cases g5 : (aGet (sgnOf c) I).isSome
      case true =>
        (repeat (first
 | (simp (disch := omega) only [evA, evB, bAdd_i64, bSub_i64, ptr, Nat.zero_add, Bool.not_true, Bool.not_false, Option.isNone_some, Option.isNone_none, Option.isSome_some, Option.isSome_none, decide_true, decide_false, eq_self, true_and, and_assoc, if_true, g2', g3'])
 | ((with_reducible apply go_ld1 h))
 | ((with_reducible apply go_ldA h); (rfl))
 | ((with_reducible apply go_ldN h))
 | ((with_reducible apply go_st h); intro _ h)
 | ((with_reducible apply go_stA h); (rfl); (rfl); (first | rfl | simp [OneV.o]); intro _ h)
 | ((with_reducible apply go_stN h); (rfl); (first | rfl | simp [OneV.o]); intro _ h)
 | ((with_reducible apply go_box h); rfl; intro _ _ h)
 | ((with_reducible apply go_rd h); (rfl))
 | ((with_reducible apply go_rdN h); (rfl))
 | ((with_reducible apply go_rlen h); (rfl))
 | ((with_reducible apply go_lenL h))
 | ((with_reducible apply go_ix h); (omega))
 | ((with_reducible apply go_elN h); (case hi => omega))
 | ((with_reducible apply go_fa h); (omega); (omega))
 | ((with_reducible apply go_f1 h); (case hi => omega); (case hx => exact inferInstance))
 | ((with_reducible apply go_rf1 h); (case hi => omega); (case hx => exact inferInstance); (case hv => rfl))
 | ((with_reducible apply go_rel h); (case hi => omega); (case hv => rfl))
))
        refine hK0 (hbad ?_) _ (h.get (by (repeat (first | exact .done | (refine .pick (by repeat (first | exact .here | apply Fnt.there)) ?_) | refine .skip ?_))))
        unfold loadStep
        rw [if_neg]
        intro hh
        rw [H.1.snone hh.2.2.2.2] at g5; cases g5
      have n1 : ∀ d ∈ cs, d.id ≠ c.id := fun d hd e => by
        obtain ⟨s, hs⟩ := H.1.get hd
        rw [e] at hs; rw [hs] at g4; cases g4
      have n2 : ∀ d ∈ cs, sgnOf d ≠ sgnOf c := fun d hd e => by
        have hs := H.1.sget hd
        rw [e] at hs; rw [hs] at g5; cases g5
      have hstep : loadStep next cs c = some (insC c cs) := by
        unfold loadStep
        rw [if_pos ⟨g1, by omega, by omega, n1, n2⟩]
      have g6 : decide ((i : Int) < 65536) = true := by simp; omega
      (repeat (first
 | (simp (disch := omega) only [evA, evB, bAdd_i64, bSub_i64, ptr, Nat.zero_add, Bool.not_true, Bool.not_false, Option.isNone_some, Option.isNone_none, Option.isSome_some, Option.isSome_none, decide_true, decide_false, eq_self, true_and, and_assoc, if_true, g2', g3', g6])
 | ((with_reducible apply go_ld1 h))
 | ((with_reducible apply go_ldA h); (rfl))
 | ((with_reducible apply go_ldN h))
 | ((with_reducible apply go_st h); intro _ h)
 | ((with_reducible apply go_stA h); (rfl); (rfl); (first | rfl | simp [OneV.o]); intro _ h)
 | ((with_reducible apply go_stN h); (rfl); (first | rfl | simp [OneV.o]); intro _ h)
 | ((with_reducible apply go_box h); rfl; intro _ _ h)
 | ((with_reducible apply go_rd h); (rfl))
 | ((with_reducible apply go_rdN h); (rfl))
 | ((with_reducible apply go_rlen h); (rfl))
 | ((with_reducible apply go_lenL h))
 | ((with_reducible apply go_ix h); (omega))
 | ((with_reducible apply go_elN h); (case hi => omega))
 | ((with_reducible apply go_fa h); (omega); (omega))
 | ((with_reducible apply go_f1 h); (case hi => omega); (case hx => exact inferInstance))
 | ((with_reducible apply go_rf1 h); (case hi => omega); (case hx => exact inferInstance); (case hv => rfl))
 | ((with_reducible apply go_rel h); (case hi => omega); (case hv => rfl))
))
      refine hput_spec (v := ptr q) (n := 65536) (next := next) (hn := hn) (m := m) (I := I) (M := M) (c := c) (L := _ :: _ :: L) ?_ ?_ (hold_iff.2 ⟨q, dp, ml, mi, rfl, h.get (by (repeat (first | exact .done | (refine .pick (by repeat (first | exact .here | apply Fnt.there)) ?_) | refine .skip ?_)))⟩) fun s w h => ?_
      · have : c.times.length < 1000000 := hfc.2.2.2
        show c.times.length ≤ _; omega
      · exact hro.cons.cons
      (repeat (first
 | (simp (disch := omega) only [evA, evB, bAdd_i64, bSub_i64, ptr, Nat.zero_add, Bool.not_true, Bool.not_false, Option.isNone_some, Option.isNone_none, Option.isSome_some, Option.isSome_none, decide_true, decide_false, eq_self, true_and, and_assoc])
 | ((with_reducible apply go_ld1 h))
 | ((with_reducible apply go_ldA h); (rfl))
 | ((with_reducible apply go_ldN h))
 | ((with_reducible apply go_st h); intro _ h)
 | ((with_reducible apply go_stA h); (rfl); (rfl); (first | rfl | simp [OneV.o]); intro _ h)
 | ((with_reducible apply go_stN h); (rfl); (first | rfl | simp [OneV.o]); intro _ h)
 | ((with_reducible apply go_box h); rfl; intro _ _ h)
 | ((with_reducible apply go_rd h); (rfl))
 | ((with_reducible apply go_rdN h); (rfl))
 | ((with_reducible apply go_rlen h); (rfl))
 | ((with_reducible apply go_lenL h))
 | ((with_reducible apply go_ix h); (omega))
 | ((with_reducible apply go_elN h); (case hi => omega))
 | ((with_reducible apply go_fa h); (omega); (omega))
 | ((with_reducible apply go_f1 h); (case hi => omega); (case hx => exact inferInstance))
 | ((with_reducible apply go_rf1 h); (case hi => omega); (case hx => exact inferInstance); (case hv => rfl))
 | ((with_reducible apply go_rel h); (case hi => omega); (case hv => rfl))
))
      refine ih (i + 1) (insC c cs) w (by omega) (by omega) ?_ ?_ (holdA_iff.2 ⟨hn, _, _, _, ⟨H.1.ins g1 hfc n2 n1 (by omega) (by omega) (by omega), H.2⟩, h.get (by (repeat (first | exact .done | (refine .pick (by repeat (first | exact .here | apply Fnt.there)) ?_) | refine .skip ?_)))⟩)
      · have := (insC_perm c cs).length_eq; simp at this; omega
      · rw [he]; simp [loadL, hstep]
    · have g' : decide ((i : Int) < (l.length : Int)) = false := by simpa using g
      (repeat (first
 | (simp (disch := omega) only [evA, evB, bAdd_i64, bSub_i64, ptr, Nat.zero_add, Bool.not_true, Bool.not_false, Option.isNone_some, Option.isNone_none, Option.isSome_some, Option.isSome_none, decide_true, decide_false, eq_self, true_and, and_assoc, g'])
 | ((with_reducible apply go_ld1 h))
 | ((with_reducible apply go_ldA h); (rfl))
 | ((with_reducible apply go_ldN h))
 | ((with_reducible apply go_st h); intro _ h)
 | ((with_reducible apply go_stA h); (rfl); (rfl); (first | rfl | simp [OneV.o]); intro _ h)
 | ((with_reducible apply go_stN h); (rfl); (first | rfl | simp [OneV.o]); intro _ h)
 | ((with_reducible apply go_box h); rfl; intro _ _ h)
 | ((with_reducible apply go_rd h); (rfl))
 | ((with_reducible apply go_rdN h); (rfl))
 | ((with_reducible apply go_rlen h); (rfl))
 | ((with_reducible apply go_lenL h))
 | ((with_reducible apply go_ix h); (omega))
 | ((with_reducible apply go_elN h); (case hi => omega))
 | ((with_reducible apply go_fa h); (omega); (omega))
 | ((with_reducible apply go_f1 h); (case hi => omega); (case hx => exact inferInstance))
 | ((with_reducible apply go_rf1 h); (case hi => omega); (case hx => exact inferInstance); (case hv => rfl))
 | ((with_reducible apply go_rel h); (case hi => omega); (case hv => rfl))
))
      refine hK1 cs ?_ w h
      rw [he, List.drop_eq_nil_of_le (by omega)]; rfl
theorem aload_spec {sv : Value} {l : List (Ctx × SV)} {next0 : Int} (hfit : ∀ x ∈ l, x.1.fits) (hlen : l.length ≤ 65536) (hrd : ∀ {w}, Sat w0 (HoldA v n next0 cs :: L) w → lenL sv = some (.int .i64 l.length)) (hrc : RdC w0 (HoldA v n next0 cs :: L) sv l)
    (h : Sat w0 (HoldA v n next0 cs :: L) w)
    (hKbad : (next < 1 ∨ 1152921504606846976 < next ∨ loadL next (l.map Prod.fst) [] = none) → ∀ w', Sat w0 (HoldA v n next0 cs :: L) w' → K (.int .i64 4) w')
    (hKfull : ∀ ds, loadL next (l.map Prod.fst) [] = some ds → 1 ≤ next ∧ next ≤ 1152921504606846976 → n < l.length → ∀ w', Sat w0 (HoldA v n next0 cs :: L) w' → K (.int .i64 200) w')
    (hK : ∀ ds, loadL next (l.map Prod.fst) [] = some ds → 1 ≤ next ∧ next ≤ 1152921504606846976 → (l.length : Int) ≤ n → ∀ w', Sat w0 (HoldA v n next ds :: L) w' → K (.int .i64 0) w') : callP G60 [v, sv, .int .i64 next] w K := by
  refine c60 ?_
  unfold F60 F60_1 F60_1b F60_2
  have hl := hrd h
  by_cases g1 : next < 1
  · have g1' : decide (next < 1) = true := by simpa using g1
    (repeat (first
 | (simp (disch := omega) only [evA, evB, bAdd_i64, bSub_i64, ptr, Nat.zero_add, Bool.not_true, Bool.not_false, Option.isNone_some, Option.isNone_none, Option.isSome_some, Option.isSome_none, decide_true, decide_false, eq_self, true_and, and_assoc, g1'])
 | ((with_reducible apply go_ld1 h))
 | ((with_reducible apply go_ldA h); (rfl))
 | ((with_reducible apply go_ldN h))
 | ((with_reducible apply go_st h); intro _ h)
 | ((with_reducible apply go_stA h); (rfl); (rfl); (first | rfl | simp [OneV.o]); intro _ h)
 | ((with_reducible apply go_stN h); (rfl); (first | rfl | simp [OneV.o]); intro _ h)
 | ((with_reducible apply go_box h); rfl; intro _ _ h)
 | ((with_reducible apply go_rd h); (rfl))
 | ((with_reducible apply go_rdN h); (rfl))
 | ((with_reducible apply go_rlen h); (rfl))
 | ((with_reducible apply go_lenL h))
 | ((with_reducible apply go_ix h); (omega))
 | ((with_reducible apply go_elN h); (case hi => omega))
 | ((with_reducible apply go_fa h); (omega); (omega))
 | ((with_reducible apply go_f1 h); (case hi => omega); (case hx => exact inferInstance))
 | ((with_reducible apply go_rf1 h); (case hi => omega); (case hx => exact inferInstance); (case hv => rfl))
 | ((with_reducible apply go_rel h); (case hi => omega); (case hv => rfl))
))
    exact hKbad (.inl g1) _ h
  have g1' : decide (next < 1) = false := by simpa using g1
  by_cases g2 : next > 1152921504606846976
  · have g2' : decide (next > 1152921504606846976) = true := by simpa using g2
    (repeat (first
 | (simp (disch := omega) only [evA, evB, bAdd_i64, bSub_i64, ptr, Nat.zero_add, Bool.not_true, Bool.not_false, Option.isNone_some, Option.isNone_none, Option.isSome_some, Option.isSome_none, decide_true, decide_false, eq_self, true_and, and_assoc, g1', g2'])
 | ((with_reducible apply go_ld1 h))
 | ((with_reducible apply go_ldA h); (rfl))
 | ((with_reducible apply go_ldN h))
 | ((with_reducible apply go_st h); intro _ h)
 | ((with_reducible apply go_stA h); (rfl); (rfl); (first | rfl | simp [OneV.o]); intro _ h)
 | ((with_reducible apply go_stN h); (rfl); (first | rfl | simp [OneV.o]); intro _ h)
 | ((with_reducible apply go_box h); rfl; intro _ _ h)
 | ((with_reducible apply go_rd h); (rfl))
 | ((with_reducible apply go_rdN h); (rfl))
 | ((with_reducible apply go_rlen h); (rfl))
 | ((with_reducible apply go_lenL h))
 | ((with_reducible apply go_ix h); (omega))
 | ((with_reducible apply go_elN h); (case hi => omega))
 | ((with_reducible apply go_fa h); (omega); (omega))
 | ((with_reducible apply go_f1 h); (case hi => omega); (case hx => exact inferInstance))
 | ((with_reducible apply go_rf1 h); (case hi => omega); (case hx => exact inferInstance); (case hv => rfl))
 | ((with_reducible apply go_rel h); (case hi => omega); (case hv => rfl))
))
    exact hKbad (.inr (.inl g2)) _ h
  have g2' : decide (next > 1152921504606846976) = false := by simpa using g2
  (repeat (first
 | (simp (disch := omega) only [evA, evB, bAdd_i64, bSub_i64, ptr, Nat.zero_add, Bool.not_true, Bool.not_false, Option.isNone_some, Option.isNone_none, Option.isSome_some, Option.isSome_none, decide_true, decide_false, eq_self, true_and, and_assoc, g1', g2'])
 | ((with_reducible apply go_ld1 h))
 | ((with_reducible apply go_ldA h); (rfl))
 | ((with_reducible apply go_ldN h))
 | ((with_reducible apply go_st h); intro _ h)
 | ((with_reducible apply go_stA h); (rfl); (rfl); (first | rfl | simp [OneV.o]); intro _ h)
 | ((with_reducible apply go_stN h); (rfl); (first | rfl | simp [OneV.o]); intro _ h)
 | ((with_reducible apply go_box h); rfl; intro _ _ h)
 | ((with_reducible apply go_rd h); (rfl))
 | ((with_reducible apply go_rdN h); (rfl))
 | ((with_reducible apply go_rlen h); (rfl))
 | ((with_reducible apply go_lenL h))
 | ((with_reducible apply go_ix h); (omega))
 | ((with_reducible apply go_elN h); (case hi => omega))
 | ((with_reducible apply go_fa h); (omega); (omega))
 | ((with_reducible apply go_f1 h); (case hi => omega); (case hx => exact inferInstance))
 | ((with_reducible apply go_rf1 h); (case hi => omega); (case hx => exact inferInstance); (case hv => rfl))
 | ((with_reducible apply go_rel h); (case hi => omega); (case hv => rfl))
))
  refine hempty_spec (n := 65536) (next := next) (by omega) (by omega) h fun q w h => ?_
  (repeat (first
 | (simp (disch := omega) only [evA, evB, bAdd_i64, bSub_i64, ptr, Nat.zero_add, Bool.not_true, Bool.not_false, Option.isNone_some, Option.isNone_none, Option.isSome_some, Option.isSome_none, decide_true, decide_false, eq_self, true_and, and_assoc, hl])
 | ((with_reducible apply go_ld1 h))
 | ((with_reducible apply go_ldA h); (rfl))
 | ((with_reducible apply go_ldN h))
 | ((with_reducible apply go_st h); intro _ h)
 | ((with_reducible apply go_stA h); (rfl); (rfl); (first | rfl | simp [OneV.o]); intro _ h)
 | ((with_reducible apply go_stN h); (rfl); (first | rfl | simp [OneV.o]); intro _ h)
 | ((with_reducible apply go_box h); rfl; intro _ _ h)
 | ((with_reducible apply go_rd h); (rfl))
 | ((with_reducible apply go_rdN h); (rfl))
 | ((with_reducible apply go_rlen h); (rfl))
 | ((with_reducible apply go_lenL h))
 | ((with_reducible apply go_ix h); (omega))
 | ((with_reducible apply go_elN h); (case hi => omega))
 | ((with_reducible apply go_fa h); (omega); (omega))
 | ((with_reducible apply go_f1 h); (case hi => omega); (case hx => exact inferInstance))
 | ((with_reducible apply go_rf1 h); (case hi => omega); (case hx => exact inferInstance); (case hv => rfl))
 | ((with_reducible apply go_rel h); (case hi => omega); (case hv => rfl))
))
  obtain ⟨p, rfl⟩ : ∃ p, v = ptr p := by
    have h1 := h.f1
    replace h1 := holdA_iff.1 h1
    obtain ⟨hn, m, I, M, H, h1⟩ := h1
    replace h1 := hold_iff.1 h1
    obtain ⟨p, dp, ml, mi, rfl, h1⟩ := h1
    exact ⟨p, rfl⟩
  refine load_loop (p := p) (q := q) (L := HoldA (ptr p) n next0 cs :: L) hfit hlen (by omega) hrc (fun hb w h => hKbad (.inr (.inr hb)) w h) (fun ds hds w h => ?_) fuel 0 [] w (by unfold fuel; omega) (by omega) rfl (by simp) (holdA_iff.2 ⟨65536, [], [], [], ⟨.start (by omega) (by omega) next, by omega, by omega⟩, h⟩)
  unfold F60_3 F60_3b
  have h2 := h.f1
  replace h2 := holdA_iff.1 h2
  obtain ⟨hn, m, I, M, H, h2⟩ := h2
  replace h2 := hold_iff.1 h2
  obtain ⟨p', dp, ml, mi, e, h2⟩ := h2
  cases e
  have h3 : Sat w0 (HoldA (ptr q) 65536 next ds :: Cl p #[dp, .int .i64 n, .int .i64 next0, ml, mi] 159 :: HeapH dp hn M :: MapH kH ctxE ml m :: MapH sgnV kH mi I :: bag m :: L) w := h2.get (by (repeat (first | exact .done | (refine .pick (by repeat (first | exact .here | apply Fnt.there)) ?_) | refine .skip ?_)))
  replace h3 := holdA_iff.1 h3
  obtain ⟨hn', m', I', M', H', h3⟩ := h3
  replace h3 := hold_iff.1 h3
  obtain ⟨q', dq, ql, qi, e, h3⟩ := h3
  cases e
  have := map_one (h3.front (A := MapH kH ctxE ql m') (by repeat (first | exact .here | apply Fnt.there)))
  have := map_one (h3.front (A := MapH sgnV kH qi I') (by repeat (first | exact .here | apply Fnt.there)))
  obtain ⟨d, rfl⟩ := heap_ptr (h3.front (A := HeapH dq hn' M') (by repeat (first | exact .here | apply Fnt.there)))
  clear h h2
  have h := h3
  clear h3
  by_cases g3 : (l.length : Int) > n
  · have g3' : decide ((l.length : Int) > n) = true := by simpa using g3
    (repeat (first
 | (simp (disch := omega) only [evA, evB, bAdd_i64, bSub_i64, ptr, Nat.zero_add, Bool.not_true, Bool.not_false, Option.isNone_some, Option.isNone_none, Option.isSome_some, Option.isSome_none, decide_true, decide_false, eq_self, true_and, and_assoc, hl, g3'])
 | ((with_reducible apply go_ld1 h))
 | ((with_reducible apply go_ldA h); (rfl))
 | ((with_reducible apply go_ldN h))
 | ((with_reducible apply go_st h); intro _ h)
 | ((with_reducible apply go_stA h); (rfl); (rfl); (first | rfl | simp [OneV.o]); intro _ h)
 | ((with_reducible apply go_stN h); (rfl); (first | rfl | simp [OneV.o]); intro _ h)
 | ((with_reducible apply go_box h); rfl; intro _ _ h)
 | ((with_reducible apply go_rd h); (rfl))
 | ((with_reducible apply go_rdN h); (rfl))
 | ((with_reducible apply go_rlen h); (rfl))
 | ((with_reducible apply go_lenL h))
 | ((with_reducible apply go_ix h); (omega))
 | ((with_reducible apply go_elN h); (case hi => omega))
 | ((with_reducible apply go_fa h); (omega); (omega))
 | ((with_reducible apply go_f1 h); (case hi => omega); (case hx => exact inferInstance))
 | ((with_reducible apply go_rf1 h); (case hi => omega); (case hx => exact inferInstance); (case hv => rfl))
 | ((with_reducible apply go_rel h); (case hi => omega); (case hv => rfl))
))
    exact hKfull ds hds (by omega) (by omega) _ (holdA_iff.2 ⟨hn, m, I, M, H, hold_iff.2 ⟨p, dp, ml, mi, rfl, h.get (by (repeat (first | exact .done | (refine .pick (by repeat (first | exact .here | apply Fnt.there)) ?_) | refine .skip ?_)))⟩⟩)
  · have g3' : decide ((l.length : Int) > n) = false := by simpa using g3
    (repeat (first
 | (simp (disch := omega) only [evA, evB, bAdd_i64, bSub_i64, ptr, Nat.zero_add, Bool.not_true, Bool.not_false, Option.isNone_some, Option.isNone_none, Option.isSome_some, Option.isSome_none, decide_true, decide_false, eq_self, true_and, and_assoc, hl, g3'])
 | ((with_reducible apply go_ld1 h))
 | ((with_reducible apply go_ldA h); (rfl))
 | ((with_reducible apply go_ldN h))
 | ((with_reducible apply go_st h); intro _ h)
 | ((with_reducible apply go_stA h); (rfl); (rfl); (first | rfl | simp [OneV.o]); intro _ h)
 | ((with_reducible apply go_stN h); (rfl); (first | rfl | simp [OneV.o]); intro _ h)
 | ((with_reducible apply go_box h); rfl; intro _ _ h)
 | ((with_reducible apply go_rd h); (rfl))
 | ((with_reducible apply go_rdN h); (rfl))
 | ((with_reducible apply go_rlen h); (rfl))
 | ((with_reducible apply go_lenL h))
 | ((with_reducible apply go_ix h); (omega))
 | ((with_reducible apply go_elN h); (case hi => omega))
 | ((with_reducible apply go_fa h); (omega); (omega))
 | ((with_reducible apply go_f1 h); (case hi => omega); (case hx => exact inferInstance))
 | ((with_reducible apply go_rf1 h); (case hi => omega); (case hx => exact inferInstance); (case hv => rfl))
 | ((with_reducible apply go_rel h); (case hi => omega); (case hv => rfl))
))
    have hds2 : ds.length = l.length := by have := loadL_len hds; simpa using this
    have hH := H.1.bd
    have hH' := H'.1.bd
    refine hK ds hds (by omega) (by omega) _ (holdA_iff.2 ⟨hn', m', I', M', ⟨⟨H'.1.pm, H'.1.key, H'.1.asc, H'.1.pI, H'.1.sg, H'.1.pM, H'.1.aM, by omega, H'.1.ok⟩, H'.2⟩, hold_iff.2 ⟨p, ptr d, ql, qi, rfl, h.get (by (repeat (first | exact .done | (refine .pick (by repeat (first | exact .here | apply Fnt.there)) ?_) | refine .skip ?_)))⟩⟩)
end
end Go.Proofs.Gong

/- Ho9 -/
namespace Go.Proofs.Gong
open Go Go.Sx Go.Proofs
set_option maxRecDepth 100000
attribute [local irreducible] fBuild fLook fZero eqv bEqv Cl MapH LsH SlH ld1 ldN st callP eBox eAlloc lenM lenL eMapSet eDelete eAppend eBuildSl eRange eNext
section
variable {w0 w : World} {L : List HP} {K : Value → World → Prop} {v hv s0 s1 : Value} {n next hn : Int} {cs : List Ctx} {c : Ctx} {tv s : Value}
theorem bag_rdm {m : Held} {x : Int × (Ctx × Value)} {L L' : List HP} (hx : x ∈ m) (g : Fnt (bag m) L L') : RdL w0 L cI 1 x.2.2 x.2.1.times := fun w hs => by
  have h1 := bag_iff.1 (hs.front g)
  obtain ⟨l, r, rfl⟩ := List.append_of_mem hx
  rw [List.map_append, List.map_cons, List.append_assoc] at h1
  have h2 : Sat w0 (heldP x :: (l.map heldP ++ (r.map heldP ++ L'))) w := h1.perm List.perm_middle
  exact ls_rd h2
def After (t id : Int) (c : Ctx) : Prop := t < c.at' ∨ t = c.at' ∧ id < c.id
theorem After.of {c d : Ctx} (h : itLt (d.id, d.at') (c.id, c.at') = false) (hne : d.id ≠ c.id) : After c.at' c.id d := by
  unfold After
  simp [itLt] at h
  omega
end
end Go.Proofs.Gong

/- Hr0 -/
namespace Go.Proofs.Gong
open Go Go.Sx Go.Proofs
set_option maxRecDepth 100000
theorem load_perm {next : Int} : ∀ {l cs : List Ctx}, (∀ c ∈ l, okC c = true ∧ 1 ≤ c.id ∧ c.id < next) → (cs ++ l).Pairwise (fun a b => a.id ≠ b.id) → (cs ++ l).Pairwise (fun a b => sgnOf a ≠ sgnOf b) → (cs.Pairwise fun a b => a.id < b.id) →
    ∃ ds, loadL next l cs = some ds ∧ ds.Perm (cs ++ l) ∧ ds.Pairwise fun a b => a.id < b.id
  | [], cs, _, _, _, ha => ⟨cs, rfl, by simp, ha⟩
  | c :: l, cs, h, h1, h2, ha => by
    have g1 : ∀ d ∈ cs, d.id ≠ c.id := fun d hd => (List.pairwise_append.1 h1).2.2 d hd c (by simp)
    have g2 : ∀ d ∈ cs, sgnOf d ≠ sgnOf c := fun d hd => (List.pairwise_append.1 h2).2.2 d hd c (by simp)
    have hc := h c (by simp)
    have hp : (insC c cs ++ l).Perm (cs ++ c :: l) := ((insC_perm c cs).append_right l).trans List.perm_middle.symm
    obtain ⟨ds, e, p, s⟩ := load_perm (next := next) (l := l) (cs := insC c cs) (fun d hd => h d (List.mem_cons_of_mem _ hd)) (hp.symm.pairwise h1 fun h => h.symm) (hp.symm.pairwise h2 fun h => h.symm) (insC_asc ha g1)
    refine ⟨ds, ?_, p.trans hp, s⟩
    unfold loadL loadStep
    rw [if_pos ⟨hc.1, hc.2.1, hc.2.2, g1, g2⟩]
    exact e
theorem load_all {next : Int} {l cs : List Ctx} (hp : l.Perm cs) (h : ∀ c ∈ cs, okC c = true ∧ 1 ≤ c.id ∧ c.id < next) (ha : cs.Pairwise fun a b => a.id < b.id) (hs : cs.Pairwise fun a b => sgnOf a ≠ sgnOf b) : loadL next l [] = some cs := by
  obtain ⟨ds, e, p, s⟩ := load_perm (next := next) (l := l) (cs := []) (fun c hc => h c (hp.mem_iff.1 hc)) (hp.symm.pairwise (ha.imp fun h => by omega) fun h => h.symm) (hp.symm.pairwise hs fun h => h.symm) .nil
  rw [e]
  have : ds = cs := List.Perm.eq_of_pairwise (le := fun a b : Ctx => a.id < b.id) (fun a b _ _ h1 h2 => by omega) s ha (p.trans hp)
  rw [this]
attribute [local irreducible] fBuild fLook fZero eqv bEqv Cl MapH LsH SlH ld1 ldN st callP eBox eAlloc lenM lenL eMapSet eDelete eAppend eBuildSl eRange eNext
section
variable {w0 w : World} {L : List HP} {K : Value → World → Prop} {v ha hb s0 s1 s2 : Value} {n next hn : Int} {cs : List Ctx} {c : Ctx} {tv s : Value}
theorem ld_loop1 {l : List Int} (hl : l.length ≤ 140737488351232) (hrd : Rd w0 1 s0 l.length (l.flatMap cI)) (hE : ∀ next cs w', 1 ≤ next → next ≤ 1000 → Sat w0 (HoldA ha 20 next cs :: L) w' → F12_3 s1 s2 ha hb w' K) :
    ∀ (d i : Nat) (next : Int) (cs : List Ctx) (w : World), l.length - i < d → i ≤ 60 → i ≤ l.length → 1 ≤ next → next ≤ i + 1 → Sat w0 (HoldA ha 20 next cs :: L) w → F12_2L d s0 s1 s2 ha hb (.int .i64 i) w K := by
  intro d
  induction d with
  | zero => intro i next cs w hd; omega
  | succ d ih =>
    intro i next cs w hd hi hl hn1 hn2 h
    rw [F12_2L]
    unfold F12_10 F12_10b F12_11 F12_11b
    have hlen := hrd.len
    have fin : F12_3 s1 s2 ha hb w K := hE next cs w hn1 (by omega) h
    by_cases g : i < l.length
    · have g' : decide ((i : Int) < (l.length : Int)) = true := by simpa using g
      by_cases g2 : i < 60
      · have g2' : decide ((i : Int) < 60) = true := by simp; omega
        (repeat (first
 | (simp (disch := omega) only [evA, evB, bAdd_i64, bSub_i64, ptr, Nat.zero_add, Bool.not_true, Bool.not_false, Option.isNone_some, Option.isNone_none, Option.isSome_some, Option.isSome_none, decide_true, decide_false, eq_self, true_and, and_assoc, hlen, g', g2'])
 | ((with_reducible apply go_ld1 h))
 | ((with_reducible apply go_ldA h); (rfl))
 | ((with_reducible apply go_ldN h))
 | ((with_reducible apply go_st h); intro _ h)
 | ((with_reducible apply go_stA h); (rfl); (rfl); (first | rfl | simp [OneV.o]); intro _ h)
 | ((with_reducible apply go_stN h); (rfl); (first | rfl | simp [OneV.o]); intro _ h)
 | ((with_reducible apply go_box h); rfl; intro _ _ h)
 | ((with_reducible apply go_rd h); (rfl))
 | ((with_reducible apply go_rdN h); (rfl))
 | ((with_reducible apply go_rlen h); (rfl))
 | ((with_reducible apply go_lenL h))
 | ((with_reducible apply go_ix h); (omega))
 | ((with_reducible apply go_elN h); (case hi => omega))
 | ((with_reducible apply go_fa h); (omega); (omega))
 | ((with_reducible apply go_f1 h); (case hi => omega); (case hx => exact inferInstance))
 | ((with_reducible apply go_rf1 h); (case hi => omega); (case hx => exact inferInstance); (case hv => rfl))
 | ((with_reducible apply go_rel h); (case hi => omega); (case hv => rfl))
))
        refine go_some (ix_el (hrd.sat h) g) ?_
        refine go_some (i_at (hrd.sat h) g).2 ?_
        refine context_spec h fun w h => ?_
        have hok := ctxK_ok (bel l[i] 1048576).toNat
        have hfit := ctxK_fits (bel l[i] 1048576).toNat
        have hnil : (ctxK (bel l[i] 1048576).toNat).times = [] := rfl
        unfold ctxN'
        generalize ctxK (bel l[i] 1048576).toNat = c at hok hfit hnil
        have hrn : ∀ L', RdL w0 L' cI 1 (.slice none 0 0) c.times := fun L' => by rw [hnil]; exact rdNil
        have e5 : bRem (.int .i64 l[i]) (.int .i64 5) = some (.int .i64 (l[i].tmod 5)) := bRem_int _ _ _ (by decide)
        have e6 : bQuo (.int .i64 l[i]) (.int .i64 5) = some (.int .i64 (IntKind.i64.wrap (l[i].tdiv 5))) := bQuo_int _ _ _ (by decide)
        refine aadd_spec (c := c) (cs := cs) (n := 20) (next := next) hfit (by omega) (hrn _) h (fun _ w h => ?_) (fun _ w h => ?_)
        all_goals
          refine go_some (ix_el (hrd.sat h) g) ?_
          refine go_some (i_at (hrd.sat h) g).2 ?_
          refine go_some e5 ?_
          cases g5 : decide (l[i].tmod 5 = 0)
          case' false =>
            (repeat (first
 | (simp (disch := omega) only [evA, evB, bAdd_i64, bSub_i64, ptr, Nat.zero_add, Bool.not_true, Bool.not_false, Option.isNone_some, Option.isNone_none, Option.isSome_some, Option.isSome_none, decide_true, decide_false, eq_self, true_and, and_assoc, g5])
 | ((with_reducible apply go_ld1 h))
 | ((with_reducible apply go_ldA h); (rfl))
 | ((with_reducible apply go_ldN h))
 | ((with_reducible apply go_st h); intro _ h)
 | ((with_reducible apply go_stA h); (rfl); (rfl); (first | rfl | simp [OneV.o]); intro _ h)
 | ((with_reducible apply go_stN h); (rfl); (first | rfl | simp [OneV.o]); intro _ h)
 | ((with_reducible apply go_box h); rfl; intro _ _ h)
 | ((with_reducible apply go_rd h); (rfl))
 | ((with_reducible apply go_rdN h); (rfl))
 | ((with_reducible apply go_rlen h); (rfl))
 | ((with_reducible apply go_lenL h))
 | ((with_reducible apply go_ix h); (omega))
 | ((with_reducible apply go_elN h); (case hi => omega))
 | ((with_reducible apply go_fa h); (omega); (omega))
 | ((with_reducible apply go_f1 h); (case hi => omega); (case hx => exact inferInstance))
 | ((with_reducible apply go_rf1 h); (case hi => omega); (case hx => exact inferInstance); (case hv => rfl))
 | ((with_reducible apply go_rel h); (case hi => omega); (case hv => rfl))
))
            first
              | exact ih (i + 1) next _ w (by omega) (by omega) (by omega) (by omega) (by omega) h
              | exact ih (i + 1) (next + 1) _ w (by omega) (by omega) (by omega) (by omega) (by omega) h
          (repeat (first
 | (simp (disch := omega) only [evA, evB, bAdd_i64, bSub_i64, ptr, Nat.zero_add, Bool.not_true, Bool.not_false, Option.isNone_some, Option.isNone_none, Option.isSome_some, Option.isSome_none, decide_true, decide_false, eq_self, true_and, and_assoc, g5])
 | ((with_reducible apply go_ld1 h))
 | ((with_reducible apply go_ldA h); (rfl))
 | ((with_reducible apply go_ldN h))
 | ((with_reducible apply go_st h); intro _ h)
 | ((with_reducible apply go_stA h); (rfl); (rfl); (first | rfl | simp [OneV.o]); intro _ h)
 | ((with_reducible apply go_stN h); (rfl); (first | rfl | simp [OneV.o]); intro _ h)
 | ((with_reducible apply go_box h); rfl; intro _ _ h)
 | ((with_reducible apply go_rd h); (rfl))
 | ((with_reducible apply go_rdN h); (rfl))
 | ((with_reducible apply go_rlen h); (rfl))
 | ((with_reducible apply go_lenL h))
 | ((with_reducible apply go_ix h); (omega))
 | ((with_reducible apply go_elN h); (case hi => omega))
 | ((with_reducible apply go_fa h); (omega); (omega))
 | ((with_reducible apply go_f1 h); (case hi => omega); (case hx => exact inferInstance))
 | ((with_reducible apply go_rf1 h); (case hi => omega); (case hx => exact inferInstance); (case hv => rfl))
 | ((with_reducible apply go_rel h); (case hi => omega); (case hv => rfl))
))
          refine go_some (ix_el (hrd.sat h) g) ?_
          refine go_some (i_at (hrd.sat h) g).2 ?_
          refine go_some e6 ?_
          refine Below_spec (by decide) (by decide) fun r _ _ _ => ?_
          refine adrop_spec (id := r) h (fun _ w h => ?_) (fun _ _ _ _ w h => ?_)
          all_goals
            (repeat (first
 | (simp (disch := omega) only [evA, evB, bAdd_i64, bSub_i64, ptr, Nat.zero_add, Bool.not_true, Bool.not_false, Option.isNone_some, Option.isNone_none, Option.isSome_some, Option.isSome_none, decide_true, decide_false, eq_self, true_and, and_assoc])
 | ((with_reducible apply go_ld1 h))
 | ((with_reducible apply go_ldA h); (rfl))
 | ((with_reducible apply go_ldN h))
 | ((with_reducible apply go_st h); intro _ h)
 | ((with_reducible apply go_stA h); (rfl); (rfl); (first | rfl | simp [OneV.o]); intro _ h)
 | ((with_reducible apply go_stN h); (rfl); (first | rfl | simp [OneV.o]); intro _ h)
 | ((with_reducible apply go_box h); rfl; intro _ _ h)
 | ((with_reducible apply go_rd h); (rfl))
 | ((with_reducible apply go_rdN h); (rfl))
 | ((with_reducible apply go_rlen h); (rfl))
 | ((with_reducible apply go_lenL h))
 | ((with_reducible apply go_ix h); (omega))
 | ((with_reducible apply go_elN h); (case hi => omega))
 | ((with_reducible apply go_fa h); (omega); (omega))
 | ((with_reducible apply go_f1 h); (case hi => omega); (case hx => exact inferInstance))
 | ((with_reducible apply go_rf1 h); (case hi => omega); (case hx => exact inferInstance); (case hv => rfl))
 | ((with_reducible apply go_rel h); (case hi => omega); (case hv => rfl))
))
            first
              | exact ih (i + 1) next _ w (by omega) (by omega) (by omega) (by omega) (by omega) (h.get (by (repeat (first | exact .done | (refine .pick (by repeat (first | exact .here | apply Fnt.there)) ?_) | refine .skip ?_))))
              | exact ih (i + 1) (next + 1) _ w (by omega) (by omega) (by omega) (by omega) (by omega) (h.get (by (repeat (first | exact .done | (refine .pick (by repeat (first | exact .here | apply Fnt.there)) ?_) | refine .skip ?_))))
      · have g2' : decide ((i : Int) < 60) = false := by simp; omega
        (repeat (first
 | (simp (disch := omega) only [evA, evB, bAdd_i64, bSub_i64, ptr, Nat.zero_add, Bool.not_true, Bool.not_false, Option.isNone_some, Option.isNone_none, Option.isSome_some, Option.isSome_none, decide_true, decide_false, eq_self, true_and, and_assoc, hlen, g', g2'])
 | ((with_reducible apply go_ld1 h))
 | ((with_reducible apply go_ldA h); (rfl))
 | ((with_reducible apply go_ldN h))
 | ((with_reducible apply go_st h); intro _ h)
 | ((with_reducible apply go_stA h); (rfl); (rfl); (first | rfl | simp [OneV.o]); intro _ h)
 | ((with_reducible apply go_stN h); (rfl); (first | rfl | simp [OneV.o]); intro _ h)
 | ((with_reducible apply go_box h); rfl; intro _ _ h)
 | ((with_reducible apply go_rd h); (rfl))
 | ((with_reducible apply go_rdN h); (rfl))
 | ((with_reducible apply go_rlen h); (rfl))
 | ((with_reducible apply go_lenL h))
 | ((with_reducible apply go_ix h); (omega))
 | ((with_reducible apply go_elN h); (case hi => omega))
 | ((with_reducible apply go_fa h); (omega); (omega))
 | ((with_reducible apply go_f1 h); (case hi => omega); (case hx => exact inferInstance))
 | ((with_reducible apply go_rf1 h); (case hi => omega); (case hx => exact inferInstance); (case hv => rfl))
 | ((with_reducible apply go_rel h); (case hi => omega); (case hv => rfl))
))
        exact fin
    · have g' : decide ((i : Int) < (l.length : Int)) = false := by simpa using g
      (repeat (first
 | (simp (disch := omega) only [evA, evB, bAdd_i64, bSub_i64, ptr, Nat.zero_add, Bool.not_true, Bool.not_false, Option.isNone_some, Option.isNone_none, Option.isSome_some, Option.isSome_none, decide_true, decide_false, eq_self, true_and, and_assoc, hlen, g'])
 | ((with_reducible apply go_ld1 h))
 | ((with_reducible apply go_ldA h); (rfl))
 | ((with_reducible apply go_ldN h))
 | ((with_reducible apply go_st h); intro _ h)
 | ((with_reducible apply go_stA h); (rfl); (rfl); (first | rfl | simp [OneV.o]); intro _ h)
 | ((with_reducible apply go_stN h); (rfl); (first | rfl | simp [OneV.o]); intro _ h)
 | ((with_reducible apply go_box h); rfl; intro _ _ h)
 | ((with_reducible apply go_rd h); (rfl))
 | ((with_reducible apply go_rdN h); (rfl))
 | ((with_reducible apply go_rlen h); (rfl))
 | ((with_reducible apply go_lenL h))
 | ((with_reducible apply go_ix h); (omega))
 | ((with_reducible apply go_elN h); (case hi => omega))
 | ((with_reducible apply go_fa h); (omega); (omega))
 | ((with_reducible apply go_f1 h); (case hi => omega); (case hx => exact inferInstance))
 | ((with_reducible apply go_rf1 h); (case hi => omega); (case hx => exact inferInstance); (case hv => rfl))
 | ((with_reducible apply go_rel h); (case hi => omega); (case hv => rfl))
))
      exact fin
theorem ld_loop2 {l : List Int} (hl : l.length ≤ 140737488351232) (hrd : Rd w0 1 s1 l.length (l.flatMap cI)) (hE : ∀ next cs w', 1 ≤ next → next ≤ 2000 → Sat w0 (HoldA ha 20 next cs :: HoldA hb 20 next cs :: L) w' → F12_5 ha hb w' K) :
    ∀ (d i : Nat) (next : Int) (cs : List Ctx) (w : World), l.length - i < d → i ≤ 60 → i ≤ l.length → 1 ≤ next → next ≤ i + 1000 → Sat w0 (HoldA ha 20 next cs :: HoldA hb 20 next cs :: L) w → F12_4L d s1 ha hb (.int .i64 i) w K := by
  intro d
  induction d with
  | zero => intro i next cs w hd; omega
  | succ d ih =>
    intro i next cs w hd hi hl hn1 hn2 h
    rw [F12_4L]
    unfold F12_8 F12_8b F12_9 F12_9b
    have hlen := hrd.len
    have fin : F12_5 ha hb w K := hE next cs w hn1 (by omega) h
    by_cases g : i < l.length
    · have g' : decide ((i : Int) < (l.length : Int)) = true := by simpa using g
      by_cases g2 : i < 60
      · have g2' : decide ((i : Int) < 60) = true := by simp; omega
        (repeat (first
 | (simp (disch := omega) only [evA, evB, bAdd_i64, bSub_i64, ptr, Nat.zero_add, Bool.not_true, Bool.not_false, Option.isNone_some, Option.isNone_none, Option.isSome_some, Option.isSome_none, decide_true, decide_false, eq_self, true_and, and_assoc, hlen, g', g2'])
 | ((with_reducible apply go_ld1 h))
 | ((with_reducible apply go_ldA h); (rfl))
 | ((with_reducible apply go_ldN h))
 | ((with_reducible apply go_st h); intro _ h)
 | ((with_reducible apply go_stA h); (rfl); (rfl); (first | rfl | simp [OneV.o]); intro _ h)
 | ((with_reducible apply go_stN h); (rfl); (first | rfl | simp [OneV.o]); intro _ h)
 | ((with_reducible apply go_box h); rfl; intro _ _ h)
 | ((with_reducible apply go_rd h); (rfl))
 | ((with_reducible apply go_rdN h); (rfl))
 | ((with_reducible apply go_rlen h); (rfl))
 | ((with_reducible apply go_lenL h))
 | ((with_reducible apply go_ix h); (omega))
 | ((with_reducible apply go_elN h); (case hi => omega))
 | ((with_reducible apply go_fa h); (omega); (omega))
 | ((with_reducible apply go_f1 h); (case hi => omega); (case hx => exact inferInstance))
 | ((with_reducible apply go_rf1 h); (case hi => omega); (case hx => exact inferInstance); (case hv => rfl))
 | ((with_reducible apply go_rel h); (case hi => omega); (case hv => rfl))
))
        refine go_some (ix_el (hrd.sat h) g) ?_
        refine go_some (i_at (hrd.sat h) g).2 ?_
        refine context_spec h fun w h => ?_
        have hok := ctxK_ok (bel l[i] 1048576).toNat
        have hfit := ctxK_fits (bel l[i] 1048576).toNat
        have hnil : (ctxK (bel l[i] 1048576).toNat).times = [] := rfl
        have e0 : ctxN' l[i] = ctxK (bel l[i] 1048576).toNat := rfl
        rw [e0]
        generalize ctxK (bel l[i] 1048576).toNat = c at hok hfit hnil e0
        have hrn : ∀ L', RdL w0 L' cI 1 (.slice none 0 0) c.times := fun L' => by rw [hnil]; exact rdNil
        have e5 : bRem (.int .i64 l[i]) (.int .i64 3) = some (.int .i64 (l[i].tmod 3)) := bRem_int _ _ _ (by decide)
        refine aadd_spec (c := c) (cs := cs) (n := 20) (next := next) hfit (by omega) (hrn _) h (fun a1 w h => ?_) (fun a1 w h => ?_)
        all_goals
          (repeat (first
 | (simp (disch := omega) only [evA, evB, bAdd_i64, bSub_i64, ptr, Nat.zero_add, Bool.not_true, Bool.not_false, Option.isNone_some, Option.isNone_none, Option.isSome_some, Option.isSome_none, decide_true, decide_false, eq_self, true_and, and_assoc])
 | ((with_reducible apply go_ld1 h))
 | ((with_reducible apply go_ldA h); (rfl))
 | ((with_reducible apply go_ldN h))
 | ((with_reducible apply go_st h); intro _ h)
 | ((with_reducible apply go_stA h); (rfl); (rfl); (first | rfl | simp [OneV.o]); intro _ h)
 | ((with_reducible apply go_stN h); (rfl); (first | rfl | simp [OneV.o]); intro _ h)
 | ((with_reducible apply go_box h); rfl; intro _ _ h)
 | ((with_reducible apply go_rd h); (rfl))
 | ((with_reducible apply go_rdN h); (rfl))
 | ((with_reducible apply go_rlen h); (rfl))
 | ((with_reducible apply go_lenL h))
 | ((with_reducible apply go_ix h); (omega))
 | ((with_reducible apply go_elN h); (case hi => omega))
 | ((with_reducible apply go_fa h); (omega); (omega))
 | ((with_reducible apply go_f1 h); (case hi => omega); (case hx => exact inferInstance))
 | ((with_reducible apply go_rf1 h); (case hi => omega); (case hx => exact inferInstance); (case hv => rfl))
 | ((with_reducible apply go_rel h); (case hi => omega); (case hv => rfl))
))
          refine go_some (ix_el (hrd.sat h) g) ?_
          refine go_some (i_at (hrd.sat h) g).2 ?_
          refine context_spec h fun w h => ?_
          rw [e0]
          refine aadd_spec (c := c) (cs := cs) (n := 20) (next := next) hfit (by omega) (hrn _) h.f1 (fun a2 w h => ?_) (fun a2 w h => ?_)
        case' refine_1.refine_2 => exact absurd a2 a1
        case' refine_2.refine_1 => exact absurd a1 a2
        all_goals
          (repeat (first
 | (simp (disch := omega) only [evA, evB, bAdd_i64, bSub_i64, ptr, Nat.zero_add, Bool.not_true, Bool.not_false, Option.isNone_some, Option.isNone_none, Option.isSome_some, Option.isSome_none, decide_true, decide_false, eq_self, true_and, and_assoc])
 | ((with_reducible apply go_ld1 h))
 | ((with_reducible apply go_ldA h); (rfl))
 | ((with_reducible apply go_ldN h))
 | ((with_reducible apply go_st h); intro _ h)
 | ((with_reducible apply go_stA h); (rfl); (rfl); (first | rfl | simp [OneV.o]); intro _ h)
 | ((with_reducible apply go_stN h); (rfl); (first | rfl | simp [OneV.o]); intro _ h)
 | ((with_reducible apply go_box h); rfl; intro _ _ h)
 | ((with_reducible apply go_rd h); (rfl))
 | ((with_reducible apply go_rdN h); (rfl))
 | ((with_reducible apply go_rlen h); (rfl))
 | ((with_reducible apply go_lenL h))
 | ((with_reducible apply go_ix h); (omega))
 | ((with_reducible apply go_elN h); (case hi => omega))
 | ((with_reducible apply go_fa h); (omega); (omega))
 | ((with_reducible apply go_f1 h); (case hi => omega); (case hx => exact inferInstance))
 | ((with_reducible apply go_rf1 h); (case hi => omega); (case hx => exact inferInstance); (case hv => rfl))
 | ((with_reducible apply go_rel h); (case hi => omega); (case hv => rfl))
))
          refine go_some (ix_el (hrd.sat h) g) ?_
          refine go_some (i_at (hrd.sat h) g).2 ?_
          refine go_some e5 ?_
          cases g5 : decide (l[i].tmod 3 = 0)
          case' false =>
            (repeat (first
 | (simp (disch := omega) only [evA, evB, bAdd_i64, bSub_i64, ptr, Nat.zero_add, Bool.not_true, Bool.not_false, Option.isNone_some, Option.isNone_none, Option.isSome_some, Option.isSome_none, decide_true, decide_false, eq_self, true_and, and_assoc, g5])
 | ((with_reducible apply go_ld1 h))
 | ((with_reducible apply go_ldA h); (rfl))
 | ((with_reducible apply go_ldN h))
 | ((with_reducible apply go_st h); intro _ h)
 | ((with_reducible apply go_stA h); (rfl); (rfl); (first | rfl | simp [OneV.o]); intro _ h)
 | ((with_reducible apply go_stN h); (rfl); (first | rfl | simp [OneV.o]); intro _ h)
 | ((with_reducible apply go_box h); rfl; intro _ _ h)
 | ((with_reducible apply go_rd h); (rfl))
 | ((with_reducible apply go_rdN h); (rfl))
 | ((with_reducible apply go_rlen h); (rfl))
 | ((with_reducible apply go_lenL h))
 | ((with_reducible apply go_ix h); (omega))
 | ((with_reducible apply go_elN h); (case hi => omega))
 | ((with_reducible apply go_fa h); (omega); (omega))
 | ((with_reducible apply go_f1 h); (case hi => omega); (case hx => exact inferInstance))
 | ((with_reducible apply go_rf1 h); (case hi => omega); (case hx => exact inferInstance); (case hv => rfl))
 | ((with_reducible apply go_rel h); (case hi => omega); (case hv => rfl))
))
            first
              | exact ih (i + 1) next _ w (by omega) (by omega) (by omega) (by omega) (by omega) (h.get (by (repeat (first | exact .done | (refine .pick (by repeat (first | exact .here | apply Fnt.there)) ?_) | refine .skip ?_))))
              | exact ih (i + 1) (next + 1) _ w (by omega) (by omega) (by omega) (by omega) (by omega) (h.get (by (repeat (first | exact .done | (refine .pick (by repeat (first | exact .here | apply Fnt.there)) ?_) | refine .skip ?_))))
          (repeat (first
 | (simp (disch := omega) only [evA, evB, bAdd_i64, bSub_i64, ptr, Nat.zero_add, Bool.not_true, Bool.not_false, Option.isNone_some, Option.isNone_none, Option.isSome_some, Option.isSome_none, decide_true, decide_false, eq_self, true_and, and_assoc, g5])
 | ((with_reducible apply go_ld1 h))
 | ((with_reducible apply go_ldA h); (rfl))
 | ((with_reducible apply go_ldN h))
 | ((with_reducible apply go_st h); intro _ h)
 | ((with_reducible apply go_stA h); (rfl); (rfl); (first | rfl | simp [OneV.o]); intro _ h)
 | ((with_reducible apply go_stN h); (rfl); (first | rfl | simp [OneV.o]); intro _ h)
 | ((with_reducible apply go_box h); rfl; intro _ _ h)
 | ((with_reducible apply go_rd h); (rfl))
 | ((with_reducible apply go_rdN h); (rfl))
 | ((with_reducible apply go_rlen h); (rfl))
 | ((with_reducible apply go_lenL h))
 | ((with_reducible apply go_ix h); (omega))
 | ((with_reducible apply go_elN h); (case hi => omega))
 | ((with_reducible apply go_fa h); (omega); (omega))
 | ((with_reducible apply go_f1 h); (case hi => omega); (case hx => exact inferInstance))
 | ((with_reducible apply go_rf1 h); (case hi => omega); (case hx => exact inferInstance); (case hv => rfl))
 | ((with_reducible apply go_rel h); (case hi => omega); (case hv => rfl))
))
          have bn0 : ∀ x y : Operand, bNe Try.prog 4 x y (.bool false) (.bool false) = some (.bool false) := fun x y => bNe_bool ub4 false false
          have bn1 : ∀ x y : Operand, bNe Try.prog 4 x y (.bool true) (.bool true) = some (.bool false) := fun x y => bNe_bool ub4 true true
          refine afirst_spec h.f1 (fun ecs w h => ?_) (fun c1 hc1 s1 w h => ?_)
          · (repeat (first
 | (simp (disch := omega) only [evA, evB, bAdd_i64, bSub_i64, ptr, Nat.zero_add, Bool.not_true, Bool.not_false, Option.isNone_some, Option.isNone_none, Option.isSome_some, Option.isSome_none, decide_true, decide_false, eq_self, true_and, and_assoc])
 | ((with_reducible apply go_ld1 h))
 | ((with_reducible apply go_ldA h); (rfl))
 | ((with_reducible apply go_ldN h))
 | ((with_reducible apply go_st h); intro _ h)
 | ((with_reducible apply go_stA h); (rfl); (rfl); (first | rfl | simp [OneV.o]); intro _ h)
 | ((with_reducible apply go_stN h); (rfl); (first | rfl | simp [OneV.o]); intro _ h)
 | ((with_reducible apply go_box h); rfl; intro _ _ h)
 | ((with_reducible apply go_rd h); (rfl))
 | ((with_reducible apply go_rdN h); (rfl))
 | ((with_reducible apply go_rlen h); (rfl))
 | ((with_reducible apply go_lenL h))
 | ((with_reducible apply go_ix h); (omega))
 | ((with_reducible apply go_elN h); (case hi => omega))
 | ((with_reducible apply go_fa h); (omega); (omega))
 | ((with_reducible apply go_f1 h); (case hi => omega); (case hx => exact inferInstance))
 | ((with_reducible apply go_rf1 h); (case hi => omega); (case hx => exact inferInstance); (case hv => rfl))
 | ((with_reducible apply go_rel h); (case hi => omega); (case hv => rfl))
))
            refine go_alloc h zc41 rfl fun _ _ h => ?_
            (repeat (first
 | (simp (disch := omega) only [evA, evB, bAdd_i64, bSub_i64, ptr, Nat.zero_add, Bool.not_true, Bool.not_false, Option.isNone_some, Option.isNone_none, Option.isSome_some, Option.isSome_none, decide_true, decide_false, eq_self, true_and, and_assoc])
 | ((with_reducible apply go_ld1 h))
 | ((with_reducible apply go_ldA h); (rfl))
 | ((with_reducible apply go_ldN h))
 | ((with_reducible apply go_st h); intro _ h)
 | ((with_reducible apply go_stA h); (rfl); (rfl); (first | rfl | simp [OneV.o]); intro _ h)
 | ((with_reducible apply go_stN h); (rfl); (first | rfl | simp [OneV.o]); intro _ h)
 | ((with_reducible apply go_box h); rfl; intro _ _ h)
 | ((with_reducible apply go_rd h); (rfl))
 | ((with_reducible apply go_rdN h); (rfl))
 | ((with_reducible apply go_rlen h); (rfl))
 | ((with_reducible apply go_lenL h))
 | ((with_reducible apply go_ix h); (omega))
 | ((with_reducible apply go_elN h); (case hi => omega))
 | ((with_reducible apply go_fa h); (omega); (omega))
 | ((with_reducible apply go_f1 h); (case hi => omega); (case hx => exact inferInstance))
 | ((with_reducible apply go_rf1 h); (case hi => omega); (case hx => exact inferInstance); (case hv => rfl))
 | ((with_reducible apply go_rel h); (case hi => omega); (case hv => rfl))
))
            refine afirst_spec (v := hb) (h.front (by repeat (first | exact .here | apply Fnt.there))) (fun _ w h => ?_) (fun c1 hc1 s1 w h => by rw [ecs] at hc1; exact absurd hc1.1 (by simp))
            (repeat (first
 | (simp (disch := omega) only [evA, evB, bAdd_i64, bSub_i64, ptr, Nat.zero_add, Bool.not_true, Bool.not_false, Option.isNone_some, Option.isNone_none, Option.isSome_some, Option.isSome_none, decide_true, decide_false, eq_self, true_and, and_assoc])
 | ((with_reducible apply go_ld1 h))
 | ((with_reducible apply go_ldA h); (rfl))
 | ((with_reducible apply go_ldN h))
 | ((with_reducible apply go_st h); intro _ h)
 | ((with_reducible apply go_stA h); (rfl); (rfl); (first | rfl | simp [OneV.o]); intro _ h)
 | ((with_reducible apply go_stN h); (rfl); (first | rfl | simp [OneV.o]); intro _ h)
 | ((with_reducible apply go_box h); rfl; intro _ _ h)
 | ((with_reducible apply go_rd h); (rfl))
 | ((with_reducible apply go_rdN h); (rfl))
 | ((with_reducible apply go_rlen h); (rfl))
 | ((with_reducible apply go_lenL h))
 | ((with_reducible apply go_ix h); (omega))
 | ((with_reducible apply go_elN h); (case hi => omega))
 | ((with_reducible apply go_fa h); (omega); (omega))
 | ((with_reducible apply go_f1 h); (case hi => omega); (case hx => exact inferInstance))
 | ((with_reducible apply go_rf1 h); (case hi => omega); (case hx => exact inferInstance); (case hv => rfl))
 | ((with_reducible apply go_rel h); (case hi => omega); (case hv => rfl))
))
            refine go_alloc h zc41 rfl fun _ _ h => ?_
            (repeat (first
 | (simp (disch := omega) only [evA, evB, bAdd_i64, bSub_i64, ptr, Nat.zero_add, Bool.not_true, Bool.not_false, Option.isNone_some, Option.isNone_none, Option.isSome_some, Option.isSome_none, decide_true, decide_false, eq_self, true_and, and_assoc])
 | ((with_reducible apply go_ld1 h))
 | ((with_reducible apply go_ldA h); (rfl))
 | ((with_reducible apply go_ldN h))
 | ((with_reducible apply go_st h); intro _ h)
 | ((with_reducible apply go_stA h); (rfl); (rfl); (first | rfl | simp [OneV.o]); intro _ h)
 | ((with_reducible apply go_stN h); (rfl); (first | rfl | simp [OneV.o]); intro _ h)
 | ((with_reducible apply go_box h); rfl; intro _ _ h)
 | ((with_reducible apply go_rd h); (rfl))
 | ((with_reducible apply go_rdN h); (rfl))
 | ((with_reducible apply go_rlen h); (rfl))
 | ((with_reducible apply go_lenL h))
 | ((with_reducible apply go_ix h); (omega))
 | ((with_reducible apply go_elN h); (case hi => omega))
 | ((with_reducible apply go_fa h); (omega); (omega))
 | ((with_reducible apply go_f1 h); (case hi => omega); (case hx => exact inferInstance))
 | ((with_reducible apply go_rf1 h); (case hi => omega); (case hx => exact inferInstance); (case hv => rfl))
 | ((with_reducible apply go_rel h); (case hi => omega); (case hv => rfl))
))
            refine adrop_spec (v := ha) (id := 0) (h.front (by repeat (first | exact .here | apply Fnt.there))) (fun _ w h => ?_) (fun c1 hc1 _ _ _ _ => by rw [ecs] at hc1; exact absurd hc1 (by simp))
            (repeat (first
 | (simp (disch := omega) only [evA, evB, bAdd_i64, bSub_i64, ptr, Nat.zero_add, Bool.not_true, Bool.not_false, Option.isNone_some, Option.isNone_none, Option.isSome_some, Option.isSome_none, decide_true, decide_false, eq_self, true_and, and_assoc])
 | ((with_reducible apply go_ld1 h))
 | ((with_reducible apply go_ldA h); (rfl))
 | ((with_reducible apply go_ldN h))
 | ((with_reducible apply go_st h); intro _ h)
 | ((with_reducible apply go_stA h); (rfl); (rfl); (first | rfl | simp [OneV.o]); intro _ h)
 | ((with_reducible apply go_stN h); (rfl); (first | rfl | simp [OneV.o]); intro _ h)
 | ((with_reducible apply go_box h); rfl; intro _ _ h)
 | ((with_reducible apply go_rd h); (rfl))
 | ((with_reducible apply go_rdN h); (rfl))
 | ((with_reducible apply go_rlen h); (rfl))
 | ((with_reducible apply go_lenL h))
 | ((with_reducible apply go_ix h); (omega))
 | ((with_reducible apply go_elN h); (case hi => omega))
 | ((with_reducible apply go_fa h); (omega); (omega))
 | ((with_reducible apply go_f1 h); (case hi => omega); (case hx => exact inferInstance))
 | ((with_reducible apply go_rf1 h); (case hi => omega); (case hx => exact inferInstance); (case hv => rfl))
 | ((with_reducible apply go_rel h); (case hi => omega); (case hv => rfl))
))
            refine adrop_spec (v := hb) (id := 0) (h.front (by repeat (first | exact .here | apply Fnt.there))) (fun _ w h => ?_) (fun c1 hc1 _ _ _ _ => by rw [ecs] at hc1; exact absurd hc1 (by simp))
            (repeat (first
 | (simp (disch := omega) only [evA, evB, bAdd_i64, bSub_i64, ptr, Nat.zero_add, Bool.not_true, Bool.not_false, Option.isNone_some, Option.isNone_none, Option.isSome_some, Option.isSome_none, decide_true, decide_false, eq_self, true_and, and_assoc])
 | ((with_reducible apply go_ld1 h))
 | ((with_reducible apply go_ldA h); (rfl))
 | ((with_reducible apply go_ldN h))
 | ((with_reducible apply go_st h); intro _ h)
 | ((with_reducible apply go_stA h); (rfl); (rfl); (first | rfl | simp [OneV.o]); intro _ h)
 | ((with_reducible apply go_stN h); (rfl); (first | rfl | simp [OneV.o]); intro _ h)
 | ((with_reducible apply go_box h); rfl; intro _ _ h)
 | ((with_reducible apply go_rd h); (rfl))
 | ((with_reducible apply go_rdN h); (rfl))
 | ((with_reducible apply go_rlen h); (rfl))
 | ((with_reducible apply go_lenL h))
 | ((with_reducible apply go_ix h); (omega))
 | ((with_reducible apply go_elN h); (case hi => omega))
 | ((with_reducible apply go_fa h); (omega); (omega))
 | ((with_reducible apply go_f1 h); (case hi => omega); (case hx => exact inferInstance))
 | ((with_reducible apply go_rf1 h); (case hi => omega); (case hx => exact inferInstance); (case hv => rfl))
 | ((with_reducible apply go_rel h); (case hi => omega); (case hv => rfl))
))
            refine same_spec (a := zeroC) (b := zeroC) (by simp [zeroC]) rdNil rdNil h fun w h => ?_
            rw [decide_eq_true rfl]
            (repeat (first
 | (simp (disch := omega) only [evA, evB, bAdd_i64, bSub_i64, ptr, Nat.zero_add, Bool.not_true, Bool.not_false, Option.isNone_some, Option.isNone_none, Option.isSome_some, Option.isSome_none, decide_true, decide_false, eq_self, true_and, and_assoc, bn0])
 | ((with_reducible apply go_ld1 h))
 | ((with_reducible apply go_ldA h); (rfl))
 | ((with_reducible apply go_ldN h))
 | ((with_reducible apply go_st h); intro _ h)
 | ((with_reducible apply go_stA h); (rfl); (rfl); (first | rfl | simp [OneV.o]); intro _ h)
 | ((with_reducible apply go_stN h); (rfl); (first | rfl | simp [OneV.o]); intro _ h)
 | ((with_reducible apply go_box h); rfl; intro _ _ h)
 | ((with_reducible apply go_rd h); (rfl))
 | ((with_reducible apply go_rdN h); (rfl))
 | ((with_reducible apply go_rlen h); (rfl))
 | ((with_reducible apply go_lenL h))
 | ((with_reducible apply go_ix h); (omega))
 | ((with_reducible apply go_elN h); (case hi => omega))
 | ((with_reducible apply go_fa h); (omega); (omega))
 | ((with_reducible apply go_f1 h); (case hi => omega); (case hx => exact inferInstance))
 | ((with_reducible apply go_rf1 h); (case hi => omega); (case hx => exact inferInstance); (case hv => rfl))
 | ((with_reducible apply go_rel h); (case hi => omega); (case hv => rfl))
))
            first
              | exact ih (i + 1) next _ w (by omega) (by omega) (by omega) (by omega) (by omega) (h.get (by (repeat (first | exact .done | (refine .pick (by repeat (first | exact .here | apply Fnt.there)) ?_) | refine .skip ?_))))
              | exact ih (i + 1) (next + 1) _ w (by omega) (by omega) (by omega) (by omega) (by omega) (h.get (by (repeat (first | exact .done | (refine .pick (by repeat (first | exact .here | apply Fnt.there)) ?_) | refine .skip ?_))))
          · obtain ⟨hn, m, I, M, H⟩ := holdA_inv (h.front (A := HoldA ha 20 _ _) (by repeat (first | exact .here | apply Fnt.there)))
            have := ls_one h
            have hl1 : c1.times.length ≤ 1000000 := by have : c1.times.length < 1000000 := (H.ok c1 hc1.1).2.1.2.2.2; omega
            (repeat (first
 | (simp (disch := omega) only [evA, evB, bAdd_i64, bSub_i64, ptr, Nat.zero_add, Bool.not_true, Bool.not_false, Option.isNone_some, Option.isNone_none, Option.isSome_some, Option.isSome_none, decide_true, decide_false, eq_self, true_and, and_assoc])
 | ((with_reducible apply go_ld1 h))
 | ((with_reducible apply go_ldA h); (rfl))
 | ((with_reducible apply go_ldN h))
 | ((with_reducible apply go_st h); intro _ h)
 | ((with_reducible apply go_stA h); (rfl); (rfl); (first | rfl | simp [OneV.o]); intro _ h)
 | ((with_reducible apply go_stN h); (rfl); (first | rfl | simp [OneV.o]); intro _ h)
 | ((with_reducible apply go_box h); rfl; intro _ _ h)
 | ((with_reducible apply go_rd h); (rfl))
 | ((with_reducible apply go_rdN h); (rfl))
 | ((with_reducible apply go_rlen h); (rfl))
 | ((with_reducible apply go_lenL h))
 | ((with_reducible apply go_ix h); (omega))
 | ((with_reducible apply go_elN h); (case hi => omega))
 | ((with_reducible apply go_fa h); (omega); (omega))
 | ((with_reducible apply go_f1 h); (case hi => omega); (case hx => exact inferInstance))
 | ((with_reducible apply go_rf1 h); (case hi => omega); (case hx => exact inferInstance); (case hv => rfl))
 | ((with_reducible apply go_rel h); (case hi => omega); (case hv => rfl))
))
            refine go_alloc h zc41 rfl fun _ _ h => ?_
            (repeat (first
 | (simp (disch := omega) only [evA, evB, bAdd_i64, bSub_i64, ptr, Nat.zero_add, Bool.not_true, Bool.not_false, Option.isNone_some, Option.isNone_none, Option.isSome_some, Option.isSome_none, decide_true, decide_false, eq_self, true_and, and_assoc])
 | ((with_reducible apply go_ld1 h))
 | ((with_reducible apply go_ldA h); (rfl))
 | ((with_reducible apply go_ldN h))
 | ((with_reducible apply go_st h); intro _ h)
 | ((with_reducible apply go_stA h); (rfl); (rfl); (first | rfl | simp [OneV.o]); intro _ h)
 | ((with_reducible apply go_stN h); (rfl); (first | rfl | simp [OneV.o]); intro _ h)
 | ((with_reducible apply go_box h); rfl; intro _ _ h)
 | ((with_reducible apply go_rd h); (rfl))
 | ((with_reducible apply go_rdN h); (rfl))
 | ((with_reducible apply go_rlen h); (rfl))
 | ((with_reducible apply go_lenL h))
 | ((with_reducible apply go_ix h); (omega))
 | ((with_reducible apply go_elN h); (case hi => omega))
 | ((with_reducible apply go_fa h); (omega); (omega))
 | ((with_reducible apply go_f1 h); (case hi => omega); (case hx => exact inferInstance))
 | ((with_reducible apply go_rf1 h); (case hi => omega); (case hx => exact inferInstance); (case hv => rfl))
 | ((with_reducible apply go_rel h); (case hi => omega); (case hv => rfl))
))
            refine afirst_spec (v := hb) (h.front (by repeat (first | exact .here | apply Fnt.there))) (fun ecs w h => by rw [ecs] at hc1; exact absurd hc1.1 (by simp)) (fun c2 hc2 s2 w h => ?_)
            obtain rfl := FirstC.eq H.asc hc2 hc1
            have := ls_one h
            (repeat (first
 | (simp (disch := omega) only [evA, evB, bAdd_i64, bSub_i64, ptr, Nat.zero_add, Bool.not_true, Bool.not_false, Option.isNone_some, Option.isNone_none, Option.isSome_some, Option.isSome_none, decide_true, decide_false, eq_self, true_and, and_assoc])
 | ((with_reducible apply go_ld1 h))
 | ((with_reducible apply go_ldA h); (rfl))
 | ((with_reducible apply go_ldN h))
 | ((with_reducible apply go_st h); intro _ h)
 | ((with_reducible apply go_stA h); (rfl); (rfl); (first | rfl | simp [OneV.o]); intro _ h)
 | ((with_reducible apply go_stN h); (rfl); (first | rfl | simp [OneV.o]); intro _ h)
 | ((with_reducible apply go_box h); rfl; intro _ _ h)
 | ((with_reducible apply go_rd h); (rfl))
 | ((with_reducible apply go_rdN h); (rfl))
 | ((with_reducible apply go_rlen h); (rfl))
 | ((with_reducible apply go_lenL h))
 | ((with_reducible apply go_ix h); (omega))
 | ((with_reducible apply go_elN h); (case hi => omega))
 | ((with_reducible apply go_fa h); (omega); (omega))
 | ((with_reducible apply go_f1 h); (case hi => omega); (case hx => exact inferInstance))
 | ((with_reducible apply go_rf1 h); (case hi => omega); (case hx => exact inferInstance); (case hv => rfl))
 | ((with_reducible apply go_rel h); (case hi => omega); (case hv => rfl))
))
            refine go_alloc h zc41 rfl fun _ _ h => ?_
            (repeat (first
 | (simp (disch := omega) only [evA, evB, bAdd_i64, bSub_i64, ptr, Nat.zero_add, Bool.not_true, Bool.not_false, Option.isNone_some, Option.isNone_none, Option.isSome_some, Option.isSome_none, decide_true, decide_false, eq_self, true_and, and_assoc])
 | ((with_reducible apply go_ld1 h))
 | ((with_reducible apply go_ldA h); (rfl))
 | ((with_reducible apply go_ldN h))
 | ((with_reducible apply go_st h); intro _ h)
 | ((with_reducible apply go_stA h); (rfl); (rfl); (first | rfl | simp [OneV.o]); intro _ h)
 | ((with_reducible apply go_stN h); (rfl); (first | rfl | simp [OneV.o]); intro _ h)
 | ((with_reducible apply go_box h); rfl; intro _ _ h)
 | ((with_reducible apply go_rd h); (rfl))
 | ((with_reducible apply go_rdN h); (rfl))
 | ((with_reducible apply go_rlen h); (rfl))
 | ((with_reducible apply go_lenL h))
 | ((with_reducible apply go_ix h); (omega))
 | ((with_reducible apply go_elN h); (case hi => omega))
 | ((with_reducible apply go_fa h); (omega); (omega))
 | ((with_reducible apply go_f1 h); (case hi => omega); (case hx => exact inferInstance))
 | ((with_reducible apply go_rf1 h); (case hi => omega); (case hx => exact inferInstance); (case hv => rfl))
 | ((with_reducible apply go_rel h); (case hi => omega); (case hv => rfl))
))
            refine adrop_spec (v := ha) (id := c2.id) (h.front (by repeat (first | exact .here | apply Fnt.there))) (fun hne w h => absurd rfl (hne c2 hc1.1)) (fun _ _ _ _ w h => ?_)
            (repeat (first
 | (simp (disch := omega) only [evA, evB, bAdd_i64, bSub_i64, ptr, Nat.zero_add, Bool.not_true, Bool.not_false, Option.isNone_some, Option.isNone_none, Option.isSome_some, Option.isSome_none, decide_true, decide_false, eq_self, true_and, and_assoc])
 | ((with_reducible apply go_ld1 h))
 | ((with_reducible apply go_ldA h); (rfl))
 | ((with_reducible apply go_ldN h))
 | ((with_reducible apply go_st h); intro _ h)
 | ((with_reducible apply go_stA h); (rfl); (rfl); (first | rfl | simp [OneV.o]); intro _ h)
 | ((with_reducible apply go_stN h); (rfl); (first | rfl | simp [OneV.o]); intro _ h)
 | ((with_reducible apply go_box h); rfl; intro _ _ h)
 | ((with_reducible apply go_rd h); (rfl))
 | ((with_reducible apply go_rdN h); (rfl))
 | ((with_reducible apply go_rlen h); (rfl))
 | ((with_reducible apply go_lenL h))
 | ((with_reducible apply go_ix h); (omega))
 | ((with_reducible apply go_elN h); (case hi => omega))
 | ((with_reducible apply go_fa h); (omega); (omega))
 | ((with_reducible apply go_f1 h); (case hi => omega); (case hx => exact inferInstance))
 | ((with_reducible apply go_rf1 h); (case hi => omega); (case hx => exact inferInstance); (case hv => rfl))
 | ((with_reducible apply go_rel h); (case hi => omega); (case hv => rfl))
))
            refine adrop_spec (v := hb) (id := c2.id) (h.front (by repeat (first | exact .here | apply Fnt.there))) (fun hne w h => absurd rfl (hne c2 hc1.1)) (fun _ _ _ _ w h => ?_)
            (repeat (first
 | (simp (disch := omega) only [evA, evB, bAdd_i64, bSub_i64, ptr, Nat.zero_add, Bool.not_true, Bool.not_false, Option.isNone_some, Option.isNone_none, Option.isSome_some, Option.isSome_none, decide_true, decide_false, eq_self, true_and, and_assoc])
 | ((with_reducible apply go_ld1 h))
 | ((with_reducible apply go_ldA h); (rfl))
 | ((with_reducible apply go_ldN h))
 | ((with_reducible apply go_st h); intro _ h)
 | ((with_reducible apply go_stA h); (rfl); (rfl); (first | rfl | simp [OneV.o]); intro _ h)
 | ((with_reducible apply go_stN h); (rfl); (first | rfl | simp [OneV.o]); intro _ h)
 | ((with_reducible apply go_box h); rfl; intro _ _ h)
 | ((with_reducible apply go_rd h); (rfl))
 | ((with_reducible apply go_rdN h); (rfl))
 | ((with_reducible apply go_rlen h); (rfl))
 | ((with_reducible apply go_lenL h))
 | ((with_reducible apply go_ix h); (omega))
 | ((with_reducible apply go_elN h); (case hi => omega))
 | ((with_reducible apply go_fa h); (omega); (omega))
 | ((with_reducible apply go_f1 h); (case hi => omega); (case hx => exact inferInstance))
 | ((with_reducible apply go_rf1 h); (case hi => omega); (case hx => exact inferInstance); (case hv => rfl))
 | ((with_reducible apply go_rel h); (case hi => omega); (case hv => rfl))
))
            refine same_spec (a := c2) (b := c2) hl1 (.of_ls inferInstance) (.of_ls inferInstance) h fun w h => ?_
            rw [decide_eq_true rfl]
            (repeat (first
 | (simp (disch := omega) only [evA, evB, bAdd_i64, bSub_i64, ptr, Nat.zero_add, Bool.not_true, Bool.not_false, Option.isNone_some, Option.isNone_none, Option.isSome_some, Option.isSome_none, decide_true, decide_false, eq_self, true_and, and_assoc, bn1])
 | ((with_reducible apply go_ld1 h))
 | ((with_reducible apply go_ldA h); (rfl))
 | ((with_reducible apply go_ldN h))
 | ((with_reducible apply go_st h); intro _ h)
 | ((with_reducible apply go_stA h); (rfl); (rfl); (first | rfl | simp [OneV.o]); intro _ h)
 | ((with_reducible apply go_stN h); (rfl); (first | rfl | simp [OneV.o]); intro _ h)
 | ((with_reducible apply go_box h); rfl; intro _ _ h)
 | ((with_reducible apply go_rd h); (rfl))
 | ((with_reducible apply go_rdN h); (rfl))
 | ((with_reducible apply go_rlen h); (rfl))
 | ((with_reducible apply go_lenL h))
 | ((with_reducible apply go_ix h); (omega))
 | ((with_reducible apply go_elN h); (case hi => omega))
 | ((with_reducible apply go_fa h); (omega); (omega))
 | ((with_reducible apply go_f1 h); (case hi => omega); (case hx => exact inferInstance))
 | ((with_reducible apply go_rf1 h); (case hi => omega); (case hx => exact inferInstance); (case hv => rfl))
 | ((with_reducible apply go_rel h); (case hi => omega); (case hv => rfl))
))
            first
              | exact ih (i + 1) next _ w (by omega) (by omega) (by omega) (by omega) (by omega) (h.get (by (repeat (first | exact .done | (refine .pick (by repeat (first | exact .here | apply Fnt.there)) ?_) | refine .skip ?_))))
              | exact ih (i + 1) (next + 1) _ w (by omega) (by omega) (by omega) (by omega) (by omega) (h.get (by (repeat (first | exact .done | (refine .pick (by repeat (first | exact .here | apply Fnt.there)) ?_) | refine .skip ?_))))
      · have g2' : decide ((i : Int) < 60) = false := by simp; omega
        (repeat (first
 | (simp (disch := omega) only [evA, evB, bAdd_i64, bSub_i64, ptr, Nat.zero_add, Bool.not_true, Bool.not_false, Option.isNone_some, Option.isNone_none, Option.isSome_some, Option.isSome_none, decide_true, decide_false, eq_self, true_and, and_assoc, hlen, g', g2'])
 | ((with_reducible apply go_ld1 h))
 | ((with_reducible apply go_ldA h); (rfl))
 | ((with_reducible apply go_ldN h))
 | ((with_reducible apply go_st h); intro _ h)
 | ((with_reducible apply go_stA h); (rfl); (rfl); (first | rfl | simp [OneV.o]); intro _ h)
 | ((with_reducible apply go_stN h); (rfl); (first | rfl | simp [OneV.o]); intro _ h)
 | ((with_reducible apply go_box h); rfl; intro _ _ h)
 | ((with_reducible apply go_rd h); (rfl))
 | ((with_reducible apply go_rdN h); (rfl))
 | ((with_reducible apply go_rlen h); (rfl))
 | ((with_reducible apply go_lenL h))
 | ((with_reducible apply go_ix h); (omega))
 | ((with_reducible apply go_elN h); (case hi => omega))
 | ((with_reducible apply go_fa h); (omega); (omega))
 | ((with_reducible apply go_f1 h); (case hi => omega); (case hx => exact inferInstance))
 | ((with_reducible apply go_rf1 h); (case hi => omega); (case hx => exact inferInstance); (case hv => rfl))
 | ((with_reducible apply go_rel h); (case hi => omega); (case hv => rfl))
))
        exact fin
    · have g' : decide ((i : Int) < (l.length : Int)) = false := by simpa using g
      (repeat (first
 | (simp (disch := omega) only [evA, evB, bAdd_i64, bSub_i64, ptr, Nat.zero_add, Bool.not_true, Bool.not_false, Option.isNone_some, Option.isNone_none, Option.isSome_some, Option.isSome_none, decide_true, decide_false, eq_self, true_and, and_assoc, hlen, g'])
 | ((with_reducible apply go_ld1 h))
 | ((with_reducible apply go_ldA h); (rfl))
 | ((with_reducible apply go_ldN h))
 | ((with_reducible apply go_st h); intro _ h)
 | ((with_reducible apply go_stA h); (rfl); (rfl); (first | rfl | simp [OneV.o]); intro _ h)
 | ((with_reducible apply go_stN h); (rfl); (first | rfl | simp [OneV.o]); intro _ h)
 | ((with_reducible apply go_box h); rfl; intro _ _ h)
 | ((with_reducible apply go_rd h); (rfl))
 | ((with_reducible apply go_rdN h); (rfl))
 | ((with_reducible apply go_rlen h); (rfl))
 | ((with_reducible apply go_lenL h))
 | ((with_reducible apply go_ix h); (omega))
 | ((with_reducible apply go_elN h); (case hi => omega))
 | ((with_reducible apply go_fa h); (omega); (omega))
 | ((with_reducible apply go_f1 h); (case hi => omega); (case hx => exact inferInstance))
 | ((with_reducible apply go_rf1 h); (case hi => omega); (case hx => exact inferInstance); (case hv => rfl))
 | ((with_reducible apply go_rel h); (case hi => omega); (case hv => rfl))
))
      exact fin
end
end Go.Proofs.Gong

/- Hr1 -/
namespace Go.Proofs.Gong
open Go Go.Sx Go.Proofs
set_option maxRecDepth 100000
attribute [local irreducible] fBuild fLook fZero eqv bEqv Cl MapH LsH SlH ld1 ldN st callP eBox eAlloc lenM lenL eMapSet eDelete eAppend eBuildSl eRange eNext
section
variable {w0 w : World} {L : List HP} {K : Value → World → Prop} {v ha hb s0 s1 s2 : Value} {n next hn : Int} {cs : List Ctx} {c : Ctx} {tv s : Value}
theorem hlX_mem {xs : List (Ctx × SV)} {x : Ctx × SV} (h : x ∈ xs) : (x.1.id, (x.1, svV x.2)) ∈ hlX xs := List.mem_map.2 ⟨x, h, rfl⟩
theorem ld_cmp {xs ys : List (Ctx × SV)} {x y : Value} (he : xs.map Prod.fst = ys.map Prod.fst) (hf : ∀ z ∈ xs, z.1.times.length ≤ 1000000) (hl : xs.length ≤ 20) (hK : ∀ w', Sat w0 L w' → K (.bool true) w') :
    ∀ (d i : Nat) (w : World), xs.length - i < d → i ≤ xs.length → Sat w0 (LsH cX 11 41 x xs :: bag (hlX xs) :: LsH cX 11 41 y ys :: bag (hlX ys) :: L) w → F12_6L d x y (.int .i64 (xs.length : Nat)) (.int .i64 i) w K := by
  intro d
  have hly : ys.length = xs.length := by have := congrArg List.length he; simpa using this.symm
  induction d with
  | zero => intro i w hd; omega
  | succ d ih =>
    intro i w hd hi h
    rw [F12_6L]
    unfold F12_6b
    by_cases g : i < xs.length
    · have g' : decide ((i : Int) < (xs.length : Int)) = true := by simpa using g
      have g2 : i < ys.length := by omega
      have e : ys[i].1 = xs[i].1 := by
        have := congrArg (fun l => l[i]?) he
        simp [g, g2] at this
        exact this.symm
      (repeat (first
 | (simp (disch := omega) only [evA, evB, bAdd_i64, bSub_i64, ptr, Nat.zero_add, Bool.not_true, Bool.not_false, Option.isNone_some, Option.isNone_none, Option.isSome_some, Option.isSome_none, decide_true, decide_false, eq_self, true_and, and_assoc, g'])
 | ((with_reducible apply go_ld1 h))
 | ((with_reducible apply go_ldA h); (rfl))
 | ((with_reducible apply go_ldN h))
 | ((with_reducible apply go_st h); intro _ h)
 | ((with_reducible apply go_stA h); (rfl); (rfl); (first | rfl | simp [OneV.o]); intro _ h)
 | ((with_reducible apply go_stN h); (rfl); (first | rfl | simp [OneV.o]); intro _ h)
 | ((with_reducible apply go_box h); rfl; intro _ _ h)
 | ((with_reducible apply go_rd h); (rfl))
 | ((with_reducible apply go_rdN h); (rfl))
 | ((with_reducible apply go_rlen h); (rfl))
 | ((with_reducible apply go_lenL h))
 | ((with_reducible apply go_ix h); (omega))
 | ((with_reducible apply go_elN h); (case hi => omega))
 | ((with_reducible apply go_fa h); (omega); (omega))
 | ((with_reducible apply go_f1 h); (case hi => omega); (case hx => exact inferInstance))
 | ((with_reducible apply go_rf1 h); (case hi => omega); (case hx => exact inferInstance); (case hv => rfl))
 | ((with_reducible apply go_rel h); (case hi => omega); (case hv => rfl))
))
      refine same_spec (a := xs[i].1) (b := ys[i].1) (hf _ (List.getElem_mem _)) (bag_rdm (hlX_mem (List.getElem_mem _)) (.there .here)) (bag_rdm (hlX_mem (List.getElem_mem _)) (.there (.there (.there .here)))) h.drew fun w h => ?_
      rw [e, decide_eq_true rfl]
      (repeat (first
 | (simp (disch := omega) only [evA, evB, bAdd_i64, bSub_i64, ptr, Nat.zero_add, Bool.not_true, Bool.not_false, Option.isNone_some, Option.isNone_none, Option.isSome_some, Option.isSome_none, decide_true, decide_false, eq_self, true_and, and_assoc])
 | ((with_reducible apply go_ld1 h))
 | ((with_reducible apply go_ldA h); (rfl))
 | ((with_reducible apply go_ldN h))
 | ((with_reducible apply go_st h); intro _ h)
 | ((with_reducible apply go_stA h); (rfl); (rfl); (first | rfl | simp [OneV.o]); intro _ h)
 | ((with_reducible apply go_stN h); (rfl); (first | rfl | simp [OneV.o]); intro _ h)
 | ((with_reducible apply go_box h); rfl; intro _ _ h)
 | ((with_reducible apply go_rd h); (rfl))
 | ((with_reducible apply go_rdN h); (rfl))
 | ((with_reducible apply go_rlen h); (rfl))
 | ((with_reducible apply go_lenL h))
 | ((with_reducible apply go_ix h); (omega))
 | ((with_reducible apply go_elN h); (case hi => omega))
 | ((with_reducible apply go_fa h); (omega); (omega))
 | ((with_reducible apply go_f1 h); (case hi => omega); (case hx => exact inferInstance))
 | ((with_reducible apply go_rf1 h); (case hi => omega); (case hx => exact inferInstance); (case hv => rfl))
 | ((with_reducible apply go_rel h); (case hi => omega); (case hv => rfl))
))
      exact ih (i + 1) w (by omega) (by omega) h
    · have g' : decide ((i : Int) < (xs.length : Int)) = false := by simpa using g
      (repeat (first
 | (simp (disch := omega) only [evA, evB, bAdd_i64, bSub_i64, ptr, Nat.zero_add, Bool.not_true, Bool.not_false, Option.isNone_some, Option.isNone_none, Option.isSome_some, Option.isSome_none, decide_true, decide_false, eq_self, true_and, and_assoc, g'])
 | ((with_reducible apply go_ld1 h))
 | ((with_reducible apply go_ldA h); (rfl))
 | ((with_reducible apply go_ldN h))
 | ((with_reducible apply go_st h); intro _ h)
 | ((with_reducible apply go_stA h); (rfl); (rfl); (first | rfl | simp [OneV.o]); intro _ h)
 | ((with_reducible apply go_stN h); (rfl); (first | rfl | simp [OneV.o]); intro _ h)
 | ((with_reducible apply go_box h); rfl; intro _ _ h)
 | ((with_reducible apply go_rd h); (rfl))
 | ((with_reducible apply go_rdN h); (rfl))
 | ((with_reducible apply go_rlen h); (rfl))
 | ((with_reducible apply go_lenL h))
 | ((with_reducible apply go_ix h); (omega))
 | ((with_reducible apply go_elN h); (case hi => omega))
 | ((with_reducible apply go_fa h); (omega); (omega))
 | ((with_reducible apply go_f1 h); (case hi => omega); (case hx => exact inferInstance))
 | ((with_reducible apply go_rf1 h); (case hi => omega); (case hx => exact inferInstance); (case hv => rfl))
 | ((with_reducible apply go_rel h); (case hi => omega); (case hv => rfl))
))
      unfold F12_7 F12_7b
      exact hK _ (h.get (by (repeat (first | exact .done | (refine .pick (by repeat (first | exact .here | apply Fnt.there)) ?_) | refine .skip ?_))))
theorem ld_end (hn1 : next ≤ 2000) (hK : ∀ w', Sat w0 L w' → K (.bool true) w') (h : Sat w0 (HoldA ha 20 next cs :: HoldA hb 20 next cs :: L) w) : F12_5 ha hb w K := by
  unfold F12_5 F12_5b
  obtain ⟨hn, m, I, M, H⟩ := holdA_inv h
  refine aall_spec h (by omega) fun sv w h => ?_
  replace h := ctxL_iff.1 h
  obtain ⟨xs, ex, h⟩ := h
  refine aall_spec (v := hb) (cs := cs) (n := 20) (next := next) (h.front (by repeat (first | exact .here | apply Fnt.there))) (by omega) fun sv2 w h => ?_
  replace h := ctxL_iff.1 h
  obtain ⟨ys, ey, h⟩ := h
  have hlx : xs.length = cs.length := by have := congrArg List.length ex; simpa using this
  have hly : ys.length = cs.length := by have := congrArg List.length ey; simpa using this
  (repeat (first
 | (simp (disch := omega) only [evA, evB, bAdd_i64, bSub_i64, ptr, Nat.zero_add, Bool.not_true, Bool.not_false, Option.isNone_some, Option.isNone_none, Option.isSome_some, Option.isSome_none, decide_true, decide_false, eq_self, true_and, and_assoc, hlx, hly])
 | ((with_reducible apply go_ld1 h))
 | ((with_reducible apply go_ldA h); (rfl))
 | ((with_reducible apply go_ldN h))
 | ((with_reducible apply go_st h); intro _ h)
 | ((with_reducible apply go_stA h); (rfl); (rfl); (first | rfl | simp [OneV.o]); intro _ h)
 | ((with_reducible apply go_stN h); (rfl); (first | rfl | simp [OneV.o]); intro _ h)
 | ((with_reducible apply go_box h); rfl; intro _ _ h)
 | ((with_reducible apply go_rd h); (rfl))
 | ((with_reducible apply go_rdN h); (rfl))
 | ((with_reducible apply go_rlen h); (rfl))
 | ((with_reducible apply go_lenL h))
 | ((with_reducible apply go_ix h); (omega))
 | ((with_reducible apply go_elN h); (case hi => omega))
 | ((with_reducible apply go_fa h); (omega); (omega))
 | ((with_reducible apply go_f1 h); (case hi => omega); (case hx => exact inferInstance))
 | ((with_reducible apply go_rf1 h); (case hi => omega); (case hx => exact inferInstance); (case hv => rfl))
 | ((with_reducible apply go_rel h); (case hi => omega); (case hv => rfl))
))
  refine hnext_spec (v := ha) (cs := cs) (n := 20) (next := next) (h.front (by repeat (first | exact .here | apply Fnt.there))) ?_
  (repeat (first
 | (simp (disch := omega) only [evA, evB, bAdd_i64, bSub_i64, ptr, Nat.zero_add, Bool.not_true, Bool.not_false, Option.isNone_some, Option.isNone_none, Option.isSome_some, Option.isSome_none, decide_true, decide_false, eq_self, true_and, and_assoc])
 | ((with_reducible apply go_ld1 h))
 | ((with_reducible apply go_ldA h); (rfl))
 | ((with_reducible apply go_ldN h))
 | ((with_reducible apply go_st h); intro _ h)
 | ((with_reducible apply go_stA h); (rfl); (rfl); (first | rfl | simp [OneV.o]); intro _ h)
 | ((with_reducible apply go_stN h); (rfl); (first | rfl | simp [OneV.o]); intro _ h)
 | ((with_reducible apply go_box h); rfl; intro _ _ h)
 | ((with_reducible apply go_rd h); (rfl))
 | ((with_reducible apply go_rdN h); (rfl))
 | ((with_reducible apply go_rlen h); (rfl))
 | ((with_reducible apply go_lenL h))
 | ((with_reducible apply go_ix h); (omega))
 | ((with_reducible apply go_elN h); (case hi => omega))
 | ((with_reducible apply go_fa h); (omega); (omega))
 | ((with_reducible apply go_f1 h); (case hi => omega); (case hx => exact inferInstance))
 | ((with_reducible apply go_rf1 h); (case hi => omega); (case hx => exact inferInstance); (case hv => rfl))
 | ((with_reducible apply go_rel h); (case hi => omega); (case hv => rfl))
))
  refine hnext_spec (v := hb) (cs := cs) (n := 20) (next := next) (h.front (by repeat (first | exact .here | apply Fnt.there))) ?_
  (repeat (first
 | (simp (disch := omega) only [evA, evB, bAdd_i64, bSub_i64, ptr, Nat.zero_add, Bool.not_true, Bool.not_false, Option.isNone_some, Option.isNone_none, Option.isSome_some, Option.isSome_none, decide_true, decide_false, eq_self, true_and, and_assoc, hlx])
 | ((with_reducible apply go_ld1 h))
 | ((with_reducible apply go_ldA h); (rfl))
 | ((with_reducible apply go_ldN h))
 | ((with_reducible apply go_st h); intro _ h)
 | ((with_reducible apply go_stA h); (rfl); (rfl); (first | rfl | simp [OneV.o]); intro _ h)
 | ((with_reducible apply go_stN h); (rfl); (first | rfl | simp [OneV.o]); intro _ h)
 | ((with_reducible apply go_box h); rfl; intro _ _ h)
 | ((with_reducible apply go_rd h); (rfl))
 | ((with_reducible apply go_rdN h); (rfl))
 | ((with_reducible apply go_rlen h); (rfl))
 | ((with_reducible apply go_lenL h))
 | ((with_reducible apply go_ix h); (omega))
 | ((with_reducible apply go_elN h); (case hi => omega))
 | ((with_reducible apply go_fa h); (omega); (omega))
 | ((with_reducible apply go_f1 h); (case hi => omega); (case hx => exact inferInstance))
 | ((with_reducible apply go_rf1 h); (case hi => omega); (case hx => exact inferInstance); (case hv => rfl))
 | ((with_reducible apply go_rel h); (case hi => omega); (case hv => rfl))
))
  unfold F12_6
  have := ld_cmp (w0 := w0) (L := L) (K := K) (xs := xs) (ys := ys) (x := sv) (y := sv2) (ex.trans ey.symm) (fun z hz => ?_) (by have := H.bd; omega) hK fuel 0 w (by have := H.bd; unfold fuel; omega) (by omega) (h.get (by (repeat (first | exact .done | (refine .pick (by repeat (first | exact .here | apply Fnt.there)) ?_) | refine .skip ?_))))
  · rw [hlx] at this; exact this
  · have : z.1.times.length < 1000000 := (H.ok z.1 (by rw [← ex]; exact List.mem_map.2 ⟨z, hz, rfl⟩)).2.1.2.2.2
    omega
theorem ld_mid {turn : Int} {ml : List Int} (hml : ml.length ≤ 140737488351232) (hrd : Rd w0 1 s1 ml.length (ml.flatMap cI)) (hn0 : 1 ≤ next) (hn1 : next ≤ 1000) (hK : ∀ w', Sat w0 L w' → K (.bool true) w') (h : Sat w0 (HoldA ha 20 next cs :: HoldA hb 20 1 [] :: L) w) : F12_3 s1 (.int .i64 turn) ha hb w K := by
  unfold F12_3 F12_3b
  obtain ⟨hn, m, I, M, H⟩ := holdA_inv h
  refine aall_spec h (by omega) fun sv w h => ?_
  replace h := ctxL_iff.1 h
  obtain ⟨xs, ex, h⟩ := h
  have hlx : xs.length = cs.length := by have := congrArg List.length ex; simpa using this
  have hbd := H.bd
  (repeat (first
 | (simp (disch := omega) only [evA, evB, bAdd_i64, bSub_i64, ptr, Nat.zero_add, Bool.not_true, Bool.not_false, Option.isNone_some, Option.isNone_none, Option.isSome_some, Option.isSome_none, decide_true, decide_false, eq_self, true_and, and_assoc])
 | ((with_reducible apply go_ld1 h))
 | ((with_reducible apply go_ldA h); (rfl))
 | ((with_reducible apply go_ldN h))
 | ((with_reducible apply go_st h); intro _ h)
 | ((with_reducible apply go_stA h); (rfl); (rfl); (first | rfl | simp [OneV.o]); intro _ h)
 | ((with_reducible apply go_stN h); (rfl); (first | rfl | simp [OneV.o]); intro _ h)
 | ((with_reducible apply go_box h); rfl; intro _ _ h)
 | ((with_reducible apply go_rd h); (rfl))
 | ((with_reducible apply go_rdN h); (rfl))
 | ((with_reducible apply go_rlen h); (rfl))
 | ((with_reducible apply go_lenL h))
 | ((with_reducible apply go_ix h); (omega))
 | ((with_reducible apply go_elN h); (case hi => omega))
 | ((with_reducible apply go_fa h); (omega); (omega))
 | ((with_reducible apply go_f1 h); (case hi => omega); (case hx => exact inferInstance))
 | ((with_reducible apply go_rf1 h); (case hi => omega); (case hx => exact inferInstance); (case hv => rfl))
 | ((with_reducible apply go_rel h); (case hi => omega); (case hv => rfl))
))
  refine Below_spec (by omega) (by omega) fun r h1 h2 _ => ?_
  obtain ⟨k, rfl⟩ : ∃ k : Nat, r = k := ⟨r.toNat, by omega⟩
  have hk : k ≤ xs.length := by omega
  have hr : Rd w 11 sv xs.length (xs.flatMap cX) := ls_rd (h.front (A := LsH cX 11 41 sv xs) (by repeat (first | exact .here | apply Fnt.there)))
  obtain ⟨v1, e1, _⟩ := hr.sub (L := some (.int .i64 (k : Int))) (H := none) (M := none) (lo := k) (hi := xs.length) (.some _ _) .none (.none _) hk (Nat.le_refl _)
  obtain ⟨v2, e2, _⟩ := hr.sub (L := none) (H := some (.int .i64 (k : Int))) (M := none) (lo := 0) (hi := k) .none (.some _ _) (.none _) (Nat.zero_le _) hk
  refine go_some e1 ?_
  refine go_some e2 ?_
  refine go_lit0 CX h u101 (by kernel_rfl) fun s3 w h => ?_
  have r1 : Rd w 11 v1 (xs.drop k).length ((xs.drop k).flatMap cX) := by
    have := rd_sub CX (ls_rd (h.front (A := LsH cX 11 41 sv xs) (by repeat (first | exact .here | apply Fnt.there)))) e1 (lo := k) (hi := xs.length) (.some _ _) .none (.none _) hk (Nat.le_refl _)
    rw [List.take_length] at this; exact this
  refine ls_app (l := []) (m := xs.drop k) CX (h.front (by repeat (first | exact .here | apply Fnt.there))) sl101 ss101 r1 (by simp; omega) fun s4 w h => ?_
  have r2 : Rd w 11 v2 (xs.take k).length ((xs.take k).flatMap cX) := by
    have := rd_sub CX (ls_rd (h.front (A := LsH cX 11 41 sv xs) (by repeat (first | exact .here | apply Fnt.there)))) e2 (lo := 0) (hi := k) .none (.some _ _) (.none _) (Nat.zero_le _) hk
    rw [List.drop_zero] at this; exact this
  refine ls_app (l := [] ++ xs.drop k) (m := xs.take k) CX (h.front (by repeat (first | exact .here | apply Fnt.there))) sl101 ss101 r2 (by simp; omega) fun s5 w h => ?_
  rw [List.nil_append] at h
  refine hnext_spec (v := ha) (cs := cs) (n := 20) (next := next) (h.front (by repeat (first | exact .here | apply Fnt.there))) ?_
  have hp : (xs.drop k ++ xs.take k).Perm xs := List.perm_append_comm.trans (by rw [List.take_append_drop])
  have hp2 : ((xs.drop k ++ xs.take k).map Prod.fst).Perm cs := by rw [← ex]; exact hp.map _
  have hld : loadL next ((xs.drop k ++ xs.take k).map Prod.fst) [] = some cs := load_all hp2 (fun c hc => ⟨(H.ok c hc).1, (H.ok c hc).2.2⟩) H.asc H.sg
  have hll : (xs.drop k ++ xs.take k).length = cs.length := by rw [hp.length_eq, hlx]
  have h3 : Sat w0 (HoldA hb 20 1 [] :: LsH cX 11 41 s5 (xs.drop k ++ xs.take k) :: bag (hlX xs) :: HoldA ha 20 next cs :: L) w := h.get (by (repeat (first | exact .done | (refine .pick (by repeat (first | exact .here | apply Fnt.there)) ?_) | refine .skip ?_)))
  refine aload_spec (l := xs.drop k ++ xs.take k) (n := 20) (next := next) (fun x hx => ?_) (by omega) (fun h => ls_len (h.front (.there .here))) ⟨.of_ls inferInstance, fun x hx => bag_rdm (hlX_mem (hp.mem_iff.1 hx)) (.there (.there .here))⟩ h3 (fun hb => ?_) (fun ds _ _ hlt => by omega) (fun ds hds _ _ w h => ?_)
  · exact (H.ok x.1 (by rw [← ex]; exact List.mem_map.2 ⟨x, hp.mem_iff.1 hx, rfl⟩)).2.1
  · rcases hb with hb | hb | hb
    · omega
    · omega
    · rw [hld] at hb; cases hb
  · rw [hld] at hds
    cases hds
    (repeat (first
 | (simp (disch := omega) only [evA, evB, bAdd_i64, bSub_i64, ptr, Nat.zero_add, Bool.not_true, Bool.not_false, Option.isNone_some, Option.isNone_none, Option.isSome_some, Option.isSome_none, decide_true, decide_false, eq_self, true_and, and_assoc])
 | ((with_reducible apply go_ld1 h))
 | ((with_reducible apply go_ldA h); (rfl))
 | ((with_reducible apply go_ldN h))
 | ((with_reducible apply go_st h); intro _ h)
 | ((with_reducible apply go_stA h); (rfl); (rfl); (first | rfl | simp [OneV.o]); intro _ h)
 | ((with_reducible apply go_stN h); (rfl); (first | rfl | simp [OneV.o]); intro _ h)
 | ((with_reducible apply go_box h); rfl; intro _ _ h)
 | ((with_reducible apply go_rd h); (rfl))
 | ((with_reducible apply go_rdN h); (rfl))
 | ((with_reducible apply go_rlen h); (rfl))
 | ((with_reducible apply go_lenL h))
 | ((with_reducible apply go_ix h); (omega))
 | ((with_reducible apply go_elN h); (case hi => omega))
 | ((with_reducible apply go_fa h); (omega); (omega))
 | ((with_reducible apply go_f1 h); (case hi => omega); (case hx => exact inferInstance))
 | ((with_reducible apply go_rf1 h); (case hi => omega); (case hx => exact inferInstance); (case hv => rfl))
 | ((with_reducible apply go_rel h); (case hi => omega); (case hv => rfl))
))
    unfold F12_4
    exact ld_loop2 hml hrd (fun next cs w h1 h2 h => ld_end (L := L) (by omega) hK h) fuel 0 next cs w (by unfold fuel; omega) (by omega) (by omega) hn0 (by omega) (h.get (by (repeat (first | exact .done | (refine .pick (by repeat (first | exact .here | apply Fnt.there)) ?_) | refine .skip ?_))))
theorem holdLoads_spec {l ml : List Int} {turn : Int} (hrd : Rd w0 1 s0 l.length (l.flatMap cI)) (hrt : Rd w0 1 s1 ml.length (ml.flatMap cI)) (hl : l.length ≤ 140737488351232) (ht : ml.length ≤ 140737488351232) (h : Sat w0 L w) (hK : ∀ w', Sat w0 L w' → K (.bool true) w') : callP G12 [s0, s1, .int .i64 turn] w K := by
  refine c12 ?_
  unfold F12 F12_1 F12_1b
  refine anew_spec (n := 20) (by omega) (by omega) h fun p w h => ?_
  (repeat (first
 | (simp (disch := omega) only [evA, evB, bAdd_i64, bSub_i64, ptr, Nat.zero_add, Bool.not_true, Bool.not_false, Option.isNone_some, Option.isNone_none, Option.isSome_some, Option.isSome_none, decide_true, decide_false, eq_self, true_and, and_assoc])
 | ((with_reducible apply go_ld1 h))
 | ((with_reducible apply go_ldA h); (rfl))
 | ((with_reducible apply go_ldN h))
 | ((with_reducible apply go_st h); intro _ h)
 | ((with_reducible apply go_stA h); (rfl); (rfl); (first | rfl | simp [OneV.o]); intro _ h)
 | ((with_reducible apply go_stN h); (rfl); (first | rfl | simp [OneV.o]); intro _ h)
 | ((with_reducible apply go_box h); rfl; intro _ _ h)
 | ((with_reducible apply go_rd h); (rfl))
 | ((with_reducible apply go_rdN h); (rfl))
 | ((with_reducible apply go_rlen h); (rfl))
 | ((with_reducible apply go_lenL h))
 | ((with_reducible apply go_ix h); (omega))
 | ((with_reducible apply go_elN h); (case hi => omega))
 | ((with_reducible apply go_fa h); (omega); (omega))
 | ((with_reducible apply go_f1 h); (case hi => omega); (case hx => exact inferInstance))
 | ((with_reducible apply go_rf1 h); (case hi => omega); (case hx => exact inferInstance); (case hv => rfl))
 | ((with_reducible apply go_rel h); (case hi => omega); (case hv => rfl))
))
  refine anew_spec (n := 20) (by omega) (by omega) h fun q w h => ?_
  (repeat (first
 | (simp (disch := omega) only [evA, evB, bAdd_i64, bSub_i64, ptr, Nat.zero_add, Bool.not_true, Bool.not_false, Option.isNone_some, Option.isNone_none, Option.isSome_some, Option.isSome_none, decide_true, decide_false, eq_self, true_and, and_assoc])
 | (refine go_some (bEq_nilp up93 ..) ?_)
 | ((with_reducible apply go_ld1 h))
 | ((with_reducible apply go_ldA h); (rfl))
 | ((with_reducible apply go_ldN h))
 | ((with_reducible apply go_st h); intro _ h)
 | ((with_reducible apply go_stA h); (rfl); (rfl); (first | rfl | simp [OneV.o]); intro _ h)
 | ((with_reducible apply go_stN h); (rfl); (first | rfl | simp [OneV.o]); intro _ h)
 | ((with_reducible apply go_box h); rfl; intro _ _ h)
 | ((with_reducible apply go_rd h); (rfl))
 | ((with_reducible apply go_rdN h); (rfl))
 | ((with_reducible apply go_rlen h); (rfl))
 | ((with_reducible apply go_lenL h))
 | ((with_reducible apply go_ix h); (omega))
 | ((with_reducible apply go_elN h); (case hi => omega))
 | ((with_reducible apply go_fa h); (omega); (omega))
 | ((with_reducible apply go_f1 h); (case hi => omega); (case hx => exact inferInstance))
 | ((with_reducible apply go_rf1 h); (case hi => omega); (case hx => exact inferInstance); (case hv => rfl))
 | ((with_reducible apply go_rel h); (case hi => omega); (case hv => rfl))
))
  refine works21_spec h fun w h => ?_
  (repeat (first
 | (simp (disch := omega) only [evA, evB, bAdd_i64, bSub_i64, ptr, Nat.zero_add, Bool.not_true, Bool.not_false, Option.isNone_some, Option.isNone_none, Option.isSome_some, Option.isSome_none, decide_true, decide_false, eq_self, true_and, and_assoc])
 | ((with_reducible apply go_ld1 h))
 | ((with_reducible apply go_ldA h); (rfl))
 | ((with_reducible apply go_ldN h))
 | ((with_reducible apply go_st h); intro _ h)
 | ((with_reducible apply go_stA h); (rfl); (rfl); (first | rfl | simp [OneV.o]); intro _ h)
 | ((with_reducible apply go_stN h); (rfl); (first | rfl | simp [OneV.o]); intro _ h)
 | ((with_reducible apply go_box h); rfl; intro _ _ h)
 | ((with_reducible apply go_rd h); (rfl))
 | ((with_reducible apply go_rdN h); (rfl))
 | ((with_reducible apply go_rlen h); (rfl))
 | ((with_reducible apply go_lenL h))
 | ((with_reducible apply go_ix h); (omega))
 | ((with_reducible apply go_elN h); (case hi => omega))
 | ((with_reducible apply go_fa h); (omega); (omega))
 | ((with_reducible apply go_f1 h); (case hi => omega); (case hx => exact inferInstance))
 | ((with_reducible apply go_rf1 h); (case hi => omega); (case hx => exact inferInstance); (case hv => rfl))
 | ((with_reducible apply go_rel h); (case hi => omega); (case hv => rfl))
))
  unfold F12_2
  exact ld_loop1 (L := HoldA (ptr q) 20 1 [] :: L) hl hrd (fun next cs w h1 h2 h => ld_mid ht hrt h1 h2 hK h) fuel 0 1 [] w (by unfold fuel; omega) (by omega) (by omega) (by omega) (by omega) h.f1
end
theorem lawHoldLoads {W : World} {v : Value} {n : Nat} {cs : List Value} (rd : Rd W 1 v n cs) (hn : n ≤ 140737488351232) (ft : ∀ i, i < n → FitL2 W 140737488351232 [.int .i64] ((cs.drop (i * 1)).take 1))
    {v' : Value} {n' : Nat} {cs' : List Value} (rd' : Rd W 1 v' n' cs') (hn' : n' ≤ 140737488351232) (ft' : ∀ i, i < n' → FitL2 W 140737488351232 [.int .i64] ((cs'.drop (i * 1)).take 1)) (turn : Int) {p : Prop} (_ : p) :
    callP G12 [v, v', .int .i64 turn] W fun v w' => v = .bool true ∧ Sat W [] w' := by
  obtain ⟨l, rfl, rfl, _⟩ := fit_list2 (fun c h => fit_int1 h) n cs rd.length ft
  obtain ⟨l', rfl, rfl, _⟩ := fit_list2 (fun c h => fit_int1 h) n' cs' rd'.length ft'
  exact holdLoads_spec rd rd' hn hn' (Sat.start W) fun w' h => ⟨rfl, h⟩
end Go.Proofs.Gong
