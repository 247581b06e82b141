/- A part of the proofs: what stands below it, told in lemmas. No condition. -/
import Derived.Test.YtippapgconnkiaaGreatDoorP4
import Derived.Test.YtippapgconnkiaaGreatDoorP1
import Derived.Test.YtippapgconnkiaaGreatDoorP2
import Derived.Test.YtippapgconnkiaaGreatDoorP3
import Derived.Lib.ItoaLen
import Derived.Lib.Join
import Derived.Test.YtippapgconnkiaaGreatDoorP0
set_option linter.all false

/- Qs1 -/
namespace Go.Proofs.Gong
open Go Go.Sx Go.Proofs
set_option maxRecDepth 100000
def fF (w : World) : Prop := ∀ i : Nat, i < 14 → w.cell? ⟨11, i, none⟩ = some (.int .i64 (jL i))
theorem DI {x c : Int} (hx : 0 ≤ x) (hc : 0 < c) : gI (.int .i64 x) (.int .i64 c) = some (.int .i64 (x % c)) := by
  rw [tu _ _ _ (by omega), Int.tmod_eq_emod_of_nonneg hx]
theorem zt {x c : Int} (hx : 0 ≤ x) (hc : 0 < c) (hb : x ≤ 4611686018427387904) : iM (.int .i64 x) (.int .i64 c) = some (.int .i64 (x / c)) := by
  have h1 : x.tdiv c = x / c := Int.tdiv_eq_ediv_of_nonneg hx
  have h2 : 0 ≤ x / c := Int.ediv_nonneg hx (by omega)
  have h3 : x / c ≤ x := Int.ediv_le_self _ hx
  rw [tF _ _ _ (by omega), h1, fK (by omega)]
theorem wquo {x c : Int} (hx : 0 ≤ x) (hc : 0 < c) (hb : x ≤ 4611686018427387904) : IntKind.i64.wrap (x.tdiv c) = x / c := by
  have := zt hx hc hb
  rw [tF _ _ _ (by omega)] at this
  simpa using this
theorem mrem {x c : Int} (hx : 0 ≤ x) : x.tmod c = x % c := Int.tmod_eq_emod_of_nonneg hx
theorem PK {x c : Int} (h : -4611686018427387904 ≤ x * c ∧ x * c ≤ 4611686018427387904) : nP (.int .i64 x) (.int .i64 c) = some (.int .i64 (x * c)) := by
  rw [zx, fK (by omega)]
theorem SV {m : Nat} (h : m < 14) : iq 14 1 (.pointer (some ⟨11, 0, none⟩)) (.int .i64 m) = some (.pointer (some ⟨11, m, none⟩)) := by
  unfold iq
  simp
  omega
attribute [local irreducible] aD bY bO eqv dB Cl bS LsH SlH ld1 ldN st ai bT aY dF bI bz bE aJ aB bK bZ
section
variable {w0 w : World} {L : List HP} {K : Value → World → Prop}
theorem OY {y : Int} (hy : 0 ≤ y) (hK : K (.int .i64 (ol y)) w) : ai Tj [.int .i64 y] w K := by
  refine c296 ?_
  unfold Yx
  have e1 := DI (x := y) (c := 4) hy (by omega)
  have e2 := DI (x := y) (c := 100) hy (by omega)
  have e3 := DI (x := y) (c := 400) hy (by omega)
  unfold ol at hK
  by_cases h1 : y % 4 = 0
  · have g1 : decide (y % 4 = 0) = true := by simpa using h1
    by_cases h2 : y % 100 = 0
    · have g2 : decide (y % 100 = 0) = true := by simpa using h2
      by_cases h3 : y % 400 = 0
      · have g3 : decide (y % 400 = 0) = true := by simpa using h3
        rw [if_pos ⟨h1, .inr h3⟩] at hK
        (repeat(first
|simp(disch:=omega)only[evA,evB,evC,af,ag,g1,g2,g3]
|refine ax (e1 ..) ?_
|refine ax (e2 ..) ?_
|refine ax (e3 ..) ?_))
        exact hK
      · have g3 : decide (y % 400 = 0) = false := by simpa using h3
        rw [if_neg (by rintro ⟨_, h | h⟩ <;> omega)] at hK
        (repeat(first
|simp(disch:=omega)only[evA,evB,evC,af,ag,g1,g2,g3]
|refine ax (e1 ..) ?_
|refine ax (e2 ..) ?_
|refine ax (e3 ..) ?_))
        exact hK
    · have g2 : decide (y % 100 = 0) = false := by simpa using h2
      rw [if_pos ⟨h1, .inl h2⟩] at hK
      (repeat(first
|simp(disch:=omega)only[evA,evB,evC,af,ag,g1,g2]
|refine ax (e1 ..) ?_
|refine ax (e2 ..) ?_))
      exact hK
  · have g1 : decide (y % 4 = 0) = false := by simpa using h1
    rw [if_neg (fun h => h1 h.1)] at hK
    (repeat(first
|simp(disch:=omega)only[evA,evB,evC,af,ag,g1]
|refine ax (e1 ..) ?_))
    exact hK
theorem qP {y : Int} (hy : 1 ≤ y ∧ y ≤ 100000) (hK : K (.int .i64 (dY y)) w) : ai IU [.int .i64 y] w K := by
  refine c276 ?_
  unfold YA
  have e0 := PK (x := y - 1) (c := 365) (by omega)
  have e1 := zt (x := y - 1) (c := 4) (by omega) (by omega) (by omega)
  have e2 := zt (x := y - 1) (c := 100) (by omega) (by omega) (by omega)
  have e3 := zt (x := y - 1) (c := 400) (by omega) (by omega) (by omega)
  (repeat(first
|simp(disch:=omega)only[evA,evB,evC,af,ag]
|refine ax (e0 ..) ?_
|refine ax (e1 ..) ?_
|refine ax (e2 ..) ?_
|refine ax (e3 ..) ?_))
  exact hK
theorem jH {y : Int} {m : Nat} (A : fF w0) (h : Sat w0 L w) (hy : 0 ≤ y) (hm : m < 14) (hK : ∀ w', Sat w0 L w' → K (.int .i64 (beforeN y m)) w') : ai lq [.int .i64 y, .int .i64 (m : Nat)] w K := by
  refine c270 ?_
  unfold YC
  have e1 := SV hm
  unfold beforeN at hK
  have ha := sG y
  by_cases g : 2 < m
  · have g1 : decide ((m : Int) > 2) = true := by simp; omega
    rw [if_pos g] at hK
    have l1 : ld1 (.pointer (some ⟨11, m, none⟩)) w = some (.int .i64 (jL m)) := by rw [bu, h.cellOld (A m hm)]
    have l2 : ld1 (.pointer (some ⟨11, m, none⟩)) w.drew = some (.int .i64 (jL m)) := by rw [bu, h.drew.cellOld (A m hm)]
    have hb : 0 ≤ jL m ∧ jL m ≤ 365 := by
      have : ∀ i : Fin 14, 0 ≤ jL i.val ∧ jL i.val ≤ 365 := by decide
      exact this ⟨m, hm⟩
    (repeat(first
|simp(disch:=omega)only[evA,evB,evC,af,ag,g1]
|refine ax (e1 ..) ?_))
    rw [l1]
    simp only [ak]
    refine OY hy ?_
    refine ⟨by rw [fD]; first | exact l1 | exact l2, ?_⟩
    (repeat simp(disch:=omega)only[evA,evB,evC,af,ag])
    exact hK _ h.drew
  · have g1 : decide ((m : Int) > 2) = false := by simp; omega
    rw [if_neg g] at hK
    have l1 : ld1 (.pointer (some ⟨11, m, none⟩)) w = some (.int .i64 (jL m)) := by rw [bu, h.cellOld (A m hm)]
    (repeat(first
|simp(disch:=omega)only[evA,evB,evC,af,ag,g1]
|refine ax (e1 ..) ?_))
    rw [l1]
    simp only [ak]
    exact hK _ h
theorem kK {n : Int} (h : Sat w0 L w) (hn : 0 ≤ n ∧ n < 100) (hK : ∀ w', Sat w0 L w' → K (.string (bs (iO n))) w') : ai zL [.int .i64 n] w K := by
  refine c277 ?_
  unfold Yz
  have e1 := zt (x := n) (c := 10) (by omega) (by omega) (by omega)
  have e2 := DI (x := n) (c := 10) (by omega) (by omega)
  have c8 : ∀ k : Int, 0 ≤ k → k < 256 → iG .u8 (.int .i64 k) = some (.int .u8 ((UInt8.ofNat k.toNat).toNat : Nat)) := by
    intro k h1 h2
    have : (UInt8.ofNat k.toNat).toNat = k.toNat := by rw [UInt8.toNat_ofNat']; omega
    rw [this]
    simp only [iG]
    have : IntKind.u8.wrap k = k := Int.emod_eq_of_lt h1 (show k < 256 from h2)
    rw [this]
    congr 2; omega
  have c1 := c8 (48 + n / 10) (by omega) (by omega)
  have c2 := c8 (48 + n % 10) (by omega) (by omega)
  (repeat(first
|simp(disch:=omega)only[evA,evB,evC,af,ag]
|refine ax (e1 ..) ?_
|refine ax (e2 ..) ?_
|refine ax (c1 ..) ?_
|refine ax (c2 ..) ?_))
  have hb : dx Tryz.prog 5 2 [(0, .int .u8 ((UInt8.ofNat (48 + n / 10).toNat).toNat : Nat)), (1, .int .u8 ((UInt8.ofNat (48 + n % 10).toNat).toNat : Nat))] = some #[.int .u8 ((UInt8.ofNat (48 + n / 10).toNat).toNat : Nat), .int .u8 ((UInt8.ofNat (48 + n % 10).toNat).toNat : Nat)] := by kernel_rfl
  refine gy (es := 1) h N9 hb rfl fun sv w h => ?_
  have hc : gF sv w = some (.string (bs (iO n))) := by
    refine p8 (l := iO n) (n := 2) ?_ (by omega)
    have := h.rd
    have e1 : (48 + n / 10).toNat = 48 + n.toNat / 10 := by omega
    have e2 : (48 + n % 10).toNat = 48 + n.toNat % 10 := by omega
    rw [e1, e2] at this
    exact this
  rw [hc]
  simp only [ak]
  exact hK _ h.drop
theorem BD {days left : Int} : ∀ (k m : Nat) (y : Int) (w : World), k < m → dY y ≤ days → days < dY y + 365 * k → 1 ≤ y → y + k ≤ 100000 → 0 ≤ days → days ≤ 30000 → (∀ y', y' = qj k days y → rD (.int .i64 days) (.int .i64 left) (.int .i64 y') w K) → lM m (.int .i64 days) (.int .i64 left) (.int .i64 y) w K
  | 0, m, y, w, _, h1, h2, _, _, _, _, _ => by simp at h2; omega
  | k + 1, m, y, w, hm, h1, h2, h3, h4, h5, h6, hK => by
    obtain ⟨m, rfl⟩ : ∃ q, m = q + 1 := ⟨m - 1, by omega⟩
    push_cast at h2 h4
    rw [lM]
    unfold El
    (repeat simp(disch:=omega)only[evA,evB,evC,af,ag])
    refine qP (y := y + 1) (by omega) ?_
    by_cases g : dY (y + 1) ≤ days
    · have g' : decide (dY (y + 1) ≤ days) = true := by simpa using g
      have e := since_next y
      have l := sG y
      (repeat simp(disch:=omega)only[evA,evB,evC,af,ag,g'])
      refine BD k m (y + 1) w (by omega) g (by omega) (by omega) (by omega) h5 h6 fun y' hy => hK y' ?_
      rw [hy]; conv => rhs; unfold qj
      rw [if_pos g]
    · have g' : decide (dY (y + 1) ≤ days) = false := by simpa using g
      (repeat simp(disch:=omega)only[evA,evB,evC,af,ag,g'])
      refine hK y ?_
      unfold qj
      rw [if_neg g]
theorem yj {d left y : Int} (A : fF w0) (hy : 1 ≤ y ∧ y ≤ 100000) (hd : d < 365 + ol y) : ∀ (k n m : Nat) (w : World), k < n → m + k = 13 → 1 ≤ m → m ≤ 12 → beforeN y m ≤ d → Sat w0 L w → (∀ w', Sat w0 L w' → rC (.int .i64 d) (.int .i64 left) (.int .i64 y) (.int .i64 (ji k y d m : Nat)) w' K) → lL n (.int .i64 d) (.int .i64 left) (.int .i64 y) (.int .i64 (m : Nat)) w K
  | 0, n, m, w, _, h1, _, h2, _, _, _ => by omega
  | k + 1, n, m, w, hn, h1, h2, h3, h4, h, hK => by
    obtain ⟨n, rfl⟩ : ∃ q, n = q + 1 := ⟨n - 1, by omega⟩
    rw [lL]
    unfold Ei
    (repeat simp(disch:=omega)only[evA,evB,evC,af,ag])
    have e1 : ((m : Int) + 1) = ((m + 1 : Nat) : Int) := by omega
    rw [e1]
    refine jH A h (by omega) (by omega) fun w h => ?_
    by_cases g : beforeN y (m + 1) ≤ d
    · have g' : decide (beforeN y (m + 1) ≤ d) = true := by simpa using g
      have hm12 : m ≤ 11 := by
        rcases Nat.lt_or_ge m 12 with h | h
        · omega
        · have : m = 12 := by omega
          subst this
          rw [Ci] at g; omega
      (repeat simp(disch:=omega)only[evA,evB,evC,af,ag,g'])
      refine yj A hy hd k n (m + 1) w (by omega) (by omega) (by omega) (by omega) g h fun w' h' => ?_
      have := hK w' h'
      rw [ji, if_pos g] at this
      exact this
    · have g' : decide (beforeN y (m + 1) ≤ d) = false := by simpa using g
      (repeat simp(disch:=omega)only[evA,evB,evC,af,ag,g'])
      have := hK w h
      rw [ji, if_neg g] at this
      exact this
theorem Ol {t : Int} (A : fF w0) (h : Sat w0 L w) (ht : 0 ≤ t ∧ t ≤ 2305843010) (hK : ∀ w', Sat w0 L w' → K (.string (bs (yl t))) w') : ai Tw [.int .i64 t] w K := by
  refine c235 ?_
  unfold UD En Em
  have e1 := zt (x := t) (c := 86400) (by omega) (by omega) (by omega)
  have e2 := DI (x := t) (c := 86400) (by omega) (by omega)
  have e3 := zt (x := t / 86400) (c := 366) (by omega) (by omega) (by omega)
  (repeat(first
|simp(disch:=omega)only[evA,evB,evC,af,ag]
|refine ax (e1 ..) ?_
|refine ax (e2 ..) ?_
|refine ax (e3 ..) ?_))
  have hdays : 0 ≤ t / 86400 ∧ t / 86400 ≤ 30000 := by omega
  generalize hD : t / 86400 = days at *
  have hs0 := Gg days hdays.1 hdays.2
  have hs1 : days < dY (1970 + days / 366) + 365 * (100 : Nat) := by unfold dY; omega
  unfold zS
  refine BD 100 fuel (1970 + days / 366) w (by unfold fuel; omega) hs0 hs1 (by omega) (by omega) hdays.1 hdays.2 fun y hy => ?_
  obtain ⟨y1, y2, y3, y4⟩ := xW 100 days _ hs0 hs1
  rw [← hy] at y1 y2 y3 y4
  unfold rD Ej
  have hyb : 1970 ≤ y ∧ y ≤ 2200 := by omega
  refine qP (by omega) ?_
  have hn := since_next y
  have hl := sG y
  have hsr : 0 ≤ dY y ∧ dY y ≤ 100000 := by unfold dY; omega
  (repeat simp(disch:=omega)only[evA,evB,evC,af,ag])
  unfold zQ
  have hm := wH (y := y) (d := days - dY y) (by omega) 12 1 (by omega) (by omega) (by omega) (by rw [IJ]; omega)
  refine yj A (by omega) (by omega) 12 fuel 1 w (by unfold fuel; omega) (by omega) (by omega) (by omega) (by rw [IJ]; omega) h fun w h => ?_
  unfold rC Eh
  have hL : 0 ≤ t % 86400 ∧ t % 86400 < 86400 := by omega
  have hS : yl t = iO (y / 100) ++ iO (y % 100) ++ [45] ++ iO (ji 12 y (days - dY y) 1 : Nat) ++ [45] ++ iO (days - dY y - beforeN y (ji 12 y (days - dY y) 1) + 1) ++ [84] ++ iO (t % 86400 / 3600) ++ [58] ++ iO (t % 86400 / 60 % 60) ++ [58] ++ iO (t % 86400 % 60) := by
    unfold yl
    simp only
    rw [hD, ← hy]
  rw [hS] at hK
  generalize ji 12 y (days - dY y) 1 = mo at *
  generalize hlf : t % 86400 = left at *
  obtain ⟨m1, m2, m3, m4⟩ := hm
  have hbr := DJ y m1 m2
  have q1 := zt (x := y) (c := 100) (by omega) (by omega) (by omega)
  have q2 := DI (x := y) (c := 100) (by omega) (by omega)
  have q3 := zt (x := left) (c := 3600) (by omega) (by omega) (by omega)
  have q4 := zt (x := left) (c := 60) (by omega) (by omega) (by omega)
  have q5 := DI (x := left / 60) (c := 60) (by omega) (by omega)
  have q6 := DI (x := left) (c := 60) (by omega) (by omega)
  have w3 := wquo (x := left) (c := 3600) (by omega) (by omega) (by omega)
  have w4 := wquo (x := left) (c := 60) (by omega) (by omega) (by omega)
  have w5 := mrem (x := left / 60) (c := 60) (by omega)
  have w6 := mrem (x := left) (c := 60) (by omega)
  (repeat(first
|simp(disch:=omega)only[evA,evB,evC,af,ag,w3,w4,w5,w6]
|refine ax (q1 ..) ?_))
  refine kK h (by omega) fun w h => ?_
  (repeat refine ax (q2 ..) ?_)
  refine kK h (by omega) fun w h => ?_
  skip
  refine ax (dH (by simp [iO])) ?_
  skip
  refine ax (dH (by simp [iO])) ?_
  skip
  refine kK (n := (mo : Int)) h (by omega) fun w h => ?_
  skip
  refine ax (dH (by simp [iO])) ?_
  skip
  refine ax (dH (by simp [iO])) ?_
  skip
  refine jH A h (by omega) (by omega) fun w h => ?_
  (repeat simp(disch:=omega)only[evA,evB,evC,af,ag,w3,w4,w5,w6])
  refine kK h (by omega) fun w h => ?_
  skip
  refine ax (dH (by simp [iO])) ?_
  skip
  refine ax (dH (by simp [iO])) ?_
  skip
  (repeat refine ax (q3 ..) ?_)
  refine kK h (by omega) fun w h => ?_
  skip
  refine ax (dH (by simp [iO])) ?_
  skip
  refine ax (dH (by simp [iO])) ?_
  skip
  (repeat(first
|refine ax (q4 ..) ?_
|refine ax (q5 ..) ?_))
  refine kK h (by omega) fun w h => ?_
  skip
  refine ax (dH (by simp [iO])) ?_
  skip
  refine ax (dH (by simp [iO])) ?_
  skip
  (repeat refine ax (q6 ..) ?_)
  refine kK h (by omega) fun w h => ?_
  skip
  refine ax (dH (by simp [iO])) ?_
  skip
  exact hK _ h
def xZ (t nano : Int) : List UInt8 := if nano = 0 then yl t else yl t ++ [46] ++ Lib.trimRightB ((Lib.itoa (1000000000 + nano)).drop 1) 48
def dJ (t : Int) : List UInt8 := xZ (t / 1000000000) (t % 1000000000) ++ [90]
theorem Gh (t : Int) : (yl t).length = 19 := by simp [yl, iO]
theorem Bq (s : List UInt8) (c : UInt8) : (Lib.trimRightB s c).length ≤ s.length := by
  unfold Lib.trimRightB
  rw [List.length_reverse]
  have := (List.dropWhile_sublist (p := (· == c)) (l := s.reverse)).length_le
  simpa using this
theorem Bo (t nano : Int) (h : 0 ≤ nano ∧ nano < 1000000000) : (xZ t nano).length ≤ 60 := by
  unfold xZ
  have h1 := Gh t
  split
  · omega
  · have h2 := Bq ((Lib.itoa (1000000000 + nano)).drop 1) 48
    have h3 := Lib.itoa_length_le (1000000000 + nano) (by omega) (by omega)
    rw [List.length_drop] at h2
    rw [List.length_append, List.length_append, h1]
    simp only [List.length_singleton]
    omega
theorem Jy {t nano : Int} (A : fF w0) (T : gQ Tryz.prog w0) (h : Sat w0 L w) (ht : 0 ≤ t ∧ t ≤ 2305843010) (hn : 0 ≤ nano ∧ nano < 1000000000) (hK : ∀ w', Sat w0 L w' → K (.string (bs (xZ t nano))) w') : ai TH [.int .i64 t, .int .i64 nano] w K := by
  refine c179 ?_
  unfold YQ
  refine Ol A h ht fun w h => ?_
  unfold xZ at hK
  by_cases g : nano = 0
  · have g' : decide (nano = 0) = true := by simpa using g
    rw [if_pos g] at hK
    (repeat simp(disch:=omega)only[evA,evB,evC,af,ag,g'])
    exact hK _ h
  · have g' : decide (nano = 0) = false := by simpa using g
    rw [if_neg g] at hK
    (repeat simp(disch:=omega)only[evA,evB,evC,af,ag,g'])
    refine jF T h (by omega) (by omega) fun w h => ?_
    have hlen : 1 ≤ (Lib.itoa (1000000000 + nano)).length := by
      obtain ⟨u, hu⟩ : ∃ u : Nat, 1000000000 + nano = u := ⟨(1000000000 + nano).toNat, by omega⟩
      rw [hu]
      have := M7 u
      cases hi : Lib.itoa (u : Int) with
      | nil => exact absurd hi this
      | cons => simp
    have hmax : (Lib.itoa (1000000000 + nano)).length ≤ 21 := Lib.itoa_length_le _ (by omega) (by omega)
    have hsl := Gh t
    have htr := Bq ((Lib.itoa (1000000000 + nano)).drop 1) 48
    rw [List.length_drop] at htr
    skip
    refine ax (dH (by rw [hsl]; simp)) ?_
    skip
    refine ax (nS (i := 1) hlen) ?_
    refine JB (by decide) (by rw [List.length_drop]; omega) ?_
    refine ax (dH (by rw [List.length_append, hsl]; simp only [List.length_singleton]; omega)) ?_
    exact hK _ h
theorem yG {t : Int} (A : fF w0) (T : gQ Tryz.prog w0) (h : Sat w0 L w) (ht : 0 ≤ t ∧ t ≤ 2305843009213693952) (hK : ∀ w', Sat w0 L w' → K (.tuple #[.string (bs (dJ t)), .int .i64 0]) w') : ai P7 [.int .i64 t] w K := by
  refine c132 ?_
  unfold Y3
  have g1 : decide (t < 0) = false := by simp; omega
  have g2 : decide (t > 2305843009213693952) = false := by simp; omega
  have q1 := zt (x := t) (c := 1000000000) (by omega) (by omega) (by omega)
  have q2 := DI (x := t) (c := 1000000000) (by omega) (by omega)
  (repeat(first
|simp(disch:=omega)only[evA,evB,evC,af,ag,g1,g2]
|refine ax (q1 ..) ?_
|refine ax (q2 ..) ?_))
  refine Jy A T h (by omega) (by omega) fun w h => ?_
  have := Bo (t / 1000000000) (t % 1000000000) (by omega)
  skip
  refine ax (dH (by simp only [List.length_singleton]; omega)) ?_
  exact hK _ h
end
end Go.Proofs.Gong

/- So7 -/
namespace Go.Proofs.Gong
open Go Go.Sx Go.Proofs
set_option maxRecDepth 100000
def ByH (ty : TypeId) (v : Value) (l : List UInt8) : HP := HEx fun b => HEx fun c => HEx fun fz =>
  HPr (v = .slice (some ⟨b, 0, none⟩) l.length c.size ∧ l.length ≤ c.size ∧ c.toList.take l.length = lh l ∧ (fz = (0, 0) ∨ fz = (c.size, c.size + 1))) (Blk b (.cells c ty fz))
theorem Nr {w0 w : World} {L : List HP} {ty : TypeId} {v : Value} {l : List UInt8} : Sat w0 (ByH ty v l :: L) w ↔ ∃ b c fz, (v = .slice (some ⟨b, 0, none⟩) l.length c.size ∧ l.length ≤ c.size ∧ c.toList.take l.length = lh l ∧ (fz = (0, 0) ∨ fz = (c.size, c.size + 1))) ∧ Sat w0 (Blk b (.cells c ty fz) :: L) w := by
  simp only [ByH, Sat.ex_iff, Sat.pr_iff]
section
variable {w0 w : World} {L : List HP} {P : Program} {ty : TypeId} {v : Value} {l : List UInt8} {K : Value → World → Prop}
theorem SG (h : Sat w0 (ByH ty v l :: L) w) : Rd w 1 v l.length (lh l) := by
  obtain ⟨b, c, fz, ⟨rfl, h1, h2, h3⟩, hs⟩ := Nr.1 h
  exact .blk hs.blk h1 (by omega) (by rw [List.drop_zero, Nat.mul_one]; exact h2.symm)
theorem FZ {s d el : TypeId} (h : Sat w0 L w) (us : P.underlying s = some .string) (ud : P.underlying d = some (.slice el)) (ue : P.underlying el = some (.int .u8))
    (hK : ∀ v w', Sat w0 (ByH el v l :: L) w' → K v w') : iX P s d (.string (bs l)) w K := by
  simp only [iX, us, ud, ue]
  intro cap hc
  have h1 := (h.drew).alloc (.cells (((bs l).data.map fun b => .int .u8 b.toNat) ++ Array.replicate (cap - (bs l).size) (.int .u8 0)) el (cap, cap + 1))
  simp at hc
  have hsz : (((bs l).data.map fun b : UInt8 => Value.int .u8 b.toNat) ++ Array.replicate (cap - (bs l).size) (Value.int .u8 0)).size = cap := by simp [bs, ByteArray.size] at *; omega
  refine hK _ _ (Nr.2 ⟨_, _, _, ⟨?_, ?_, ?_, ?_⟩, h1⟩)
  · rw [hsz]; simp [sl]
  · rw [hsz]; exact hc
  · simp [bs, lh]
  · rw [hsz]; exact .inr rfl
end
end Go.Proofs.Gong

/- Qs2 -/
namespace Go.Proofs.Gong
open Go Go.Sx Go.Proofs
set_option maxRecDepth 100000
theorem sh4 (c : UInt8) : rf (.int .u8 (c.toNat : Nat)) (.int .u64 4) = some (.int .u8 ((c.toNat / 16 : Nat))) := by
  have : (c.toNat : Int).fdiv 16 = ((c.toNat / 16 : Nat) : Int) := by
    rw [Int.fdiv_eq_ediv_of_nonneg _ (by omega)]; omega
  show some (Value.int .u8 ((c.toNat : Int).fdiv 16)) = _
  rw [this]
theorem an15 (c : UInt8) : l6 .and (.int .u8 (c.toNat : Nat)) (.int .u8 15) = some (.int .u8 ((c.toNat % 16 : Nat))) := by
  have h : ∀ n : Fin 256, oH .and .u8 (n.val : Nat) 15 = some ((n.val % 16 : Nat) : Int) := by decide
  have := h ⟨c.toNat, c.toNat_lt⟩
  simp only [l6, if_true]
  rw [show ((15 : Int)) = 15 from rfl, this]; rfl
theorem ZY {d : Nat} (h : d < 16) : dG (.string ⟨#[48, 49, 50, 51, 52, 53, 54, 55, 56, 57, 97, 98, 99, 100, 101, 102]⟩) (.int .u8 (d : Nat)) = some (.int .u8 ((kY d).toNat : Nat)) := by
  have : d = 0 ∨ d = 1 ∨ d = 2 ∨ d = 3 ∨ d = 4 ∨ d = 5 ∨ d = 6 ∨ d = 7 ∨ d = 8 ∨ d = 9 ∨ d = 10 ∨ d = 11 ∨ d = 12 ∨ d = 13 ∨ d = 14 ∨ d = 15 := by omega
  rcases this with rfl | rfl | rfl | rfl | rfl | rfl | rfl | rfl | rfl | rfl | rfl | rfl | rfl | rfl | rfl | rfl <;> rfl
theorem MP {c : UInt8} {k : Nat} (hk : k < 256) : c = UInt8.ofNat k ↔ c.toNat = k := by
  constructor
  · rintro rfl; rw [UInt8.toNat_ofNat']; omega
  · intro h; subst h; simp
abbrev jd (b : Nat) : Value := .pointer (some ⟨b, 0, none⟩)
attribute [local irreducible] aD bY bO eqv dB Cl bS LsH SlH ld1 ldN st ai bT aY dF bI bz bE aJ aB bK bZ
section
variable {w0 w : World} {L : List HP} {K : Value → World → Prop} {b : Nat} {p sv : Value} {l s : List UInt8} {c : UInt8}
theorem iB (hp : p = .pointer none ∨ p = jd b) (hz : Z0 sv) (hl : l.length + 1 ≤ 140737488355328) (h : Sat w0 (Cl b #[p, sv] 293 :: LsH cB8 1 5 sv l :: L) w)
    (hK : ∀ sv' w', Z0 sv' → Sat w0 (Cl b #[jd b, sv'] 293 :: LsH cB8 1 5 sv' (l ++ [c]) :: L) w' → K .nilIface w') : ai DW [.pointer (some ⟨b, 0, none⟩), .int .u8 (c.toNat : Nat)] w K := by
  refine c180 ?_
  unfold YP
  refine aj ⟨b, w0, _, p, sv, rfl, hp, h, fun w h => ?_⟩
  have o1 : OneV sv := fT (Sat.f1 h)
  (repeat(first
|simp(disch:=omega)only[evA,evB,evC,af,ag]
|with_reducible refine bA h ?_))
  refine gy (es := 1) h N9 (c := #[.int .u8 (c.toNat : Nat)]) (by kernel_rfl) rfl fun tv w h => ?_
  have hrd : Rd w 1 tv ([c] : List UInt8).length (([c] : List UInt8).flatMap cB8) := h.rd
  refine app_z0 (l := l) (m := [c]) (L := Cl b #[jd b, sv] 293 :: L) (h.got) hz Zv (by kernel_rfl) hrd (by simpa using hl) fun sv' w hz' h => ?_
  have o2 : OneV sv' := fT h
  (repeat ((with_reducible refine gH h ?_);intro _ h))
  exact hK sv' _ hz' (h.got)
theorem jf {m : List UInt8} (hp : p = .pointer none ∨ p = jd b) (hz : Z0 sv) (hl : l.length + m.length ≤ 140737488355328) (h : Sat w0 (Cl b #[p, sv] 293 :: LsH cB8 1 5 sv l :: L) w)
    (hK : ∀ sv' w', Z0 sv' → Sat w0 (Cl b #[jd b, sv'] 293 :: LsH cB8 1 5 sv' (l ++ m) :: L) w' → K (.tuple #[.int .i64 m.length, .nilIface]) w') : ai zM [.pointer (some ⟨b, 0, none⟩), .string (bs m)] w K := by
  refine c181 ?_
  unfold YO
  refine aj ⟨b, w0, _, p, sv, rfl, hp, h, fun w h => ?_⟩
  have o1 : OneV sv := fT (Sat.f1 h)
  (repeat(first
|simp(disch:=omega)only[evA,evB,evC,af,ag]
|with_reducible refine bA h ?_))
  refine Ye (l := l) (m := m) (L := Cl b #[jd b, sv] 293 :: L) (h.got) hz Zv (by kernel_rfl) hl fun sv' w hz' h => ?_
  have o2 : OneV sv' := fT h
  (repeat ((with_reducible refine gH h ?_);intro _ h))
  exact hK sv' _ hz' (h.got)
theorem Ow {R3 : Value → Value → Value → Value → World → Prop} {wB : World} {bv len : Value} {acc : List UInt8} {i : Nat} (hs : s.length ≤ 1000000000) (hi : i < s.length) (hlen : len = .int .i64 s.length) (hz : Z0 sv) (hl : acc.length ≤ 140737488355000) (h : Sat wB (Cl b #[jd b, sv] 293 :: LsH cB8 1 5 sv acc :: ByH 5 bv s :: []) w)
    (hR : ∀ sv' w', Z0 sv' → Sat wB (Cl b #[jd b, sv'] 293 :: LsH cB8 1 5 sv' (acc ++ Dx s[i]) :: ByH 5 bv s :: []) w' → R3 (.pointer (some ⟨b, 0, none⟩)) bv len (.int .i64 ((i : Int) + 1)) w') :
    vP (.pointer (some ⟨b, 0, none⟩)) bv len (.int .i64 (i : Nat)) w K R3 := by
  subst hlen
  unfold vP xS
  have g' : decide ((i : Int) < (s.length : Int)) = true := by simpa using hi
  have hrd : Rd w 1 bv s.length (s.flatMap cB8) := by
    rw [p9]; exact SG (h.got)
  have e1 := fV hrd hi
  have e2 : ld1 (elP 1 bv i) w = some (.int .u8 (s[i].toNat : Nat)) := fG (g := fun x : UInt8 => .int .u8 (x.toNat : Nat)) hrd hi
  have fin : ∀ (sv' : Value) (w' : World), Z0 sv' → Sat wB (Cl b #[jd b, sv'] 293 :: LsH cB8 1 5 sv' (acc ++ Dx s[i]) :: ByH 5 bv s :: []) w' → vO (.pointer (some ⟨b, 0, none⟩)) bv (.int .i64 s.length) (.int .i64 (i : Nat)) w' K R3 := by
    intro sv' w' hz' h'
    unfold vO Fz
    (repeat simp(disch:=omega)only[evA,evB,evC,af,ag])
    exact hR sv' w' hz' h'
  generalize s[i] = c at *
  have k34 := MP (c := c) (k := 34) (by omega)
  have k92 := MP (c := c) (k := 92) (by omega)
  have k10 := MP (c := c) (k := 10) (by omega)
  have k9 := MP (c := c) (k := 9) (by omega)
  have hpb : jd b = .pointer none ∨ jd b = jd b := .inr rfl
  unfold Dx at fin
  by_cases g1 : c = 34
  · have d1 : decide ((c.toNat : Int) = 34) = true := by simp; have := k34.1 g1; omega
    rw [if_pos (.inl g1)] at fin
    (repeat(first
|simp(disch:=omega)only[evA,evB,evC,af,ag,g']
|refine ax (e1 ..) ?_))
    rw [e2]
    (repeat simp(disch:=omega)only[evA,evB,evC,af,ag,d1])
    refine iB (c := 92) hpb hz (by omega) h fun sv1 w hz1 h => ?_
    skip
    refine iB (c := c) hpb hz1 (by simp; omega) h fun sv2 w hz2 h => ?_
    refine fin sv2 w hz2 ?_
    rw [List.append_assoc] at h; exact h
  have d1 : decide ((c.toNat : Int) = 34) = false := by
    simp only [decide_eq_false_iff_not]; intro e; exact g1 (k34.2 (by omega))
  by_cases g2 : c = 92
  · have d2 : decide ((c.toNat : Int) = 92) = true := by simp; have := k92.1 g2; omega
    rw [if_pos (.inr g2)] at fin
    (repeat(first
|simp(disch:=omega)only[evA,evB,evC,af,ag,g']
|refine ax (e1 ..) ?_))
    rw [e2]
    (repeat simp(disch:=omega)only[evA,evB,evC,af,ag,d1,d2])
    refine iB (c := 92) hpb hz (by omega) h fun sv1 w hz1 h => ?_
    skip
    refine iB (c := c) hpb hz1 (by simp; omega) h fun sv2 w hz2 h => ?_
    refine fin sv2 w hz2 ?_
    rw [List.append_assoc] at h; exact h
  have d2 : decide ((c.toNat : Int) = 92) = false := by
    simp only [decide_eq_false_iff_not]; intro e; exact g2 (k92.2 (by omega))
  rw [if_neg (by rintro (h | h) <;> contradiction)] at fin
  by_cases g3 : c = 10
  · have d3 : decide ((c.toNat : Int) = 10) = true := by simp; have := k10.1 g3; omega
    rw [if_pos g3] at fin
    (repeat(first
|simp(disch:=omega)only[evA,evB,evC,af,ag,g']
|refine ax (e1 ..) ?_))
    rw [e2]
    (repeat simp(disch:=omega)only[evA,evB,evC,af,ag,d1,d2,d3])
    refine jf (m := [92, 110]) hpb hz (by simp; omega) h fun sv1 w hz1 h => ?_
    exact fin sv1 w hz1 h
  have d3 : decide ((c.toNat : Int) = 10) = false := by
    simp only [decide_eq_false_iff_not]; intro e; exact g3 (k10.2 (by omega))
  rw [if_neg g3] at fin
  by_cases g4 : c = 9
  · have d4 : decide ((c.toNat : Int) = 9) = true := by simp; have := k9.1 g4; omega
    rw [if_pos g4] at fin
    (repeat(first
|simp(disch:=omega)only[evA,evB,evC,af,ag,g']
|refine ax (e1 ..) ?_))
    rw [e2]
    (repeat simp(disch:=omega)only[evA,evB,evC,af,ag,d1,d2,d3,d4])
    refine jf (m := [92, 116]) hpb hz (by simp; omega) h fun sv1 w hz1 h => ?_
    exact fin sv1 w hz1 h
  have d4 : decide ((c.toNat : Int) = 9) = false := by
    simp only [decide_eq_false_iff_not]; intro e; exact g4 (k9.2 (by omega))
  rw [if_neg g4] at fin
  have k32 : c < 32 ↔ c.toNat < 32 := UInt8.lt_iff_toNat_lt
  have k127 : 127 ≤ c ↔ 127 ≤ c.toNat := UInt8.le_iff_toNat_le
  by_cases g5 : c < 32 ∨ 127 ≤ c
  · rw [if_pos g5] at fin
    have x1 := sh4 c
    have x2 := an15 c
    have x3 := ZY (d := c.toNat / 16) (by have := c.toNat_lt; omega)
    have x4 := ZY (d := c.toNat % 16) (by omega)
    have s1 : (.string ⟨#[48, 49, 50, 51, 52, 53, 54, 55, 56, 57, 97, 98, 99, 100, 101, 102]⟩ : Value) = .string (bs [48, 49, 50, 51, 52, 53, 54, 55, 56, 57, 97, 98, 99, 100, 101, 102]) := rfl
    rw [s1] at x3 x4
    by_cases q : c.toNat < 32
    · have d5 : decide ((c.toNat : Int) < 32) = true := by simp; omega
      (repeat(first
|simp(disch:=omega)only[evA,evB,evC,af,ag,g']
|refine ax (e1 ..) ?_))
      rw [e2]
      (repeat(first
|simp(disch:=omega)only[evA,evB,evC,af,ag,d1,d2,d3,d4,d5]
|refine ax (x1 ..) ?_
|refine ax (x2 ..) ?_
|refine ax (x3 ..) ?_
|refine ax (x4 ..) ?_))
      refine gy (es := 1) h.drew N9 (c := #[.int .u8 ((kY (c.toNat / 16)).toNat : Nat), .int .u8 ((kY (c.toNat % 16)).toNat : Nat)]) (by kernel_rfl) rfl fun tv w h => ?_
      have hcb : gF tv w = some (.string (bs [kY (c.toNat / 16), kY (c.toNat % 16)])) := p8 (l := [kY (c.toNat / 16), kY (c.toNat % 16)]) (n := 2) h.rd (by omega)
      rw [hcb]
      simp only [ak]
      refine ax (dH (a := [92, 120]) (b := [kY (c.toNat / 16), kY (c.toNat % 16)]) (by simp)) ?_
      refine jf (w0 := wB) (b := b) (p := jd b) (sv := sv) (l := acc) (m := [92, 120, kY (c.toNat / 16), kY (c.toNat % 16)]) (L := ByH 5 bv s :: []) hpb hz (by simp only [List.length_cons, List.length_nil]; omega) (h.got) fun sv1 w hz1 h => ?_
      exact fin sv1 w hz1 h
    · have d5 : decide ((c.toNat : Int) < 32) = false := by simp; omega
      have d6 : decide ((c.toNat : Int) ≥ 127) = true := by
        rw [k32, k127] at g5
        simp; omega
      (repeat(first
|simp(disch:=omega)only[evA,evB,evC,af,ag,g']
|refine ax (e1 ..) ?_))
      rw [e2]
      (repeat(first
|simp(disch:=omega)only[evA,evB,evC,af,ag,d1,d2,d3,d4,d5,d6]
|refine ax (x1 ..) ?_
|refine ax (x2 ..) ?_
|refine ax (x3 ..) ?_
|refine ax (x4 ..) ?_))
      refine gy (es := 1) h.drew N9 (c := #[.int .u8 ((kY (c.toNat / 16)).toNat : Nat), .int .u8 ((kY (c.toNat % 16)).toNat : Nat)]) (by kernel_rfl) rfl fun tv w h => ?_
      have hcb : gF tv w = some (.string (bs [kY (c.toNat / 16), kY (c.toNat % 16)])) := p8 (l := [kY (c.toNat / 16), kY (c.toNat % 16)]) (n := 2) h.rd (by omega)
      rw [hcb]
      simp only [ak]
      refine ax (dH (a := [92, 120]) (b := [kY (c.toNat / 16), kY (c.toNat % 16)]) (by simp)) ?_
      refine jf (w0 := wB) (b := b) (p := jd b) (sv := sv) (l := acc) (m := [92, 120, kY (c.toNat / 16), kY (c.toNat % 16)]) (L := ByH 5 bv s :: []) hpb hz (by simp only [List.length_cons, List.length_nil]; omega) (h.got) fun sv1 w hz1 h => ?_
      exact fin sv1 w hz1 h
  · have g5' := g5
    rw [k32, k127] at g5'
    have d5 : decide ((c.toNat : Int) < 32) = false := by simp; omega
    have d6 : decide ((c.toNat : Int) ≥ 127) = false := by simp; omega
    rw [if_neg g5] at fin
    (repeat(first
|simp(disch:=omega)only[evA,evB,evC,af,ag,g']
|refine ax (e1 ..) ?_))
    rw [e2]
    (repeat simp(disch:=omega)only[evA,evB,evC,af,ag,d1,d2,d3,d4,d5,d6])
    refine iB (c := c) hpb hz (by omega) h fun sv1 w hz1 h => ?_
    exact fin sv1 w hz1 h
theorem X5 (c : UInt8) : (Dx c).length ≤ 4 := by
  unfold Dx
  split
  · simp
  split
  · simp
  split
  · simp
  split <;> simp
theorem sU : ∀ (s : List UInt8), (s.flatMap Dx).length ≤ 4 * s.length
  | [] => by simp
  | c :: s => by
    have := X5 c
    have := sU s
    rw [List.flatMap_cons, List.length_append, List.length_cons]; omega
theorem yF {wB : World} {bv : Value} (hs : s.length ≤ 1000000000) (hK : ∀ w', Sat wB [] w' → K (.string (bs (jI s))) w') : ∀ (k i n : Nat) (sv : Value) (w : World), i + k = s.length → k < n → Z0 sv →
    Sat wB (Cl b #[jd b, sv] 293 :: LsH cB8 1 5 sv (34 :: (s.take i).flatMap Dx) :: ByH 5 bv s :: []) w → kw n (.pointer (some ⟨b, 0, none⟩)) bv (.int .i64 s.length) (.int .i64 (i : Nat)) w K
  | 0, i, n, sv, w, hi, hn, hz, h => by
    obtain ⟨n, rfl⟩ : ∃ q, n = q + 1 := ⟨n - 1, by omega⟩
    have him : i = s.length := by omega
    subst him
    have g' : decide ((s.length : Int) < (s.length : Int)) = false := by simp
    rw [kw]
    unfold vP xS
    (repeat simp(disch:=omega)only[evA,evB,evC,af,ag,g'])
    unfold nL FB
    have hl := sU s
    rw [List.take_length] at h
    refine iB (c := 34) (.inr rfl) hz (by simp only [List.length_cons]; omega) h fun sv1 w hz1 h => ?_
    refine aj ⟨b, wB, _, _, sv1, _, rfl, h, hz1, by simp, by simp only [List.length_append, List.length_cons, List.length_nil]; omega, fun w' h' => ?_⟩
    exact hK w' h'
  | k + 1, i, n, sv, w, hi, hn, hz, h => by
    obtain ⟨n, rfl⟩ : ∃ q, n = q + 1 := ⟨n - 1, by omega⟩
    rw [kw]
    have hl := sU (s.take i)
    rw [List.length_take] at hl
    refine Ow hs (by omega) rfl hz (by simp only [List.length_cons]; omega) h fun sv' w' hz' h' => ?_
    have e : ((i : Int) + 1) = ((i + 1 : Nat) : Int) := by omega
    rw [e]
    refine yF hs hK k (i + 1) n sv' w' (by omega) (by omega) hz' ?_
    rw [List.take_succ_eq_append_getElem (by omega), List.flatMap_append]
    simpa using h'
theorem mR (hs : s.length ≤ 1000000000) (h : Sat w0 L w) (hK : ∀ w', Sat w0 L w' → K (.string (bs (jI s))) w') : ai IX [.string (bs s)] w K := by
  refine c133 ?_
  unfold UY FD FC
  have hB := Sat.start w
  refine cu hB z293 rfl fun b w1 h1 => ?_
  have h2 : Sat w (Cl b #[.pointer none, .slice none 0 0] 293 :: LsH cB8 1 5 (.slice none 0 0) ([] : List UInt8) :: []) w1 := (Sat.nilLs cB8 1 5 h1).f1
  refine iB (c := 34) (.inl rfl) (fun a n c e => by cases e) (by simp) h2 fun sv1 w2 hz1 h3 => ?_
  refine FZ h3 (by kernel_rfl) N9 (by kernel_rfl) fun bv w3 h4 => ?_
  have hrd := SG h4
  have hlen := hrd.len
  have h5 : Sat w (Cl b #[jd b, sv1] 293 :: LsH cB8 1 5 sv1 (34 :: (s.take 0).flatMap Dx) :: ByH 5 bv s :: []) w3 := h4.got
  (repeat simp(disch:=omega)only[evA,evB,evC,af,ag,hlen])
  unfold Az
  exact yF hs (fun w' h' => hK w' (h.unbase h')) s.length 0 fuel sv1 w3 (by omega) (by unfold fuel; omega) hz1 h5
end
end Go.Proofs.Gong

/- Qs3 -/
namespace Go.Proofs.Gong
open Go Go.Sx Go.Proofs
set_option maxRecDepth 100000
def fU (xs : List (List UInt8)) : Nat := (xs.map (·.length)).sum
theorem uP {xs : List (List UInt8)} {i : Nat} (hi : i < xs.length) : fU (xs.take (i + 1)) = fU (xs.take i) + xs[i].length := by
  unfold fU
  rw [List.take_succ_eq_append_getElem hi, List.map_append, List.sum_append]; simp
theorem oh (xs : List (List UInt8)) (i : Nat) : fU (xs.take i) ≤ fU xs := by
  unfold fU
  conv => rhs; rw [← List.take_append_drop i xs]
  rw [List.map_append, List.sum_append]; omega
theorem rQ (sep : List UInt8) : ∀ (r : List (List UInt8)), (Lib.joinTail sep r).length = fU r + sep.length * r.length
  | [] => rfl
  | x :: r => by
    have ih := rQ sep r
    unfold Lib.joinTail fU at *
    simp only [List.map_cons, List.flatten_cons, List.length_append, List.sum_cons, List.length_cons, Nat.mul_succ]
    omega
theorem yZ (x : List UInt8) (r : List (List UInt8)) (sep : List UInt8) : (Lib.join (x :: r) sep).length = fU (x :: r) + sep.length * r.length := by
  rw [Lib.join_cons, List.length_append, rQ]
  simp [fU]; omega
theorem x9 {sep : List UInt8} {r : List (List UInt8)} {i : Nat} (hi : i < r.length) : Lib.joinTail sep (r.take (i + 1)) = Lib.joinTail sep (r.take i) ++ (sep ++ r[i]) := by
  unfold Lib.joinTail
  rw [List.take_succ_eq_append_getElem hi, List.map_append, List.flatten_append]; simp
attribute [local irreducible] aD bY bO eqv dB Cl bS LsH SlH ld1 ldN st ai bT aY dF bI bz bE aJ aB bK bZ
section
variable {w0 w wB : World} {L : List HP} {K : Value → World → Prop} {v : Value} {xs r : List (List UInt8)} {sep : List UInt8}
theorem Ph {b n : Nat} (hn : 0 < n ∧ n ≤ 281474976710656) (h : Sat wB (Cl b #[.pointer none, .slice none 0 0] 293 :: []) w) (hK : ∀ v w', Z0 v → Sat wB (Cl b #[jd b, v] 293 :: LsH cB8 1 5 v ([] : List UInt8) :: []) w' → K (.tuple #[]) w') : ai TF [.pointer (some ⟨b, 0, none⟩), .int .i64 n] w K := by
  refine c183 ?_
  unfold UO ES ER
  refine aj (F := Du 293) ⟨b, wB, [], .pointer none, _, rfl, .inl rfl, h, fun w h => ?_⟩
  have g1 : decide ((n : Int) < 0) = false := by simp
  (repeat simp(disch:=omega)only[evA,evB,evC,af,ag,g1])
  unfold Ad EQ
  have hcap : Vo (.slice none 0 0) = some (.int .i64 0) := rfl
  have g2 : decide ((0 : Int) - ((0 : Nat) : Int) < (n : Int)) = true := by simp; omega
  (repeat(first
|simp(disch:=omega)only[evA,evB,evC,af,ag,g2]
|refine ax (hcap ..) ?_
|with_reducible refine bA h ?_))
  refine aj (F := KE 293 5) ⟨b, n, wB, [], rfl, h.drew, hn.2, fun v w' hz h' => ?_⟩
  exact hK v w' hz h'
theorem Hg {lv : Value} {n0 : Nat} (hrd : Rd wB 1 v xs.length (xs.flatMap cSt)) (hx : xs.length ≤ 1000000000) (hb : n0 + fU xs ≤ 1000000000000) (hK : iH v (.string (bs sep)) (.int .i64 ((n0 + fU xs : Nat) : Int)) w K) : ∀ (k i n : Nat), i + k = xs.length → k < n → Sat wB [] w → ku n v (.string (bs sep)) (.int .i64 ((n0 + fU (xs.take i) : Nat) : Int)) v (.int .i64 xs.length) (.int .i64 (i : Nat)) w K
  | 0, i, n, hi, hn, h => by
    obtain ⟨n, rfl⟩ : ∃ q, n = q + 1 := ⟨n - 1, by omega⟩
    have him : i = xs.length := by omega
    subst him
    have g' : decide ((xs.length : Int) < (xs.length : Int)) = false := by simp
    rw [ku]
    unfold Am xO
    (repeat simp(disch:=omega)only[evA,evB,evC,af,ag,g'])
    rw [List.take_length]
    exact hK
  | k + 1, i, n, hi, hn, h => by
    obtain ⟨n, rfl⟩ : ∃ q, n = q + 1 := ⟨n - 1, by omega⟩
    have hil : i < xs.length := by omega
    have g' : decide ((i : Int) < (xs.length : Int)) = true := by simpa using hil
    have hrd' := hrd.sat h
    have f1 := fV hrd' hil
    have f2 : ld1 (elP 1 v i) w = some (.string (bs xs[i])) := fG (g := fun x : List UInt8 => .string (bs x)) hrd' hil
    have hs := uP hil
    have hle := oh xs (i + 1)
    have g2 : decide ((xs[i].length : Int) > 9223372036854775807 - ((n0 + fU (xs.take i) : Nat) : Int)) = false := by simp; omega
    rw [ku]
    unfold Am xO
    (repeat simp(disch:=omega)only[evA,evB,evC,af,ag,g'])
    unfold Al xR Aw
    (repeat(first
|simp(disch:=omega)only[evA,evB,evC,af,ag]
|refine ax (f1 ..) ?_))
    rw [f2]
    (repeat simp(disch:=omega)only[evA,evB,evC,af,ag,g2])
    unfold ut Av
    (repeat simp(disch:=omega)only[evA,evB,evC,af,ag])
    unfold jD Ay
    (repeat simp(disch:=omega)only[evA,evB,evC,af,ag])
    have e1 : ((n0 + fU (xs.take i) : Nat) : Int) + (xs[i].length : Int) = ((n0 + fU (xs.take (i + 1)) : Nat) : Int) := by omega
    have e2 : (i : Int) + 1 = ((i + 1 : Nat) : Int) := by omega
    rw [e1, e2]
    exact Hg (lv := lv) hrd hx hb hK k (i + 1) n (by omega) (by omega) h
theorem BQ {b : Nat} {rv : Value} {x : List UInt8} (hrd : Rd wB 1 rv r.length (r.flatMap cSt)) (hr : r.length ≤ 1000000000) (hb : (Lib.join (x :: r) sep).length ≤ 1000000000000) (hne : sep ≠ []) (hr0 : r ≠ []) (hK : ∀ w', Sat wB [] w' → K (.string (bs (Lib.join (x :: r) sep))) w') : ∀ (k i n : Nat) (sv : Value) (w : World), i + k = r.length → k < n → Z0 sv →
    Sat wB (Cl b #[jd b, sv] 293 :: LsH cB8 1 5 sv (x ++ Lib.joinTail sep (r.take i)) :: []) w → ko n (.string (bs sep)) (.pointer (some ⟨b, 0, none⟩)) rv (.int .i64 r.length) (.int .i64 (i : Nat)) w K
  | 0, i, n, sv, w, hi, hn, hz, h => by
    obtain ⟨n, rfl⟩ : ∃ q, n = q + 1 := ⟨n - 1, by omega⟩
    have him : i = r.length := by omega
    subst him
    have g' : decide ((r.length : Int) < (r.length : Int)) = false := by simp
    rw [ko]
    unfold xP
    (repeat simp(disch:=omega)only[evA,evB,evC,af,ag,g'])
    unfold vN Fs
    rw [List.take_length, ← Lib.join_cons] at h
    have hpos : Lib.join (x :: r) sep ≠ [] := by
      intro e
      have := congrArg List.length e
      rw [yZ] at this
      have h1 : 0 < sep.length := List.length_pos_iff.2 hne
      have h2 : 0 < r.length := List.length_pos_iff.2 hr0
      have := Nat.mul_pos h1 h2
      simp at *; omega
    refine aj (F := zb 293 5) ⟨b, wB, _, _, sv, _, rfl, h, hz, hpos, by omega, fun w' h' => ?_⟩
    exact hK w' h'
  | k + 1, i, n, sv, w, hi, hn, hz, h => by
    obtain ⟨n, rfl⟩ : ∃ q, n = q + 1 := ⟨n - 1, by omega⟩
    have hil : i < r.length := by omega
    have g' : decide ((i : Int) < (r.length : Int)) = true := by simpa using hil
    have hrd' := hrd.sat h
    have f1 := fV hrd' hil
    have f2 : ld1 (elP 1 rv i) w = some (.string (bs r[i])) := fG (g := fun x : List UInt8 => .string (bs x)) hrd' hil
    have hts := x9 (sep := sep) hil
    have hle : (x ++ Lib.joinTail sep (r.take (i + 1))).length ≤ (Lib.join (x :: r) sep).length := by
      rw [Lib.join_cons, List.length_append, List.length_append, rQ, rQ]
      have h1 := oh r (i + 1)
      have h2 : (r.take (i + 1)).length ≤ r.length := by rw [List.length_take]; omega
      have := Nat.mul_le_mul_left sep.length h2
      omega
    rw [hts] at hle
    simp only [List.length_append] at hle
    rw [ko]
    unfold xP
    (repeat(first
|simp(disch:=omega)only[evA,evB,evC,af,ag,g']
|refine ax (f1 ..) ?_))
    rw [f2]
    (repeat simp(disch:=omega)only[evA,evB,evC,af,ag])
    refine jf (w0 := wB) (m := sep) (L := []) (.inr rfl) hz (by simp only [List.length_append]; omega) h fun sv1 w hz1 h => ?_
    skip
    refine jf (w0 := wB) (m := r[i]) (L := []) (.inr rfl) hz1 (by simp only [List.length_append]; omega) h fun sv2 w hz2 h => ?_
    skip
    have e2 : (i : Int) + 1 = ((i + 1 : Nat) : Int) := by omega
    rw [e2]
    refine BQ hrd hr hb hne hr0 hK k (i + 1) n sv2 w (by omega) (by omega) hz2 ?_
    rw [hts]
    simpa [List.append_assoc] using h
theorem Gt {kk : Value → Prop} (hr : Rd w 1 v xs.length (xs.flatMap cSt)) (hi : 1 ≤ xs.length) (hk : ∀ v', Rd w 1 v' (xs.drop 1).length ((xs.drop 1).flatMap cSt) → kk v') : aa (dZ 1 v (some (.int .i64 1)) none none) kk := by
  obtain ⟨v', e, _⟩ := hr.sub (L := some (.int .i64 ((1 : Nat) : Int))) (H := none) (M := none) (lo := 1) (hi := xs.length) (.some _ _) .none (.none _) hi (Nat.le_refl _)
  have := Ka (f := cSt) (es := 1) ⟨fun _ => rfl, fun _ => rfl, by omega⟩ hr e (lo := 1) (hi := xs.length) (.some _ _) .none (.none _) hi (Nat.le_refl _)
  rw [List.take_length] at this
  exact ax e (hk v' this)
theorem O5 {x y : List UInt8} (hrd : Rd w 1 v (x :: y :: r).length ((x :: y :: r).flatMap cSt)) (hr : (x :: y :: r).length ≤ 1000000000) (hb : (Lib.join (x :: y :: r) [32]).length ≤ 1000000000000) (h : Sat w0 L w) (hK : ∀ w', Sat w0 L w' → K (.string (bs (Lib.join (x :: y :: r) [32]))) w') : ai TW [v, .string (bs [32])] w K := by
  refine c134 ?_
  unfold UX Fy Fw
  have hB := Sat.start w
  have hlen := hrd.len
  have n2 : 2 ≤ (x :: y :: r).length := by simp
  have hjl := yZ x (y :: r) [32]
  have hl1 : (y :: r).length + 1 = (x :: y :: r).length := rfl
  generalize hxs : (x :: y :: r) = xs at *
  have d0 : decide ((xs.length : Int) = 0) = false := by simp; intro e; rw [e] at n2; simp at n2
  have d1 : decide ((xs.length : Int) = 1) = false := by simp only [decide_eq_false_iff_not]; omega
  have d2 : decide ((([32] : List UInt8).length : Int) > 0) = true := by decide
  (repeat simp(disch:=omega)only[evA,evB,evC,af,ag,hlen,d0,d1,d2])
  unfold Aq
  simp only [aR]
  unfold xQ Au
  have hq : iM (.int .i64 9223372036854775807) (.int .i64 ((xs.length : Int) - 1)) = some (.int .i64 (9223372036854775807 / ((xs.length : Int) - 1))) := by
    have h1 : (9223372036854775807 : Int).tdiv ((xs.length : Int) - 1) = 9223372036854775807 / ((xs.length : Int) - 1) := Int.tdiv_eq_ediv_of_nonneg (by omega)
    have h2 : 0 ≤ (9223372036854775807 : Int) / ((xs.length : Int) - 1) := Int.ediv_nonneg (by omega) (by omega)
    have h3 : (9223372036854775807 : Int) / ((xs.length : Int) - 1) ≤ 9223372036854775807 := Int.ediv_le_self _ (by omega)
    rw [tF _ _ _ (by omega), h1, fK (by omega)]
  have hq2 : (2 : Int) ≤ 9223372036854775807 / ((xs.length : Int) - 1) := Int.le_ediv_of_mul_le (by omega) (by omega)
  generalize (9223372036854775807 : Int) / ((xs.length : Int) - 1) = qq at *
  have d3 : decide ((([32] : List UInt8).length : Int) ≥ qq) = false := by simp; omega
  (repeat(first
|simp(disch:=omega)only[evA,evB,evC,af,ag,hlen,d3]
|refine ax (hq ..) ?_))
  unfold uq Ar
  have hm : nP (.int .i64 (([32] : List UInt8).length : Nat)) (.int .i64 ((xs.length : Int) - 1)) = some (.int .i64 ((xs.length - 1 : Nat) : Int)) := by
    rw [zx, fK (by simp; omega)]
    congr 2
    simp; omega
  (repeat(first
|simp(disch:=omega)only[evA,evB,evC,af,ag,hlen]
|refine ax (hm ..) ?_))
  unfold l8 Fv
  (repeat simp(disch:=omega)only[evA,evB,evC,af,ag,hlen])
  unfold Ap
  have hj : (xs.length - 1) + fU xs = (Lib.join xs [32]).length := by rw [hjl, show ([32] : List UInt8).length = 1 from rfl]; omega
  have e0 : (0 : Int) + ((xs.length - 1 : Nat) : Int) = ((xs.length - 1 + fU (xs.take 0) : Nat) : Int) := by simp [fU]
  rw [e0]
  refine Hg (lv := v) (n0 := xs.length - 1) hrd hr (by omega) ?_ xs.length 0 fuel (by omega) (by unfold fuel; omega) hB
  rw [hj]
  unfold iH Fu
  refine cu hB z293 rfl fun b w1 h1 => ?_
  have hpos : 0 < (Lib.join xs [32]).length := by omega
  refine Ph ⟨hpos, by omega⟩ h1 fun sv w2 hz h2 => ?_
  have hrd2 := hrd.sat h2
  have h0x : 0 < xs.length := by omega
  have f1 : bq 1 v (.int .i64 0) = some (elP 1 v 0) := fV (i := 0) hrd2 h0x
  have f2 : ld1 (elP 1 v 0) w2 = some (.string (bs xs[0])) := fG (i := 0) (g := fun x : List UInt8 => .string (bs x)) hrd2 h0x
  have hx0 : xs[0] = x := by subst hxs; rfl
  have hd1 : xs.drop 1 = y :: r := by subst hxs; rfl
  rw [hx0] at f2
  have hxl : x.length ≤ (Lib.join xs [32]).length := by
    subst hxs
    rw [Lib.join_cons, List.length_append]; omega
  (repeat(first
|simp(disch:=omega)only[evA,evB,evC,af,ag]
|refine ax (f1 ..) ?_))
  rw [f2]
  (repeat simp(disch:=omega)only[evA,evB,evC,af,ag])
  refine jf (w0 := w) (m := x) (l := []) (L := []) (.inr rfl) hz (by simp only [List.length_nil]; omega) h2 fun sv1 w3 hz1 h3 => ?_
  refine Gt hrd (by omega) fun rv hrv => ?_
  rw [hd1] at hrv
  have hrl := hrv.len
  (repeat simp(disch:=omega)only[evA,evB,evC,af,ag,hrl])
  unfold Ao
  refine BQ (wB := w) (x := x) (r := y :: r) (sep := [32]) hrv (by omega) (by rw [hxs]; exact hb) (by simp) (by simp) (fun w' h' => ?_) (y :: r).length 0 fuel sv1 w3 (by omega) (by unfold fuel; omega) hz1 (by simpa [Lib.joinTail] using h3)
  rw [hxs]
  exact hK w' (h.unbase h')
end
end Go.Proofs.Gong

/- Qs4 -/
namespace Go.Proofs.Gong
open Go Go.Sx Go.Proofs
set_option maxRecDepth 100000
theorem CSt : Cod cSt 1 := ⟨fun _ => rfl, fun _ => rfl, by omega⟩
theorem Rf {ty : TypeId} {v a b : Value} : LsH (fun x : Value => [x]) 1 ty v [a, b] = SlH 1 ty v 2 #[a, b].toList := rfl
attribute [local irreducible] aD bY bO eqv dB Cl bS LsH SlH ld1 ldN st ai bT aY dF bI bz bE aJ aB bK bZ
section
variable {w0 w : World} {L : List HP} {K : Value → World → Prop} {a b v r : Value} {xs ys m acc : List (List UInt8)} {ty : TypeId}
abbrev cVal (x : Value) : List Value := [x]
theorem IE (hx : xs.length ≤ 1000000) (hy : ys.length ≤ 1000000) (hpos : 0 < xs.length + ys.length) (h : Sat w0 (LsH cVal 1 ty v [a, b] :: LsH cSt 1 9 a xs :: LsH cSt 1 9 b ys :: L) w)
    (hK : ∀ r w', Sat w0 (LsH cSt 1 9 r (xs ++ ys) :: L) w' → K r w') : ai TV [v] w K := by
  refine c135 ?_
  unfold UW Fq Fp
  have hv : Rd w 1 v ([a, b] : List Value).length (([a, b] : List Value).flatMap fun x => [x]) := dw h
  have hlv : bI v = some (.int .i64 ((2 : Nat) : Int)) := hv.len
  have ha := (dw (h.frt (A := LsH cSt 1 9 a xs))).len
  have hb := (dw (h.frt (A := LsH cSt 1 9 b ys))).len
  have i0 : bq 1 v (.int .i64 0) = some (elP 1 v 0) := fV (i := 0) hv (by simp)
  have i1 : bq 1 v (.int .i64 1) = some (elP 1 v 1) := fV (i := 1) hv (by simp)
  have l0 : ld1 (elP 1 v 0) w = some a := fG (i := 0) (g := fun x : Value => x) hv (by simp)
  have l1 : ld1 (elP 1 v 1) w = some b := fG (i := 1) (g := fun x : Value => x) hv (by simp)
  (repeat simp(disch:=omega)only[evA,evB,evC,af,ag,hlv])
  unfold Ak
  show jC ((fuel - 3) + 1 + 1 + 1) _ _ _ _ _ _ _
  rw [jC]
  unfold vL ul
  have c0 : decide ((0 : Int) < ((2 : Nat) : Int)) = true := by decide
  have c1 : decide ((0 : Int) + 1 < ((2 : Nat) : Int)) = true := by decide
  have c2 : decide ((0 : Int) + 1 + 1 < ((2 : Nat) : Int)) = false := by decide
  have i1 : bq 1 v (.int .i64 (0 + 1)) = some (elP 1 v 1) := i1
  have n0 : decide ((0 : Int) + (xs.length : Int) < 0) = false := by simp only [decide_eq_false_iff_not]; omega
  have n1 : decide ((0 : Int) + (xs.length : Int) + (ys.length : Int) < 0) = false := by simp only [decide_eq_false_iff_not]; omega
  (repeat(first
|simp(disch:=omega)only[evA,evB,evC,af,ag,c0]
|refine ax (i0 ..) ?_))
  rw [l0]
  (repeat simp(disch:=omega)only[evA,evB,evC,af,ag,ha,n0])
  unfold vK xN
  (repeat simp(disch:=omega)only[evA,evB,evC,af,ag])
  rw [jC]
  unfold vL ul
  (repeat(first
|simp(disch:=omega)only[evA,evB,evC,af,ag,c1]
|refine ax (i1 ..) ?_))
  rw [l1]
  (repeat simp(disch:=omega)only[evA,evB,evC,af,ag,hb,n1])
  unfold vK xN
  (repeat simp(disch:=omega)only[evA,evB,evC,af,ag])
  rw [jC]
  unfold vL ul
  (repeat simp(disch:=omega)only[evA,evB,evC,af,ag,c2])
  unfold nK Fj
  have et : (0 : Int) + (xs.length : Int) + (ys.length : Int) = ((xs.length + ys.length : Nat) : Int) := by omega
  rw [et]
  refine Hw (f := cSt) h hpos (by omega) (by omega) fun r0 w h => ?_
  have hv2 : Rd w 1 v ([a, b] : List Value).length (([a, b] : List Value).flatMap fun x => [x]) := dw (h.frt (A := LsH cVal 1 ty v [a, b]))
  have l02 : ld1 (elP 1 v 0) w = some a := fG (i := 0) (g := fun x : Value => x) hv2 (by simp)
  have hra := dw (h.frt (A := LsH cSt 1 9 a xs))
  (repeat simp(disch:=omega)only[evA,evB,evC,af,ag,hlv])
  unfold Aj
  show jB ((fuel - 3) + 1 + 1 + 1) _ _ _ _ _ _
  rw [jB]
  unfold uo
  (repeat(first
|simp(disch:=omega)only[evA,evB,evC,af,ag,c0]
|refine ax (i0 ..) ?_))
  rw [l02]
  simp only [ak]
  refine fI (f := cSt) (es := 1) CSt h Qn (by kernel_rfl) hra (by simp only [List.length_nil]; omega) fun r1 w h => ?_
  rw [List.nil_append] at h
  have hv3 : Rd w 1 v ([a, b] : List Value).length (([a, b] : List Value).flatMap fun x => [x]) := dw (h.frt (A := LsH cVal 1 ty v [a, b]))
  have l13 : ld1 (elP 1 v 1) w = some b := fG (i := 1) (g := fun x : Value => x) hv3 (by simp)
  have hrb := dw (h.frt (A := LsH cSt 1 9 b ys))
  skip
  rw [jB]
  unfold uo
  (repeat(first
|simp(disch:=omega)only[evA,evB,evC,af,ag,c1]
|refine ax (i1 ..) ?_))
  rw [l13]
  simp only [ak]
  refine fI (f := cSt) (es := 1) CSt h Qn (by kernel_rfl) hrb (by omega) fun r2 w h => ?_
  skip
  rw [jB]
  unfold uo
  (repeat simp(disch:=omega)only[evA,evB,evC,af,ag,c2])
  unfold vM Fh
  exact hK r2 _ (h.got)
structure LFit (r : Row) : Prop where
  id : -9223372036854775808 ≤ r.id ∧ r.id ≤ 9223372036854775807
  level : -9223372036854775808 ≤ r.e.level ∧ r.e.level ≤ 9223372036854775807
  tally : -9223372036854775808 ≤ r.tally ∧ r.tally ≤ 9223372036854775807
  first : 0 ≤ r.first ∧ r.first ≤ 2305843009213693952
  last : 0 ≤ r.last ∧ r.last ≤ 2305843009213693952
  len : r.e.node.length ≤ 1000000 ∧ r.e.cls.length ≤ 1000000 ∧ r.e.key.length ≤ 1000000 ∧ r.e.text.length ≤ 1000000 ∧ r.who.length ≤ 1000000
def numsL (r : Row) : List (List UInt8) := [Lib.itoa r.id, Lib.itoa r.e.level, Lib.itoa r.tally, dJ r.first, dJ r.last, if r.acked = true then r.who else [45]]
def kM (r : Row) : List (List UInt8) := [jI r.e.node, jI r.e.cls, jI r.e.key, jI r.e.text]
def dS (r : Row) : List UInt8 := Lib.join (numsL r ++ kM r) [32]
theorem pF (s : List UInt8) : (jI s).length ≤ 4 * s.length + 2 := by
  have := sU s
  simp only [jI, List.cons_append, List.length_cons, List.length_append, List.length_nil]
  omega
theorem Bv (t : Int) (h : 0 ≤ t) : (dJ t).length ≤ 61 := by
  have := Bo (t / 1000000000) (t % 1000000000) (by omega)
  simp [dJ]; omega
theorem Rj {r : Row} (F : LFit r) : (dS r).length ≤ 100000000 := by
  have h1 := Lib.itoa_length_le r.id F.id.1 F.id.2
  have h2 := Lib.itoa_length_le r.e.level F.level.1 F.level.2
  have h3 := Lib.itoa_length_le r.tally F.tally.1 F.tally.2
  have h4 := Bv r.first F.first.1
  have h5 := Bv r.last F.last.1
  have h6 : (if r.acked = true then r.who else [45]).length ≤ 1000000 := by
    split
    · exact F.len.2.2.2.2
    · simp
  have q1 := pF r.e.node
  have q2 := pF r.e.cls
  have q3 := pF r.e.key
  have q4 := pF r.e.text
  have := F.len
  unfold dS numsL kM
  simp only [List.cons_append, List.nil_append]
  rw [yZ]
  simp only [fU, List.map_cons, List.map_nil, List.sum_cons, List.sum_nil, List.length_cons, List.length_nil]
  omega
theorem BM {r : Row} {p : Nat} (F : LFit r) (A : fF w0) (T : gQ Tryz.prog w0) (h : Sat w0 (Cl p (bR r).toArray 48 :: L) w) (hK : ∀ w', Sat w0 L w' → K (.string (bs (dS r))) w') :
    Cq (.pointer (some ⟨p, 0, none⟩)) (.string (bs (dJ r.first))) (.string (bs (dJ r.last))) (.string (bs (if r.acked = true then r.who else [45]))) w K := by
  unfold Cq LB
  (repeat(first
|simp(disch:=omega)only[evA,evB,evC,af,ag]
|with_reducible refine bA h ?_))
  refine jF T h.drew F.id.1 F.id.2 fun w h => ?_
  (repeat with_reducible refine bA h ?_)
  refine jF T h F.level.1 F.level.2 fun w h => ?_
  (repeat with_reducible refine bA h ?_)
  refine jF T h F.tally.1 F.tally.2 fun w h => ?_
  have hb : dx Tryz.prog 9 6 [(0, .string (bs (Lib.itoa r.id))), (1, .string (bs (Lib.itoa r.e.level))), (2, .string (bs (Lib.itoa r.tally))), (3, .string (bs (dJ r.first))), (4, .string (bs (dJ r.last))), (5, .string (bs (if r.acked = true then r.who else [45])))] = some (((numsL r).map fun x => Value.string (bs x)).toArray) := by kernel_rfl
  refine iD (m := numsL r) (f := cSt) (es := 1) CSt h u32 hb (by simp [numsL]) fun va w h => ?_
  (repeat(first
|simp(disch:=omega)only[evA,evB,evC,af,ag,Nat.reduceAdd]
|with_reducible refine bA h ?_))
  have hl := F.len
  refine mR (s := r.e.node) (by omega) h.drew fun w h => ?_
  (repeat with_reducible refine bA h ?_)
  refine mR (s := r.e.cls) (by omega) h fun w h => ?_
  (repeat with_reducible refine bA h ?_)
  refine mR (s := r.e.key) (by omega) h fun w h => ?_
  (repeat with_reducible refine bA h ?_)
  refine mR (s := r.e.text) (by omega) h fun w h => ?_
  have hb2 : dx Tryz.prog 9 4 [(0, .string (bs (jI r.e.node))), (1, .string (bs (jI r.e.cls))), (2, .string (bs (jI r.e.key))), (3, .string (bs (jI r.e.text)))] = some (((kM r).map fun x => Value.string (bs x)).toArray) := by kernel_rfl
  refine iD (m := kM r) (f := cSt) (es := 1) CSt h u32 hb2 (by simp [kM]) fun vb w h => ?_
  have hva : OneV va := fT h.f1
  have hvb : OneV vb := fT h
  have hb3 : dx Tryz.prog 32 2 [(0, va), (1, vb)] = some #[va, vb] := by
    obtain ⟨a1, n1, c1, rfl⟩ : ∃ a n c, va = .slice a n c := by
      obtain ⟨a, c, e, _⟩ := (dw h.f1).cap
      exact ⟨_, _, _, e⟩
    obtain ⟨a2, n2, c2, rfl⟩ : ∃ a n c, vb = .slice a n c := by
      obtain ⟨a, c, e, _⟩ := (dw h).cap
      exact ⟨_, _, _, e⟩
    kernel_rfl
  refine gy (es := 1) h u297 hb3 rfl fun vv w h => ?_
  rw [← Rf] at h
  refine IE (xs := numsL r) (ys := kM r) (a := va) (b := vb) (L := L) (by simp [numsL]) (by simp [kM]) (by simp [numsL, kM]) (h.got) fun rv w h => ?_
  have hrd := dw h
  have hlen := Rj F
  refine O5 (x := Lib.itoa r.id) (y := Lib.itoa r.e.level) (r := [Lib.itoa r.tally, dJ r.first, dJ r.last, if r.acked = true then r.who else [45]] ++ kM r) hrd (by simp [kM]) (by
    have : dS r = Lib.join (Lib.itoa r.id :: Lib.itoa r.e.level :: ([Lib.itoa r.tally, dJ r.first, dJ r.last, if r.acked = true then r.who else [45]] ++ kM r)) [32] := rfl
    rw [← this]; omega) h fun w h => ?_
  exact hK _ h.drop
theorem OW {r : Row} (F : LFit r) (A : fF w0) (T : gQ Tryz.prog w0) (h : Sat w0 L w) (hK : ∀ w', Sat w0 L w' → K (.string (bs (dS r))) w') : ai G74 [fQ r] w K := by
  refine c74 ?_
  unfold F74 Ny LC
  refine cB h rfl fun p w h => ?_
  (repeat(first
|simp(disch:=omega)only[evA,evB,evC,af,ag]
|with_reducible refine bA h ?_))
  refine yG A T h F.first fun w h => ?_
  (repeat(first
|simp(disch:=omega)only[evA,evB,evC,af,ag]
|with_reducible refine bA h ?_))
  refine yG A T h F.last fun w h => ?_
  cases g : r.acked
  · (repeat(first
|simp(disch:=omega)only[evA,evB,evC,af,ag,g]
|with_reducible refine bA h ?_))
    have := BM (r := r) (L := L) (w := w) (K := K) F A T h hK
    rw [g] at this
    exact this
  · (repeat(first
|simp(disch:=omega)only[evA,evB,evC,af,ag,g]
|with_reducible refine bA h ?_))
    have := BM (r := r) (L := L) (w := w) (K := K) F A T h hK
    rw [g] at this
    exact this
end
end Go.Proofs.Gong

/- Qs5 -/
namespace Go.Proofs.Gong
open Go Go.Sx Go.Proofs
set_option maxRecDepth 100000
def Nu (w : World) : Prop := ∃ m, w.cell? ⟨6, 0, none⟩ = some (.int .i64 m)
theorem Jw {l : List (List UInt8)} {i : Nat} (hi : i < l.length) : ((l.take (i + 1)).filter (· ≠ [])) = (l.take i).filter (· ≠ []) ++ if l[i] = [] then [] else [l[i]] := by
  rw [List.take_succ_eq_append_getElem hi, List.filter_append]
  congr 1
  by_cases h : l[i] = [] <;> simp [h]
attribute [local irreducible] aD bY bO eqv dB Cl bS LsH SlH ld1 ldN st ai bT aY dF bI bz bE aJ aB bK bZ
section
variable {w0 w : World} {L : List HP} {K : Value → World → Prop} {s : List UInt8} {l : List (List UInt8)} {sv : Value}
theorem qK (hl : l.length ≤ 1000000) (hK : ∀ v w', Sat w0 (LsH cSt 1 9 v (l.filter (· ≠ [])) :: L) w' → K v w') : ∀ (k i n : Nat) (ov : Value) (w : World), i + k = l.length → k < n → Sat w0 (LsH cSt 1 9 ov ((l.take i).filter (· ≠ [])) :: LsH cSt 1 9 sv l :: L) w → nH n ov sv (.int .i64 l.length) (.int .i64 (i : Nat)) w K
  | 0, i, n, ov, w, hi, hn, h => by
    obtain ⟨n, rfl⟩ : ∃ q, n = q + 1 := ⟨n - 1, by omega⟩
    have him : i = l.length := by omega
    subst him
    have g' : decide ((l.length : Int) < (l.length : Int)) = false := by simp
    rw [nH]
    unfold Jl D9
    (repeat simp(disch:=omega)only[evA,evB,evC,af,ag,g'])
    unfold ug Ml
    rw [List.take_length] at h
    exact hK _ _ (h.got)
  | k + 1, i, n, ov, w, hi, hn, h => by
    obtain ⟨n, rfl⟩ : ∃ q, n = q + 1 := ⟨n - 1, by omega⟩
    have hil : i < l.length := by omega
    have g' : decide ((i : Int) < (l.length : Int)) = true := by simpa using hil
    have hrd : Rd w 1 sv l.length (l.flatMap cSt) := dw (h.frt (A := LsH cSt 1 9 sv l))
    have f1 := fV hrd hil
    have f2 : ld1 (elP 1 sv i) w = some (.string (bs l[i])) := fG (g := fun x : List UInt8 => .string (bs x)) hrd hil
    have e2 : (i : Int) + 1 = ((i + 1 : Nat) : Int) := by omega
    have hw := Jw hil
    rw [nH]
    unfold Jl D9
    (repeat(first
|simp(disch:=omega)only[evA,evB,evC,af,ag,g']
|refine ax (f1 ..) ?_))
    rw [f2]
    have hfl : ((l.take i).filter (· ≠ [])).length ≤ 1000000 := by
      have h1 := List.length_filter_le (fun x : List UInt8 => decide (x ≠ [])) (l.take i)
      rw [List.length_take] at h1
      omega
    by_cases g : l[i] = []
    · rw [if_pos g, List.append_nil] at hw
      have gd : decide (l[i] = []) = true := by simpa using g
      (repeat simp(disch:=omega)only[evA,evB,evC,af,ag,gd])
      unfold CE D8
      (repeat simp(disch:=omega)only[evA,evB,evC,af,ag])
      rw [e2]
      exact qK hl hK k (i + 1) n ov w (by omega) (by omega) (by rw [hw]; exact h)
    · rw [if_neg g] at hw
      have gd : decide (l[i] = []) = false := by simpa using g
      (repeat simp(disch:=omega)only[evA,evB,evC,af,ag,gd])
      refine jQ (f := cSt) (x := l[i]) CSt h u32 (c := #[.string (bs l[i])]) (by kernel_rfl) rfl fun tv w h => ?_
      have hrt := dw h
      refine fI (f := cSt) (es := 1) (m := [l[i]]) (L := LsH cSt 1 9 tv [l[i]] :: LsH cSt 1 9 sv l :: L) CSt (h.got) Qn (by kernel_rfl) hrt (by simp only [List.length_singleton]; omega) fun ov2 w h => ?_
      unfold CE D8
      (repeat simp(disch:=omega)only[evA,evB,evC,af,ag])
      rw [e2]
      exact qK hl hK k (i + 1) n ov2 w (by omega) (by omega) (by rw [hw]; exact h.got)
theorem vV : ∀ (s : List UInt8), (eF s).length ≤ s.length + 1
  | [] => by simp [eF]
  | c :: s => by
    have := vV s
    unfold eF
    split
    · simp; omega
    · split
      · simp
      · rename_i x r h
        rw [h] at this
        simp at this ⊢; omega
theorem qJ (M : Nu w0) (hs : s.length ≤ 10000) (h : Sat w0 L w) (hK : ∀ v w', Sat w0 (LsH cSt 1 9 v (uz s) :: L) w' → K v w') : ai G41 [.string (bs s)] w K := by
  refine c41 ?_
  unfold F41 NL Mm
  obtain ⟨m, hm⟩ := M
  refine Oe (sep := [32]) hm h (by omega) (by simp) fun sv w h => ?_
  rw [Qm] at h
  have hsl := vV s
  have hlen := (dw h).len
  (repeat simp(disch:=omega)only[evA,evB,evC,af,ag,hlen])
  unfold Jm
  refine qK (l := eF s) (by omega) hK (eF s).length 0 fuel _ w (by omega) (by unfold fuel; omega) ?_
  exact Sat.nilLs cSt 1 9 h
theorem r9 {u : Nat} (T : gQ Tryz.prog w0) (hu : u < 1000000000000000000) (h : Sat w0 L w) (hK : ∀ w', Sat w0 L w' → K (.tuple #[.int .i64 u, .bool true]) w') : ai G70 [.string (bs (Lib.itoa (u : Int)))] w K := by
  refine c70 ?_
  unfold F70
  have hl := sJ hu
  refine IL h hl (Cj u) fun w h => ?_
  have g1 : decide ((u : Int) ≥ 0) = true := by simp
  have g2 : decide (((Lib.itoa (u : Int)).length : Int) ≤ 18) = true := by simp; omega
  have n1 : ∀ a, bEq Tryz.prog 227 a (.const .nilIface) .nilIface .nilIface = some (.bool true) := fun a => by cases a <;> kernel_rfl
  (repeat(first
|simp(disch:=omega)only[evA,evB,evC,af,ag,g1,g2]
|refine ax (n1 ..) ?_))
  refine jF T h (by omega) (by omega) fun w h => ?_
  (repeat simp(disch:=omega)only[evA,evB,evC,af,ag])
  exact hK _ h
end
end Go.Proofs.Gong

/- Qs6 -/
namespace Go.Proofs.Gong
open Go Go.Sx Go.Proofs
set_option maxRecDepth 100000
structure QFit (r : Row) : Prop where
  node : r.e.node.length ≤ 1000000000
  cls : r.e.cls.length ≤ 1000000000
  key : r.e.key.length ≤ 1000000000
  text : r.e.text.length ≤ 1000000000
def eH (w0 : World) (TP : HP) (fv : Value) (p : Row → Bool) : Prop := ∀ (L : List HP) (w : World) (r : Row) (K : Value → World → Prop), QFit r → Sat w0 (TP :: L) w → (∀ w', Sat w0 (TP :: L) w' → K (.bool (p r)) w') → gP (au T127) fv [fQ r] w K
attribute [local irreducible] aD bY bO eqv dB Cl bS LsH SlH ld1 ldN st ai bT aY dF bI bz bE aJ aB bK bZ
section
variable {w0 w : World} {L : List HP} {K : Value → World → Prop} {TP : HP} {r : Row} {sv : Value} {fvs : List Value} {ps : List (Row → Bool)}
theorem JV {fv : Value} {p : Row → Bool} {b : Nat} (hr : QFit r) (hT : eH w0 TP fv p) (h : Sat w0 (TP :: Cl b (bR r).toArray 48 :: L) w) (hK : ∀ w', Sat w0 (TP :: Cl b (bR r).toArray 48 :: L) w' → K (.bool (!p r)) w') : ai Yp [fv, .pointer (some ⟨b, 0, none⟩)] w K := by
  refine c127 ?_
  unfold Y7
  (repeat with_reducible refine bA h ?_)
  refine hT _ w r _ hr h fun w' h' => ?_
  (repeat simp(disch:=omega)only[evA,evB,evC,af,ag])
  exact hK w' h'
theorem Hm {fns : Value} {b : Nat} (hr : QFit r) (hfn : fns = .func (.func 127) #[] #[.pointer (some ⟨b, 0, none⟩)]) (hlen : fvs.length = ps.length) (hl : fvs.length ≤ 1000000) (hT : ∀ i (h1 : i < fvs.length) (h2 : i < ps.length), eH w0 TP fvs[i] ps[i]) (hrd : ∀ w', Sat w0 (TP :: Cl b (bR r).toArray 48 :: L) w' → Rd w' 1 sv fvs.length (fvs.flatMap fun x => [x]))
    (hK : ∀ (v : Int) w', (0 ≤ v ↔ ∃ p ∈ ps, p r = false) → -1 ≤ v → v ≤ 1000000 → Sat w0 (TP :: Cl b (bR r).toArray 48 :: L) w' → K (.int .i64 v) w') : ∀ (k i n : Nat) (w : World), i + k = fvs.length → k < n → (∀ p ∈ ps.take i, p r = true) → Sat w0 (TP :: Cl b (bR r).toArray 48 :: L) w → jW n sv fns (.int .i64 fvs.length) (.int .i64 (i : Nat)) w K
  | 0, i, n, w, hi, hn, hp, h => by
    obtain ⟨n, rfl⟩ : ∃ q, n = q + 1 := ⟨n - 1, by omega⟩
    have him : i = fvs.length := by omega
    subst him
    have g' : decide ((fvs.length : Int) < (fvs.length : Int)) = false := by simp
    rw [jW]
    unfold xH
    (repeat simp(disch:=omega)only[evA,evB,evC,af,ag,g'])
    unfold vH EU
    refine hK (-1) w ⟨fun h => by omega, fun ⟨p, h1, h2⟩ => ?_⟩ (by omega) (by omega) h
    rw [hlen, List.take_length] at hp
    rw [hp p h1] at h2; cases h2
  | k + 1, i, n, w, hi, hn, hp, h => by
    obtain ⟨n, rfl⟩ : ∃ q, n = q + 1 := ⟨n - 1, by omega⟩
    have hil : i < fvs.length := by omega
    have hip : i < ps.length := by omega
    have g' : decide ((i : Int) < (fvs.length : Int)) = true := by simpa using hil
    have hrd' := hrd w h
    have e1 := fV hrd' hil
    have e2 : ld1 (elP 1 sv i) w = some fvs[i] := fG (g := fun x : Value => x) hrd' hil
    rw [jW]
    unfold xH
    (repeat(first
|simp(disch:=omega)only[evA,evB,evC,af,ag,g']
|refine ax (e1 ..) ?_))
    rw [e2]
    simp only [ak]
    subst hfn
    show ai (au DR 127) _ _ _
    refine JV hr (hT i hil hip) h fun w h => ?_
    cases hv : ps[i] r
    · (repeat simp(disch:=omega)only[evA,evB,evC,af,ag])
      refine hK i w ⟨fun _ => ⟨ps[i], List.getElem_mem hip, hv⟩, fun _ => by omega⟩ (by omega) (by omega) h
    · (repeat simp(disch:=omega)only[evA,evB,evC,af,ag])
      have e3 : (i : Int) + 1 = ((i + 1 : Nat) : Int) := by omega
      rw [e3]
      refine Hm hr rfl hlen hl hT hrd hK k (i + 1) n w (by omega) (by omega) (fun p hp2 => ?_) h
      rw [List.take_succ_eq_append_getElem hip] at hp2
      rcases List.mem_append.1 hp2 with hp2 | hp2
      · exact hp p hp2
      · obtain rfl := List.mem_singleton.1 hp2
        exact hv
end
end Go.Proofs.Gong

/- Qs7 -/
namespace Go.Proofs.Gong
open Go Go.Sx Go.Proofs
set_option maxRecDepth 100000
theorem CRq : Cod bR 11 := ⟨fun _ => rfl, fun _ => rfl, by omega⟩
theorem Oz {l : List Row} {f : Row → Bool} {i : Nat} (hi : i < l.length) : ((l.take (i + 1)).filter f) = (l.take i).filter f ++ if f l[i] = true then [l[i]] else [] := by
  rw [List.take_succ_eq_append_getElem hi, List.filter_append]
  congr 1
  by_cases h : f l[i] = true <;> simp [h]
def passes (ps : List (Row → Bool)) (r : Row) : Bool := ps.all fun p => p r
theorem yH {ps : List (Row → Bool)} {r : Row} : passes ps r = false ↔ ∃ p ∈ ps, p r = false := by
  unfold passes
  rw [Bool.eq_false_iff, Ne, List.all_eq_true]
  constructor
  · intro h
    refine Classical.byContradiction fun hn => h fun p hp => ?_
    cases hv : p r with
    | true => rfl
    | false => exact absurd ⟨p, hp, hv⟩ hn
  · rintro ⟨p, h1, h2⟩ h
    rw [h p h1] at h2; cases h2
attribute [local irreducible] aD bY bO eqv dB Cl bS LsH SlH ld1 ldN st ai bT aY dF bI bz bE aJ aB bK bZ
section
variable {w0 w : World} {L : List HP} {K : Value → World → Prop} {TP : HP} {r : Row} {sv rv ord : Value} {fvs : List Value} {ps : List (Row → Bool)} {l : List Row} {lim : Int} {q b : Nat}
theorem JG (hr : QFit r) (hlen : fvs.length = ps.length) (hl : fvs.length ≤ 1000000) (hT : ∀ i (h1 : i < fvs.length) (h2 : i < ps.length), eH w0 TP fvs[i] ps[i]) (hrd : ∀ w', Sat w0 (TP :: Cl b (bR r).toArray 48 :: L) w' → Rd w' 1 sv fvs.length (fvs.flatMap fun x => [x])) (h : Sat w0 (TP :: Cl b (bR r).toArray 48 :: L) w)
    (hK : ∀ w', Sat w0 (TP :: Cl b (bR r).toArray 48 :: L) w' → K (.bool (!passes ps r)) w') : ai TY [sv, .func (.func 127) #[] #[.pointer (some ⟨b, 0, none⟩)]] w K := by
  refine c126 ?_
  unfold Y8
  refine c175 ?_
  unfold UQ EX EW
  have hlv := (hrd w h).len
  (repeat simp(disch:=omega)only[evA,evB,evC,af,ag,hlv])
  unfold Ae
  refine Hm hr rfl hlen hl hT hrd (fun v w' hv h1 h2 h' => ?_) fvs.length 0 fuel w (by omega) (by unfold fuel; omega) (by simp) h
  have e : decide (v ≥ 0) = !passes ps r := by
    cases hp : passes ps r with
    | true =>
      simp only [Bool.not_true, decide_eq_false_iff_not]
      intro hge
      have := yH.2 (hv.1 hge)
      rw [hp] at this; cases this
    | false =>
      simp only [Bool.not_false, decide_eq_true_eq]
      exact hv.2 (yH.1 hp)
  (repeat simp(disch:=omega)only[evA,evB,evC,af,ag])
  rw [e]
  exact hK w' h'
theorem qU (htf : ∀ r ∈ l, QFit r) (hlen : fvs.length = ps.length) (hfl : fvs.length ≤ 1000000) (hl : l.length ≤ 1000000) (hT : ∀ i (h1 : i < fvs.length) (h2 : i < ps.length), eH w0 TP fvs[i] ps[i]) (hrd : ∀ (L' : List HP) w', Sat w0 (TP :: L') w' → Rd w' 1 sv fvs.length (fvs.flatMap fun x => [x])) (o1 : OneV sv)
    (hK : ∀ ov w', Sat w0 (TP :: LsH bR 11 48 ov (l.filter (passes ps)) :: LsH bR 11 48 rv l :: Cl q #[sv, ord, .int .i64 lim] 135 :: L) w' → qD (.pointer (some ⟨q, 0, none⟩)) ov w' K) : ∀ (k i n : Nat) (ov : Value) (w : World), i + k = l.length → k < n →
    Sat w0 (TP :: LsH bR 11 48 ov ((l.take i).filter (passes ps)) :: LsH bR 11 48 rv l :: Cl q #[sv, ord, .int .i64 lim] 135 :: L) w → nD n (.pointer (some ⟨q, 0, none⟩)) ov rv (.int .i64 l.length) (.int .i64 (i : Nat)) w K
  | 0, i, n, ov, w, hi, hn, h => by
    obtain ⟨n, rfl⟩ : ∃ q, n = q + 1 := ⟨n - 1, by omega⟩
    have him : i = l.length := by omega
    subst him
    have g' : decide ((l.length : Int) < (l.length : Int)) = false := by simp
    rw [nD]
    unfold I7 DZ
    (repeat simp(disch:=omega)only[evA,evB,evC,af,ag,g'])
    rw [List.take_length] at h
    exact hK ov w h
  | k + 1, i, n, ov, w, hi, hn, h => by
    obtain ⟨n, rfl⟩ : ∃ q, n = q + 1 := ⟨n - 1, by omega⟩
    have hil : i < l.length := by omega
    have g' : decide ((i : Int) < (l.length : Int)) = true := by simpa using hil
    have hr : Rd w 11 rv l.length (l.flatMap bR) := dw (h.frt (A := LsH bR 11 48 rv l))
    have f1 := fV hr hil
    have f2 : ldN 11 (elP 11 rv i) w = some (fQ l[i]) := wz CRq hr hil
    have e2 : (i : Int) + 1 = ((i + 1 : Nat) : Int) := by omega
    have hpk := Oz (f := passes ps) hil
    rw [nD]
    unfold I7 DZ
    (repeat(first
|simp(disch:=omega)only[evA,evB,evC,af,ag,g']
|refine ax (f1 ..) ?_))
    rw [f2]
    simp only [ak]
    refine cu h z48 rfl fun p w h => ?_
    (repeat(first
|with_reducible refine bA h ?_
|((with_reducible apply dO h);rfl;rfl;(first|rfl|simp[OneV.o]);intro _ h)))
    refine JG (TP := TP) (fvs := fvs) (ps := ps) (r := l[i]) (b := p) (L := LsH bR 11 48 ov ((l.take i).filter (passes ps)) :: LsH bR 11 48 rv l :: Cl q #[sv, ord, .int .i64 lim] 135 :: L) (htf _ (List.getElem_mem hil)) hlen hfl hT (fun w' h' => hrd _ w' h') (h.got) fun w h => ?_
    have hfl2 : ((l.take i).filter (passes ps)).length ≤ 1000000 := by
      have h1 := List.length_filter_le (passes ps) (l.take i)
      rw [List.length_take] at h1
      omega
    cases hp : passes ps l[i]
    · rw [hp] at hpk
      simp only [Bool.false_eq_true, if_false, List.append_nil] at hpk
      (repeat simp(disch:=omega)only[evA,evB,evC,af,ag])
      unfold Cr DY
      (repeat simp(disch:=omega)only[evA,evB,evC,af,ag])
      rw [e2]
      exact qU htf hlen hfl hl hT hrd o1 hK k (i + 1) n ov w (by omega) (by omega) (by rw [hpk]; exact h.got)
    · rw [hp] at hpk
      simp only [if_true] at hpk
      (repeat(first
|simp(disch:=omega)only[evA,evB,evC,af,ag]
|with_reducible refine bA h ?_))
      have hb : dx Tryz.prog 48 1 [(0, fQ l[i])] = some (bR l[i]).toArray := by kernel_rfl
      refine iD (m := [l[i]]) (f := bR) (es := 11) CRq h u22 hb (by simp) fun tv w h => ?_
      have hrt := dw h
      refine fI (f := bR) (es := 11) (m := [l[i]]) (L := LsH bR 11 48 tv [l[i]] :: TP :: LsH bR 11 48 rv l :: Cl q #[sv, ord, .int .i64 lim] 135 :: L) CRq (h.got) Oj (by kernel_rfl) hrt (by simp only [List.length_singleton]; omega) fun ov2 w h => ?_
      unfold Cr DY
      (repeat simp(disch:=omega)only[evA,evB,evC,af,ag])
      rw [e2]
      exact qU htf hlen hfl hl hT hrd o1 hK k (i + 1) n ov2 w (by omega) (by omega) (by rw [hpk]; exact h.got)
theorem Kb {lt : Row → Row → Bool} (htf : ∀ r ∈ l, QFit r) (hlen : fvs.length = ps.length) (hfl : fvs.length ≤ 1000000) (hl : l.length ≤ 1000000) (hT : ∀ i (h1 : i < fvs.length) (h2 : i < ps.length), eH w0 TP fvs[i] ps[i]) (hrd : ∀ (L' : List HP) w', Sat w0 (TP :: L') w' → Rd w' 1 sv fvs.length (fvs.flatMap fun x => [x])) (o1 : OneV sv) (o2 : OneV ord)
    (hS : ∀ (L' : List HP) (ov : Value) (m : List Row) (w : World) (K : Value → World → Prop), m.length ≤ 1000000 → Sat w0 (LsH bR 11 48 ov m :: TP :: L') w → (∀ m' w', m'.Perm m → m'.Pairwise (fun x y => lt y x = false) → Sat w0 (LsH bR 11 48 ov m' :: TP :: L') w' → K (.tuple #[]) w') → ai LA [ov, ord] w K)
    (hlim : -1 ≤ lim) (h : Sat w0 (TP :: LsH bR 11 48 rv l :: L) w)
    (hK : ∀ v m w', m.Perm (l.filter (passes ps)) → m.Pairwise (fun x y => lt y x = false) → Sat w0 (TP :: LsH bR 11 48 v (if 0 ≤ lim then m.take lim.toNat else m) :: LsH bR 11 48 rv l :: L) w' → K v w') :
    ai G72 [.agg #[sv, ord, .int .i64 lim], rv] w K := by
  refine c72 ?_
  unfold F72 Nz LF
  refine cB h (l := [sv, ord, .int .i64 lim]) rfl fun q w h => ?_
  have hr : Rd w 11 rv l.length (l.flatMap bR) := dw (h.frt (A := LsH bR 11 48 rv l))
  have hlv := hr.len
  (repeat simp(disch:=omega)only[evA,evB,evC,af,ag,hlv])
  unfold I8
  have h0 : Sat w0 (TP :: LsH bR 11 48 (.slice none 0 0) ((l.take 0).filter (passes ps)) :: LsH bR 11 48 rv l :: Cl q #[sv, ord, .int .i64 lim] 135 :: L) w := (Sat.nilLs bR 11 48 h).got
  refine qU htf hlen hfl hl hT hrd o1 (fun ov w h => ?_) l.length 0 fuel _ w (by omega) (by unfold fuel; omega) h0
  unfold qD LD
  (repeat(first
|simp(disch:=omega)only[evA,evB,evC,af,ag]
|with_reducible refine bA h ?_))
  have hml : (l.filter (passes ps)).length ≤ 1000000 := by
    have h1 := List.length_filter_le (passes ps) l
    omega
  refine hS (LsH bR 11 48 rv l :: Cl q #[sv, ord, .int .i64 lim] 135 :: L) ov _ w _ hml (h.got) fun m w hp hs h => ?_
  have hmm : m.length ≤ 1000000 := by rw [hp.length_eq]; exact hml
  have hml2 : bI ov = some (.int .i64 (m.length : Nat)) := (dw h).len
  by_cases g : 0 ≤ lim
  · have d1 : decide (lim ≥ 0) = true := by simpa using g
    by_cases g2 : lim < (m.length : Int)
    · have d2 : decide (lim < (m.length : Int)) = true := by simpa using g2
      (repeat(first
|simp(disch:=omega)only[evA,evB,evC,af,ag,d1,hml2,d2]
|with_reducible refine bA h ?_))
      obtain ⟨n, rfl⟩ : ∃ n : Nat, lim = n := ⟨lim.toNat, by omega⟩
      have hn : n ≤ m.length := by omega
      obtain ⟨v', e, h'⟩ := Kk (f := bR) (es := 11) CRq h (A := none) (H := some (.int .i64 (n : Nat))) (M := none) (lo := 0) (hi := n) .none (.some _ _) (.none _) (Nat.zero_le _) hn
      refine ax e ?_
      unfold zO zN
      refine hK v' m w hp hs ?_
      rw [if_pos g]
      rw [List.drop_zero] at h'
      exact h'.got
    · have d2 : decide (lim < (m.length : Int)) = false := by simpa using g2
      (repeat(first
|simp(disch:=omega)only[evA,evB,evC,af,ag,d1,hml2,d2]
|with_reducible refine bA h ?_))
      unfold zO zN
      refine hK ov m w hp hs ?_
      rw [if_pos g, List.take_of_length_le (by omega)]
      exact h.got
  · have d1 : decide (lim ≥ 0) = false := by simpa using g
    (repeat(first
|simp(disch:=omega)only[evA,evB,evC,af,ag,d1]
|with_reducible refine bA h ?_))
    unfold zO zN
    refine hK ov m w hp hs ?_
    rw [if_neg g]
    exact h.got
end
end Go.Proofs.Gong

/- Qs8 -/
namespace Go.Proofs.Gong
open Go Go.Sx Go.Proofs
set_option maxRecDepth 100000
def KW (a b : Int) : Int := if a < b then -1 else if b < a then 1 else 0
def cfQ (key : Row → Int) (x y : Row) : Int := (([KW (key y) (key x), KW x.id y.id] : List Int).find? (fun c => decide (c ≠ 0))).getD 0
def ltQ (key : Row → Int) (x y : Row) : Bool := decide (key y < key x) || (decide (key y = key x) && decide (x.id < y.id))
theorem X9 (key : Row → Int) (x y : Row) : cfQ key x y < 0 ↔ ltQ key x y = true := by
  unfold cfQ ltQ KW
  rcases Int.lt_trichotomy (key y) (key x) with h | h | h
  · simp [h]
  · rcases Int.lt_trichotomy x.id y.id with g | g | g
    · simp [h, g]
    · simp [h, g]
    · have g2 : ¬ x.id < y.id := by omega
      simp [h, g, g2]
  · have h2 : ¬ key y < key x := by omega
    have h3 : ¬ key y = key x := by omega
    simp [h, h2, h3]
theorem XD (key : Row → Int) : SWO (ltQ key) := by
  have e : ∀ a b, ltQ key a b = true ↔ key b < key a ∨ (key b = key a ∧ a.id < b.id) := fun a b => by simp [ltQ]
  have e2 : ∀ a b, ltQ key a b = false ↔ ¬ (key b < key a ∨ (key b = key a ∧ a.id < b.id)) := fun a b => by rw [← e]; simp
  refine ⟨fun a b h => ?_, fun a b c h1 h2 => ?_⟩
  · rw [e] at h; rw [e2]; omega
  · rw [e2] at *; omega
def qC (fv : Value) (key : Row → Int) : Prop := ∀ (w0 : World) (L : List HP) (w W : World) (r : Row) (K : Value → World → Prop), Sat w0 L w → Gr W w → (∀ w', Sat w0 L w' → Gr W w' → K (.int .i64 (key r)) w') → gP (au Yh) fv [fQ r] w K
attribute [local irreducible] aD bY bO eqv dB Cl bS LsH SlH ld1 ldN st ai bT aY dF bI bz bE aJ aB bK bZ
theorem key_id : qC (.func (.func 114) #[] #[]) (fun _ => 0) := by
  intro w0 L w W r K h g hK
  show ai Ui [fQ r] w K
  refine c114 ?_
  unfold Zi
  refine lJ h g fun p w' h' g' => ?_
  exact hK _ h'.drop g'
theorem Rt : qC (.func (.func 115) #[] #[]) (fun r => r.last) := by
  intro w0 L w W r K h g hK
  show ai Uh [fQ r] w K
  refine c115 ?_
  unfold Zh
  refine lJ h g fun p w' h' g' => ?_
  simp only [kE] at h'
  have h := h'
  (repeat(first
|simp(disch:=omega)only[evA,evB,evC,af,ag]
|with_reducible refine bA h ?_))
  exact hK _ h'.drop g'
theorem O1 : qC (.func (.func 116) #[] #[]) (fun r => r.e.level) := by
  intro w0 L w W r K h g hK
  show ai Ug [fQ r] w K
  refine c116 ?_
  unfold Zg
  refine lJ h g fun p w' h' g' => ?_
  simp only [kE] at h'
  have h := h'
  (repeat(first
|simp(disch:=omega)only[evA,evB,evC,af,ag,Nat.reduceAdd]
|with_reducible refine bA h ?_))
  exact hK _ h'.drop g'
theorem O0 : qC (.func (.func 117) #[] #[]) (fun r => r.tally) := by
  intro w0 L w W r K h g hK
  show ai Uf [fQ r] w K
  refine c117 ?_
  unfold Zf
  refine lJ h g fun p w' h' g' => ?_
  simp only [kE] at h'
  have h := h'
  (repeat(first
|simp(disch:=omega)only[evA,evB,evC,af,ag,Nat.reduceAdd]
|with_reducible refine bA h ?_))
  exact hK _ h'.drop g'
section
variable {w0 w : World} {L : List HP} {K : Value → World → Prop} {fv : Value} {key : Row → Int} {ob : Nat}
theorem PE (hk : qC fv key) (o1 : OneV fv) (h : Sat w0 (Cl ob #[fv] 161 :: L) w) (x y : Row) : ai G118 [fQ x, fQ y, .pointer (some ⟨ob, 0, none⟩)] w fun v w' => v = .int .i64 (cfQ key x y) ∧ Gr w w' := by
  refine c118 ?_
  unfold Ze
  refine lJ h (Gr.refl w) fun p w1 h1 g1 => ?_
  refine lJ h1 g1 fun q w2 h2 g2 => ?_
  simp only [kE] at h2
  have h := h2
  (repeat(first
|simp(disch:=omega)only[evA,evB,evC,af,ag]
|with_reducible refine bA h ?_))
  have h := h2.drew
  refine hk _ _ _ _ y _ h2.drew g2.drew fun w3 h3 g3 => ?_
  have h := h3
  (repeat with_reducible refine bA h ?_)
  refine hk _ _ _ _ x _ h3 g3 fun w4 h4 g4 => ?_
  have h := h4
  (repeat with_reducible refine bA h ?_)
  refine zo ?_
  (repeat with_reducible refine bA h ?_)
  refine zo ?_
  refine Iq (f := cI) (es := 1) (m := [KW (key y) (key x), KW x.id y.id]) (c := #[.int .i64 (KW (key y) (key x)), .int .i64 (KW x.id y.id)]) CI h4 g4 u23 (by kernel_rfl) rfl fun s w5 h5 g5 => ?_
  refine Vp (dw h5) (by simp) ?_
  exact ⟨rfl, g5⟩
theorem U9 {TP : HP} (hk : qC fv key) (o1 : OneV fv) (L' : List HP) (ov : Value) (m : List Row) (w : World) (K : Value → World → Prop) (hm : m.length ≤ 1000000) (h : Sat w0 (LsH bR 11 48 ov m :: HSt (Cl ob #[fv] 161) TP :: L') w)
    (hK : ∀ m' w', m'.Perm m → m'.Pairwise (fun x y => ltQ key y x = false) → Sat w0 (LsH bR 11 48 ov m' :: HSt (Cl ob #[fv] 161) TP :: L') w' → K (.tuple #[]) w') : ai LA [ov, .func (.func 118) #[] #[.pointer (some ⟨ob, 0, none⟩)]] w K := by
  haveI : Inhabited Row := ⟨⟨0, ⟨[], [], [], 0, []⟩, 0, 0, 0, false, []⟩⟩
  refine BB (cf := cfQ key) (lt := ltQ key) (cb := [.pointer (some ⟨ob, 0, none⟩)]) h (by omega) CRq (XD key) (X9 key) ok118 Tryz.call118 (fun W l2 hl2 h2 x y => ?_) hK
  have h3 : Sat w0 (HSt (Cl ob #[fv] 161) TP :: LsH bR 11 48 ov l2 :: L') W := h2.f1
  exact PE hk o1 (Sat.star_iff.1 h3) x y
end
end Go.Proofs.Gong

/- Qs9 -/
namespace Go.Proofs.Gong
open Go Go.Sx Go.Proofs
set_option maxRecDepth 100000
instance {f : _} {a : _} {b : _} : OneV (.func f a b) := ⟨rfl, rfl⟩
instance : OneV .nilFunc := ⟨rfl, rfl⟩
abbrev OV := { v : Value // OneV v }
abbrev cOV (x : OV) : List Value := [x.1]
theorem COV : Cod cOV 1 := ⟨fun _ => rfl, fun x => by simp [cOV, x.2.o], by omega⟩
def vo (w0 : World) (FP : HP) (fv : Value) (ps : List (Row → Bool)) (lt : Row → Row → Bool) (lim : Int) : Prop :=
  (∃ a b, fv = .agg #[a, b, .int .i64 lim] ∧ OneV a ∧ OneV b) ∧ ∀ (l : List Row) (rv : Value) (L : List HP) (w : World) (K : Value → World → Prop), (∀ r ∈ l, QFit r) → l.length ≤ 1000000 → Sat w0 (FP :: LsH bR 11 48 rv l :: L) w →
    (∀ v m w', m.Perm (l.filter (passes ps)) → m.Pairwise (fun x y => lt y x = false) → Sat w0 (FP :: LsH bR 11 48 v (if 0 ≤ lim then m.take lim.toNat else m) :: LsH bR 11 48 rv l :: L) w' → K v w') → ai G72 [fv, rv] w K
attribute [local irreducible] aD bY bO eqv dB Cl bS LsH SlH ld1 ldN st ai bT aY dF bI bz bE aJ aB bK bZ
section
variable {w0 w : World} {L : List HP} {K : Value → World → Prop} {TP : HP} {key : Row → Int} {fv sv wv : Value} {ob : Nat} {fvs : List OV} {ps : List (Row → Bool)} {lim : Int}
theorem XY (hk : qC fv key) (o1 : OneV fv) (hlen : fvs.length = ps.length) (hfl : fvs.length ≤ 1000000) (hlim : -1 ≤ lim) (os : OneV sv)
    (hT : ∀ i (h1 : i < fvs.length) (h2 : i < ps.length), eH w0 (HSt (Cl ob #[fv] 161) (HSt (LsH cOV 1 166 sv fvs) TP)) fvs[i].1 ps[i]) :
    vo w0 (HSt (Cl ob #[fv] 161) (HSt (LsH cOV 1 166 sv fvs) TP)) (.agg #[sv, .func (.func 118) #[] #[.pointer (some ⟨ob, 0, none⟩)], .int .i64 lim]) ps (ltQ key) lim := by
  refine ⟨⟨_, _, rfl, os, inferInstance⟩, fun l rv L w K htf hl h hK => ?_⟩
  refine Kb (TP := HSt (Cl ob #[fv] 161) (HSt (LsH cOV 1 166 sv fvs) TP)) (fvs := fvs.map (·.1)) (ps := ps) (lt := ltQ key) htf (by simpa using hlen) (by simpa using hfl) hl (fun i h1 h2 => by simpa using hT i (by simpa using h1) h2) (fun L' w' h' => ?_) os inferInstance (fun L' ov m w K hm h hK => U9 hk o1 L' ov m w K hm h hK) hlim h hK
  have h2 := Sat.star_iff.1 (Sat.star_iff.1 h').drop
  have h3 := dw h2
  have e : (fvs.map (·.1)).flatMap (fun x => [x]) = fvs.flatMap cOV := by rw [List.flatMap_map]
  rw [e, List.length_map]; exact h3
theorem Kn {u : Nat} (T : gQ Tryz.prog w0) (hu : u ≤ 5) (h : Sat w0 L w) (hK : ∀ nb w', Sat w0 (Cl nb #[.int .i64 u] 3 :: L) w' → K (.tuple #[.func (.func 172) #[] #[.pointer (some ⟨nb, 0, none⟩)], .bool true]) w') : ai Ub [.string (bs (Lib.itoa (u : Int)))] w K := by
  refine c123 ?_
  unfold Zb
  refine r9 T (by omega) h fun w h => ?_
  have g : decide ((u : Int) ≤ 5) = true := by simp only [decide_eq_true_eq]; omega
  (repeat(first
|simp(disch:=omega)only[evA,evB,evC,af,ag,g]
|with_reducible refine bA h ?_
|((with_reducible refine gH h ?_);intro _ h)
|((with_reducible apply cu h);(first|exact z3);rfl;intro _ _ h)))
  exact hK _ _ h.drew
end
end Go.Proofs.Gong

/- Qt0 -/
namespace Go.Proofs.Gong
open Go Go.Sx Go.Proofs
set_option maxRecDepth 100000
structure QSt where
  ps : List (Row → Bool)
  ord : Option (Row → Int)
  lim : Int
def fZ (s : List UInt8) : Option (Row → Int) :=
  if s = [105, 100] then some fun _ => 0 else if s = [108, 97, 115, 116] then some fun r => r.last else if s = [108, 101, 118, 101, 108] then some fun r => r.e.level else if s = [116, 97, 108, 108, 121] then some fun r => r.tally else none
def dA : List UInt8 := [111, 114, 100, 101, 114]
def bX : List UInt8 := [108, 105, 109, 105, 116]
section
variable (ofL : List UInt8 → List UInt8 → Option (Row → Bool)) (numL : List UInt8 → Option Nat)
def gL (s : QSt) (key word : List UInt8) : Option QSt :=
  if key = dA ∧ s.ord.isNone = true ∧ (fZ word).isSome = true then some { s with ord := fZ word }
  else if key = bX ∧ s.lim < 0 then (numL word).map fun n => { s with lim := (n : Nat) }
  else (ofL key word).map fun p => { s with ps := s.ps ++ [p] }
def fu : List (List UInt8) → QSt → Option QSt
  | k :: v :: r, s => match gL ofL numL s k v with
    | none => none
    | some s' => fu r s'
  | [], s => some s
  | [_], _ => none
end
def ry (w0 : World) (ofL : List UInt8 → List UInt8 → Option (Row → Bool)) (k v : List UInt8) : Prop := ∀ (L : List HP) (w : World) (K : Value → World → Prop), Sat w0 L w → (ofL k v = none → ∀ fv w', Sat w0 L w' → K (.tuple #[fv, .bool false]) w') →
  (∀ p, ofL k v = some p → ∀ TP g c w', eH w0 TP (.func (.func g) #[] c) p → Sat w0 (TP :: L) w' → K (.tuple #[.func (.func g) #[] c, .bool true]) w') → ai G71 [.string (bs k), .string (bs v)] w K
def wT (w0 : World) (numL : List UInt8 → Option Nat) (s : List UInt8) : Prop := ∀ (L : List HP) (w : World) (K : Value → World → Prop), Sat w0 L w → (numL s = none → ∀ u w', Sat w0 L w' → K (.tuple #[.int .i64 u, .bool false]) w') →
  (∀ u : Nat, numL s = some u → ∀ w', Sat w0 L w' → K (.tuple #[.int .i64 u, .bool true]) w') → ai G70 [.string (bs s)] w K
def Qa (fv : Value) : Prop := ∃ a b c, fv = .agg #[a, b, c] ∧ OneV a ∧ OneV b ∧ OneV c
def Nv (s : List UInt8) (fv : Value) : Prop := (fZ s = none ∧ fv = .nilFunc) ∨ ∃ key n, fZ s = some key ∧ fv = .func (.func n) #[] #[] ∧ qC fv key
attribute [local irreducible] aD bY bO eqv dB Cl bS LsH SlH ld1 ldN st ai bT aY dF bI bz bE aJ aB bK bZ
theorem MV (a : Operand) : bEq Tryz.prog 133 a (.const .nilFunc) .nilFunc .nilFunc = some (.bool true) := by cases a <;> kernel_rfl
theorem QJ (a : Operand) (f : Fn) (c : _) : bEq Tryz.prog 133 a (.const .nilFunc) (.func f #[] c) .nilFunc = some (.bool false) := by cases a <;> kernel_rfl
theorem fn_nil (a : Operand) : bNe Tryz.prog 161 a (.const .nilFunc) .nilFunc .nilFunc = some (.bool false) := by cases a <;> kernel_rfl
theorem fn_fn (a : Operand) (f : Fn) (c : _) : bNe Tryz.prog 161 a (.const .nilFunc) (.func f #[] c) .nilFunc = some (.bool true) := by cases a <;> kernel_rfl
theorem eH.left {w0 : World} {A TP : HP} {fv : Value} {p : Row → Bool} (h : eH w0 TP fv p) : eH w0 (HSt A TP) fv p := fun L w r K hr hs hK =>
  h (A :: L) w r K hr (Sat.star_iff.1 hs).f1 fun w' h' => hK w' (Sat.star_iff.2 h'.f1)
theorem eH.right {w0 : World} {A TP : HP} {fv : Value} {p : Row → Bool} (h : eH w0 TP fv p) : eH w0 (HSt TP A) fv p := fun L w r K hr hs hK =>
  h (A :: L) w r K hr (Sat.star_iff.1 hs) fun w' h' => hK w' (Sat.star_iff.2 h')
theorem wC {s : List UInt8} {w : World} {K : Value → World → Prop} (hK : ∀ fv, Nv s fv → K fv w) : ai G68 [.string (bs s)] w K := by
  refine c68 ?_
  unfold F68
  by_cases g1 : s = [105, 100]
  · have d1 : decide (s = [105, 100]) = true := by simpa using g1
    (repeat simp(disch:=omega)only[evA,evB,evC,af,ag,d1])
    exact hK _ (.inr ⟨_, _, by unfold fZ; rw [if_pos g1], rfl, key_id⟩)
  have d1 : decide (s = [105, 100]) = false := by simpa using g1
  by_cases g2 : s = [108, 97, 115, 116]
  · have d2 : decide (s = [108, 97, 115, 116]) = true := by simpa using g2
    (repeat simp(disch:=omega)only[evA,evB,evC,af,ag,d1,d2])
    exact hK _ (.inr ⟨_, _, by unfold fZ; rw [if_neg g1, if_pos g2], rfl, Rt⟩)
  have d2 : decide (s = [108, 97, 115, 116]) = false := by simpa using g2
  by_cases g3 : s = [108, 101, 118, 101, 108]
  · have d3 : decide (s = [108, 101, 118, 101, 108]) = true := by simpa using g3
    (repeat simp(disch:=omega)only[evA,evB,evC,af,ag,d1,d2,d3])
    exact hK _ (.inr ⟨_, _, by unfold fZ; rw [if_neg g1, if_neg g2, if_pos g3], rfl, O1⟩)
  have d3 : decide (s = [108, 101, 118, 101, 108]) = false := by simpa using g3
  by_cases g4 : s = [116, 97, 108, 108, 121]
  · have d4 : decide (s = [116, 97, 108, 108, 121]) = true := by simpa using g4
    (repeat simp(disch:=omega)only[evA,evB,evC,af,ag,d1,d2,d3,d4])
    exact hK _ (.inr ⟨_, _, by unfold fZ; rw [if_neg g1, if_neg g2, if_neg g3, if_pos g4], rfl, O0⟩)
  have d4 : decide (s = [116, 97, 108, 108, 121]) = false := by simpa using g4
  (repeat simp(disch:=omega)only[evA,evB,evC,af,ag,d1,d2,d3,d4])
  exact hK _ (.inl ⟨by unfold fZ; rw [if_neg g1, if_neg g2, if_neg g3, if_neg g4], rfl⟩)
section
variable {w0 w : World} {L : List HP} {K : Value → World → Prop}
theorem Nq {s : List UInt8} (h : Sat w0 L w) (hK : ∀ fv ob w', Nv s fv → Sat w0 (Cl ob #[fv] 161 :: L) w' → K (.func (.func 118) #[] #[.pointer (some ⟨ob, 0, none⟩)]) w') : ai G69 [.string (bs s)] w K := by
  refine c69 ?_
  unfold F69
  refine wC fun fv hf => ?_
  have o1 : OneV fv := by
    rcases hf with ⟨_, rfl⟩ | ⟨_, _, _, rfl, _⟩ <;> infer_instance
  have zf : bO Tryz.prog 161 = some .nilFunc := by kernel_rfl
  refine cu h zf rfl fun p w h => ?_
  (repeat(first
|simp(disch:=omega)only[evA,evB,evC,af,ag]
|((with_reducible refine gH h ?_);intro _ h)))
  exact hK _ _ _ hf h
end
end Go.Proofs.Gong

/- Qt1 -/
namespace Go.Proofs.Gong
open Go Go.Sx Go.Proofs
set_option maxRecDepth 100000
def zH (o : Option (Row → Int)) (ov : Value) (OP : HP) : Prop := (o = none ∧ ov = .nilFunc) ∨ ∃ key fv ob, o = some key ∧ ov = .func (.func 118) #[] #[.pointer (some ⟨ob, 0, none⟩)] ∧ qC fv key ∧ OneV fv ∧ OP = Cl ob #[fv] 161
theorem zH.one {o : Option (Row → Int)} {ov : Value} {OP : HP} (h : zH o ov OP) : OneV ov := by
  rcases h with ⟨_, rfl⟩ | ⟨_, _, _, _, rfl, _⟩ <;> infer_instance
attribute [local irreducible] aD bY bO eqv dB Cl bS LsH SlH ld1 ldN st ai bT aY dF bI bz bE aJ aB bK bZ
section
variable {w0 w : World} {L : List HP} {K : Value → World → Prop} {ofL : List UInt8 → List UInt8 → Option (Row → Bool)} {numL : List UInt8 → Option Nat} {ws : List (List UInt8)} {R : Option QSt} {wv : Value} {p f : Nat}
abbrev zF (w0 : World) (L : List HP) (ws : List (List UInt8)) (wv : Value) (p f : Nat) (s : QSt) (fvs : List OV) (sv ov : Value) (OP TP : HP) (w : World) : Prop :=
  Sat w0 (LsH cOV 1 166 sv fvs :: OP :: TP :: Cl f #[sv, ov, .int .i64 s.lim] 135 :: Cl p #[.slice none 0 0, .nilFunc, .int .i64 0] 135 :: LsH cSt 1 9 wv ws :: L) w
theorem QA {s : QSt} {fvs : List OV} {sv ov : Value} {TP OP : HP} (hps : s.ps.length = fvs.length) (hpl : s.ps.length ≤ 1000000) (hlm : -1 ≤ s.lim) (hT : ∀ j (h1 : j < fvs.length) (h2 : j < s.ps.length), eH w0 TP fvs[j].1 s.ps[j]) (hO : zH s.ord ov OP)
    (hK : ∀ FP fv w', Qa fv → vo w0 FP fv s.ps (ltQ (s.ord.getD fun _ => 0)) s.lim → Sat w0 (FP :: L) w' → K (.tuple #[fv, .bool true]) w') (h : zF w0 L ws wv p f s fvs sv ov OP TP w) : qG (.pointer (some ⟨p, 0, none⟩)) (.pointer (some ⟨f, 0, none⟩)) w K := by
  have os : OneV sv := fT h
  have fin : ∀ (key : Row → Int) (fv : Value) (ob : Nat) (w : World), s.ord.getD (fun _ => 0) = key → qC fv key → OneV fv →
      Sat w0 (LsH cOV 1 166 sv fvs :: Cl ob #[fv] 161 :: TP :: Cl f #[sv, .func (.func 118) #[] #[.pointer (some ⟨ob, 0, none⟩)], .int .i64 s.lim] 135 :: Cl p #[.slice none 0 0, .nilFunc, .int .i64 0] 135 :: LsH cSt 1 9 wv ws :: L) w →
      CB (.pointer (some ⟨p, 0, none⟩)) (.pointer (some ⟨f, 0, none⟩)) w K := by
    intro key fv ob w hk1 hk2 of1 h
    unfold CB Mi
    (repeat(first
|with_reducible refine bA h ?_
|((with_reducible apply dO h);rfl;rfl;(first|rfl|simp[OneV.o]);intro _ h)))
    refine hK (HSt (Cl ob #[fv] 161) (HSt (LsH cOV 1 166 sv fvs) TP)) _ _ ⟨_, _, _, rfl, os, inferInstance, inferInstance⟩ (by rw [hk1]; exact XY (key := key) hk2 of1 hps.symm (by omega) hlm os fun j h1 h2 => ((hT j h1 h2).left).left) ?_
    refine Sat.star_iff.2 (Sat.f1 (Sat.star_iff.2 ?_))
    exact h.got
  unfold qG Mj
  rcases hO with ⟨ho, rfl⟩ | ⟨key, fv, ob, ho, rfl, hk2, of1, rfl⟩
  · (repeat(first
|simp(disch:=omega)only[evA,evB,evC,af,ag,MV]
|with_reducible refine bA h ?_))
    refine Nq (s := [105, 100]) h fun fv ob w hf h => ?_
    obtain ⟨hf, _⟩ | ⟨key, n, hf, rfl, hk2⟩ := hf
    · exact absurd hf (by simp [fZ])
    have ek : key = fun _ => 0 := by
      have : fZ [105, 100] = some fun _ => 0 := rfl
      rw [this] at hf; exact (Option.some.inj hf).symm
    subst ek
    (repeat ((with_reducible refine gH h ?_);intro _ h))
    exact fin _ _ ob _ (by rw [ho]; rfl) hk2 inferInstance (h.got)
  · (repeat(first
|simp(disch:=omega)only[evA,evB,evC,af,ag,QJ]
|with_reducible refine bA h ?_))
    exact fin key fv ob _ (by rw [ho]; rfl) hk2 of1 h
end
end Go.Proofs.Gong

/- Qt2 -/
namespace Go.Proofs.Gong
open Go Go.Sx Go.Proofs
set_option maxRecDepth 100000
attribute [local irreducible] aD bY bO eqv dB Cl bS LsH SlH ld1 ldN st ai bT aY dF bI bz bE aJ aB bK bZ
section
variable {w0 w : World} {L : List HP} {K : Value → World → Prop} {ofL : List UInt8 → List UInt8 → Option (Row → Bool)} {numL : List UInt8 → Option Nat} {ws : List (List UInt8)} {R : Option QSt} {wv : Value} {p f : Nat}
theorem Ov {s : QSt} {fvs : List OV} {sv ov : Value} {TP OP : HP} {a b : List UInt8} {s0 s5 : Value} {R4 : Value → Value → Value → Value → World → Prop} (C : ry w0 ofL a b) (N : a = bX → wT w0 numL b) (hno : ¬ (a = dA ∧ s.ord.isNone = true ∧ (fZ b).isSome = true)) (hps : s.ps.length = fvs.length) (hpl : s.ps.length ≤ 1000000) (hlm : -1 ≤ s.lim)
    (hT : ∀ j (h1 : j < fvs.length) (h2 : j < s.ps.length), eH w0 TP fvs[j].1 s.ps[j]) (hO : zH s.ord ov OP)
    (hF : gL ofL numL s a b = none → ∀ fv w', Qa fv → Sat w0 L w' → K (.tuple #[fv, .bool false]) w')
    (next : ∀ (s' : QSt) (fvs' : List OV) (sv' ov' : Value) (TP' OP' : HP) (w' : World), gL ofL numL s a b = some s' → s'.ps.length = fvs'.length → s'.ps.length ≤ s.ps.length + 1 → -1 ≤ s'.lim →
        (∀ j (h1 : j < fvs'.length) (h2 : j < s'.ps.length), eH w0 TP' fvs'[j].1 s'.ps[j]) → zH s'.ord ov' OP' → zF w0 L ws wv p f s' fvs' sv' ov' OP' TP' w' → qF s0 (.pointer (some ⟨p, 0, none⟩)) (.pointer (some ⟨f, 0, none⟩)) s5 w' K R4)
    (h : zF w0 L ws wv p f s fvs sv ov OP TP w) :
    (aa (bEq Tryz.prog 9 (.tmp 65) (.const (.string ⟨#[108, 105, 109, 105, 116]⟩)) (.string (bs a)) (.string ⟨#[108, 105, 109, 105, 116]⟩)) fun v39 =>
Sx.stepG (gd true v39) (ae 2 (.pointer (some ⟨f, 0, none⟩))) fun v40 =>
Sx.stepG (gd true v39) (ld1 v40 w) fun v41 =>
Sx.stepG (gd true v39) (bLt v41 (.int .i64 0)) fun v42 =>
aa (aG v39 v42 (.bool false)) fun v43 =>
ifB v43 (
ai G70 [(.string (bs b))] w fun v45 w44 =>
aa (aK v45 0) fun v46 =>
aa (aK v45 1) fun v47 =>
aa (dN v47) fun v48 =>
ifB v48 (
aa (ldN 3 (.pointer (some ⟨f, 0, none⟩)) w44) fun v49 =>
bF (st 3 (.pointer (some ⟨p, 0, none⟩)) v49 w44) fun w50 =>
aa (ldN 3 (.pointer (some ⟨p, 0, none⟩)) w50) fun v52 =>
K (.tuple #[v52, (.bool false)]) w50) (
aa (ae 2 (.pointer (some ⟨f, 0, none⟩))) fun v53 =>
bF (st 1 v53 v46 w44) fun w54 =>
qF s0 (.pointer (some ⟨p, 0, none⟩)) (.pointer (some ⟨f, 0, none⟩)) s5 w54 K R4)) (
ai G71 [(.string (bs a)), (.string (bs b))] w fun v57 w56 =>
aa (aK v57 0) fun v58 =>
aa (aK v57 1) fun v59 =>
aa (dN v59) fun v60 =>
ifB v60 (
aa (ldN 3 (.pointer (some ⟨f, 0, none⟩)) w56) fun v61 =>
bF (st 3 (.pointer (some ⟨p, 0, none⟩)) v61 w56) fun w62 =>
aa (ldN 3 (.pointer (some ⟨p, 0, none⟩)) w62) fun v64 =>
K (.tuple #[v64, (.bool false)]) w62) (
aa (ae 0 (.pointer (some ⟨f, 0, none⟩))) fun v65 =>
aa (ld1 v65 w56) fun v66 =>
aB Tryz.prog 132 1 [(0, v58)] w56 fun v68 w67 =>
aJ Tryz.prog 132 132 v66 v68 w67 fun v70 w69 =>
aa (ae 0 (.pointer (some ⟨f, 0, none⟩))) fun v71 =>
bF (st 1 v71 v70 w69) fun w72 =>
qF s0 (.pointer (some ⟨p, 0, none⟩)) (.pointer (some ⟨f, 0, none⟩)) s5 w72 K R4))) := by
  have os : OneV sv := fT h
  have oo : OneV ov := hO.one
  have test : ¬ (a = bX ∧ s.lim < 0) → ∀ w, zF w0 L ws wv p f s fvs sv ov OP TP w → (ai G71 [(.string (bs a)), (.string (bs b))] w fun v57 w56 =>
aa (aK v57 0) fun v58 =>
aa (aK v57 1) fun v59 =>
aa (dN v59) fun v60 =>
ifB v60 (
aa (ldN 3 (.pointer (some ⟨f, 0, none⟩)) w56) fun v61 =>
bF (st 3 (.pointer (some ⟨p, 0, none⟩)) v61 w56) fun w62 =>
aa (ldN 3 (.pointer (some ⟨p, 0, none⟩)) w62) fun v64 =>
K (.tuple #[v64, (.bool false)]) w62) (
aa (ae 0 (.pointer (some ⟨f, 0, none⟩))) fun v65 =>
aa (ld1 v65 w56) fun v66 =>
aB Tryz.prog 132 1 [(0, v58)] w56 fun v68 w67 =>
aJ Tryz.prog 132 132 v66 v68 w67 fun v70 w69 =>
aa (ae 0 (.pointer (some ⟨f, 0, none⟩))) fun v71 =>
bF (st 1 v71 v70 w69) fun w72 =>
qF s0 (.pointer (some ⟨p, 0, none⟩)) (.pointer (some ⟨f, 0, none⟩)) s5 w72 K R4)) := by
    intro hnl w h
    have hst : gL ofL numL s a b = (ofL a b).map fun p => { s with ps := s.ps ++ [p] } := by unfold gL; rw [if_neg hno, if_neg hnl]
    refine C _ w _ h (fun hn fv w h => ?_) fun q hq TN g c w hTN h => ?_
    · (repeat(first
|simp(disch:=omega)only[evA,evB,evC,af,ag]
|with_reducible refine bA h ?_
|((with_reducible apply dO h);rfl;rfl;(first|rfl|simp[OneV.o]);intro _ h)))
      exact hF (by rw [hst, hn]; rfl) _ _ ⟨_, _, _, rfl, os, oo, inferInstance⟩ (h.got)
    · (repeat(first
|simp(disch:=omega)only[evA,evB,evC,af,ag]
|with_reducible refine bA h ?_))
      have hb : dx Tryz.prog 166 1 [(0, .func (.func g) #[] c)] = some #[.func (.func g) #[] c] := by kernel_rfl
      have o1 : OneV (.func (.func g) #[] c) := inferInstance
      refine iD (m := [(⟨.func (.func g) #[] c, o1⟩ : OV)]) (f := cOV) (es := 1) COV h u132 hb (by simp) fun tv w h => ?_
      have hrt := dw h
      refine fI (f := cOV) (es := 1) (m := [(⟨.func (.func g) #[] c, o1⟩ : OV)]) (L := LsH cOV 1 166 tv [(⟨.func (.func g) #[] c, o1⟩ : OV)] :: TN :: OP :: TP :: Cl f #[sv, ov, .int .i64 s.lim] 135 :: Cl p #[.slice none 0 0, .nilFunc, .int .i64 0] 135 :: LsH cSt 1 9 wv ws :: L) COV (h.got) sl132 (by kernel_rfl) hrt (by simp only [List.length_singleton]; omega) fun sv2 w h => ?_
      have os2 := fT h
      (repeat ((with_reducible refine gH h ?_);intro _ h))
      refine next { s with ps := s.ps ++ [q] } (fvs ++ [⟨.func (.func g) #[] c, o1⟩]) sv2 ov (HSt TN TP) OP _ (by rw [hst, hq]; rfl) (by simp [hps]) (by simp) hlm (fun j h1 h2 => ?_) hO ?_
      · by_cases hj : j < fvs.length
        · have e1 : (fvs ++ [(⟨.func (.func g) #[] c, o1⟩ : OV)])[j] = fvs[j] := List.getElem_append_left hj
          have e2 : (s.ps ++ [q])[j] = s.ps[j]'(by omega) := List.getElem_append_left (by omega)
          show eH w0 (HSt TN TP) (fvs ++ [(⟨.func (.func g) #[] c, o1⟩ : OV)])[j].1 (s.ps ++ [q])[j]
          rw [e1, e2]
          exact (hT j hj (by omega)).left
        · have hj2 : j = fvs.length := by simp at h1; omega
          subst hj2
          show eH w0 (HSt TN TP) (fvs ++ [(⟨.func (.func g) #[] c, o1⟩ : OV)])[fvs.length].1 (s.ps ++ [q])[fvs.length]
          have e1 : (fvs ++ [(⟨.func (.func g) #[] c, o1⟩ : OV)])[fvs.length] = ⟨.func (.func g) #[] c, o1⟩ := by simp
          have e2 : (s.ps ++ [q])[fvs.length]'(by simp [hps]) = q := by simp [← hps]
          rw [e1, e2]
          exact hTN.right
      · refine Sat.f2 (Sat.f2 (Sat.star_iff.2 ?_))
        exact h.got
  by_cases g1 : a = bX
  · have d1 : decide (a = [108, 105, 109, 105, 116]) = true := by simpa [bX] using g1
    by_cases g2 : s.lim < 0
    · have d2 : decide (s.lim < 0) = true := by simpa using g2
      (repeat(first
|simp(disch:=omega)only[evA,evB,evC,af,ag,d1,d2]
|with_reducible refine bA h ?_))
      have hst : gL ofL numL s a b = (numL b).map fun n => { s with lim := (n : Nat) } := by unfold gL; rw [if_neg hno, if_pos ⟨g1, g2⟩]
      refine N g1 _ w _ h (fun hn u w h => ?_) fun u hu w h => ?_
      · (repeat(first
|simp(disch:=omega)only[evA,evB,evC,af,ag]
|with_reducible refine bA h ?_
|((with_reducible apply dO h);rfl;rfl;(first|rfl|simp[OneV.o]);intro _ h)))
        exact hF (by rw [hst, hn]; rfl) _ _ ⟨_, _, _, rfl, os, oo, inferInstance⟩ (h.got)
      · (repeat(first
|simp(disch:=omega)only[evA,evB,evC,af,ag]
|((with_reducible refine gH h ?_);intro _ h)))
        exact next { s with lim := (u : Nat) } fvs sv ov TP OP _ (by rw [hst, hu]; rfl) hps (Nat.le_succ _) (by simp only; omega) hT hO (h.got)
    · have d2 : decide (s.lim < 0) = false := by simpa using g2
      (repeat(first
|simp(disch:=omega)only[evA,evB,evC,af,ag,d1,d2]
|with_reducible refine bA h ?_))
      exact test (fun g => g2 g.2) _ h
  · have d1 : decide (a = [108, 105, 109, 105, 116]) = false := by simpa [bX] using g1
    (repeat simp(disch:=omega)only[evA,evB,evC,af,ag,d1])
    exact test (fun g => g1 g.1) _ h
theorem BG (hl : ws.length ≤ 1000000) (hpar : ws.length % 2 = 0) (C : ∀ i (h : i + 1 < ws.length), i % 2 = 0 → ry w0 ofL ws[i] ws[i + 1]) (N : ∀ i (h : i + 1 < ws.length), ws[i] = bX → wT w0 numL ws[i + 1])
    (hF : R = none → ∀ fv w', Qa fv → Sat w0 L w' → K (.tuple #[fv, .bool false]) w')
    (hK : ∀ s, R = some s → ∀ FP fv w', Qa fv → vo w0 FP fv s.ps (ltQ (s.ord.getD fun _ => 0)) s.lim → Sat w0 (FP :: L) w' → K (.tuple #[fv, .bool true]) w') :
    ∀ (k i n : Nat) (s : QSt) (fvs : List OV) (sv ov : Value) (TP OP : HP) (w : World), i + 2 * k = ws.length → k < n → fu ofL numL (ws.drop i) s = R → s.ps.length = fvs.length → s.ps.length ≤ i → -1 ≤ s.lim →
      (∀ j (h1 : j < fvs.length) (h2 : j < s.ps.length), eH w0 TP fvs[j].1 s.ps[j]) → zH s.ord ov OP → zF w0 L ws wv p f s fvs sv ov OP TP w →
      lu n wv (.pointer (some ⟨p, 0, none⟩)) (.pointer (some ⟨f, 0, none⟩)) (.int .i64 (i : Nat)) w K
  | 0, i, n, s, fvs, sv, ov, TP, OP, w, hi, hn, hR, hps, hpl, hlm, hT, hO, h => by
    obtain ⟨n, rfl⟩ : ∃ q, n = q + 1 := ⟨n - 1, by omega⟩
    have him : i = ws.length := by omega
    subst him
    have g' : decide ((ws.length : Int) < (ws.length : Int)) = false := by simp
    rw [lu]
    unfold Jj D7
    (repeat(first
|simp(disch:=omega)only[evA,evB,evC,af,ag,g']
|with_reducible refine bA h ?_))
    rw [List.drop_length] at hR
    exact QA hps (by omega) hlm hT hO (hK s hR.symm) h
  | k + 1, i, n, s, fvs, sv, ov, TP, OP, w, hi, hn, hR, hps, hpl, hlm, hT, hO, h => by
    obtain ⟨n, rfl⟩ : ∃ q, n = q + 1 := ⟨n - 1, by omega⟩
    have h1 : i < ws.length := by omega
    have h2 : i + 1 < ws.length := by omega
    have os : OneV sv := fT h
    have oo : OneV ov := hO.one
    have hd : ws.drop i = ws[i] :: ws[i + 1] :: ws.drop (i + 2) := by
      rw [List.drop_eq_getElem_cons h1, List.drop_eq_getElem_cons h2]
    rw [hd, fu] at hR
    have g' : decide ((i : Int) < (ws.length : Int)) = true := by simpa using h1
    have hrd : Rd w 1 wv ws.length (ws.flatMap cSt) := dw (h.frt (A := LsH cSt 1 9 wv ws))
    have f1 := fV hrd h1
    have f2 : ld1 (elP 1 wv i) w = some (.string (bs ws[i])) := fG (g := fun x : List UInt8 => .string (bs x)) hrd h1
    have f3 : bq 1 wv (.int .i64 ((i : Int) + 1)) = some (elP 1 wv (i + 1)) := by
      have := fV hrd h2
      rw [show ((i + 1 : Nat) : Int) = (i : Int) + 1 by omega] at this; exact this
    have f4 : ld1 (elP 1 wv (i + 1)) w = some (.string (bs ws[i + 1])) := fG (g := fun x : List UInt8 => .string (bs x)) hrd h2
    have e2 : (i : Int) + 2 = ((i + 2 : Nat) : Int) := by omega
    have next : ∀ (s' : QSt) (fvs' : List OV) (sv' ov' : Value) (TP' OP' : HP) (w' : World), fu ofL numL (ws.drop (i + 2)) s' = R → s'.ps.length = fvs'.length → s'.ps.length ≤ i + 2 → -1 ≤ s'.lim →
        (∀ j (h1 : j < fvs'.length) (h2 : j < s'.ps.length), eH w0 TP' fvs'[j].1 s'.ps[j]) → zH s'.ord ov' OP' → zF w0 L ws wv p f s' fvs' sv' ov' OP' TP' w' →
        qF wv (.pointer (some ⟨p, 0, none⟩)) (.pointer (some ⟨f, 0, none⟩)) (.int .i64 (i : Nat)) w' K (fun a0 a2 a4 a5 w => lu n a0 a2 a4 a5 w K) := by
      intro s' fvs' sv' ov' TP' OP' w' a1 a2 a3 a4 a5 a6 a7
      unfold qF Mh
      (repeat simp(disch:=omega)only[evA,evB,evC,af,ag])
      rw [e2]
      exact BG hl hpar C N hF hK k (i + 2) n s' fvs' sv' ov' TP' OP' w' (by omega) (by omega) a1 a2 a3 a4 a5 a6 a7
    rw [lu]
    unfold Jj D7
    (repeat(first
|simp(disch:=omega)only[evA,evB,evC,af,ag,g']
|refine ax (f1 ..) ?_
|with_reducible refine bA h ?_))
    rw [f2]
    (repeat(first
|simp(disch:=omega)only[evA,evB,evC,af,ag]
|refine ax (f3 ..) ?_))
    rw [f4]
    have rest : ∀ w, zF w0 L ws wv p f s fvs sv ov OP TP w → ¬ (ws[i] = dA ∧ s.ord.isNone = true ∧ (fZ ws[i + 1]).isSome = true) → _ := fun w h hno =>
      Ov (w := w) (s0 := wv) (s5 := .int .i64 (i : Nat)) (R4 := fun a0 a2 a4 a5 w => lu n a0 a2 a4 a5 w K) (C i h2 (by omega)) (N i h2) hno hps (by omega) hlm hT hO (fun hn => hF (by rw [← hR, hn])) (fun s' fvs' sv' ov' TP' OP' w' hs a2 a3 a4 a5 a6 a7 => next s' fvs' sv' ov' TP' OP' w' (by rw [← hR, hs]) a2 (by omega) a4 a5 a6 a7) h
    by_cases g1 : ws[i] = dA
    · have d1 : decide (ws[i] = [111, 114, 100, 101, 114]) = true := by simpa [dA] using g1
      rcases hO with ⟨ho, rfl⟩ | ⟨key, fv, ob, ho, rfl, hk2, of1, rfl⟩
      · (repeat(first
|simp(disch:=omega)only[evA,evB,evC,af,ag,d1,MV]
|with_reducible refine bA h ?_))
        refine wC fun fv hf => ?_
        rcases hf with ⟨hf, rfl⟩ | ⟨key, m, hf, rfl, hk2⟩
        · (repeat simp(disch:=omega)only[evA,evB,evC,af,ag,fn_nil])
          have q := rest _ h.drew (fun g => by rw [hf] at g; exact absurd g.2.2 (by simp))
          (simp (disch := omega) only [evA, evB, evC, af, ag] at q)
          exact q
        · (repeat simp(disch:=omega)only[evA,evB,evC,af,ag,fn_fn])
          have hst : gL ofL numL s ws[i] ws[i + 1] = some { s with ord := fZ ws[i + 1] } := by unfold gL; rw [if_pos ⟨g1, by rw [ho]; rfl, by rw [hf]; rfl⟩]
          refine Nq (s := ws[i + 1]) h.drew fun fv ob w hf2 h => ?_
          rcases hf2 with ⟨hf2, _⟩ | ⟨key, m, hf2, rfl, hk3⟩
          · rw [hf] at hf2; cases hf2
          (repeat ((with_reducible refine gH h ?_);intro _ h))
          exact next { s with ord := fZ ws[i + 1] } fvs sv _ TP (Cl ob #[.func (.func m) #[] #[]] 161) _ (by rw [← hR, hst]) hps (by show s.ps.length ≤ i + 2; omega) hlm hT (.inr ⟨key, _, ob, hf2, rfl, hk3, inferInstance, rfl⟩) (h.got)
      · (repeat(first
|simp(disch:=omega)only[evA,evB,evC,af,ag,d1,QJ]
|with_reducible refine bA h ?_))
        have q := rest _ h.drew (fun g => by rw [ho] at g; exact absurd g.2.1 (by simp))
        (simp (disch := omega) only [evA, evB, evC, af, ag] at q)
        exact q
    · have d1 : decide (ws[i] = [111, 114, 100, 101, 114]) = false := by simpa [dA] using g1
      (repeat simp(disch:=omega)only[evA,evB,evC,af,ag,d1])
      have q := rest _ h.drew (fun g => g1 g.1)
      (simp (disch := omega) only [evA, evB, evC, af, ag] at q)
      exact q
theorem qV (hl : ws.length ≤ 1000000) (C : ∀ i (h : i + 1 < ws.length), i % 2 = 0 → ry w0 ofL ws[i] ws[i + 1]) (N : ∀ i (h : i + 1 < ws.length), ws[i] = bX → wT w0 numL ws[i + 1]) (hR : (if ws.length % 2 = 0 then fu ofL numL ws ⟨[], none, -1⟩ else none) = R)
    (hF : R = none → ∀ fv w', Qa fv → Sat w0 L w' → K (.tuple #[fv, .bool false]) w')
    (hK : ∀ s, R = some s → ∀ FP fv w', Qa fv → vo w0 FP fv s.ps (ltQ (s.ord.getD fun _ => 0)) s.lim → Sat w0 (FP :: L) w' → K (.tuple #[fv, .bool true]) w')
    (h : Sat w0 (LsH cSt 1 9 wv ws :: L) w) : ai G42 [wv] w K := by
  refine c42 ?_
  unfold F42 NK Mk
  have q0 : gI (.int .i64 (ws.length : Nat)) (.int .i64 2) = some (.int .i64 ((ws.length % 2 : Nat) : Int)) := by
    rw [tu _ _ _ (by decide)]; rfl
  by_cases g : ws.length % 2 = 0
  · rw [if_pos g] at hR
    have d : decide (((ws.length % 2 : Nat) : Int) = 0) = true := by simp [g]
    (repeat(first
|simp(disch:=omega)only[evA,evB,evC,af,ag,Nk,d]
|refine ax (q0 ..) ?_
|with_reducible refine bA h ?_
|((with_reducible apply dO h);rfl;rfl;(first|rfl|simp[OneV.o]);intro _ h)
|((with_reducible apply cu h);(first|exact Jv);rfl;intro _ _ h)))
    unfold Jk
    have h2 := Sat.nilLs (α := OV) cOV 1 166 (Sat.nilLs (α := OV) cOV 1 166 (Sat.nilLs (α := OV) cOV 1 166 h))
    refine BG (R := R) hl g C N hF hK (ws.length / 2) 0 fuel ⟨[], none, -1⟩ [] (.slice none 0 0) .nilFunc (LsH cOV 1 166 (.slice none 0 0) ([] : List OV)) (LsH cOV 1 166 (.slice none 0 0) ([] : List OV)) _ (by omega) (by unfold fuel; omega) hR rfl (Nat.le_refl _) (Int.le_refl _) (fun j h1 => absurd h1 (by simp)) (.inl ⟨rfl, rfl⟩) ?_
    exact h2.got
  · rw [if_neg g] at hR
    have d : decide (((ws.length % 2 : Nat) : Int) = 0) = false := by simp only [decide_eq_false_iff_not]; omega
    (repeat(first
|simp(disch:=omega)only[evA,evB,evC,af,ag,Nk,d]
|refine ax (q0 ..) ?_
|with_reducible refine bA h ?_
|((with_reducible apply dO h);rfl;rfl;(first|rfl|simp[OneV.o]);intro _ h)
|((with_reducible apply cu h);(first|exact Jv);rfl;intro _ _ h)))
    exact hF hR.symm _ _ ⟨_, _, _, rfl, inferInstance, inferInstance, inferInstance⟩ (h.got)
end
end Go.Proofs.Gong

/- Qt3 -/
namespace Go.Proofs.Gong
open Go Go.Sx Go.Proofs
set_option maxRecDepth 100000
structure N7 where
  a : Int
  b : Int
  c : Int
  d : Int
  e : Int
  f : Int
  g : Int
def I64 (n : Int) : Prop := -9223372036854775808 ≤ n ∧ n ≤ 9223372036854775807
structure N7.Fit (n : N7) : Prop where
  a : I64 n.a
  b : I64 n.b
  c : I64 n.c
  d : I64 n.d
  e : I64 n.e
  f : I64 n.f
  g : I64 n.g
structure SP where
  x : Nat
  e : Nat
  b : Nat
  h : Nat
  o : Nat
  wv : Value
structure SD where
  keep : Int
  now : Int
  c : N7
  t : N7
  bn : Int
  next : Int
  rs : List Row
  hn : Int
  hnx : Int
  cs : List Ctx
  o : Ob
abbrev pt (n : Nat) : Value := .pointer (some ⟨n, 0, none⟩)
abbrev StS (w0 : World) (P : SP) (D : SD) (L : List HP) (w : World) : Prop :=
  Sat w0 (Cl P.x #[pt P.e, pt P.o, .int .i64 D.c.a, .int .i64 D.c.b, .int .i64 D.c.c, .int .i64 D.c.d, .int .i64 D.c.e, .int .i64 D.c.f, .int .i64 D.c.g] 81 ::
    Cl P.e #[P.wv, pt P.b, pt P.h, .int .i64 D.keep, .int .i64 D.now, .int .i64 D.t.a, .int .i64 D.t.b, .int .i64 D.t.c, .int .i64 D.t.d, .int .i64 D.t.e, .int .i64 D.t.f, .int .i64 D.t.g] 109 ::
    gq (pt P.b) D.bn D.next D.rs :: IR (pt P.h) D.hn D.hnx D.cs :: xc (pt P.o) D.o :: L) w
attribute [local irreducible] aD bY bO eqv dB Cl bS LsH SlH ld1 ldN st ai bT aY dF bI bz bE aJ aB bK bZ
section
variable {w0 w : World} {L : List HP} {K : Value → World → Prop} {P : SP} {D : SD}
def N7.agg (n : N7) : Value := .agg #[.int .i64 n.a, .int .i64 n.b, .int .i64 n.c, .int .i64 n.d, .int .i64 n.e, .int .i64 n.f, .int .i64 n.g]
end
end Go.Proofs.Gong

/- Qt4 -/
namespace Go.Proofs.Gong
open Go Go.Sx Go.Proofs
set_option maxRecDepth 100000
structure SFit (D : SD) : Prop where
  now : I64 D.now
  c : D.c.Fit
  t : D.t.Fit
  rs : I64 (D.rs.length : Nat)
  cs : I64 (D.cs.length : Nat)
  ols : I64 (D.o.ls.length : Nat)
  last : I64 D.o.last
  refused : I64 D.o.refused
attribute [local irreducible] aD bY bO eqv dB Cl bS LsH SlH ld1 ldN st ai bT aY dF bI bz bE aJ aB bK bZ
section
variable {w0 w : World} {L : List HP} {K : Value → World → Prop} {P : SP} {D : SD}
end
end Go.Proofs.Gong

/- Qt5 -/
namespace Go.Proofs.Gong
open Go Go.Sx Go.Proofs
set_option maxRecDepth 100000
def jJ (lim : Int) (m : List Row) : List Row := if 0 ≤ lim then m.take lim.toNat else m
theorem Rl {lim : Int} {m : List Row} {r : Row} (h : r ∈ jJ lim m) : r ∈ m := by
  unfold jJ at h
  split at h
  · exact List.mem_of_mem_take h
  · exact h
theorem GY {lim : Int} {m : List Row} : (jJ lim m).length ≤ m.length := by
  unfold jJ
  split
  · rw [List.length_take]; omega
  · omega
theorem LFit.qfit {r : Row} (h : LFit r) : QFit r := ⟨by have := h.len; omega, by have := h.len; omega, by have := h.len; omega, by have := h.len; omega⟩
attribute [local irreducible] aD bY bO eqv dB Cl bS LsH SlH ld1 ldN st ai bT aY dF bI bz bE aJ aB bK bZ
section
variable {w0 w : World} {L : List HP} {K : Value → World → Prop} {P : SP} {D : SD} {FP : HP} {fv : Value} {ps : List (Row → Bool)} {lt : Row → Row → Bool} {lim : Int}
theorem yT {q : List Row} {rv : Value} (hl : q.length ≤ 1000000) (A : fF w0) (T : gQ Tryz.prog w0) (hq : ∀ r ∈ q, LFit r) (hK : ∀ v w', Sat w0 (LsH cSt 1 9 v (q.map dS) :: LsH bR 11 48 rv q :: L) w' → K (.tuple #[v, .int .i64 0]) w') : ∀ (k i n : Nat) (ov : Value) (w : World), i + k = q.length → k < n →
    Sat w0 (LsH cSt 1 9 ov ((q.take i).map dS) :: LsH bR 11 48 rv q :: L) w → nG n ov rv (.int .i64 q.length) (.int .i64 (i : Nat)) w K
  | 0, i, n, ov, w, hi, hn, h => by
    obtain ⟨n, rfl⟩ : ∃ q, n = q + 1 := ⟨n - 1, by omega⟩
    have him : i = q.length := by omega
    subst him
    have g' : decide ((q.length : Int) < (q.length : Int)) = false := by simp
    rw [nG]
    unfold D6
    (repeat simp(disch:=omega)only[evA,evB,evC,af,ag,g'])
    unfold Cz Mf
    rw [List.take_length] at h
    exact hK ov w h
  | k + 1, i, n, ov, w, hi, hn, h => by
    obtain ⟨n, rfl⟩ : ∃ q, n = q + 1 := ⟨n - 1, by omega⟩
    have hil : i < q.length := by omega
    have g' : decide ((i : Int) < (q.length : Int)) = true := by simpa using hil
    have hr : Rd w 11 rv q.length (q.flatMap bR) := dw (h.frt (A := LsH bR 11 48 rv q))
    have f1 := fV hr hil
    have f2 : ldN 11 (elP 11 rv i) w = some (fQ q[i]) := wz CRq hr hil
    have e2 : (i : Int) + 1 = ((i + 1 : Nat) : Int) := by omega
    have et : (q.take (i + 1)).map dS = (q.take i).map dS ++ [dS q[i]] := by rw [List.take_succ_eq_append_getElem hil, List.map_append]; rfl
    have hmt : ((q.take i).map dS).length ≤ 1000000 := by rw [List.length_map, List.length_take]; omega
    rw [nG]
    unfold D6
    (repeat(first
|simp(disch:=omega)only[evA,evB,evC,af,ag,g']
|refine ax (f1 ..) ?_
|((with_reducible first|apply Dm h|apply Nb h|apply Dk h|apply Dl h);(case hi=>omega);(try case hx=>exact inferInstance);(try case hv=>rfl))))
    refine cu h z48 rfl fun p w h => ?_
    (repeat(first
|with_reducible refine bA h ?_
|((with_reducible apply dO h);rfl;rfl;(first|rfl|simp[OneV.o]);intro _ h)))
    refine OW (r := q[i]) (hq _ (List.getElem_mem hil)) A T h fun w h => ?_
    skip
    refine iD (m := [dS q[i]]) (f := cSt) (es := 1) CSt h u32 (c := #[.string (bs (dS q[i]))]) (by kernel_rfl) rfl fun tv w h => ?_
    have hrt := dw h
    refine fI (f := cSt) (es := 1) (m := [dS q[i]]) (L := LsH cSt 1 9 tv [dS q[i]] :: LsH bR 11 48 rv q :: L) CSt (h.got) Qn (by kernel_rfl) hrt (by simp only [List.length_singleton]; omega) fun ov2 w h => ?_
    skip
    rw [e2]
    exact yT hl A T hq hK k (i + 1) n ov2 w (by omega) (by omega) (by rw [et]; exact h.got)
theorem Kl (A : fF w0) (T : gQ Tryz.prog w0) (hF : vo w0 FP fv ps lt lim) (hL : ∀ r ∈ D.rs, LFit r) (hl : D.rs.length ≤ 1000000) (h : StS w0 P D (FP :: L) w)
    (hK : ∀ m v w', m.Perm (D.rs.filter (passes ps)) → m.Pairwise (fun x y => lt y x = false) → StS w0 P D (LsH cSt 1 9 v ((jJ lim m).map dS) :: L) w' → K (.tuple #[v, .int .i64 0]) w') : ai G43 [fv, pt P.x] w K := by
  refine c43 ?_
  unfold F43 NJ Mg
  obtain ⟨⟨a, b, rfl, oa, ob⟩, hF2⟩ := hF
  refine cB h (l := [a, b, .int .i64 lim]) rfl fun q w h => ?_
  (repeat(first
|simp(disch:=omega)only[evA,evB,evC,af,ag]
|with_reducible refine bA h ?_))
  refine c20 ?_
  unfold F20
  (repeat(first
|simp(disch:=omega)only[evA,evB,evC,af,ag]
|with_reducible refine bA h ?_))
  refine zw (h.drew.frt (A := gq (pt P.b) D.bn D.next D.rs)) fun rv w h => ?_
  (repeat with_reducible refine bA h ?_)
  have h2 := (h.frt (A := FP))
  refine hF2 D.rs rv _ w _ (fun r hr => (hL r hr).qfit) hl h2 fun v m w hp hs h => ?_
  change Sat w0 (FP :: LsH bR 11 48 v (jJ lim m) :: _) w at h
  have hml : m.length ≤ 1000000 := by
    have h1 := List.length_filter_le (passes ps) D.rs
    rw [hp.length_eq]; omega
  have hll := GY (lim := lim) (m := m)
  have hlen : bI v = some (.int .i64 ((jJ lim m).length : Nat)) := (dw h.f1).len
  (repeat simp(disch:=omega)only[evA,evB,evC,af,ag,hlen])
  unfold Ji
  have hq : ∀ r ∈ jJ lim m, LFit r := fun r hr => hL r ((List.mem_filter.1 (hp.subset (Rl hr))).1)
  have h3 := (Sat.nilLs cSt 1 9 h).f2.f1
  refine yT (q := jJ lim m) (by omega) A T hq (fun v w h => ?_) (jJ lim m).length 0 fuel _ w (by omega) (by unfold fuel; omega) h3
  exact hK m v w hp hs (h.got)
theorem KV (T : gQ Tryz.prog w0) (hF : vo w0 FP fv ps lt lim) (hL : ∀ r ∈ D.rs, LFit r) (hl : D.rs.length ≤ 1000000) (h : StS w0 P D (FP :: L) w)
    (hK : ∀ m v w', m.Perm (D.rs.filter (passes ps)) → m.Pairwise (fun x y => lt y x = false) → StS w0 P D (LsH cSt 1 9 v [Lib.itoa ((jJ lim m).length : Nat)] :: L) w' → K (.tuple #[v, .int .i64 0]) w') : ai G44 [fv, pt P.x] w K := by
  refine c44 ?_
  unfold F44
  obtain ⟨⟨a, b, rfl, oa, ob⟩, hF2⟩ := hF
  refine cB h (l := [a, b, .int .i64 lim]) rfl fun q w h => ?_
  (repeat(first
|simp(disch:=omega)only[evA,evB,evC,af,ag]
|with_reducible refine bA h ?_))
  refine c20 ?_
  unfold F20
  (repeat(first
|simp(disch:=omega)only[evA,evB,evC,af,ag]
|with_reducible refine bA h ?_))
  refine zw (h.drew.frt (A := gq (pt P.b) D.bn D.next D.rs)) fun rv w h => ?_
  (repeat with_reducible refine bA h ?_)
  have h2 := (h.frt (A := FP))
  refine hF2 D.rs rv _ w _ (fun r hr => (hL r hr).qfit) hl h2 fun v m w hp hs h => ?_
  change Sat w0 (FP :: LsH bR 11 48 v (jJ lim m) :: _) w at h
  have hml : m.length ≤ 1000000 := by
    have h1 := List.length_filter_le (passes ps) D.rs
    rw [hp.length_eq]; omega
  have hll := GY (lim := lim) (m := m)
  have hlen : bI v = some (.int .i64 ((jJ lim m).length : Nat)) := (dw h.f1).len
  (repeat simp(disch:=omega)only[evA,evB,evC,af,ag,hlen])
  refine jF T h (by omega) (by omega) fun w h => ?_
  skip
  refine iD (m := [Lib.itoa ((jJ lim m).length : Nat)]) (f := cSt) (es := 1) CSt h u32 (c := #[.string (bs (Lib.itoa ((jJ lim m).length : Nat)))]) (by kernel_rfl) rfl fun tv w h => ?_
  exact hK m tv _ hp hs (h.got)
end
end Go.Proofs.Gong

/- Qt6 -/
namespace Go.Proofs.Gong
open Go Go.Sx Go.Proofs
set_option maxRecDepth 100000
attribute [local irreducible] aD bY bO eqv dB Cl bS LsH SlH ld1 ldN st ai bT aY dF bI bz bE aJ aB bK bZ
section
variable {w0 w : World} {L : List HP} {K : Value → World → Prop} {P : SP} {D : SD} {numL : List UInt8 → Option Nat} {ws : List (List UInt8)} {wv : Value}
end
end Go.Proofs.Gong

/- Qt7 -/
namespace Go.Proofs.Gong
open Go Go.Sx Go.Proofs
set_option maxRecDepth 100000
def fC : List UInt8 := [108, 105, 115, 116]
def om : List UInt8 := [99, 111, 117, 110, 116]
attribute [local irreducible] aD bY bO eqv dB Cl bS LsH SlH ld1 ldN st ai bT aY dF bI bz bE aJ aB bK bZ
section
variable {w0 w : World} {L : List HP} {K : Value → World → Prop} {P : SP} {D : SD} {ofL : List UInt8 → List UInt8 → Option (Row → Bool)} {numL : List UInt8 → Option Nat} {q : List UInt8} {ws : List (List UInt8)} {wv : Value} {R : Option QSt}
theorem qM {k : List UInt8} (h : Sat w0 (LsH cSt 1 9 wv (k :: ws) :: L) w) : ∃ v', dZ 1 wv (some (.int .i64 1)) none none = some v' ∧ Sat w0 (LsH cSt 1 9 v' ws :: L) w := by
  obtain ⟨v', e, h'⟩ := Kk (f := cSt) (es := 1) CSt h (A := some (.int .i64 (1 : Nat))) (H := none) (M := none) (lo := 1) (hi := (k :: ws).length) (.some _ _) .none (.none _) (by simp) (Nat.le_refl _)
  refine ⟨v', e, ?_⟩
  rw [List.take_length] at h'
  exact h'
theorem uT {k : List UInt8} (h : Sat w0 (LsH cSt 1 9 wv (k :: ws) :: L) w) : bq 1 wv (.int .i64 0) = some (elP 1 wv 0) ∧ ld1 (elP 1 wv 0) w = some (.string (bs k)) ∧ bI wv = some (.int .i64 ((ws.length + 1 : Nat) : Int)) := by
  have hrd : Rd w 1 wv (k :: ws).length ((k :: ws).flatMap cSt) := dw h
  exact ⟨fV (i := 0) hrd (by simp), fG (i := 0) (l := k :: ws) (g := fun x : List UInt8 => .string (bs x)) hrd (by simp), hrd.len⟩
theorem KZ {fv x : Value} (h : ai G43 [fv, x] w K) : gP (au T9) (.func (.func 43) #[fv] #[]) [x] w K := h
theorem K3 {fv x : Value} (h : ai G44 [fv, x] w K) : gP (au T9) (.func (.func 44) #[fv] #[]) [x] w K := h
theorem IM (A : fF w0) (T : gQ Tryz.prog w0) (M : Nu w0) (hs : q.length ≤ 10000) (hw : uz q = fC :: ws) (hl : ws.length ≤ 1000000) (C : ∀ i (h : i + 1 < ws.length), i % 2 = 0 → ry w0 ofL ws[i] ws[i + 1]) (N : ∀ i (h : i + 1 < ws.length), ws[i] = bX → wT w0 numL ws[i + 1]) (hR : (if ws.length % 2 = 0 then fu ofL numL ws ⟨[], none, -1⟩ else none) = R)
    (hL : ∀ r ∈ D.rs, LFit r) (hrl : D.rs.length ≤ 1000000) (h : StS w0 P D L w)
    (hF : R = none → ∀ w', StS w0 P D L w' → K (.tuple #[.slice none 0 0, .int .i64 300]) w')
    (hK : ∀ s, R = some s → ∀ m v w', m.Perm (D.rs.filter (passes s.ps)) → m.Pairwise (fun x y => ltQ (s.ord.getD fun _ => 0) y x = false) → StS w0 P D (LsH cSt 1 9 v ((jJ s.lim m).map dS) :: L) w' → K (.tuple #[v, .int .i64 0]) w') :
    ai G9 [pt P.x, .string (bs q)] w K := by
  refine c9 ?_
  unfold F9
  refine c24 ?_
  unfold F24
  refine cu h z87 rfl fun ap w h => ?_
  refine qJ M hs h fun wv w h => ?_
  rw [hw] at h
  obtain ⟨h1, h2, h3⟩ := uT h
  have d0 : decide (((ws.length + 1 : Nat) : Int) = 0) = false := by simp only [decide_eq_false_iff_not]; omega
  have d1 : decide (fC = [108, 105, 115, 116]) = true := by decide
  (repeat(first
|simp(disch:=omega)only[evA,evB,evC,af,ag,h3,d0]
|refine ax (h1 ..) ?_))
  rw [h2]
  (repeat simp(disch:=omega)only[evA,evB,evC,af,ag,d1])
  obtain ⟨v', e, h⟩ := qM h
  refine ax e ?_
  refine qV (ofL := ofL) (numL := numL) (R := R) hl C N hR (fun hn fv w hg h => ?_) (fun s hs FP fv w hg hf h => ?_) h
  · obtain ⟨a, b, c, rfl, oa, ob, oc⟩ := hg
    (repeat(first
|simp(disch:=omega)only[evA,evB,evC,af,ag]
|with_reducible refine bA h ?_
|((with_reducible apply dO h);rfl;rfl;(first|rfl|simp[OneV.o]);intro _ h)
|((with_reducible apply cu h);(first|exact Jv);rfl;intro _ _ h)))
    refine ax (v := .agg #[.func (.func 43) #[.agg #[a, b, c]] #[]]) (by kernel_rfl) ?_
    (repeat(first
|with_reducible refine bA h ?_
|((with_reducible apply dO h);rfl;rfl;(first|rfl|simp[OneV.o]);intro _ h)
|((with_reducible apply cu h);(first|exact z87);rfl;intro _ _ h)))
    exact hF hn _ (h.got)
  · have hg2 := hg
    obtain ⟨a, b, c, rfl, oa, ob, oc⟩ := hg
    (repeat(first
|simp(disch:=omega)only[evA,evB,evC,af,ag]
|with_reducible refine bA h ?_
|((with_reducible apply dO h);rfl;rfl;(first|rfl|simp[OneV.o]);intro _ h)
|((with_reducible apply cu h);(first|exact Jv);rfl;intro _ _ h)))
    refine ax (v := .agg #[.func (.func 43) #[.agg #[a, b, c]] #[]]) (by kernel_rfl) ?_
    (repeat(first
|simp(disch:=omega)only[evA,evB,evC,af,ag]
|with_reducible refine bA h ?_
|((with_reducible apply dO h);rfl;rfl;(first|rfl|simp[OneV.o]);intro _ h)
|((with_reducible apply cu h);(first|exact z87);rfl;intro _ _ h)))
    refine KZ ?_
    refine Kl (L := L) A T hf hL hrl (h.got) fun m v w hp hps h => ?_
    (repeat simp(disch:=omega)only[evA,evB,evC,af,ag])
    exact hK s hs m v w hp hps h
theorem PM (T : gQ Tryz.prog w0) (M : Nu w0) (hs : q.length ≤ 10000) (hw : uz q = om :: ws) (hl : ws.length ≤ 1000000) (C : ∀ i (h : i + 1 < ws.length), i % 2 = 0 → ry w0 ofL ws[i] ws[i + 1]) (N : ∀ i (h : i + 1 < ws.length), ws[i] = bX → wT w0 numL ws[i + 1]) (hR : (if ws.length % 2 = 0 then fu ofL numL ws ⟨[], none, -1⟩ else none) = R)
    (hL : ∀ r ∈ D.rs, LFit r) (hrl : D.rs.length ≤ 1000000) (h : StS w0 P D L w)
    (hF : R = none → ∀ w', StS w0 P D L w' → K (.tuple #[.slice none 0 0, .int .i64 300]) w')
    (hK : ∀ s, R = some s → ∀ m v w', m.Perm (D.rs.filter (passes s.ps)) → m.Pairwise (fun x y => ltQ (s.ord.getD fun _ => 0) y x = false) → StS w0 P D (LsH cSt 1 9 v [Lib.itoa ((jJ s.lim m).length : Nat)] :: L) w' → K (.tuple #[v, .int .i64 0]) w') :
    ai G9 [pt P.x, .string (bs q)] w K := by
  refine c9 ?_
  unfold F9
  refine c24 ?_
  unfold F24
  refine cu h z87 rfl fun ap w h => ?_
  refine qJ M hs h fun wv w h => ?_
  rw [hw] at h
  obtain ⟨h1, h2, h3⟩ := uT h
  have d0 : decide (((ws.length + 1 : Nat) : Int) = 0) = false := by simp only [decide_eq_false_iff_not]; omega
  have d1 : decide (om = [108, 105, 115, 116]) = false := by decide
  have d2 : decide (om = [99, 111, 117, 110, 116]) = true := by decide
  (repeat(first
|simp(disch:=omega)only[evA,evB,evC,af,ag,h3,d0]
|refine ax (h1 ..) ?_))
  rw [h2]
  (repeat simp(disch:=omega)only[evA,evB,evC,af,ag,d1,d2])
  obtain ⟨v', e, h⟩ := qM h
  refine ax e ?_
  refine qV (ofL := ofL) (numL := numL) (R := R) hl C N hR (fun hn fv w hg h => ?_) (fun s hs FP fv w hg hf h => ?_) h
  · obtain ⟨a, b, c, rfl, oa, ob, oc⟩ := hg
    (repeat(first
|simp(disch:=omega)only[evA,evB,evC,af,ag]
|with_reducible refine bA h ?_
|((with_reducible apply dO h);rfl;rfl;(first|rfl|simp[OneV.o]);intro _ h)
|((with_reducible apply cu h);(first|exact Jv);rfl;intro _ _ h)))
    refine ax (v := .agg #[.func (.func 44) #[.agg #[a, b, c]] #[]]) (by kernel_rfl) ?_
    (repeat(first
|with_reducible refine bA h ?_
|((with_reducible apply dO h);rfl;rfl;(first|rfl|simp[OneV.o]);intro _ h)
|((with_reducible apply cu h);(first|exact z87);rfl;intro _ _ h)))
    exact hF hn _ (h.got)
  · obtain ⟨a, b, c, rfl, oa, ob, oc⟩ := hg
    (repeat(first
|simp(disch:=omega)only[evA,evB,evC,af,ag]
|with_reducible refine bA h ?_
|((with_reducible apply dO h);rfl;rfl;(first|rfl|simp[OneV.o]);intro _ h)
|((with_reducible apply cu h);(first|exact Jv);rfl;intro _ _ h)))
    refine ax (v := .agg #[.func (.func 44) #[.agg #[a, b, c]] #[]]) (by kernel_rfl) ?_
    (repeat(first
|simp(disch:=omega)only[evA,evB,evC,af,ag]
|with_reducible refine bA h ?_
|((with_reducible apply dO h);rfl;rfl;(first|rfl|simp[OneV.o]);intro _ h)
|((with_reducible apply cu h);(first|exact z87);rfl;intro _ _ h)))
    refine K3 ?_
    refine KV (L := L) T hf hL hrl (h.got) fun m v w hp hps h => ?_
    (repeat simp(disch:=omega)only[evA,evB,evC,af,ag])
    exact hK s hs m v w hp hps h
end
end Go.Proofs.Gong

/- Qv0 -/
namespace Go.Proofs.Gong
open Go Go.Sx Go.Proofs
set_option maxRecDepth 100000
abbrev bk0 : Value := .agg #[.slice none 0 0, .slice none 0 0, .slice none 0 0]
theorem Df : decide ((0 : Int) < 0) = false := by decide
theorem Na : decide ((0 : Int) > 64) = false := by decide
theorem RH : decide ((0 : Int) > 256) = false := by decide
theorem De : decide ((0 : Int) < ((0 : Nat) : Int)) = false := by decide
theorem M9 : decide (((0 : Nat) : Int) > 64) = false := by decide
theorem RG : decide (((0 : Nat) : Int) > 256) = false := by decide
theorem iT : bI (.slice none 0 0) = some (.int .i64 0) := rfl
attribute [local irreducible] aD bY bO eqv dB Cl bS LsH SlH ld1 ldN st ai bT aY dF bI bz bE aJ aB bK bZ
section
variable {w0 w : World} {L : List HP} {K : Value → World → Prop}
theorem wQ (h : Sat w0 L w) (hK : ∀ w', Sat w0 L w' → K (.tuple #[.int .i64 0, .int .i64 0]) w') : ai G52 [bk0] w K := by
  refine c52 ?_
  unfold F52 NI Me
  refine cB h (l := [.slice none 0 0, .slice none 0 0, .slice none 0 0]) rfl fun bp w h => ?_
  (repeat(first
|simp(disch:=omega)only[evA,evB,evC,af,ag,iT,Na,RH,M9,RG]
|with_reducible refine bA h ?_))
  refine dW kI kI h fun m1 w h => ?_
  obtain ⟨r1, _, _, ⟨rfl, _⟩, _⟩ := eu.1 h
  have e1 : aD Tryz.prog 197 [(0, .map (some r1))] = some (.agg #[.map (some r1)]) := by kernel_rfl
  have z1 : bO Tryz.prog 197 = some (.agg #[.map none]) := by kernel_rfl
  (repeat refine ax (e1 ..) ?_)
  refine cu h z1 rfl fun cp w h => ?_
  (repeat(first
|simp(disch:=omega)only[evA,evB,evC,af,ag,iT]
|with_reducible refine bA h ?_
|((with_reducible apply dO h);rfl;rfl;(first|rfl|simp[OneV.o]);intro _ h)))
  unfold Jh
  show oZ ((fuel - 1) + 1) _ _ _ _ _ _ _
  rw [oZ]
  unfold Md
  (repeat simp(disch:=omega)only[evA,evB,evC,af,ag,Df,De])
  unfold Cy Mc
  refine dW kI kI h fun m2 w h => ?_
  refine dW kI kI h fun m3 w h => ?_
  (repeat(first
|simp(disch:=omega)only[evA,evB,evC,af,ag,iT]
|with_reducible refine bA h ?_))
  unfold Jg
  show oW ((fuel - 1) + 1) _ _ _ _ _ _ _ _ _
  rw [oW]
  unfold Ma
  (repeat simp(disch:=omega)only[evA,evB,evC,af,ag,Df,De])
  unfold Cx L9
  (repeat(first
|simp(disch:=omega)only[evA,evB,evC,af,ag,iT]
|with_reducible refine bA h ?_))
  unfold Jf
  show oV ((fuel - 1) + 1) _ _ _ _ _ _
  rw [oV]
  unfold L8
  (repeat simp(disch:=omega)only[evA,evB,evC,af,ag,Df,De])
  unfold Cw L6
  exact hK _ (h.got)
theorem C9 (h : Sat w0 L w) (hK : ∀ w', Sat w0 L w' → K (.tuple #[.int .i64 0, .int .i64 0]) w') : ai G58 [bk0] w K := by
  refine c58 ?_
  unfold F58 NG LW
  refine cB h (l := [.slice none 0 0, .slice none 0 0, .slice none 0 0]) rfl fun bp w h => ?_
  (repeat(first
|simp(disch:=omega)only[evA,evB,evC,af,ag,iT,Na,RH,M9,RG]
|with_reducible refine bA h ?_))
  unfold Jd
  show oQ ((fuel - 1) + 1) _ _ _ _
  rw [oQ]
  unfold LV
  (repeat(first
|simp(disch:=omega)only[evA,evB,evC,af,ag,Df,De,iT]
|with_reducible refine bA h ?_))
  unfold Cu LU
  unfold Jc
  show oP ((fuel - 1) + 1) _ _ _ _
  rw [oP]
  unfold LQ
  (repeat(first
|simp(disch:=omega)only[evA,evB,evC,af,ag,Df,De,iT]
|with_reducible refine bA h ?_))
  unfold Ct LP
  unfold Jb
  show oO ((fuel - 1) + 1) _ _ _ _
  rw [oO]
  unfold LM
  (repeat(first
|simp(disch:=omega)only[evA,evB,evC,af,ag,Df,De,iT]
|with_reducible refine bA h ?_))
  unfold Cs LK
  exact hK _ (h.got)
theorem Gq (h : Sat w0 L w) (hK : ∀ w', Sat w0 L w' → K (.slice none 0 0) w') : ai G57 [bk0] w K := by
  refine c57 ?_
  unfold F57 NH LZ
  refine cB h (l := [.slice none 0 0, .slice none 0 0, .slice none 0 0]) rfl fun bp w h => ?_
  (repeat(first
|simp(disch:=omega)only[evA,evB,evC,af,ag,iT]
|with_reducible refine bA h ?_))
  unfold Je
  show oU ((fuel - 1) + 1) _ _ _ _ _ _
  rw [oU]
  unfold LY
  (repeat simp(disch:=omega)only[evA,evB,evC,af,ag,Df,De,iT])
  unfold Cv LX
  exact hK _ (h.got)
theorem IC {fv : Value} (h : Sat w0 L w) (hK : ∀ w', Sat w0 L w' → K (.bool false) w') : ai G53 [.slice none 0 0, fv] w K := by
  refine c53 ?_
  unfold F53
  refine c105 ?_
  unfold U2 FV FU
  (repeat simp(disch:=omega)only[evA,evB,evC,af,ag,iT])
  unfold AB
  show lS ((fuel - 1) + 1) _ _ _ _ _ _
  rw [lS]
  unfold FT
  (repeat simp(disch:=omega)only[evA,evB,evC,af,ag,Df,De])
  unfold vS FR
  have d : decide ((-1 : Int) ≥ 0) = false := by decide
  (repeat simp(disch:=omega)only[evA,evB,evC,af,ag,d])
  exact hK _ h
end
end Go.Proofs.Gong

/- Qv1 -/
namespace Go.Proofs.Gong
open Go Go.Sx Go.Proofs
set_option maxRecDepth 100000
def n70 : N7 := ⟨0, 0, 0, 0, 0, 0, 0⟩
attribute [local irreducible] aD bY bO eqv dB Cl bS LsH SlH ld1 ldN st ai bT aY dF bI bz bE aJ aB bK bZ
section
variable {w0 w : World} {L : List HP} {K : Value → World → Prop}
theorem xY {n c k : Int} (h1 : 1 ≤ n ∧ n ≤ 65536) (h2 : 1 ≤ c ∧ c ≤ 65536) (h3 : 0 ≤ k ∧ k ≤ 144115188075855872) (h : Sat w0 L w)
    (hK : ∀ e b hd w', Sat w0 (Cl e #[.slice none 0 0, pt b, pt hd, .int .i64 k, .int .i64 0, .int .i64 0, .int .i64 0, .int .i64 0, .int .i64 0, .int .i64 0, .int .i64 0, .int .i64 0] 109 :: gq (pt b) n 1 [] :: IR (pt hd) c 1 [] :: L) w' → K (.tuple #[pt e, .int .i64 0]) w') :
    ai G31 [bk0, .int .i64 n, .int .i64 c, .int .i64 k] w K := by
  refine c31 ?_
  unfold F31
  refine cB h (l := [.slice none 0 0, .slice none 0 0, .slice none 0 0]) rfl fun bp w h => ?_
  (repeat with_reducible refine bA h ?_)
  refine wQ h fun w h => ?_
  (repeat simp(disch:=omega)only[evA,evB,evC,af,ag])
  refine K9 h1.1 h1.2 h fun b w h => ?_
  (repeat simp(disch:=omega)only[evA,evB,evC,af,ag])
  refine PO h2.1 h2.2 h fun hd w h => ?_
  have g1 : decide (k < 0) = false := by simp only [decide_eq_false_iff_not]; omega
  have g2 : decide (k > 144115188075855872) = false := by simp only [decide_eq_false_iff_not]; omega
  (repeat(first
|simp(disch:=omega)only[evA,evB,evC,af,ag,g1,g2]
|with_reducible refine bA h ?_))
  refine Gq h fun w h => ?_
  (repeat(first
|simp(disch:=omega)only[evA,evB,evC,af,ag,Ba]
|((with_reducible apply cB h);rfl;intro _ _ h)))
  exact hK _ b hd _ (h.got)
abbrev JQ (n c k m b t : Int) : List Value := [.slice none 0 0, .slice none 0 0, .slice none 0 0, .int .i64 n, .int .i64 c, .int .i64 k, .int .i64 m, .int .i64 b, .int .i64 t, .slice none 0 0]
theorem CW {n c k m b t : Int} (h1 : 1 ≤ n ∧ n ≤ 65536) (h2 : 1 ≤ c ∧ c ≤ 65536) (h3 : 0 ≤ k ∧ k ≤ 144115188075855872) (h4 : 1 ≤ m ∧ m ≤ 65536) (h5 : 1 ≤ b ∧ b ≤ t ∧ t ≤ 144115188075855872) (h : Sat w0 L w)
    (hK : ∀ w', Sat w0 L w' → K (.int .i64 0) w') : ai G30 [.agg (JQ n c k m b t).toArray] w K := by
  refine c30 ?_
  unfold F30
  refine cB h (l := JQ n c k m b t) rfl fun bp w h => ?_
  (repeat(first
|simp(disch:=omega)only[evA,evB,evC,af,ag]
|with_reducible refine bA h ?_))
  refine wQ h fun w h => ?_
  (repeat(first
|simp(disch:=omega)only[evA,evB,evC,af,ag,fb53]
|with_reducible refine bA h ?_))
  refine xY h1 h2 h3 h fun e b1 hd w h => ?_
  (repeat(first
|simp(disch:=omega)only[evA,evB,evC,af,ag]
|with_reducible refine bA h ?_))
  refine BJ h4 h5 h fun o w h => ?_
  (repeat(first
|simp(disch:=omega)only[evA,evB,evC,af,ag]
|with_reducible refine bA h ?_))
  refine IC h fun w h => ?_
  (repeat(first
|simp(disch:=omega)only[evA,evB,evC,af,ag,iT,Na,M9]
|with_reducible refine bA h ?_))
  exact hK _ (h.got)
theorem JN {n c k m b t : Int} (h1 : 1 ≤ n ∧ n ≤ 65536) (h2 : 1 ≤ c ∧ c ≤ 65536) (h3 : 0 ≤ k ∧ k ≤ 144115188075855872) (h4 : 1 ≤ m ∧ m ≤ 65536) (h5 : 1 ≤ b ∧ b ≤ t ∧ t ≤ 144115188075855872) (h : Sat w0 L w)
    (hK : ∀ x e b1 hd o w', StS w0 ⟨x, e, b1, hd, o, .slice none 0 0⟩ ⟨k, 0, n70, n70, n, 1, [], c, 1, [], iC m b t⟩ L w' → K (.tuple #[pt x, .int .i64 0]) w') : ai G17 [.agg (JQ n c k m b t).toArray] w K := by
  refine c17 ?_
  unfold F17
  refine cB h (l := JQ n c k m b t) rfl fun bp w h => ?_
  (repeat(first
|simp(disch:=omega)only[evA,evB,evC,af,ag]
|with_reducible refine bA h ?_))
  refine CW h1 h2 h3 h4 h5 h fun w h => ?_
  (repeat(first
|simp(disch:=omega)only[evA,evB,evC,af,ag]
|with_reducible refine bA h ?_))
  refine xY h1 h2 h3 h fun e b1 hd w h => ?_
  (repeat(first
|simp(disch:=omega)only[evA,evB,evC,af,ag]
|with_reducible refine bA h ?_))
  refine BJ h4 h5 h fun o w h => ?_
  (repeat(first
|simp(disch:=omega)only[evA,evB,evC,af,ag,Sj]
|((with_reducible apply cB h);rfl;intro _ _ h)))
  exact hK _ e b1 hd o _ (h.got)
theorem J2 {n : Int} (h1 : 1 ≤ n ∧ n ≤ 65536) (h : Sat w0 L w) (hK : ∀ p w', Sat w0 L w' → K (.tuple #[pt p, .int .i64 0]) w') : ai G60 [.int .i64 n] w K := by
  refine c60 ?_
  unfold F60
  have g1 : decide (n < 1) = false := by simp only [decide_eq_false_iff_not]; omega
  have g2 : decide (n > 65536) = false := by simp only [decide_eq_false_iff_not]; omega
  (repeat(first
|simp(disch:=omega)only[evA,evB,evC,af,ag,g1,g2,Pt]
|((with_reducible apply cB h);rfl;intro _ _ h)))
  exact hK _ _ (h.got)
theorem JW {m b t : Int} (h1 : 1 ≤ m ∧ m ≤ 65536) (h2 : 1 ≤ b ∧ b ≤ t ∧ t ≤ 144115188075855872) (h : Sat w0 L w) (hK : ∀ p w', Sat w0 (tN (pt p) (iC m b t) :: L) w' → K (.tuple #[pt p, .int .i64 0]) w') : ai G34 [.int .i64 m, .int .i64 b, .int .i64 t] w K := by
  refine c34 ?_
  unfold F34
  have g1 : decide (m < 1) = false := by simp; omega
  have g2 : decide (m > 65536) = false := by simp; omega
  have g3 : decide (b < 1) = false := by simp; omega
  have g4 : decide (b > t) = false := by simp; omega
  have g5 : decide (t > 144115188075855872) = false := by simp; omega
  (repeat(first
|simp(disch:=omega)only[evA,evB,evC,af,ag,g1,g2,g3,g4,g5,Ik]
|((with_reducible apply cB h);rfl;intro _ _ h)))
  have h2 := Sat.nilLs cEn 15 130 h
  exact hK _ _ (jP (o := iC m b t) (s := .slice none 0 0) h2.f1)
abbrev Ll (e b hd : Nat) (k : Int) : HP := Cl e #[.slice none 0 0, .slice none 0 0, .slice none 0 0, pt b, pt hd, .int .i64 k, .int .i64 0, .int .i64 0, .int .i64 0, .int .i64 0, .int .i64 0, .int .i64 0, .int .i64 0, .int .i64 0, .slice none 0 0] 68
theorem Gl {n c k : Int} (h1 : 1 ≤ n ∧ n ≤ 65536) (h2 : 1 ≤ c ∧ c ≤ 65536) (h3 : 0 ≤ k ∧ k ≤ 144115188075855872) (h : Sat w0 L w)
    (hK : ∀ e b hd w', Sat w0 (Ll e b hd k :: nC (pt b) n 1 [] :: L) w' → K (.tuple #[pt e, .int .i64 0]) w') :
    ai G33 [bk0, .int .i64 n, .int .i64 c, .int .i64 k] w K := by
  refine c33 ?_
  unfold F33
  refine cB h (l := [.slice none 0 0, .slice none 0 0, .slice none 0 0]) rfl fun bp w h => ?_
  (repeat with_reducible refine bA h ?_)
  refine C9 h fun w h => ?_
  (repeat simp(disch:=omega)only[evA,evB,evC,af,ag])
  refine Ou h (fun g => by omega) fun _ _ b w h => ?_
  (repeat simp(disch:=omega)only[evA,evB,evC,af,ag])
  refine J2 h2 h fun hd w h => ?_
  have g1 : decide (k < 0) = false := by simp only [decide_eq_false_iff_not]; omega
  have g2 : decide (k > 144115188075855872) = false := by simp only [decide_eq_false_iff_not]; omega
  (repeat(first
|simp(disch:=omega)only[evA,evB,evC,af,ag,g1,g2,Dv]
|with_reducible refine bA h ?_
|((with_reducible apply cB h);rfl;intro _ _ h)))
  exact hK _ b hd _ (h.got)
abbrev RSt (y e o : Nat) : HP := Cl y #[pt e, pt o, .int .i64 0, .int .i64 0, .int .i64 0, .int .i64 0, .int .i64 0, .int .i64 0, .int .i64 0] 74
theorem Gs {n c k m b t : Int} (h1 : 1 ≤ n ∧ n ≤ 65536) (h2 : 1 ≤ c ∧ c ≤ 65536) (h3 : 0 ≤ k ∧ k ≤ 144115188075855872) (h4 : 1 ≤ m ∧ m ≤ 65536) (h5 : 1 ≤ b ∧ b ≤ t ∧ t ≤ 144115188075855872) (h : Sat w0 L w)
    (hK : ∀ y e b1 hd o w', Sat w0 (RSt y e o :: Ll e b1 hd k :: nC (pt b1) n 1 [] :: tN (pt o) (iC m b t) :: L) w' → K (.tuple #[pt y, .int .i64 0]) w') : ai G18 [.agg (JQ n c k m b t).toArray] w K := by
  refine c18 ?_
  unfold F18 NW MK
  refine cB h (l := JQ n c k m b t) rfl fun bp w h => ?_
  (repeat(first
|simp(disch:=omega)only[evA,evB,evC,af,ag]
|with_reducible refine bA h ?_))
  refine Gl h1 h2 h3 h fun e b1 hd w h => ?_
  (repeat(first
|simp(disch:=omega)only[evA,evB,evC,af,ag]
|with_reducible refine bA h ?_))
  refine JW h4 h5 h fun o w h => ?_
  (repeat(first
|simp(disch:=omega)only[evA,evB,evC,af,ag,iT,Na,M9]
|with_reducible refine bA h ?_))
  unfold Js
  show pg ((fuel - 1) + 1) _ _ _ _ _ _
  rw [pg]
  unfold MJ
  (repeat(first
|simp(disch:=omega)only[evA,evB,evC,af,ag,Df,De,iT]
|with_reducible refine bA h ?_))
  unfold CG MI
  (repeat(first
|simp(disch:=omega)only[evA,evB,evC,af,ag,Sk]
|((with_reducible apply cB h);rfl;intro _ _ h)))
  exact hK _ e b1 hd o _ (h.got)
end
end Go.Proofs.Gong

/- Qv2 -/
namespace Go.Proofs.Gong
open Go Go.Sx Go.Proofs
set_option maxRecDepth 100000
abbrev fJ : Int := 1099511627776
def jM (rs : List Row) (r : Row) : List Row := if (eO fJ (rs ++ [r]) []).isSome = true then rs ++ [r] else rs
def fo (l : List Row) : List Row := (l.take 30).foldl jM []
theorem QD (rs : List Row) (r : Row) : (jM rs r).length ≤ rs.length + 1 := by unfold jM; split <;> simp
theorem uL : ∀ (l rs : List Row), (l.foldl jM rs).length ≤ rs.length + l.length
  | [], rs => by simp
  | r :: l, rs => by
    have := uL l (jM rs r)
    have := QD rs r
    simp only [List.foldl_cons, List.length_cons]; omega
theorem Gz : ∀ (l rs : List Row), (eO fJ rs []).isSome = true → (eO fJ (l.foldl jM rs) []).isSome = true
  | [], rs, h => h
  | r :: l, rs, h => by
    rw [List.foldl_cons]
    refine Gz l _ ?_
    unfold jM
    split
    · assumption
    · exact h
theorem Oy (l : List Row) : (eO fJ (fo l) []).isSome = true := Gz _ _ rfl
theorem uK : ∀ (l rs : List Row) (x : Row), x ∈ l.foldl jM rs → x ∈ rs ∨ x ∈ l
  | [], rs, x, h => .inl h
  | r :: l, rs, x, h => by
    rw [List.foldl_cons] at h
    rcases uK l _ x h with h | h
    · unfold jM at h
      split at h
      · rcases List.mem_append.1 h with h | h
        · exact .inl h
        · exact .inr (by rw [List.mem_singleton.1 h]; simp)
      · exact .inl h
    · exact .inr (List.mem_cons_of_mem _ h)
theorem Ke {l : List Row} {x : Row} (h : x ∈ fo l) : x ∈ l.take 30 := by
  rcases uK _ _ _ h with h | h
  · cases h
  · exact h
theorem Kg (l : List Row) : (fo l).length ≤ 30 := by
  have := uL (l.take 30) []
  rw [List.length_take] at this
  simp at this
  unfold fo; omega
theorem yS {next0 : Int} {rs l : List Row} (hl : l.length ≤ 40) : (qo 40 next0 rs l fJ).1 = 0 ↔ (eO fJ l []).isSome = true := by
  unfold qo
  rw [if_neg (by decide)]
  cases eO fJ l [] with
  | none => simp
  | some ds =>
    simp only
    rw [if_neg (by omega)]
    simp
attribute [local irreducible] aD bY bO eqv dB Cl bS LsH SlH ld1 ldN st ai bT aY dF bI bz bE aJ aB bK bZ
section
variable {w0 w : World} {L : List HP} {K : Value → World → Prop} {l : List Row} {rv : Value} {x y e b : Nat}
theorem qW {l : List Row} (hl : l.length ≤ 140737488351232) (hrd : Rd w0 11 rv l.length (l.flatMap bR)) (hfit : ∀ r ∈ l.take 30, r.e.fits ∧ r.who.length < 1073741824) {hd o : Nat}
    (hK : ∀ sv nx rb w', Sat w0 (LsH bR 11 48 sv (fo l) :: RSt y e o :: Ll e b hd 0 :: nC (pt b) 40 nx rb :: L) w' → Bn (pt x) (pt y) sv w' K) :
    ∀ (k i n : Nat) (rs : List Row) (sv : Value) (nx : Int) (rb : List Row) (w : World), i + k = min l.length 30 → k < n → rs = (l.take i).foldl jM [] → Sat w0 (LsH bR 11 48 sv rs :: RSt y e o :: Ll e b hd 0 :: nC (pt b) 40 nx rb :: L) w →
      oN n rv (pt x) (pt y) sv (.int .i64 (i : Nat)) w K
  | 0, i, n, rs, sv, nx, rb, w, hi, hn, hr, h => by
    obtain ⟨n, rfl⟩ : ∃ q, n = q + 1 := ⟨n - 1, by omega⟩
    haveI : ∀ M, RdIn w0 M rv Row bR 11 l := fun M => RdIn.arg hrd
    have hrs : rs = fo l := by
      rw [hr]; unfold fo
      congr 1
      rcases Nat.le_total l.length 30 with g | g
      · rw [List.take_of_length_le (by omega), List.take_of_length_le g]
      · rw [show i = 30 by omega]
    rw [hrs] at h
    rw [oN]
    unfold Un NC
    by_cases g : i < l.length
    · have d1 : decide ((i : Int) < (l.length : Int)) = true := by simpa using g
      have d2 : decide ((i : Int) < 30) = false := by simp only [decide_eq_false_iff_not]; omega
      (repeat(first
|simp(disch:=omega)only[evA,evB,evC,af,ag,d1,d2]
|with_reducible apply fq h))
      exact hK _ _ _ _ h
    · have d1 : decide ((i : Int) < (l.length : Int)) = false := by simpa using g
      (repeat(first
|simp(disch:=omega)only[evA,evB,evC,af,ag,d1]
|with_reducible apply fq h))
      exact hK _ _ _ _ h
  | k + 1, i, n, rs, sv, nx, rb, w, hi, hn, hr, h => by
    obtain ⟨n, rfl⟩ : ∃ q, n = q + 1 := ⟨n - 1, by omega⟩
    haveI : ∀ M, RdIn w0 M rv Row bR 11 l := fun M => RdIn.arg hrd
    have hil : i < l.length := by omega
    have d1 : decide ((i : Int) < (l.length : Int)) = true := by simpa using hil
    have d2 : decide ((i : Int) < 30) = true := by simp only [decide_eq_true_eq]; omega
    have hpk : jM rs l[i] = (l.take (i + 1)).foldl jM [] := by
      rw [List.take_succ_eq_append_getElem hil, List.foldl_append, ← hr]; rfl
    have hrl : rs.length ≤ i := by
      have := uL (l.take i) []
      rw [← hr, List.length_take] at this
      simp at this; omega
    have e3 : (i : Int) + 1 = ((i + 1 : Nat) : Int) := by omega
    have hfit2 : ∀ q ∈ rs ++ [l[i]], q.e.fits ∧ q.who.length < 1073741824 := by
      intro q hq
      refine hfit q ?_
      have hm : ∀ q ∈ l.take (i + 1), q ∈ l.take 30 := fun q hq => by
        have : l.take (i + 1) = (l.take 30).take (i + 1) := by rw [List.take_take, Nat.min_eq_left (by omega)]
        rw [this] at hq
        exact List.mem_of_mem_take hq
      rcases List.mem_append.1 hq with hq | hq
      · rw [hr] at hq
        rcases uK _ _ _ hq with hq | hq
        · cases hq
        · refine hm q ?_
          rw [List.take_succ_eq_append_getElem hil]
          exact List.mem_append_left _ hq
      · refine hm q ?_
        rw [List.take_succ_eq_append_getElem hil]
        exact List.mem_append_right _ hq
    have hlen : (rs ++ [l[i]]).length ≤ 40 := by simp; omega
    have next : ∀ (mv : Value) (w : World), Sat w0 (LsH bR 11 48 mv (rs ++ [l[i]]) :: LsH bR 11 48 sv rs :: RSt y e o :: Ll e b hd 0 :: nC (pt b) 40 nx rb :: L) w →
        ai G19 [pt b, mv, .int .i64 1099511627776] w fun v56 w55 => aa (bEq Tryz.prog 33 (.tmp 77) (.const (.int .i64 0)) v56 (.int .i64 0)) fun v57 => ifB v57 (Ja rv (pt x) (pt y) mv (.int .i64 (i : Nat)) w55 K fun a0 a5 a7 a9 a10 w => oN n a0 a5 a7 a9 a10 w K) (Ja rv (pt x) (pt y) sv (.int .i64 (i : Nat)) w55 K fun a0 a5 a7 a9 a10 w => oN n a0 a5 a7 a9 a10 w K) := by
      intro mv w h
      refine yA (l := rs ++ [l[i]]) hfit2 (by omega) (h.frt (A := nC (pt b) 40 nx rb)) fun w h => ?_
      by_cases g : (eO fJ (rs ++ [l[i]]) []).isSome = true
      · rw [(yS (next0 := nx) (rs := rb) hlen).2 g]
        have hp : jM rs l[i] = rs ++ [l[i]] := by unfold jM; rw [if_pos g]
        (repeat simp(disch:=omega)only[evA,evB,evC,af,ag])
        unfold Ja NB
        (repeat simp(disch:=omega)only[evA,evB,evC,af,ag])
        rw [e3]
        exact qW hl hrd hfit hK k (i + 1) n _ mv _ _ w (by omega) (by omega) (hp.symm.trans hpk) (h.got)
      · have hp : jM rs l[i] = rs := by unfold jM; rw [if_neg g]
        have hc : (qo 40 nx rb (rs ++ [l[i]]) fJ).1 ≠ 0 := fun e => g ((yS hlen).1 e)
        generalize (qo 40 nx rb (rs ++ [l[i]]) fJ).1 = c at hc
        have d : decide (c = 0) = false := by simpa using hc
        (repeat simp(disch:=omega)only[evA,evB,evC,af,ag,d])
        unfold Ja NB
        (repeat simp(disch:=omega)only[evA,evB,evC,af,ag])
        rw [e3]
        exact qW hl hrd hfit hK k (i + 1) n _ sv _ _ w (by omega) (by omega) (hp.symm.trans hpk) (h.got)
    rw [oN]
    unfold Un NC
    (repeat(first
|simp(disch:=omega)only[evA,evB,evC,af,ag,d1,d2]
|with_reducible apply fq h
|((with_reducible apply jm h);omega)
|((with_reducible first|apply jq h|apply jo h|apply gW h|apply gX h|apply jr h|apply gY h);(case hc=>exact inferInstance);(case hi=>omega);(try case hx=>exact inferInstance);(try case hv=>rfl))))
    repeat' (first | (first |simp(disch:=omega)only[evA,evB,evC,af,ag] |with_reducible refine bA h ?_ |((with_reducible apply RO h);rfl) |with_reducible apply fq h |((with_reducible refine gH h ?_);intro _ h) |((with_reducible apply dO h);rfl;rfl;(first|rfl|simp[OneV.o]);intro _ h) |((with_reducible apply RJ h);rfl;(first|rfl|simp[OneV.o]);intro _ h) |((with_reducible apply cB h);rfl;intro _ _ h) |((with_reducible apply jm h);omega) |((with_reducible first|apply jq h|apply jo h|apply gW h|apply gX h|apply jr h|apply gY h);(case hc=>exact inferInstance);(case hi=>omega);(try case hx=>exact inferInstance);(try case hv=>rfl)) |((with_reducible apply RQ h);(case hc=>exact inferInstance);(case hi=>omega);(try case hp=>exact inferInstance);(try case hv=>rfl)) |((with_reducible apply oz h);(case hc=>exact inferInstance);omega;omega) |((with_reducible apply RN h);rfl) |((with_reducible first|apply xg CR h u22 (by kernel_rfl)|apply jQ CR h u22 (Sd _) rfl);intro _ _ h) |((with_reducible apply Nc h Oj Qj);(case hm=>repeat(first|exact .here|apply Fnt.there));(case hb=>first|omega|(simp;omega));intro _ _ _ h)) | (refine ⟨?_, ?_⟩) | (simp only [List.nil_append] at h; exact next _ _ (h.got)))
end
end Go.Proofs.Gong

/- Qv3 -/
namespace Go.Proofs.Gong
open Go Go.Sx Go.Proofs
set_option maxRecDepth 100000
def kS (o : Ob) (r : Row) : Ob := (si 1 r o).2
theorem Vl (o : Ob) (r : Row) : (kS o r).last ≤ o.last + 1 ∧ (kS o r).refused ≤ o.refused + 1 := by
  unfold kS si
  split
  · simp only; omega
  · split
    · simp only; omega
    · simp only; omega
theorem MQ : ∀ (l : List Row) (o : Ob), (l.foldl kS o).last ≤ o.last + l.length ∧ (l.foldl kS o).refused ≤ o.refused + l.length
  | [], o => by simp
  | r :: l, o => by
    have h1 := MQ l (kS o r)
    have h2 := Vl o r
    simp only [List.foldl_cons, List.length_cons]
    push_cast
    omega
def obQ (l : List Row) : Ob := (fo l).foldl kS (iC 40 1 9)
def dsQ (l : List Row) : List Row := (eO fJ (fo l) []).getD []
theorem dsQ_eq (l : List Row) : eO fJ (fo l) [] = some (dsQ l) := by
  have h := Oy l
  unfold dsQ
  cases e : eO fJ (fo l) [] with
  | none => rw [e] at h; cases h
  | some ds => rfl
def DQ (l : List Row) : SD := ⟨0, 0, n70, n70, 40, fJ, dsQ l, 5, 1, [], obQ l⟩
theorem JM (a : Operand) (q : Addr) : bEq Tryz.prog 26 a (.const (.pointer none)) (.pointer (some q)) (.pointer none) = some (.bool false) := by cases a <;> kernel_rfl
theorem rp_nil (a : Operand) (q : Addr) : bEq Tryz.prog 27 a (.const (.pointer none)) (.pointer (some q)) (.pointer none) = some (.bool false) := by cases a <;> kernel_rfl
attribute [local irreducible] aD bY bO eqv dB Cl bS LsH SlH ld1 ldN st ai bT aY dF bI bz bE aJ aB bK bZ
section
variable {w0 w : World} {L : List HP} {K : Value → World → Prop} {l : List Row} {rv : Value} {x y e b : Nat}
abbrev Tg (y e2 b2 hd2 o2 : Nat) (rb : List Row) (nx : Int) (ob : Ob) (L : List HP) : List HP := RSt y e2 o2 :: Ll e2 b2 hd2 0 :: nC (pt b2) 40 nx rb :: tN (pt o2) ob :: L
theorem yR {rs : List Row} {P : SP} {D : SD} {sv : Value} {e2 b2 hd2 o2 : Nat} {rb : List Row} {nx : Int} (hl : rs.length ≤ 30) (hfit : ∀ r ∈ rs, r.e.fits ∧ r.who.length < 1073741824)
    (hK : ∀ w', StS w0 P { D with o := rs.foldl kS (iC 40 1 9) } (Tg y e2 b2 hd2 o2 rb nx (rs.foldl kS (iC 40 1 9)) L) w' → K (.tuple #[pt P.x, pt y]) w') :
    ∀ (k i n : Nat) (w : World), i + k = rs.length → k < n → StS w0 P { D with o := (rs.take i).foldl kS (iC 40 1 9) } (Tg y e2 b2 hd2 o2 rb nx ((rs.take i).foldl kS (iC 40 1 9)) (LsH bR 11 48 sv rs :: L)) w →
      tZ n (pt P.x) (pt y) sv (.int .i64 (i : Nat)) w K
  | 0, i, n, w, hi, hn, h => by
    obtain ⟨n, rfl⟩ : ∃ q, n = q + 1 := ⟨n - 1, by omega⟩
    have him : i = rs.length := by omega
    subst him
    have g' : decide ((rs.length : Int) < (rs.length : Int)) = false := by simp
    rw [List.take_length] at h
    rw [tZ]
    unfold ND
    (repeat(first
|simp(disch:=omega)only[evA,evB,evC,af,ag,g']
|with_reducible refine bA h ?_))
    unfold P8 Uo
    exact hK _ (h.got)
  | k + 1, i, n, w, hi, hn, h => by
    obtain ⟨n, rfl⟩ : ∃ q, n = q + 1 := ⟨n - 1, by omega⟩
    have hil : i < rs.length := by omega
    have g' : decide ((i : Int) < (rs.length : Int)) = true := by simpa using hil
    have e3 : (i : Int) + 1 = ((i + 1 : Nat) : Int) := by omega
    have ht : kS ((rs.take i).foldl kS (iC 40 1 9)) rs[i] = (rs.take (i + 1)).foldl kS (iC 40 1 9) := by
      rw [List.take_succ_eq_append_getElem hil, List.foldl_append]; rfl
    have hb := MQ (rs.take i) (iC 40 1 9)
    have hn0 : (iC 40 1 9).last = 0 ∧ (iC 40 1 9).refused = 0 := ⟨rfl, rfl⟩
    rw [List.length_take, hn0.1, hn0.2] at hb
    have hf := hfit rs[i] (List.getElem_mem hil)
    have ho := MU (h.frt (A := xc (pt P.o) ((rs.take i).foldl kS (iC 40 1 9))))
    rw [tZ]
    unfold ND
    (repeat(first
|simp(disch:=omega)only[evA,evB,evC,af,ag,g']
|with_reducible refine bA h ?_
|((with_reducible apply RP h);omega)
|((with_reducible first|apply Dm h|apply Nb h|apply Dk h|apply Dl h);(case hi=>omega);(try case hx=>exact inferInstance);(try case hv=>rfl))))
    refine OG (o := (rs.take i).foldl kS (iC 40 1 9)) (r := rs[i]) (by omega) (by omega) hf.1 hf.2 (h.drew.frt (A := xc (pt P.o) ((rs.take i).foldl kS (iC 40 1 9)))) fun w h => ?_
    (repeat(first
|with_reducible refine bA h ?_
|((with_reducible apply RP h);omega)
|((with_reducible first|apply Dm h|apply Nb h|apply Dk h|apply Dl h);(case hi=>omega);(try case hx=>exact inferInstance);(try case hv=>rfl))))
    refine Ot (o := (rs.take i).foldl kS (iC 40 1 9)) (r := rs[i]) ho (by omega) (by omega) hf.1 hf.2 (h.drew.frt (A := tN (pt o2) ((rs.take i).foldl kS (iC 40 1 9)))) fun w h => ?_
    skip
    rw [e3]
    change Sat w0 (tN (pt o2) (kS ((rs.take i).foldl kS (iC 40 1 9)) rs[i]) :: xc (pt P.o) (kS ((rs.take i).foldl kS (iC 40 1 9)) rs[i]) :: _) w at h
    rw [ht] at h
    exact yR hl hfit hK k (i + 1) n w (by omega) (by omega) (h.got)
theorem JP (h : Sat w0 L w) (hK : ∀ w', Sat w0 L w' → K (.agg (JQ 40 5 0 40 1 9).toArray) w') : ai G16 [] w K := by
  refine c16 ?_
  unfold F16
  (repeat(first
|simp(disch:=omega)only[evA,evB,evC,af,ag,ze]
|with_reducible refine bA h ?_
|((with_reducible apply dO h);rfl;rfl;(first|rfl|simp[OneV.o]);intro _ h)
|((with_reducible apply cu h);(first|exact z55);rfl;intro _ _ h)))
  exact hK _ (h.got)
theorem wI {l : List Row} (hl : l.length ≤ 140737488351232) (hrd : Rd w0 11 rv l.length (l.flatMap bR)) (hfit : ∀ r ∈ l.take 30, r.e.fits ∧ r.who.length < 1073741824) (h : Sat w0 L w)
    (hK : ∀ P y e2 b2 hd2 o2 w', StS w0 P (DQ l) (Tg y e2 b2 hd2 o2 (dsQ l) fJ (obQ l) L) w' → K (.tuple #[pt P.x, pt y]) w') : ai G6 [rv] w K := by
  refine c6 ?_
  unfold F6 Yt Ut
  refine JP h fun w h => ?_
  (repeat(first
|simp(disch:=omega)only[evA,evB,evC,af,ag]
|with_reducible refine bA h ?_
|((with_reducible apply dO h);rfl;rfl;(first|rfl|simp[OneV.o]);intro _ h)
|((with_reducible apply cu h);(first|exact z55);rfl;intro _ _ h)))
  refine JN (by omega) (by omega) (by omega) (by omega) (by omega) h fun x e b1 hd o w h => ?_
  (repeat(first
|simp(disch:=omega)only[evA,evB,evC,af,ag,u6]
|with_reducible refine bA h ?_))
  refine Gs (by omega) (by omega) (by omega) (by omega) (by omega) h fun y e2 b2 hd2 o2 w h => ?_
  (repeat simp(disch:=omega)only[evA,evB,evC,af,ag,JM,rp_nil])
  unfold Us
  have h := Sat.nilLs bR 11 48 h
  refine qW (x := x) (e := e2) (b := b2) (hd := hd2) (o := o2) (L := tN (pt o2) (iC 40 1 9) :: _) hl hrd hfit (fun sv nx rb w h => ?_) (min l.length 30) 0 fuel [] _ _ _ w (by omega) (by unfold fuel; omega) rfl (h.got)
  unfold Bn Ur
  have hpl := Kg l
  have hpf : ∀ r ∈ fo l, r.e.fits ∧ r.who.length < 1073741824 := fun r hr => hfit r (Ke hr)
  have eds := dsQ_eq l
  (repeat(first
|simp(disch:=omega)only[evA,evB,evC,af,ag]
|with_reducible refine bA h ?_))
  refine yA (l := fo l) hpf (by omega) (h.frt (A := nC (pt b2) 40 nx rb)) fun w h => ?_
  have ea : qo 40 nx rb (fo l) fJ = (0, fJ, dsQ l) := by
    unfold qo
    rw [if_neg (by decide), eds]
    simp only
    rw [if_neg (by omega)]
  rw [show (1099511627776 : Int) = fJ from rfl, ea] at h
  simp only at h
  (repeat with_reducible refine bA h ?_)
  refine c20 ?_
  unfold F20
  (repeat(first
|simp(disch:=omega)only[evA,evB,evC,af,ag]
|with_reducible refine bA h ?_))
  refine IK (L := LsH bR 11 48 sv (fo l) :: RSt y e2 o2 :: Ll e2 b2 hd2 0 :: nC (pt b2) 40 fJ (dsQ l) :: tN (pt o2) (iC 40 1 9) :: _) (l := fo l) hpf (by omega) (fun h => (dw h).len) (fun _ h => dw h) (h.got) (fun hb => ?_) (fun ds _ _ hb => ?_) fun ds he _ _ w h => ?_
  · rcases hb with hb | hb | hb
    · omega
    · omega
    · rw [show (1099511627776 : Int) = fJ from rfl, eds] at hb; cases hb
  · intro hb2; omega
  · rw [show (1099511627776 : Int) = fJ from rfl, eds] at he
    cases he
    skip
    unfold Uq
    exact yR (L := L) (P := ⟨x, e, b1, hd, o, .slice none 0 0⟩) (D := DQ l) (rs := fo l) hpl hpf (fun w h => hK ⟨x, e, b1, hd, o, .slice none 0 0⟩ y e2 b2 hd2 o2 w h) (fo l).length 0 fuel w (by omega) (by unfold fuel; omega) (h.got)
end
end Go.Proofs.Gong

/- Qw0 -/
namespace Go.Proofs.Gong
open Go Go.Sx Go.Proofs
set_option maxRecDepth 100000
def CP (r : Row) : Nat := r.e.text.length + r.e.node.length + r.e.cls.length + r.e.key.length + r.who.length
def mO (l : List Row) : Bool := (l.take 30).all fun r => decide (CP r ≤ 2000)
structure RBig (r : Row) : Prop where
  node : r.e.node.length ≤ 140737488351232
  cls : r.e.cls.length ≤ 140737488351232
  key : r.e.key.length ≤ 140737488351232
  text : r.e.text.length ≤ 140737488351232
  who : r.who.length ≤ 140737488351232
attribute [local irreducible] aD bY bO eqv dB Cl bS LsH SlH ld1 ldN st ai bT aY dF bI bz bE aJ aB bK bZ
section
variable {w0 w : World} {L : List HP} {K : Value → World → Prop} {rv : Value}
theorem ym {l : List Row} (hl : l.length ≤ 140737488351232) (hb : ∀ r ∈ l, RBig r) (hrd : Rd w0 11 rv l.length (l.flatMap bR)) (hK : ∀ w', Sat w0 L w' → K (.bool (mO l)) w') :
    ∀ (k i n : Nat) (w : World), i + k = min l.length 30 → k < n → (l.take i).all (fun r => decide (CP r ≤ 2000)) = true → Sat w0 L w → uf n rv (.int .i64 (i : Nat)) w K
  | 0, i, n, w, hi, hn, ha, h => by
    obtain ⟨n, rfl⟩ : ∃ q, n = q + 1 := ⟨n - 1, by omega⟩
    haveI : ∀ M, RdIn w0 M rv Row bR 11 l := fun M => RdIn.arg hrd
    have hs : mO l = true := by
      unfold mO
      rcases Nat.le_total l.length 30 with g | g
      · rw [List.take_of_length_le (by omega)] at ha ⊢; exact ha
      · rw [show i = 30 by omega] at ha; exact ha
    rw [hs] at hK
    rw [uf]
    unfold NF
    by_cases g : i < l.length
    · have d1 : decide ((i : Int) < (l.length : Int)) = true := by simpa using g
      have d2 : decide ((i : Int) < 30) = false := by simp only [decide_eq_false_iff_not]; omega
      (repeat(first
|simp(disch:=omega)only[evA,evB,evC,af,ag,d1,d2]
|with_reducible apply fq h))
      unfold LJ NE
      exact hK _ h
    · have d1 : decide ((i : Int) < (l.length : Int)) = false := by simpa using g
      (repeat(first
|simp(disch:=omega)only[evA,evB,evC,af,ag,d1]
|with_reducible apply fq h))
      unfold LJ NE
      exact hK _ h
  | k + 1, i, n, w, hi, hn, ha, h => by
    obtain ⟨n, rfl⟩ : ∃ q, n = q + 1 := ⟨n - 1, by omega⟩
    haveI : ∀ M, RdIn w0 M rv Row bR 11 l := fun M => RdIn.arg hrd
    have hil : i < l.length := by omega
    have d1 : decide ((i : Int) < (l.length : Int)) = true := by simpa using hil
    have d2 : decide ((i : Int) < 30) = true := by simp only [decide_eq_true_eq]; omega
    obtain ⟨b1, b2, b3, b4, b5⟩ := hb l[i] (List.getElem_mem hil)
    have e3 : (i : Int) + 1 = ((i + 1 : Nat) : Int) := by omega
    rw [uf]
    unfold NF
    have es : ((l[i].e.text.length : Int) + l[i].e.node.length + l[i].e.cls.length + l[i].e.key.length + l[i].who.length) = ((CP l[i] : Nat) : Int) := by unfold CP; push_cast; rfl
    (repeat(first
|simp(disch:=omega)only[evA,evB,evC,af,ag,d1,d2,Nat.reduceAdd]
|with_reducible apply fq h
|((with_reducible apply jm h);omega)
|((with_reducible first|apply jq h|apply jo h|apply gW h|apply gX h|apply jr h|apply gY h);(case hc=>exact inferInstance);(case hi=>omega);(try case hx=>exact inferInstance);(try case hv=>rfl))
|((with_reducible apply oz h);(case hc=>exact inferInstance);omega;omega)
|((with_reducible apply XU h);(case hc=>exact inferInstance);omega)))
    by_cases g : CP l[i] ≤ 2000
    · have d3 : decide (((CP l[i] : Nat) : Int) > 2000) = false := by simp only [decide_eq_false_iff_not]; omega
      (repeat simp(disch:=omega)only[evA,evB,evC,af,ag,es,d3])
      rw [e3]
      refine ym hl hb hrd hK k (i + 1) n w.drew (by omega) (by omega) ?_ h.drew
      rw [List.take_succ_eq_append_getElem hil, List.all_append, ha]
      simpa using g
    · have d3 : decide (((CP l[i] : Nat) : Int) > 2000) = true := by simp only [decide_eq_true_eq]; omega
      (repeat simp(disch:=omega)only[evA,evB,evC,af,ag,es,d3])
      have hs : mO l = false := by
        unfold mO
        rw [Bool.eq_false_iff, Ne, List.all_eq_true]
        intro hall
        have hm : l[i] ∈ l.take 30 := by
          rw [List.mem_iff_getElem]
          exact ⟨i, by rw [List.length_take]; omega, by rw [List.getElem_take]⟩
        have := hall _ hm
        simp at this; omega
      rw [hs] at hK
      exact hK _ h.drew
theorem JO {l : List Row} (hl : l.length ≤ 140737488351232) (hb : ∀ r ∈ l, RBig r) (hrd : Rd w0 11 rv l.length (l.flatMap bR)) (h : Sat w0 L w) (hK : ∀ w', Sat w0 L w' → K (.bool (mO l)) w') : ai G5 [rv] w K := by
  refine c5 ?_
  unfold F5 Yu Uv Uu
  exact ym hl hb hrd hK (min l.length 30) 0 fuel w (by omega) (by unfold fuel; omega) (by simp) h
theorem Om {l : List Row} (h : mO l = true) : ∀ r ∈ l.take 30, r.e.fits ∧ r.who.length < 1073741824 := by
  intro r hr
  unfold mO at h
  have h2 : CP r ≤ 2000 := of_decide_eq_true (List.all_eq_true.1 h r hr)
  unfold CP at h2
  exact ⟨⟨by omega, by omega, by omega, by omega⟩, by omega⟩
end
theorem XH {r : Row} (h : okR r = true) (hi : r.id < fJ) : LFit r := by
  have hf := Vw h
  unfold okR at h
  simp only [Bool.and_eq_true, decide_eq_true_eq] at h
  obtain ⟨⟨⟨⟨⟨⟨h1, h2⟩, h3⟩, h4⟩, h5⟩, h6⟩, h7⟩ := h
  unfold kL jc at h5
  simp only [Bool.and_eq_true, decide_eq_true_eq] at h5
  unfold okE at h7
  simp only [Bool.and_eq_true, decide_eq_true_eq] at h7
  obtain ⟨⟨⟨⟨⟨⟨_, p1⟩, p2⟩, p3⟩, p4⟩, p5⟩, p6⟩ := h7
  have q1 := fH p1
  have q2 := fH p2
  have q3 := fH p3
  have q4 := fH p4
  have q5 : r.who.length ≤ 64 := by
    unfold wV at h6
    split at h6
    · unfold qL at h6
      simp only [Bool.and_eq_true] at h6
      exact fH h6.2
    · simp only [decide_eq_true_eq] at h6
      rw [h6]; simp
  simp only [fJ] at hi
  exact ⟨by omega, by omega, by omega, by omega, by omega, by omega⟩
end Go.Proofs.Gong

/- Qw1 -/
namespace Go.Proofs.Gong
open Go Go.Sx Go.Proofs
set_option maxRecDepth 100000
def dE : List UInt8 := [108, 101, 118, 101, 108]
def iL (s : List UInt8) : Option Nat := match Lib.atoi s with
  | some n => if 0 ≤ n ∧ s.length ≤ 18 ∧ Lib.itoa n = s then some n.toNat else none
  | none => none
theorem kC {u : Nat} (h : u < 1000000000000000000) : iL (Lib.itoa (u : Int)) = some u := by
  unfold iL
  rw [Cj]
  simp only
  rw [if_pos ⟨by omega, sJ h, trivial⟩]
  simp
def ofS (key word : List UInt8) : Option (Row → Bool) := if key = dE then (iL word).bind fun n => if n ≤ 5 then some fun r => decide (r.e.level ≥ (n : Int)) else none else none
def wr1 : Row := ⟨1, ⟨[110], [99], [], 4, []⟩, 1, 0, 0, false, []⟩
def wr2 : Row := ⟨2, ⟨[109], [99], [], 3, []⟩, 1, 0, 0, false, []⟩
def nQ : List UInt8 := [49, 32, 52, 32, 49, 32, 49, 57, 55, 48, 45, 48, 49, 45, 48, 49, 84, 48, 48, 58, 48, 48, 58, 48, 48, 90, 32, 49, 57, 55, 48, 45, 48, 49, 45, 48, 49, 84, 48, 48, 58, 48, 48, 58, 48, 48, 90, 32, 45, 32, 34, 110, 34, 32, 34, 99, 34, 32, 34, 34, 32, 34, 34]
def wAsk : List UInt8 := [108, 105, 115, 116, 32, 108, 101, 118, 101, 108, 32, 52, 32, 111, 114, 100, 101, 114, 32, 108, 97, 115, 116, 32, 108, 105, 109, 105, 116, 32, 49, 48]
def lU : List (List UInt8) := [dE, [52], dA, [108, 97, 115, 116], bX, [49, 48]]
theorem Iy : dsQ [wr1, wr2] = [wr1, wr2] := by kernel_rfl
theorem Km : dS wr1 = nQ := by kernel_rfl
theorem FW : uz wAsk = fC :: lU := by kernel_rfl
theorem ZU : Lib.itoa ((10 : Nat) : Int) = [49, 48] := by kernel_rfl
theorem Xy : Lib.itoa ((4 : Nat) : Int) = [52] := by kernel_rfl
def wSt : QSt := ⟨[fun r => decide (r.e.level ≥ ((4 : Nat) : Int))], some fun r => r.last, ((10 : Nat) : Int)⟩
theorem J6 : fu ofS iL lU ⟨[], none, -1⟩ = some wSt := by
  have e4 : iL [52] = some 4 := by rw [← Xy]; exact kC (by omega)
  have e10 : iL [49, 48] = some 10 := by rw [← ZU]; exact kC (by omega)
  have s1 : gL ofS iL ⟨[], none, -1⟩ dE [52] = some ⟨[fun r => decide (r.e.level ≥ ((4 : Nat) : Int))], none, -1⟩ := by
    unfold gL
    rw [if_neg (by simp [dE, dA]), if_neg (by simp [dE, bX])]
    unfold ofS
    rw [if_pos rfl, e4]; rfl
  have s2 : gL ofS iL ⟨[fun r => decide (r.e.level ≥ ((4 : Nat) : Int))], none, -1⟩ dA [108, 97, 115, 116] = some ⟨[fun r => decide (r.e.level ≥ ((4 : Nat) : Int))], some fun r => r.last, -1⟩ := by
    unfold gL
    rw [if_pos ⟨rfl, rfl, rfl⟩]; rfl
  have s3 : gL ofS iL ⟨[fun r => decide (r.e.level ≥ ((4 : Nat) : Int))], some fun r => r.last, -1⟩ bX [49, 48] = some wSt := by
    unfold gL
    rw [if_neg (by simp [bX, dA]), if_pos ⟨rfl, by decide⟩, e10]; rfl
  unfold lU
  rw [fu, s1]; simp only
  rw [fu, s2]; simp only
  rw [fu, s3]; simp only
  rw [fu]
attribute [local irreducible] aD bY bO eqv dB Cl bS LsH SlH ld1 ldN st ai bT aY dF bI bz bE aJ aB bK bZ
section
variable {w0 w : World} {L : List HP} {K : Value → World → Prop} {rv : Value}
theorem Q8 {u : Nat} (T : gQ Tryz.prog w0) (hu : u < 1000000000000000000) : wT w0 iL (Lib.itoa (u : Int)) := by
  intro L w K h _ hK
  exact r9 T hu h (hK u (kC hu))
theorem OX {n : Int} {nb : Nat} : eH w0 (Cl nb #[.int .i64 n] 3) (.func (.func 172) #[] #[.pointer (some ⟨nb, 0, none⟩)]) (fun r => decide (r.e.level ≥ n)) := by
  intro L w r K _ h hK
  show ai TJ [fQ r, .pointer (some ⟨nb, 0, none⟩)] w K
  refine c172 ?_
  unfold YU
  refine cB h rfl fun p w h => ?_
  (repeat(first
|simp(disch:=omega)only[evA,evB,evC,af,ag,Nat.reduceAdd]
|with_reducible refine bA h ?_))
  exact hK _ h.drop
theorem GI {u : Nat} (T : gQ Tryz.prog w0) (hu : u ≤ 5) : ry w0 ofS dE (Lib.itoa (u : Int)) := by
  intro L w K h _ hK
  have ho : ofS dE (Lib.itoa (u : Int)) = some fun r => decide (r.e.level ≥ (u : Int)) := by
    unfold ofS
    rw [if_pos rfl, kC (by omega)]
    simp only [Option.bind_some, if_pos hu]
  refine c71 ?_
  unfold F71 tY oM
  have d1 : decide (dE = [110, 111, 100, 101]) = false := by decide
  have d2 : decide (dE = [99, 108, 97, 115, 115]) = false := by decide
  have d3 : decide (dE = [107, 101, 121]) = false := by decide
  have d4 : decide (dE = [116, 101, 120, 116]) = false := by decide
  have d5 : decide (dE = [108, 101, 118, 101, 108]) = true := by decide
  refine cB h (l := [.string (bs (Lib.itoa (u : Int)))]) rfl fun p w h => ?_
  unfold qE tX oL
  (repeat simp(disch:=omega)only[evA,evB,evC,af,ag,d1,d2,d3,d4])
  unfold mJ
  (repeat simp(disch:=omega)only[evA,evB,evC,af,ag])
  unfold wU rz
  (repeat simp(disch:=omega)only[evA,evB,evC,af,ag,d5])
  unfold tT
  (repeat simp(disch:=omega)only[evA,evB,evC,af,ag])
  unfold NA LG
  (repeat with_reducible refine bA h ?_)
  refine Kn T hu h fun nb w h => ?_
  (repeat simp(disch:=omega)only[evA,evB,evC,af,ag])
  exact hK _ ho _ _ _ w OX (h.got)
theorem M3 {key word : List UInt8} (h0 : key = dA ∨ key = bX) : ry w0 ofS key word := by
  intro L w K h hF _
  have ho : ofS key word = none := by
    unfold ofS
    rw [if_neg (by rcases h0 with rfl | rfl <;> decide)]
  refine c71 ?_
  unfold F71 tY oM
  have d1 : decide (key = [110, 111, 100, 101]) = false := by rcases h0 with rfl | rfl <;> decide
  have d2 : decide (key = [99, 108, 97, 115, 115]) = false := by rcases h0 with rfl | rfl <;> decide
  have d3 : decide (key = [107, 101, 121]) = false := by rcases h0 with rfl | rfl <;> decide
  have d4 : decide (key = [116, 101, 120, 116]) = false := by rcases h0 with rfl | rfl <;> decide
  have d5 : decide (key = [108, 101, 118, 101, 108]) = false := by rcases h0 with rfl | rfl <;> decide
  have d6 : decide (key = [98, 101, 102, 111, 114, 101]) = false := by rcases h0 with rfl | rfl <;> decide
  have d7 : decide (key = [115, 105, 110, 99, 101]) = false := by rcases h0 with rfl | rfl <;> decide
  have d8 : decide (key = [97, 99, 107, 101, 100]) = false := by rcases h0 with rfl | rfl <;> decide
  refine cB h (l := [.string (bs word)]) rfl fun p w h => ?_
  unfold qE tX oL
  (repeat simp(disch:=omega)only[evA,evB,evC,af,ag,d1,d2,d3,d4])
  unfold mJ
  (repeat simp(disch:=omega)only[evA,evB,evC,af,ag])
  unfold wU rz
  (repeat simp(disch:=omega)only[evA,evB,evC,af,ag,d5])
  unfold tT
  (repeat simp(disch:=omega)only[evA,evB,evC,af,ag])
  unfold rA qd
  (repeat simp(disch:=omega)only[evA,evB,evC,af,ag,d6,d7])
  unfold nE qc
  (repeat simp(disch:=omega)only[evA,evB,evC,af,ag,d8])
  unfold fE D5
  exact hF ho _ w h.drop
end
end Go.Proofs.Gong

/- Qw2 -/
namespace Go.Proofs.Gong
open Go Go.Sx Go.Proofs
set_option maxRecDepth 100000
structure QW (w : World) : Prop where
  A : fF w
  T : gQ Tryz.prog w
  M : Nu w
theorem gQ.keep {P : Program} {w0 w : World} {L : List HP} (T : gQ P w0) (h : Sat w0 L w) : gQ P w := h.var T
theorem QW.keep {w0 w : World} {L : List HP} (Q : QW w0) (h : Sat w0 L w) : QW w :=
  ⟨fun i hi => h.cellOld (Q.A i hi), gQ.keep Q.T h, by obtain ⟨m, hm⟩ := Q.M; exact ⟨m, h.cellOld hm⟩⟩
theorem Nn {l : List Row} {R : List (Int × Row)} {I : List (Sg × Int)} (H : BInv 40 fJ R I (dsQ l)) : ∀ r ∈ dsQ l, LFit r := fun r hr => XH (H.ok r hr).1 (H.ok r hr).2
theorem yg {key : Row → Int} {a b : List Row} (hp : a.Perm b) (ha : a.Pairwise fun x y => ltQ key y x = false) (hb : b.Pairwise fun x y => ltQ key y x = false) (hu : b.Pairwise fun x y => x.id ≠ y.id) : a = b := by
  have e2 : ∀ a b, ltQ key a b = false ↔ ¬ (key b < key a ∨ (key b = key a ∧ a.id < b.id)) := fun a b => by simp [ltQ]
  refine List.Perm.eq_of_pairwise (le := fun x y : Row => ltQ key y x = false) (fun x y hx hy h1 h2 => ?_) ha hb hp
  rw [e2] at h1 h2
  have hid : x.id = y.id := by omega
  have hxb : x ∈ b := hp.mem_iff.1 hx
  rw [List.mem_iff_getElem] at hxb hy
  obtain ⟨i, hi, rfl⟩ := hxb
  obtain ⟨j, hj, rfl⟩ := hy
  rcases Nat.lt_trichotomy i j with g | g | g
  · exact absurd hid (List.pairwise_iff_getElem.1 hu i j hi hj g)
  · subst g; rfl
  · exact absurd hid.symm (List.pairwise_iff_getElem.1 hu j i hj hi g)
attribute [local irreducible] aD bY bO eqv dB Cl bS LsH SlH ld1 ldN st ai bT aY dF bI bz bE aJ aB bK bZ
section
variable {w0 w : World} {L : List HP} {K : Value → World → Prop} {rv : Value}
theorem Gw (Q : QW w0) (h : Sat w0 L w) (hK : ∀ w', Sat w0 L w' → K (.bool true) w') : ai G4 [] w K := by
  refine c4 ?_
  unfold F4
  (repeat simp(disch:=omega)only[evA,evB,evC,af,ag,KL,KJ])
  have hb : dx Tryz.prog 48 2 [(0, fQ wr1), (1, fQ wr2)] = some ([wr1, wr2].flatMap bR).toArray := by kernel_rfl
  refine iD (m := [wr1, wr2]) (f := bR) (es := 11) CRq h u22 hb (by simp) fun rv w1 h1 => ?_
  have hrd := dw h1
  have Q1 := Q.keep h1
  have hfit : ∀ r ∈ [wr1, wr2].take 30, r.e.fits ∧ r.who.length < 1073741824 := by
    intro r hr
    have : r = wr1 ∨ r = wr2 := by simpa using hr
    rcases this with rfl | rfl <;> refine ⟨⟨?_, ?_, ?_, ?_⟩, ?_⟩ <;> decide
  refine wI (l := [wr1, wr2]) (by simp) hrd hfit (Sat.start w1) fun P y e2 b2 hd2 o2 w h => ?_
  (repeat simp(disch:=omega)only[evA,evB,evC,af,ag,JM])
  obtain ⟨R, I, H⟩ : ∃ R I, BInv 40 fJ R I (dsQ [wr1, wr2]) := zu (h.frt (A := gq (pt P.b) 40 fJ (dsQ [wr1, wr2])))
  have hL := Nn H
  refine IM (D := DQ [wr1, wr2]) (L := _) (q := wAsk) (ws := lU) (ofL := ofS) (numL := iL) (R := some wSt) Q1.A Q1.T Q1.M (by decide) FW (by decide) (fun i hi hpar => ?_) (fun i hi hk => ?_) (by rw [if_pos (by decide), J6]) hL (by show (dsQ [wr1, wr2]).length ≤ 1000000; rw [Iy]; decide) h (fun g => by cases g) fun s hs m v w hp hps h => ?_
  · have hi' : i + 1 < 6 := by simpa [lU] using hi
    rcases (show i = 0 ∨ i = 2 ∨ i = 4 by omega) with rfl | rfl | rfl
    · show ry w1 ofS dE [52]
      rw [← Xy]; exact GI Q1.T (by omega)
    · exact M3 (key := dA) (.inl rfl)
    · exact M3 (key := bX) (.inr rfl)
  · have hi' : i + 1 < 6 := by simpa [lU] using hi
    rcases (show i = 0 ∨ i = 1 ∨ i = 2 ∨ i = 3 ∨ i = 4 by omega) with rfl | rfl | rfl | rfl | rfl
    · exact absurd hk (by simp [lU, dE, bX, dA])
    · exact absurd hk (by simp [lU, dE, bX, dA])
    · exact absurd hk (by simp [lU, dE, bX, dA])
    · exact absurd hk (by simp [lU, dE, bX, dA])
    · show wT w1 iL [49, 48]
      rw [← ZU]; exact Q8 Q1.T (by omega)
  · cases hs
    have hf : (DQ [wr1, wr2]).rs.filter (passes wSt.ps) = [wr1] := by
      show (dsQ [wr1, wr2]).filter (passes wSt.ps) = [wr1]
      rw [Iy]; rfl
    rw [hf] at hp
    have hm : m = [wr1] := List.perm_singleton.1 hp
    subst hm
    have hl : (jJ wSt.lim [wr1]).map dS = [nQ] := by rw [← Km]; rfl
    rw [hl] at h
    have hrv : Rd w 1 v [nQ].length ([nQ].flatMap cSt) := dw (h.frt (A := LsH cSt 1 9 v [nQ]))
    have f0 : bI v = some (.int .i64 ((1 : Nat) : Int)) := hrv.len
    have f1 : bq 1 v (.int .i64 0) = some (elP 1 v 0) := fV (i := 0) hrv (by simp)
    have f2 : ld1 (elP 1 v 0) w = some (.string (bs nQ)) := fG (i := 0) (l := [nQ]) (g := fun x : List UInt8 => .string (bs x)) hrv (by simp)
    have d0 : decide (((1 : Nat) : Int) = 1) = true := by decide
    have d1 : decide (nQ = nQ) = true := by simp
    (repeat(first
|simp(disch:=omega)only[evA,evB,evC,af,ag,f0,d0]
|refine ax (f1 ..) ?_
|refine ax (f2 ..) ?_))
    show K (.bool (decide (nQ = nQ))) w
    rw [d1]
    exact hK _ (h1.drop.unbase (h.got))
end
end Go.Proofs.Gong

/- Gl0 -/
namespace Go.Proofs.Gong
structure Pc where
  any : Bool
  has : UInt8 → Bool
  plain : Bool
  own : UInt8
def qb (g : List UInt8 → Bool) : List UInt8 → Bool
  | [] => g []
  | c :: r => g (c :: r) || qb g r
def gm : List Pc → List UInt8 → Bool
  | [], s => s.isEmpty
  | p :: ps, s => if p.any = true then qb (gm ps) s else match s with
    | [] => false
    | c :: r => p.has c && gm ps r
theorem wS {g : List UInt8 → Bool} : ∀ {s : List UInt8}, qb g s = true ↔ ∃ i, i ≤ s.length ∧ g (s.drop i) = true
  | [] => by
    constructor
    · intro h; exact ⟨0, Nat.le_refl _, h⟩
    · rintro ⟨i, _, h⟩; rw [List.drop_nil] at h; exact h
  | c :: r => by
    rw [qb, Bool.or_eq_true, wS]
    constructor
    · rintro (h | ⟨i, h1, h2⟩)
      · exact ⟨0, by simp, h⟩
      · exact ⟨i + 1, by simp; omega, by simpa using h2⟩
    · rintro ⟨i, h1, h2⟩
      cases i with
      | zero => exact .inl (by simpa using h2)
      | succ i => exact .inr ⟨i, by simp at h1; omega, by simpa using h2⟩
theorem Dp {p : Pc} {ps : List Pc} {s : List UInt8} : gm (p :: ps) s = if p.any = true then qb (gm ps) s else match s with
    | [] => false
    | c :: r => p.has c && gm ps r := by
  rw [gm.eq_def]
theorem Nf {p : Pc} {ps : List Pc} {s : List UInt8} (h : p.any = true) : gm (p :: ps) s = qb (gm ps) s := by rw [Dp, if_pos h]
theorem RS {p : Pc} {ps : List Pc} {c : UInt8} {r : List UInt8} (h : ¬ p.any = true) : gm (p :: ps) (c :: r) = (p.has c && gm ps r) := by rw [Dp, if_neg h]
theorem Ng {p : Pc} {ps : List Pc} (h : ¬ p.any = true) : gm (p :: ps) [] = false := by rw [Dp, if_neg h]
theorem Dq {p : Pc} {ps : List Pc} {s : List UInt8} (h : p.any = true) : gm (p :: ps) s = true ↔ ∃ i, i ≤ s.length ∧ gm ps (s.drop i) = true := by
  rw [Nf h, wS]
theorem H8 {p : Pc} {ps : List Pc} {s : List UInt8} (h : p.any = true) {i : Nat} (hi : i ≤ s.length) (hg : gm (p :: ps) (s.drop i) = true) : gm (p :: ps) s = true := by
  rw [Dq h] at hg ⊢
  obtain ⟨j, h1, h2⟩ := hg
  rw [List.drop_drop] at h2
  exact ⟨i + j, by simp at h1; omega, h2⟩
def wG (P : List Pc) (S : List UInt8) (at_ k : Nat) (st : Option (Nat × Nat)) : Bool ⊕ (Nat × Nat × Option (Nat × Nat)) :=
  if (P[k]?).elim false (·.any) = true then .inr (at_, k + 1, some (k, at_))
  else if (P[k]?).elim false (fun p => p.has ((S[at_]?).getD 0)) = true then .inr (at_ + 1, k + 1, st)
  else match st with
    | none => .inl false
    | some (s, f) => .inr (f + 1, s + 1, some (s, f + 1))
def sw (P : List Pc) (S : List UInt8) (at_ k : Nat) (st : Option (Nat × Nat)) : Prop :=
  gm (P.drop k) (S.drop at_) = true ∨ ∃ s f, st = some (s, f) ∧ ∃ j, f < j ∧ j ≤ S.length ∧ gm (P.drop (s + 1)) (S.drop j) = true
def mok (P : List Pc) (at_ k : Nat) (st : Option (Nat × Nat)) : Prop :=
  ∀ s f, st = some (s, f) → s + 1 ≤ k ∧ f + (k - (s + 1)) = at_ ∧ (∀ i (h : i < P.length), s < i → i < k → P[i].any = false)
theorem Kz {P : List Pc} {S : List UInt8} : ∀ (n a k : Nat), k + n ≤ P.length → a ≤ S.length → (∀ i (h : i < P.length), k ≤ i → i < k + n → P[i].any = false) → gm (P.drop k) (S.drop a) = true → a + n ≤ S.length ∧ gm (P.drop (k + n)) (S.drop (a + n)) = true
  | 0, a, k, _, ha, _, h => ⟨ha, h⟩
  | n + 1, a, k, hk, ha, hn, h => by
    have hkl : k < P.length := by omega
    have hna : ¬ P[k].any = true := by rw [hn k hkl (Nat.le_refl _) (by omega)]; simp
    rw [List.drop_eq_getElem_cons hkl] at h
    rcases Nat.lt_or_ge a S.length with hal | hal
    · rw [List.drop_eq_getElem_cons hal, RS hna] at h
      simp only [Bool.and_eq_true] at h
      have := Kz n (a + 1) (k + 1) (by omega) (by omega) (fun i hi h1 h2 => hn i hi (by omega) (by omega)) h.2
      refine ⟨by omega, ?_⟩
      rw [show k + (n + 1) = k + 1 + n by omega, show a + (n + 1) = a + 1 + n by omega]
      exact this.2
    · rw [List.drop_eq_nil_of_le hal, Ng hna] at h; cases h
theorem Rb {P : List Pc} {S : List UInt8} {a k : Nat} {st : Option (Nat × Nat)} (ha : a < S.length) (hk : k ≤ P.length) (h : mok P a k st) :
    match wG P S a k st with
    | .inl b => b = false ∧ ¬ sw P S a k st
    | .inr (a', k', st') => mok P a' k' st' ∧ a' ≤ S.length ∧ k' ≤ P.length ∧ (sw P S a' k' st' ↔ sw P S a k st) := by
  unfold wG
  rcases Nat.lt_or_ge k P.length with hkl | hkl
  · by_cases g1 : P[k].any = true
    · simp only [List.getElem?_eq_getElem hkl, Option.elim_some, if_pos g1]
      refine ⟨fun s f e => ?_, by omega, by omega, ?_⟩
      · cases e
        exact ⟨by omega, by omega, fun i hi h1 h2 => by omega⟩
      · constructor
        · rintro (h1 | ⟨s, f, e, j, h1, h2, h3⟩)
          · refine .inl ?_
            rw [List.drop_eq_getElem_cons hkl, Dq g1]
            exact ⟨0, by omega, by simpa using h1⟩
          · cases e
            refine .inl ?_
            rw [List.drop_eq_getElem_cons hkl, Dq g1]
            refine ⟨j - a, by simp; omega, ?_⟩
            rw [List.drop_drop, show a + (j - a) = j by omega]; exact h3
        · have key : gm (P.drop k) (S.drop a) = true → sw P S a (k + 1) (some (k, a)) := by
            intro h1
            rw [List.drop_eq_getElem_cons hkl, Dq g1] at h1
            obtain ⟨i, h2, h3⟩ := h1
            rw [List.drop_drop] at h3
            rw [List.length_drop] at h2
            cases i with
            | zero => exact .inl h3
            | succ i => exact .inr ⟨k, a, rfl, a + (i + 1), by omega, by omega, h3⟩
          rintro (h1 | ⟨s, f, e, j, h1, h2, h3⟩)
          · exact key h1
          · subst e
            obtain ⟨h4, h5, h6⟩ := h s f rfl
            have := Kz (P := P) (S := S) (k - (s + 1)) j (s + 1) (by omega) h2 (fun i hi h7 h8 => h6 i hi (by omega) (by omega)) h3
            rw [show s + 1 + (k - (s + 1)) = k by omega] at this
            refine key ?_
            have h7 := this.2
            rw [List.drop_eq_getElem_cons hkl] at h7 ⊢
            refine H8 (i := j + (k - (s + 1)) - a) g1 (by simp; omega) ?_
            rw [List.drop_drop, show a + (j + (k - (s + 1)) - a) = j + (k - (s + 1)) by omega]
            exact h7
    · have g1' : P[k].any = false := by simpa using g1
      have e0 : gm (P.drop k) (S.drop a) = (P[k].has S[a] && gm (P.drop (k + 1)) (S.drop (a + 1))) := by
        rw [List.drop_eq_getElem_cons hkl, List.drop_eq_getElem_cons ha, RS g1]
      by_cases g2 : P[k].has S[a] = true
      · simp only [List.getElem?_eq_getElem hkl, List.getElem?_eq_getElem ha, Option.elim_some, Option.getD_some, if_neg g1, if_pos g2]
        refine ⟨fun s f e => ?_, by omega, by omega, ?_⟩
        · obtain ⟨h4, h5, h6⟩ := h s f e
          refine ⟨by omega, by omega, fun i hi h1 h2 => ?_⟩
          rcases Nat.lt_or_ge i k with h3 | h3
          · exact h6 i hi h1 h3
          · obtain rfl : i = k := by omega
            exact g1'
        · unfold sw
          rw [e0, g2, Bool.true_and]
      · simp only [List.getElem?_eq_getElem hkl, List.getElem?_eq_getElem ha, Option.elim_some, Option.getD_some, if_neg g1, if_neg g2]
        have e1 : gm (P.drop k) (S.drop a) = false := by
          rw [e0]; simp [g2]
        cases st with
        | none =>
          refine ⟨rfl, ?_⟩
          rintro (h1 | ⟨s, f, e, _⟩)
          · rw [e1] at h1; cases h1
          · cases e
        | some q =>
          obtain ⟨s, f⟩ := q
          obtain ⟨h4, h5, h6⟩ := h s f rfl
          refine ⟨fun s' f' e => ?_, by omega, by omega, ?_⟩
          · cases e
            exact ⟨by omega, by omega, fun i hi h1 h2 => by omega⟩
          · constructor
            · rintro (h1 | ⟨s', f', e, j, h1, h2, h3⟩)
              · exact .inr ⟨s, f, rfl, f + 1, by omega, by omega, h1⟩
              · cases e
                exact .inr ⟨s, f, rfl, j, by omega, h2, h3⟩
            · rintro (h1 | ⟨s', f', e, j, h1, h2, h3⟩)
              · rw [e1] at h1; cases h1
              · cases e
                rcases Nat.eq_or_lt_of_le h1 with h7 | h7
                · have h7 : f + 1 = j := h7
                  subst h7; exact .inl h3
                · exact .inr ⟨s, f + 1, rfl, j, h7, h2, h3⟩
  · simp only [List.getElem?_eq_none hkl, Option.elim_none, Bool.false_eq_true, if_false]
    have e1 : gm (P.drop k) (S.drop a) = false := by
      rw [List.drop_eq_nil_of_le hkl, List.drop_eq_getElem_cons ha]; rfl
    cases st with
    | none =>
      refine ⟨rfl, ?_⟩
      rintro (h1 | ⟨s, f, e, _⟩)
      · rw [e1] at h1; cases h1
      · cases e
    | some q =>
      obtain ⟨s, f⟩ := q
      obtain ⟨h4, h5, h6⟩ := h s f rfl
      refine ⟨fun s' f' e => ?_, by omega, by omega, ?_⟩
      · cases e
        exact ⟨by omega, by omega, fun i hi h1 h2 => by omega⟩
      · constructor
        · rintro (h1 | ⟨s', f', e, j, h1, h2, h3⟩)
          · exact .inr ⟨s, f, rfl, f + 1, by omega, by omega, h1⟩
          · cases e
            exact .inr ⟨s, f, rfl, j, by omega, h2, h3⟩
        · rintro (h1 | ⟨s', f', e, j, h1, h2, h3⟩)
          · rw [e1] at h1; cases h1
          · cases e
            rcases Nat.eq_or_lt_of_le h1 with h7 | h7
            · have h7 : f + 1 = j := h7
              subst h7; exact .inl h3
            · exact .inr ⟨s, f + 1, rfl, j, h7, h2, h3⟩
def oJ (P : List Pc) : Bool := P.all (·.any)
theorem RU : ∀ (P : List Pc), gm P [] = oJ P
  | [] => rfl
  | p :: ps => by
    by_cases g : p.any = true
    · rw [Nf g]
      show gm ps [] = _
      rw [RU ps]; simp [oJ, g]
    · rw [Ng g]
      simp [oJ, g]
theorem OO {P : List Pc} {S : List UInt8} {k : Nat} {st : Option (Nat × Nat)} (h : mok P S.length k st) (hk : k ≤ P.length) : sw P S S.length k st ↔ oJ (P.drop k) = true := by
  unfold sw
  rw [List.drop_eq_nil_of_le (Nat.le_refl _), RU]
  refine ⟨?_, .inl⟩
  rintro (h1 | ⟨s, f, e, j, h1, h2, h3⟩)
  · exact h1
  · subst e
    obtain ⟨h4, h5, h6⟩ := h s f rfl
    have := Kz (P := P) (S := S) (k - (s + 1)) j (s + 1) (by omega) h2 (fun i hi h7 h8 => h6 i hi (by omega) (by omega)) h3
    exact absurd this.1 (by omega)
def qm (p s k : Nat) : Option (Nat × Nat) → Nat
  | none => (p + 1) * ((s + 2) * (p + 2)) + (p + 1 - k)
  | some (x, f) => (p - x) * ((s + 2) * (p + 2)) + (s - f) * (p + 2) + (p + 1 - k)
theorem OM {p s k a : Nat} {st : Option (Nat × Nat)} (hk : k < p) (ha : a < s) (h : ∀ x f, st = some (x, f) → x < k) : qm p s (k + 1) (some (k, a)) < qm p s k st := by
  have e1 : (s - a) * (p + 2) + (p + 2) ≤ (s + 2) * (p + 2) := by
    rw [← Nat.succ_mul]
    exact Nat.mul_le_mul_right _ (by omega)
  cases st with
  | none =>
    show (p - k) * ((s + 2) * (p + 2)) + (s - a) * (p + 2) + (p + 1 - (k + 1)) < (p + 1) * ((s + 2) * (p + 2)) + (p + 1 - k)
    have e2 : (p - k + 1) * ((s + 2) * (p + 2)) ≤ (p + 1) * ((s + 2) * (p + 2)) := Nat.mul_le_mul_right _ (by omega)
    rw [Nat.succ_mul] at e2
    omega
  | some q =>
    obtain ⟨x, f⟩ := q
    have hx := h x f rfl
    show (p - k) * ((s + 2) * (p + 2)) + (s - a) * (p + 2) + (p + 1 - (k + 1)) < (p - x) * ((s + 2) * (p + 2)) + (s - f) * (p + 2) + (p + 1 - k)
    have e2 : (p - k + 1) * ((s + 2) * (p + 2)) ≤ (p - x) * ((s + 2) * (p + 2)) := Nat.mul_le_mul_right _ (by omega)
    rw [Nat.succ_mul] at e2
    omega
theorem OL {p s k : Nat} {st : Option (Nat × Nat)} (hk : k < p) : qm p s (k + 1) st < qm p s k st := by
  cases st with
  | none => simp only [qm]; omega
  | some q => obtain ⟨x, f⟩ := q; simp only [qm]; omega
theorem Ki {p s k x f : Nat} (hx : x < p) (hk : k ≤ p) (hf : f < s) : qm p s (x + 1) (some (x, f + 1)) < qm p s k (some (x, f)) := by
  show (p - x) * ((s + 2) * (p + 2)) + (s - (f + 1)) * (p + 2) + (p + 1 - (x + 1)) < (p - x) * ((s + 2) * (p + 2)) + (s - f) * (p + 2) + (p + 1 - k)
  have e1 : (s - (f + 1) + 1) * (p + 2) ≤ (s - f) * (p + 2) := Nat.mul_le_mul_right _ (by omega)
  rw [Nat.succ_mul] at e1
  omega
theorem GM {p s : Nat} (hp : p ≤ 1000) (hs : s ≤ 1000000000) : qm p s 0 none + 1 < 4611686018427387904 := by
  show (p + 1) * ((s + 2) * (p + 2)) + (p + 1 - 0) + 1 < _
  have e1 : (s + 2) * (p + 2) ≤ 1000000002 * 1002 := Nat.mul_le_mul (by omega) (by omega)
  have e2 : (p + 1) * ((s + 2) * (p + 2)) ≤ 1001 * (1000000002 * 1002) := Nat.mul_le_mul (by omega) e1
  omega
def AZ : List UInt8 → Option (UInt8 × List UInt8)
  | [] => none
  | c :: r => if c = 93 ∨ c = 45 then none else if c = 92 then (match r with | [] => none | d :: r' => some (d, r')) else some (c, r)
theorem sD {s r : List UInt8} {c : UInt8} (h : AZ s = some (c, r)) : r.length < s.length := by
  cases s with
  | nil => cases h
  | cons x y =>
    simp only [AZ] at h
    split at h
    · cases h
    · split at h
      · cases y with
        | nil => cases h
        | cons d r' => cases h; simp; omega
      · cases h; simp
def zA (f : UInt8 → Bool) (a b : UInt8) : UInt8 → Bool := fun c => (decide (a ≤ c) && decide (c ≤ b)) || f c
def rV (s : List UInt8) : Option (UInt8 × UInt8 × List UInt8) :=
  match AZ s with
  | none => none
  | some (a, r) => match r with
    | [] => some (a, a, r)
    | d :: r' => if d = 45 then (match AZ r' with
        | none => none
        | some (b, r2) => if a > b then none else some (a, b, r2))
      else some (a, a, r)
theorem Qx {s r : List UInt8} {a b : UInt8} (h : rV s = some (a, b, r)) : r.length < s.length := by
  unfold rV at h
  split at h
  · cases h
  · rename_i x y hm
    have := sD hm
    cases y with
    | nil => cases h; exact this
    | cons d r' =>
      simp only at h
      split at h
      · split at h
        · cases h
        · rename_i b' r2 hm2
          have := sD hm2
          split at h
          · cases h
          · cases h; simp at *; omega
      · cases h; exact this
def kR : Nat → (UInt8 → Bool) → Bool → List UInt8 → Option ((UInt8 → Bool) × List UInt8)
  | 0, _, _, _ => none
  | n + 1, f, many, s => match s with
    | [] => none
    | c :: r => if c = 93 then (if many = true then some (f, r) else none) else
      match rV (c :: r) with
      | none => none
      | some (a, b, r2) => kR n (zA f a b) true r2
theorem uH : ∀ (n : Nat) (f g : UInt8 → Bool) (many : Bool) (s r : List UInt8), kR n f many s = some (g, r) → r.length < s.length
  | 0, _, _, _, _, _, h => by cases h
  | n + 1, f, g, many, s, r, h => by
    cases s with
    | nil => cases h
    | cons c t =>
      simp only [kR] at h
      split at h
      · split at h
        · cases h; simp
        · cases h
      · split at h
        · cases h
        · rename_i a b r2 hr
          have h1 := Qx hr
          have h2 := uH n _ _ _ _ _ h
          omega
def iR : UInt8 → Bool := fun _ => false
def wW (s : List UInt8) : Option ((UInt8 → Bool) × List UInt8) :=
  match s with
  | 33 :: r => (kR (r.length + 1) iR false r).map fun q => (fun c => !q.1 c, q.2)
  | s => kR (s.length + 1) iR false s
theorem Qq {s r : List UInt8} {f : UInt8 → Bool} (h : wW s = some (f, r)) : r.length < s.length := by
  unfold wW at h
  split at h
  · rename_i t
    cases hq : kR (t.length + 1) iR false t with
    | none => rw [hq] at h; cases h
    | some q =>
      obtain ⟨g, r2⟩ := q
      rw [hq] at h; cases h
      have := uH _ _ _ _ _ _ hq
      simp; omega
  · exact uH _ _ _ _ _ _ h
def Kh (b : UInt8) : Pc := ⟨false, zA iR b b, true, b⟩
def anyP : Pc := ⟨true, iR, false, 0⟩
def allP : Pc := ⟨false, fun _ => true, false, 0⟩
def inP (f : UInt8 → Bool) : Pc := ⟨false, f, false, 0⟩
def ig : List UInt8 → Option (Pc × List UInt8)
  | [] => none
  | c :: r => if c = 42 then some (anyP, r) else if c = 63 then some (allP, r) else if c = 91 then (wW r).map fun q => (inP q.1, q.2)
    else if c = 92 then (match r with | [] => none | d :: r' => some (Kh d, r')) else some (Kh c, r)
theorem mW {s r : List UInt8} {p : Pc} (h : ig s = some (p, r)) : r.length < s.length := by
  cases s with
  | nil => cases h
  | cons c t =>
    simp only [ig] at h
    split at h
    · cases h; simp
    · split at h
      · cases h; simp
      · split at h
        · cases hq : wW t with
          | none => rw [hq] at h; cases h
          | some q =>
            obtain ⟨g, r2⟩ := q
            rw [hq] at h; cases h
            have := Qq hq
            simp; omega
        · split at h
          · cases t with
            | nil => cases h
            | cons d r' => cases h; simp; omega
          · cases h; simp
def pG : Nat → List UInt8 → Option (List Pc)
  | _, [] => some []
  | 0, _ :: _ => none
  | n + 1, c :: r => match ig (c :: r) with
    | none => none
    | some (p, r2) => (pG n r2).map (p :: ·)
theorem sj : ∀ (n m : Nat) (s : List UInt8), s.length ≤ n → s.length ≤ m → pG n s = pG m s
  | 0, 0, _, _, _ => rfl
  | 0, m + 1, s, h, _ => by
    cases s with
    | nil => rfl
    | cons c r => simp at h
  | n + 1, 0, s, _, h => by
    cases s with
    | nil => rfl
    | cons c r => simp at h
  | n + 1, m + 1, s, h1, h2 => by
    cases s with
    | nil => rfl
    | cons c r =>
      simp only [pG]
      cases hr : ig (c :: r) with
      | none => rfl
      | some q =>
        obtain ⟨p, r2⟩ := q
        have := mW hr
        simp only
        rw [sj n m r2 (by simp at *; omega) (by simp at *; omega)]
def gV (s : List UInt8) : Option (List Pc) := pG s.length s
theorem mV {c : UInt8} {r : List UInt8} : gV (c :: r) = match ig (c :: r) with
    | none => none
    | some (p, r2) => (gV r2).map (p :: ·) := by
  unfold gV
  rw [List.length_cons, pG]
  cases hr : ig (c :: r) with
  | none => rfl
  | some q =>
    obtain ⟨p, r2⟩ := q
    have := mW hr
    simp only
    rw [sj r.length r2.length r2 (by simp at this; omega) (Nat.le_refl _)]
theorem nY : gV [] = some [] := rfl
theorem wD : ∀ (n : Nat) {s : List UInt8} {l : List Pc}, s.length ≤ n → gV s = some l → l.length ≤ s.length
  | 0, s, l, hn, h => by
    obtain rfl : s = [] := List.length_eq_zero_iff.1 (by omega)
    rw [nY] at h; cases h; simp
  | n + 1, s, l, hn, h => by
    cases s with
    | nil => rw [nY] at h; cases h; simp
    | cons c r =>
      rw [mV] at h
      cases hr : ig (c :: r) with
      | none => rw [hr] at h; cases h
      | some q =>
        obtain ⟨p, r2⟩ := q
        rw [hr] at h
        have h1 := mW hr
        simp only at h
        cases h2 : gV r2 with
        | none => rw [h2] at h; cases h
        | some l2 =>
          rw [h2] at h; cases h
          have := wD n (s := r2) (l := l2) (by simp at *; omega) h2
          simp at *; omega
def qx (p : List UInt8) : Option (List Pc) := if p.length > 256 then none else gV p
end Go.Proofs.Gong

/- Gl1 -/
namespace Go.Proofs.Gong
open Go Go.Sx Go.Proofs
set_option maxRecDepth 100000
def byt (i : Nat) : UInt8 := UInt8.ofNat i
def uC (f : UInt8 → Bool) : List Value := (List.range 256).map fun i => .bool (f (byt i))
theorem yn (f : UInt8 → Bool) : (uC f).length = 256 := by simp [uC]
theorem xe (f : UInt8 → Bool) {i : Nat} (h : i < 256) : (uC f)[i]? = some (.bool (f (byt i))) := by simp [uC, h]
theorem vg (b : UInt8) : byt b.toNat = b := by simp [byt]
theorem Yb {i j : Nat} (hi : i < 256) (hj : j < 256) (h : byt i = byt j) : i = j := by
  have h2 := congrArg UInt8.toNat h
  simp [byt] at h2
  omega
theorem DF {i : Nat} (h : i < 256) : (byt i).toNat = i := by simp [byt]; omega
theorem Qs (f g : UInt8 → Bool) {i : Nat} {b : Bool} (h : i < 256) (h1 : g (byt i) = b) (h2 : ∀ c, c ≠ byt i → g c = f c) : (uC f).toArray.setIfInBounds i (.bool b) = (uC g).toArray := by
  apply Array.ext'
  rw [Array.toList_setIfInBounds]
  apply List.ext_getElem?
  intro k
  rw [List.getElem?_set]
  by_cases e : i = k
  · subst e
    rw [if_pos rfl, if_pos (by simp [uC]; exact h), xe g h, h1]
  · rw [if_neg e]
    by_cases hk : k < 256
    · rw [xe f hk, xe g hk, h2 _ (fun q => e (Yb h hk q.symm))]
    · rw [List.getElem?_eq_none (by rw [yn]; omega), List.getElem?_eq_none (by rw [yn]; omega)]
def gJ (q : Nat) (f : UInt8 → Bool) : HP := Cl q (uC f).toArray 318
theorem CU {q i : Nat} {j : IntKind} (h : i < 256) : iq 256 1 (.pointer (some ⟨q, 0, none⟩)) (.int j i) = some (.pointer (some ⟨q, i, none⟩)) := by
  unfold iq
  simp only []
  rw [if_pos (by omega)]
  simp
theorem Qd (b : UInt8) : iG .i64 (.int .u8 b.toNat) = some (.int .i64 b.toNat) := by
  have h : IntKind.i64.wrap (b.toNat : Int) = b.toNat := fK (by have := b.toNat_lt; omega)
  simp only [iG, h]
attribute [local irreducible] aD bY bO eqv dB Cl bS LsH SlH ld1 ldN st ai bT aY dF bI bz bE aJ aB bK bZ
section
variable {w0 w : World} {L : List HP} {K : Value → World → Prop} {f : UInt8 → Bool} {q : Nat}
theorem Qp (h : Sat w0 (gJ q f :: L) w) {i : Nat} (hi : i < 256) : ld1 (.pointer (some ⟨q, i, none⟩)) w = some (.bool (f (byt i))) := by
  rw [bu, cell_of h.cl]
  rw [List.getElem?_toArray, xe f hi]
theorem Qo (h : Sat w0 (gJ q f :: L) w) {g : UInt8 → Bool} {i : Nat} {b : Bool} (hi : i < 256) (h1 : g (byt i) = b) (h2 : ∀ c, c ≠ byt i → g c = f c) :
    ∃ w', st 1 (.pointer (some ⟨q, i, none⟩)) (.bool b) w = some w' ∧ Sat w0 (gJ q g :: L) w' := by
  refine ⟨_, Zt h.cl (.bool b) (by simp [yn]; exact hi), ?_⟩
  rw [Qs f g hi h1 h2]
  exact h.setc _
theorem BS {a b : UInt8} (hK : ∀ w', Sat w0 (gJ q (zA f a b) :: L) w' → K (.tuple #[]) w') :
    ∀ (k i n : Nat) (g : UInt8 → Bool) (w : World), i + k = b.toNat + 1 → k < n → a.toNat ≤ i → (∀ c : UInt8, g c = ((decide (a ≤ c) && decide (c.toNat < i)) || f c)) → Sat w0 (gJ q g :: L) w → jU n (.pointer (some ⟨q, 0, none⟩)) (.int .u8 b.toNat) (.int .i64 (i : Nat)) w K
  | 0, i, n, g, w, hi, hn, ha, hg, h => by
    obtain ⟨n, rfl⟩ : ∃ q, n = q + 1 := ⟨n - 1, by omega⟩
    have g' : decide ((i : Int) ≤ (b.toNat : Int)) = false := by simp; omega
    rw [jU]
    unfold xC
    (repeat(first
|simp(disch:=omega)only[evA,evB,evC,af,ag,g']
|refine ax (Qd b ..) ?_))
    have e : g = zA f a b := by
      funext c
      rw [hg c]
      unfold zA
      have : decide (c.toNat < i) = decide (c ≤ b) := decide_eq_decide.2 (by rw [UInt8.le_iff_toNat_le]; omega)
      rw [this]
    rw [← e] at hK
    exact hK _ h
  | k + 1, i, n, g, w, hi, hn, ha, hg, h => by
    obtain ⟨n, rfl⟩ : ∃ q, n = q + 1 := ⟨n - 1, by omega⟩
    have hb := b.toNat_lt
    have g' : decide ((i : Int) ≤ (b.toNat : Int)) = true := by simp; omega
    have e3 : (i : Int) + 1 = ((i + 1 : Nat) : Int) := by omega
    rw [jU]
    unfold xC
    (repeat(first
|simp(disch:=omega)only[evA,evB,evC,af,ag,g']
|refine ax (Qd b ..) ?_
|refine ax (CU (q:=q) (j:=.i64) (i:=i) (by omega) ..) ?_))
    obtain ⟨w', e, h'⟩ := Qo h (g := fun c => (decide (a ≤ c) && decide (c.toNat < i + 1)) || f c) (i := i) (b := true) (by omega) (by
        have : a ≤ byt i := by rw [UInt8.le_iff_toNat_le, DF (by omega)]; exact ha
        simp [this, DF (show i < 256 by omega)]) (fun c hc => by
        rw [hg c]
        have h2 : c.toNat ≠ i := fun e => hc (by rw [← e, vg])
        have : decide (c.toNat < i + 1) = decide (c.toNat < i) := decide_eq_decide.2 (by omega)
        rw [this])
    rw [e, ll]
    skip
    rw [e3]
    exact BS hK k (i + 1) n _ w' (by omega) (by omega) (by omega) (fun c => rfl) h'
theorem BR {a b : UInt8} (hab : a ≤ b) (h : Sat w0 (gJ q f :: L) w) (hK : ∀ w', Sat w0 (gJ q (zA f a b) :: L) w' → K (.tuple #[]) w') : ai Lx [.pointer (some ⟨q, 0, none⟩), .int .u8 a.toNat, .int .u8 b.toNat] w K := by
  refine c198 ?_
  unfold UK EJ EI
  have h1 := UInt8.le_iff_toNat_le.1 hab
  have hb := b.toNat_lt
  (repeat(first
|simp(disch:=omega)only[evA,evB,evC,af,ag]
|refine ax (Qd a ..) ?_))
  unfold Aa
  refine BS hK (b.toNat + 1 - a.toNat) a.toNat fuel f w (by omega) (by unfold fuel; omega) (Nat.le_refl _) (fun c => ?_) h
  cases g : decide (a ≤ c) with
  | false => simp
  | true =>
    have := UInt8.le_iff_toNat_le.1 (of_decide_eq_true g)
    have : decide (c.toNat < a.toNat) = false := by simp; omega
    rw [this]; simp
theorem y8 (hK : ∀ w', Sat w0 (gJ q (fun c => !f c) :: L) w' → K (.tuple #[]) w') :
    ∀ (k i n : Nat) (g : UInt8 → Bool) (w : World), i + k = 256 → k < n → (∀ c : UInt8, g c = if c.toNat < i then !f c else f c) → Sat w0 (gJ q g :: L) w → jV n (.pointer (some ⟨q, 0, none⟩)) (.pointer (some ⟨q, 0, none⟩)) (.int .i64 (i : Nat)) w K
  | 0, i, n, g, w, hi, hn, hg, h => by
    obtain ⟨n, rfl⟩ : ∃ q, n = q + 1 := ⟨n - 1, by omega⟩
    have g' : decide ((i : Int) < 256) = false := by simp; omega
    rw [jV]
    unfold xG
    (repeat simp(disch:=omega)only[evA,evB,evC,af,ag,g'])
    have e : g = fun c => !f c := by
      funext c
      rw [hg c, if_pos (by have := c.toNat_lt; omega)]
    rw [← e] at hK
    exact hK _ h
  | k + 1, i, n, g, w, hi, hn, hg, h => by
    obtain ⟨n, rfl⟩ : ∃ q, n = q + 1 := ⟨n - 1, by omega⟩
    have g' : decide ((i : Int) < 256) = true := by simp; omega
    have e3 : (i : Int) + 1 = ((i + 1 : Nat) : Int) := by omega
    rw [jV]
    unfold xG
    (repeat(first
|simp(disch:=omega)only[evA,evB,evC,af,ag,g']
|refine ax (CU (q:=q) (j:=.i64) (i:=i) (by omega) ..) ?_))
    refine ax (Qp h (i := i) (by omega)) ?_
    (repeat(first
|simp(disch:=omega)only[evA,evB,evC,af,ag]
|refine ax (CU (q:=q) (j:=.i64) (i:=i) (by omega) ..) ?_))
    obtain ⟨w', e, h'⟩ := Qo h.drew (g := fun c => if c.toNat < i + 1 then !f c else f c) (i := i) (b := !g (byt i)) (by omega) (by
        rw [hg (byt i), DF (show i < 256 by omega), if_pos (by omega), if_neg (by omega)]) (fun c hc => by
        rw [hg c]
        have h2 : c.toNat ≠ i := fun e => hc (by rw [← e, vg])
        by_cases h3 : c.toNat < i
        · rw [if_pos h3, if_pos (by omega)]
        · rw [if_neg h3, if_neg (by omega)])
    rw [e, ll]
    skip
    rw [e3]
    exact y8 hK k (i + 1) n _ w' (by omega) (by omega) (fun c => rfl) h'
theorem qY (h : Sat w0 (gJ q f :: L) w) (hK : ∀ w', Sat w0 (gJ q (fun c => !f c) :: L) w' → K (.tuple #[]) w') : ai IW [.pointer (some ⟨q, 0, none⟩)] w K := by
  refine c196 ?_
  unfold UM EP EO Ac
  exact y8 hK 256 0 fuel f w rfl (by unfold fuel; omega) (fun c => by rw [if_neg (by omega)]) h
abbrev dV (p : Nat) (s : List UInt8) (bad : Bool) : HP := Cl p #[.string (bs s), .bool bad] 271
variable {p : Nat} {s : List UInt8} {bad : Bool}
def atP (s : List UInt8) (bad : Bool) (b : UInt8) : Bool := !bad && decide (s.head? = some b)
theorem mE {b : UInt8} (h : Sat w0 (dV p s bad :: L) w) (hK : K (.bool (atP s bad b)) w) : ai Bj [.pointer (some ⟨p, 0, none⟩), .int .u8 b.toNat] w K := by
  refine c244 ?_
  unfold YJ
  unfold atP at hK
  cases bad
  · cases s with
    | nil =>
      have e : decide (([] : List UInt8) = []) = true := by decide
      (repeat(first
|simp(disch:=omega)only[evA,evB,evC,af,ag,e]
|with_reducible refine bA h ?_))
      exact hK
    | cons c r =>
      have e : decide (c :: r = []) = false := by simp
      have i0 : dG (.string (bs (c :: r))) (.int .i64 0) = some (.int .u8 c.toNat) := mZ (i := 0) (by simp)
      (repeat(first
|simp(disch:=omega)only[evA,evB,evC,af,ag,e]
|refine ax (i0 ..) ?_
|with_reducible refine bA h ?_))
      have : decide ((c.toNat : Int) = (b.toNat : Int)) = (!false && decide ((c :: r).head? = some b)) := by
        simp only [List.head?_cons, Bool.not_false, Bool.true_and]
        refine decide_eq_decide.2 ⟨fun h => ?_, fun h => ?_⟩
        · have e : c = b := UInt8.toNat_inj.1 (by omega)
          rw [e]
        · cases h; rfl
      rw [this]
      exact hK
  · (repeat(first
|simp(disch:=omega)only[evA,evB,evC,af,ag]
|with_reducible refine bA h ?_))
    exact hK
theorem pU (h : Sat w0 (dV p [] bad :: L) w) (hK : ∀ w', Sat w0 (dV p [] true :: L) w' → K (.int .u8 0) w') : ai qi [.pointer (some ⟨p, 0, none⟩)] w K := by
  refine c195 ?_
  unfold UN
  have e : decide (([] : List UInt8) = []) = true := by decide
  (repeat(first
|simp(disch:=omega)only[evA,evB,evC,af,ag,e]
|with_reducible refine bA h ?_
|((with_reducible refine gH h ?_);intro _ h)))
  exact hK _ h
theorem gN {c : UInt8} {r : List UInt8} (h : Sat w0 (dV p (c :: r) bad :: L) w) (hK : ∀ w', Sat w0 (dV p r bad :: L) w' → K (.int .u8 c.toNat) w') : ai qi [.pointer (some ⟨p, 0, none⟩)] w K := by
  refine c195 ?_
  unfold UN
  have e : decide (c :: r = []) = false := by simp
  have i0 : dG (.string (bs (c :: r))) (.int .i64 0) = some (.int .u8 c.toNat) := mZ (i := 0) (by simp)
  have s1 : di (.string (bs (c :: r))) (some (.int .i64 1)) none = some (.string (bs r)) := nS (l := c :: r) (i := 1) (by simp)
  (repeat(first
|simp(disch:=omega)only[evA,evB,evC,af,ag,e]
|refine ax (i0 ..) ?_
|refine ax (s1 ..) ?_
|with_reducible refine bA h ?_
|((with_reducible refine gH h ?_);intro _ h)))
  exact hK _ h
theorem sO (h : Sat w0 (dV p s false :: L) w)
    (hK0 : AZ s = none → ∀ (c : UInt8) r w', Sat w0 (dV p r true :: L) w' → K (.int .u8 c.toNat) w')
    (hK1 : ∀ c r, AZ s = some (c, r) → ∀ w', Sat w0 (dV p r false :: L) w' → K (.int .u8 c.toNat) w') : ai PY [.pointer (some ⟨p, 0, none⟩)] w K := by
  refine c245 ?_
  unfold UC Eg Ef
  have fin : ∀ (c : UInt8) w, K (.int .u8 c.toNat) w → vB (.int .u8 c.toNat) w K := fun c w h => by
    unfold vB Ee
    exact h
  have z0 : (0 : Int) = ((0 : UInt8).toNat : Int) := rfl
  refine mE (b := 93) h ?_
  cases g1 : atP s false 93
  case true =>
    (repeat(first
|simp(disch:=omega)only[evA,evB,evC,af,ag]
|((with_reducible refine gH h ?_);intro _ h)))
    have hb := h
    skip
    rw [z0]
    refine hK0 ?_ 0 s _ h
    unfold atP at g1
    simp only [Bool.not_false, Bool.true_and, decide_eq_true_eq] at g1
    obtain ⟨r, rfl⟩ := List.head?_eq_some_iff.1 g1
    rfl
  (repeat simp(disch:=omega)only[evA,evB,evC,af,ag])
  refine mE (b := 45) h ?_
  cases g2 : atP s false 45
  case true =>
    (repeat(first
|simp(disch:=omega)only[evA,evB,evC,af,ag]
|((with_reducible refine gH h ?_);intro _ h)))
    skip
    rw [z0]
    refine hK0 ?_ 0 s _ h
    unfold atP at g2
    simp only [Bool.not_false, Bool.true_and, decide_eq_true_eq] at g2
    obtain ⟨r, rfl⟩ := List.head?_eq_some_iff.1 g2
    rfl
  (repeat simp(disch:=omega)only[evA,evB,evC,af,ag])
  unfold atP at g1 g2
  simp only [Bool.not_false, Bool.true_and, decide_eq_false_iff_not] at g1 g2
  cases s with
  | nil =>
    refine pU h fun w h => ?_
    have d : decide ((0 : Int) = 92) = false := by decide
    (repeat simp(disch:=omega)only[evA,evB,evC,af,ag,d])
    rw [z0]
    exact fin _ _ (hK0 rfl 0 [] _ h)
  | cons c r =>
    refine gN h fun w h => ?_
    have hc1 : ¬ (c = 93 ∨ c = 45) := by simp at g1 g2; exact fun h => h.elim g1 g2
    by_cases hc : c = 92
    · have d : decide ((c.toNat : Int) = 92) = true := by subst hc; decide
      (repeat simp(disch:=omega)only[evA,evB,evC,af,ag,d])
      cases r with
      | nil =>
        refine pU h fun w h => ?_
        skip
        rw [z0]
        exact fin _ _ (hK0 (by simp [AZ, hc1, hc]) 0 [] _ h)
      | cons e r' =>
        refine gN h fun w h => ?_
        skip
        exact fin _ _ (hK1 e r' (by simp [AZ, hc1, hc]) _ h)
    · have d : decide ((c.toNat : Int) = 92) = false := by
        simp only [decide_eq_false_iff_not]
        intro h; exact hc (UInt8.toNat_inj.1 (by simpa using (show c.toNat = 92 by omega)))
      (repeat simp(disch:=omega)only[evA,evB,evC,af,ag,d])
      exact fin _ _ (hK1 c r (by simp [AZ, hc1, hc]) _ h)
end
end Go.Proofs.Gong

/- Gl2 -/
namespace Go.Proofs.Gong
open Go Go.Sx Go.Proofs
set_option maxRecDepth 100000
attribute [local irreducible] aD bY bO eqv dB Cl bS LsH SlH ld1 ldN st ai bT aY dF bI bz bE aJ aB bK bZ
section
variable {w0 w : World} {L : List HP} {K : Value → World → Prop} {f : UInt8 → Bool} {q p : Nat} {s : List UInt8} {bad : Bool}
theorem zz {s : List UInt8} {bad : Bool} {b : UInt8} (h : atP s bad b = true) : bad = false ∧ ∃ r, s = b :: r := by
  unfold atP at h
  simp only [Bool.and_eq_true, Bool.not_eq_true', decide_eq_true_eq] at h
  obtain ⟨r, hr⟩ := List.head?_eq_some_iff.1 h.2
  exact ⟨h.1, r, hr⟩
theorem vk {s : List UInt8} {b : UInt8} (h : atP s false b = false) : ∀ r, s ≠ b :: r := by
  unfold atP at h
  simp only [Bool.not_false, Bool.true_and, decide_eq_false_iff_not] at h
  rintro r rfl
  exact h rfl
theorem Pm (h : Sat w0 (dV p s true :: L) w) (hK : ∀ v r w', Sat w0 (dV p r true :: L) w' → K v w') : ai qi [.pointer (some ⟨p, 0, none⟩)] w K := by
  cases s with
  | nil => exact pU h fun w h => hK _ _ _ h
  | cons c r => exact gN h fun w h => hK _ _ _ h
theorem y9 {nt : Bool} {cnt : Int} (hc : bad = true ∨ cnt = 0) (hK : ∀ r f' w', Sat w0 (gJ q f' :: dV p r true :: L) w' → K (.pointer (some ⟨q, 0, none⟩)) w') (h : Sat w0 (dV p s bad :: gJ q f :: L) w) :
    gU (.pointer (some ⟨p, 0, none⟩)) (.pointer (some ⟨q, 0, none⟩)) (.bool nt) (.int .i64 cnt) w K := by
  unfold gU xD
  have fin : ∀ {r : List UInt8} {w : World}, Sat w0 (dV p r true :: gJ q f :: L) w → ai qi [.pointer (some ⟨p, 0, none⟩)] w fun _ w11 => ifB (.bool nt) (
ai IW [(.pointer (some ⟨q, 0, none⟩))] w11 fun _ w13 =>
l7 (.pointer (some ⟨q, 0, none⟩)) w13 K) (
l7 (.pointer (some ⟨q, 0, none⟩)) w11 K) := fun h => by
    refine Pm h fun v r w h => ?_
    cases nt
    · (repeat simp(disch:=omega)only[evA,evB,evC,af,ag])
      unfold l7 qg
      exact hK r f w h.f1
    · (repeat simp(disch:=omega)only[evA,evB,evC,af,ag])
      refine qY h.f1 fun w h => ?_
      unfold l7 qg
      exact hK r _ w h
  cases bad
  · have d : decide (cnt = 0) = true := by simpa using hc
    (repeat(first
|simp(disch:=omega)only[evA,evB,evC,af,ag,d]
|with_reducible refine bA h ?_
|((with_reducible refine gH h ?_);intro _ h)))
    exact fin h
  · (repeat(first
|simp(disch:=omega)only[evA,evB,evC,af,ag]
|with_reducible refine bA h ?_
|((with_reducible refine gH h ?_);intro _ h)))
    exact fin h
theorem Pf {nt : Bool} {cnt : Int} {r : List UInt8} (hc : cnt ≠ 0) (hK : ∀ w', Sat w0 (gJ q (if nt = true then fun c => !f c else f) :: dV p r false :: L) w' → K (.pointer (some ⟨q, 0, none⟩)) w') (h : Sat w0 (dV p (93 :: r) false :: gJ q f :: L) w) :
    gU (.pointer (some ⟨p, 0, none⟩)) (.pointer (some ⟨q, 0, none⟩)) (.bool nt) (.int .i64 cnt) w K := by
  unfold gU xD
  have d : decide (cnt = 0) = false := by simpa using hc
  (repeat(first
|simp(disch:=omega)only[evA,evB,evC,af,ag,d]
|with_reducible refine bA h ?_
|((with_reducible refine gH h ?_);intro _ h)))
  have h2 : Sat w0 (dV p (93 :: r) false :: gJ q f :: L) _ := h
  refine gN h2 fun w h => ?_
  cases nt
  · (repeat simp(disch:=omega)only[evA,evB,evC,af,ag])
    unfold l7 qg
    exact hK w h.f1
  · (repeat simp(disch:=omega)only[evA,evB,evC,af,ag])
    refine qY h.f1 fun w h => ?_
    unfold l7 qg
    exact hK w h
theorem uU {nt : Bool} {R : Option ((UInt8 → Bool) × List UInt8)}
    (hK0 : R = none → ∀ r f' w', Sat w0 (gJ q f' :: dV p r true :: L) w' → K (.pointer (some ⟨q, 0, none⟩)) w')
    (hK1 : ∀ g r, R = some (g, r) → ∀ w', Sat w0 (gJ q (if nt = true then fun c => !g c else g) :: dV p r false :: L) w' → K (.pointer (some ⟨q, 0, none⟩)) w') :
    ∀ (k n : Nat) (f : UInt8 → Bool) (cnt : Nat) (s : List UInt8) (w : World), s.length < k → s.length + 1 < n → cnt + s.length ≤ 1000000 → kR k f (decide (0 < cnt)) s = R → Sat w0 (dV p s false :: gJ q f :: L) w →
      iA n (.pointer (some ⟨p, 0, none⟩)) (.pointer (some ⟨q, 0, none⟩)) (.bool nt) (.int .i64 (cnt : Nat)) w K
  | 0, n, f, cnt, s, w, hk, hn, hc, hR, h => by omega
  | k + 1, n, f, cnt, s, w, hk, hn, hc, hR, h => by
    obtain ⟨n, rfl⟩ : ∃ q, n = q + 1 := ⟨n - 1, by omega⟩
    rw [iA]
    unfold vE uk
    have hb := h
    (repeat(first
|simp(disch:=omega)only[evA,evB,evC,af,ag]
|with_reducible refine bA h ?_))
    have h := hb
    refine mE (b := 93) h ?_
    cases g1 : atP s false 93
    case true =>
      (repeat simp(disch:=omega)only[evA,evB,evC,af,ag])
      obtain ⟨_, r, rfl⟩ := zz g1
      simp only [kR, if_true] at hR
      by_cases g2 : cnt = 0
      · subst g2
        exact y9 (.inr rfl) (fun r f' w h => hK0 (by rw [← hR]; rfl) r f' w h) h
      · have d : decide (0 < cnt) = true := by simp; omega
        rw [d] at hR
        exact Pf (by omega) (fun w h => hK1 f r (by rw [← hR]; rfl) w h) h
    have g1' := vk g1
    (repeat simp(disch:=omega)only[evA,evB,evC,af,ag])
    unfold Ab EL EK
    have stop : ∀ {r : List UInt8} {a b : UInt8} {w : World}, R = none → Sat w0 (dV p r true :: gJ q f :: L) w → nI (.pointer (some ⟨p, 0, none⟩)) (.pointer (some ⟨q, 0, none⟩)) (.bool nt) (.int .i64 (cnt : Nat)) (.int .u8 a.toNat) (.int .u8 b.toNat) w K (fun a0 a3 a4 a5 w => iA n a0 a3 a4 a5 w K) := by
      intro r a b w hN h
      unfold nI uj
      (repeat(first
|simp(disch:=omega)only[evA,evB,evC,af,ag]
|with_reducible refine bA h ?_
|((with_reducible refine gH h ?_);intro _ h)))
      unfold nJ o9
      (repeat simp(disch:=omega)only[evA,evB,evC,af,ag])
      obtain ⟨n, rfl⟩ : ∃ q, n = q + 1 := ⟨n - 1, by omega⟩
      rw [iA]
      unfold vE uk
      (repeat(first
|simp(disch:=omega)only[evA,evB,evC,af,ag]
|with_reducible refine bA h ?_))
      have h2 : Sat w0 (dV p r true :: gJ q f :: L) _ := h
      exact y9 (.inl rfl) (fun r f' w h => hK0 hN r f' w h) h2
    have step : ∀ {r : List UInt8} {a b : UInt8} {w : World}, r.length < s.length → (if a > b then R = none else kR k (zA f a b) true r = R) → Sat w0 (dV p r false :: gJ q f :: L) w → nI (.pointer (some ⟨p, 0, none⟩)) (.pointer (some ⟨q, 0, none⟩)) (.bool nt) (.int .i64 (cnt : Nat)) (.int .u8 a.toNat) (.int .u8 b.toNat) w K (fun a0 a3 a4 a5 w => iA n a0 a3 a4 a5 w K) := by
      intro r a b w hrl hN h
      by_cases g3 : a > b
      · rw [if_pos g3] at hN
        unfold nI uj
        have d : decide ((a.toNat : Int) > (b.toNat : Int)) = true := by
          have := UInt8.lt_iff_toNat_lt.1 g3
          simp; omega
        (repeat(first
|simp(disch:=omega)only[evA,evB,evC,af,ag,d]
|with_reducible refine bA h ?_
|((with_reducible refine gH h ?_);intro _ h)))
        unfold nJ o9
        (repeat simp(disch:=omega)only[evA,evB,evC,af,ag])
        obtain ⟨n, rfl⟩ : ∃ q, n = q + 1 := ⟨n - 1, by omega⟩
        rw [iA]
        unfold vE uk
        (repeat(first
|simp(disch:=omega)only[evA,evB,evC,af,ag]
|with_reducible refine bA h ?_))
        have h2 : Sat w0 (dV p r true :: gJ q f :: L) _ := h
        exact y9 (.inl rfl) (fun r f' w h => hK0 hN r f' w h) h2
      · rw [if_neg g3] at hN
        have hle : a ≤ b := UInt8.not_lt.1 g3
        unfold nI uj
        have d : decide ((a.toNat : Int) > (b.toNat : Int)) = false := by
          have := UInt8.le_iff_toNat_le.1 hle
          simp; omega
        (repeat(first
|simp(disch:=omega)only[evA,evB,evC,af,ag,d]
|with_reducible refine bA h ?_
|((with_reducible refine gH h ?_);intro _ h)))
        have h2 : Sat w0 (dV p r false :: gJ q f :: L) _ := h
        refine BR hle h2.f1 fun w h => ?_
        skip
        unfold nJ o9
        (repeat simp(disch:=omega)only[evA,evB,evC,af,ag])
        have e1 : (cnt : Int) + 1 = ((cnt + 1 : Nat) : Int) := by omega
        have d2 : decide (0 < cnt + 1) = true := by simp
        rw [e1]
        exact uU hK0 hK1 k n (zA f a b) (cnt + 1) r w (by omega) (by omega) (by omega) (by rw [d2]; exact hN) h.f1
    have hcons : ∀ c t, s = c :: t → kR (k + 1) f (decide (0 < cnt)) s = match rV s with
        | none => none
        | some (a, b, r2) => kR k (zA f a b) true r2 := by
      rintro c t rfl
      have hc : ¬ c = 93 := fun e => g1' t (by rw [e])
      simp only [kR, if_neg hc]
      try (cases rV (c :: t) <;> rfl)
    have hnil : s = [] → R = none := by rintro rfl; rw [← hR]; rfl
    have hRn : rV s = none → R = none := by
      intro hr
      cases s with
      | nil => exact hnil rfl
      | cons c t => rw [← hR, hcons c t rfl, hr]
    have hRs : ∀ a b r2, rV s = some (a, b, r2) → kR k (zA f a b) true r2 = R := by
      intro a b r2 hr
      cases s with
      | nil => simp [rV, AZ] at hr
      | cons c t => rw [← hR, hcons c t rfl, hr]
    refine sO h (fun hm c r w h => ?_) (fun c r hm w h => ?_)
    · (repeat simp(disch:=omega)only[evA,evB,evC,af,ag])
      have hR0 : R = none := hRn (by simp [rV, hm])
      refine mE (b := 45) h ?_
      have d : atP r true 45 = false := rfl
      (repeat simp(disch:=omega)only[evA,evB,evC,af,ag,d])
      exact stop hR0 h
    · (repeat simp(disch:=omega)only[evA,evB,evC,af,ag])
      have hml := sD hm
      refine mE (b := 45) h ?_
      cases g4 : atP r false 45
      · (repeat simp(disch:=omega)only[evA,evB,evC,af,ag])
        refine step hml ?_ h
        have g4' := vk g4
        have hr : rV s = some (c, c, r) := by
          unfold rV
          rw [hm]
          cases r with
          | nil => rfl
          | cons d r' =>
            have : ¬ d = 45 := fun e => g4' r' (by rw [e])
            simp only [if_neg this]
        rw [if_neg (by exact fun h => absurd (UInt8.lt_iff_toNat_lt.1 h) (by omega))]
        exact hRs _ _ _ hr
      · obtain ⟨_, r', rfl⟩ := zz g4
        (repeat simp(disch:=omega)only[evA,evB,evC,af,ag])
        refine gN h fun w h => ?_
        refine sO h (fun hm2 c2 r2 w h => ?_) (fun c2 r2 hm2 w h => ?_)
        · skip
          refine stop (hRn ?_) h
          unfold rV
          rw [hm]
          simp only [if_true, hm2]
        · skip
          have hm2l := sD hm2
          refine step (by simp at hml; omega) ?_ h
          have hr : rV s = if c > c2 then none else some (c, c2, r2) := by
            unfold rV
            rw [hm]
            simp only [if_true, hm2]
          by_cases g5 : c > c2
          · rw [if_pos g5] at hr ⊢
            exact hRn hr
          · rw [if_neg g5] at hr ⊢
            exact hRs _ _ _ hr
theorem Pb (hs : s.length ≤ 1000000) (h : Sat w0 (dV p s false :: L) w)
    (hK0 : wW s = none → ∀ q r f' w', Sat w0 (gJ q f' :: dV p r true :: L) w' → K (.pointer (some ⟨q, 0, none⟩)) w')
    (hK1 : ∀ g r, wW s = some (g, r) → ∀ q w', Sat w0 (gJ q g :: dV p r false :: L) w' → K (.pointer (some ⟨q, 0, none⟩)) w') : ai TE [.pointer (some ⟨p, 0, none⟩)] w K := by
  refine c197 ?_
  unfold UL EN EM
  refine ax (show aD Tryz.prog 318 [] = some (.agg (uC iR).toArray) by kernel_rfl) ?_
  refine cB h (l := uC iR) rfl fun q w h => ?_
  have h : Sat w0 (dV p s false :: gJ q iR :: L) w := h.f1
  (repeat simp(disch:=omega)only[evA,evB,evC,af,ag])
  refine mE (b := 33) h ?_
  cases g : atP s false 33
  · (repeat simp(disch:=omega)only[evA,evB,evC,af,ag])
    unfold vG xE vF
    have e : wW s = kR (s.length + 1) iR false s := by
      have g' := vk g
      unfold wW
      split
      · exact absurd rfl (g' _)
      · rfl
    refine uU (nt := false) (R := wW s) (fun hN r f' w h => hK0 hN q r f' w h) (fun g r hg w h => hK1 g r hg q w (by simpa using h)) (s.length + 1) fuel iR 0 s w (by omega) (by unfold fuel; omega) (by omega) (by rw [e]; rfl) h
  · obtain ⟨_, r, rfl⟩ := zz g
    (repeat simp(disch:=omega)only[evA,evB,evC,af,ag])
    refine gN h fun w h => ?_
    unfold vG xE vF
    simp only [List.length_cons] at hs
    refine uU (nt := true) (R := kR (r.length + 1) iR false r) (fun hN r' f' w h => hK0 ?_ q r' f' w h) (fun g r' hg w h => hK1 (fun c => !g c) r' ?_ q w (by simpa using h)) (r.length + 1) fuel iR 0 r w (by omega) (by unfold fuel; omega) (by omega) rfl h
    · unfold wW; simp only [hN]; rfl
    · unfold wW; simp only [hg]; rfl
end
end Go.Proofs.Gong
