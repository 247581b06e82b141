/- A part of the proofs: what stands below it, told in lemmas. No condition. -/
import Derived.Test.YtippapgconnkiaaGreatDoorP5
import Derived.Test.YtippapgconnkiaaGreatDoorP1
import Derived.Test.YtippapgconnkiaaGreatDoorP2
import Derived.Test.YtippapgconnkiaaGreatDoorP3
import Derived.Test.YtippapgconnkiaaGreatDoorP4
set_option linter.all false

/- Gl3 -/
namespace Go.Proofs.Gong
open Go Go.Sx Go.Proofs
set_option maxRecDepth 100000
abbrev PQ := Pc × Nat
def Gj (x : PQ) : Option Addr := if x.1.any = true then none else some ⟨x.2, 0, none⟩
@[reducible] def pcC (x : PQ) : List Value := [.pointer (Gj x), .bool x.1.any, .bool x.1.plain, .int .u8 x.1.own.toNat]
theorem CPc : Cod pcC 4 := ⟨fun _ => rfl, fun _ => rfl, by omega⟩
instance : CodC pcC 4 := ⟨CPc⟩
instance (x : PQ) : Nth (pcC x) 0 (.pointer (Gj x)) := ⟨rfl⟩
instance (x : PQ) : Nth (pcC x) 1 (.bool x.1.any) := ⟨rfl⟩
def setOf (x : PQ) : HP := if x.1.any = true then HEm else gJ x.2 x.1.has
theorem pz {x : PQ} (h : x.1.any = false) : setOf x = gJ x.2 x.1.has := by unfold setOf; rw [h]; rfl
theorem fbPc (x : PQ) : dx Tryz.prog 277 1 [(0, .agg (pcC x).toArray)] = some (pcC x).toArray := by
  have : ∀ (a : Option Addr) (b c : Bool) (n : Int), dx Tryz.prog 277 1 [(0, .agg #[.pointer a, .bool b, .bool c, .int .u8 n])] = some #[.pointer a, .bool b, .bool c, .int .u8 n] := fun a b c n => by kernel_rfl
  exact this _ _ _ _
def zG (p : Nat) (tx : List UInt8) (l : List Pc) : HP := HEx fun items : List PQ => HEx fun sv => HPr (items.map Prod.fst = l) (HS (Cl p #[.string (bs tx), sv] 274 :: LsH pcC 4 277 sv items :: items.map setOf))
attribute [local irreducible] aD bY bO eqv dB Cl bS LsH SlH ld1 ldN st ai bT aY dF bI bz bE aJ aB bK bZ
section
variable {w0 w : World} {L : List HP} {K : Value → World → Prop} {f : UInt8 → Bool} {q p : Nat} {s : List UInt8} {bad : Bool}
theorem QF {tx : List UInt8} {l : List Pc} (h : Sat w0 (zG p tx l :: L) w) : ∃ (items : List PQ) (sv : Value), items.map Prod.fst = l ∧ Sat w0 (Cl p #[.string (bs tx), sv] 274 :: LsH pcC 4 277 sv items :: (items.map setOf ++ L)) w := by
  simp only [zG, Sat.ex_iff, Sat.pr_iff, Sat.hs_iff, List.cons_append] at h
  exact h
theorem pat_mk {tx : List UInt8} {items : List PQ} {sv : Value} (h : Sat w0 (Cl p #[.string (bs tx), sv] 274 :: LsH pcC 4 277 sv items :: (items.map setOf ++ L)) w) : Sat w0 (zG p tx (items.map Prod.fst) :: L) w := by
  simp only [zG, Sat.ex_iff, Sat.pr_iff, Sat.hs_iff, List.cons_append]
  exact ⟨items, sv, rfl, h⟩
theorem Zl : aD Tryz.prog 318 [] = some (.agg (uC iR).toArray) := by kernel_rfl
theorem zPiece : bO Tryz.prog 277 = some (.agg #[.pointer none, .bool false, .bool false, .int .u8 0]) := by kernel_rfl
theorem Hy {c : UInt8} {t : List UInt8} (hs : t.length ≤ 1000000) (h : Sat w0 (dV p (c :: t) false :: L) w)
    (hK0 : ig (c :: t) = none → ∀ x r w', Sat w0 (dV p r true :: L) w' → K (.agg (pcC x).toArray) w')
    (hK1 : ∀ y r, ig (c :: t) = some (y, r) → ∀ q w', Sat w0 (setOf (y, q) :: dV p r false :: L) w' → K (.agg (pcC (y, q)).toArray) w') : ai TT [.pointer (some ⟨p, 0, none⟩)] w K := by
  refine c153 ?_
  unfold UV Fg Ff
  refine cu h zPiece rfl fun ap w h => ?_
  have h : Sat w0 (dV p (c :: t) false :: Cl ap #[.pointer none, .bool false, .bool false, .int .u8 0] 277 :: L) w := h.f1
  (repeat simp(disch:=omega)only[evA,evB,evC,af,ag])
  refine gN h fun w h => ?_
  have dc : ∀ n : UInt8, decide ((c.toNat : Int) = (n.toNat : Int)) = decide (c = n) := fun n => decide_eq_decide.2 ⟨fun h => UInt8.toNat_inj.1 (by omega), fun h => by rw [h]⟩
  have d1 : decide ((c.toNat : Int) = 42) = decide (c = 42) := dc 42
  have d2 : decide ((c.toNat : Int) = 63) = decide (c = 63) := dc 63
  have d3 : decide ((c.toNat : Int) = 91) = decide (c = 91) := dc 91
  have d4 : decide ((c.toNat : Int) = 92) = decide (c = 92) := dc 92
  have one : ∀ {b : UInt8} {r : List UInt8} {bad : Bool} {w : World}, Sat w0 (dV p r bad :: Cl ap #[.pointer none, .bool false, .bool false, .int .u8 0] 277 :: L) w →
      (∀ q w', Sat w0 (setOf (Kh b, q) :: dV p r bad :: L) w' → K (.agg (pcC (Kh b, q)).toArray) w') → vJ (.pointer (some ⟨ap, 0, none⟩)) (.int .u8 b.toNat) w K := by
    intro b r bad w h hK
    unfold vJ Fe
    refine ax Zl ?_
    refine cB h (l := uC iR) rfl fun q w h => ?_
    have h : Sat w0 (gJ q iR :: dV p r bad :: Cl ap #[.pointer none, .bool false, .bool false, .int .u8 0] 277 :: L) w := h
    refine BR (a := b) (b := b) (UInt8.le_refl b) h fun w h => ?_
    (repeat(first
|simp(disch:=omega)only[evA,evB,evC,af,ag,Ij]
|with_reducible refine bA h ?_
|((with_reducible apply dO h);rfl;rfl;(first|rfl|simp[OneV.o]);intro _ h)))
    refine hK q _ ?_
    have e : setOf (Kh b, q) = gJ q (zA iR b b) := pz rfl
    rw [e]
    exact h.got
  by_cases g1 : c = 42
  · have e1 : decide (c = 42) = true := by simpa using g1
    (repeat(first
|simp(disch:=omega)only[evA,evB,evC,af,ag,d1,e1,XZ]
|with_reducible refine bA h ?_
|((with_reducible apply dO h);rfl;rfl;(first|rfl|simp[OneV.o]);intro _ h)))
    refine hK1 anyP t (by simp [ig, g1]) 0 _ ?_
    have e : setOf (anyP, 0) = HEm := rfl
    rw [e]
    exact Sat.em_iff.2 (h.got)
  have e1 : decide (c = 42) = false := by simpa using g1
  by_cases g2 : c = 63
  · have e2 : decide (c = 63) = true := by simpa using g2
    (repeat simp(disch:=omega)only[evA,evB,evC,af,ag,d1,e1,d2,e2])
    refine ax Zl ?_
    refine cB h (l := uC iR) rfl fun q w h => ?_
    have h : Sat w0 (gJ q iR :: dV p t false :: Cl ap #[.pointer none, .bool false, .bool false, .int .u8 0] 277 :: L) w := h
    refine qY h fun w h => ?_
    (repeat(first
|simp(disch:=omega)only[evA,evB,evC,af,ag,Dw]
|with_reducible refine bA h ?_
|((with_reducible apply dO h);rfl;rfl;(first|rfl|simp[OneV.o]);intro _ h)))
    refine hK1 allP t (by simp [ig, g2]) q _ ?_
    have e : setOf (allP, q) = gJ q fun c => !iR c := pz rfl
    rw [e]
    exact h.got
  have e2 : decide (c = 63) = false := by simpa using g2
  by_cases g3 : c = 91
  · have e3 : decide (c = 91) = true := by simpa using g3
    have ep : ig (c :: t) = (wW t).map fun q => (inP q.1, q.2) := by simp [ig, g3]
    (repeat simp(disch:=omega)only[evA,evB,evC,af,ag,d1,e1,d2,e2,d3,e3])
    refine Pb hs h (fun hN q r f w h => ?_) (fun g r hg q w h => ?_)
    · (repeat(first
|simp(disch:=omega)only[evA,evB,evC,af,ag,Dw]
|with_reducible refine bA h ?_
|((with_reducible apply dO h);rfl;rfl;(first|rfl|simp[OneV.o]);intro _ h)))
      exact hK0 (by rw [ep, hN]; rfl) (inP f, q) r _ (h.got)
    · (repeat(first
|simp(disch:=omega)only[evA,evB,evC,af,ag,Dw]
|with_reducible refine bA h ?_
|((with_reducible apply dO h);rfl;rfl;(first|rfl|simp[OneV.o]);intro _ h)))
      refine hK1 (inP g) r (by rw [ep, hg]; rfl) q _ ?_
      have e : setOf (inP g, q) = gJ q g := pz rfl
      rw [e]
      exact h.got
  have e3 : decide (c = 91) = false := by simpa using g3
  by_cases g4 : c = 92
  · have e4 : decide (c = 92) = true := by simpa using g4
    (repeat simp(disch:=omega)only[evA,evB,evC,af,ag,d1,e1,d2,e2,d3,e3,d4,e4])
    cases t with
    | nil =>
      refine pU h fun w h => ?_
      exact one (b := 0) h fun q w h => hK0 (by simp [ig, g4]) _ _ w h.drop
    | cons d r =>
      refine gN h fun w h => ?_
      exact one h fun q w h => hK1 (Kh d) r (by simp [ig, g4]) q w h
  · have e4 : decide (c = 92) = false := by simpa using g4
    (repeat simp(disch:=omega)only[evA,evB,evC,af,ag,d1,e1,d2,e2,d3,e3,d4,e4])
    exact one h fun q w h => hK1 (Kh c) t (by simp [ig, g1, g2, g3, g4]) q w h
theorem HV {s0 : List UInt8} {rp : Nat}
    (hK0 : gV s0 = none → ∀ w', Sat w0 L w' → K (.tuple #[.pointer none, .int .i64 130]) w')
    (hK1 : ∀ l, gV s0 = some l → ∀ w', Sat w0 (zG p s0 l :: L) w' → K (.tuple #[.pointer (some ⟨p, 0, none⟩), .int .i64 0]) w') :
    ∀ (n : Nat) (s : List UInt8) (items : List PQ) (sv : Value) (w : World), s.length + 1 < n → items.length + s.length ≤ 1000000 → (gV s).map (items.map Prod.fst ++ ·) = gV s0 →
      Sat w0 (dV rp s false :: Cl p #[.string (bs s0), sv] 274 :: LsH pcC 4 277 sv items :: (items.map setOf ++ L)) w →
      ky n (.pointer (some ⟨rp, 0, none⟩)) (.pointer (some ⟨p, 0, none⟩)) w K := by
  intro n
  induction n with
  | zero => intro s items sv w hn; omega
  | succ n ih =>
    intro s items sv w hn hl hR h
    rw [ky]
    unfold xV
    cases s with
    | nil =>
      have d : decide (([] : List UInt8) = []) = true := by decide
      (repeat(first
|simp(disch:=omega)only[evA,evB,evC,af,ag,d]
|with_reducible refine bA h ?_))
      unfold pu uw
      (repeat(first
|simp(disch:=omega)only[evA,evB,evC,af,ag]
|with_reducible refine bA h ?_))
      refine hK1 (items.map Prod.fst) ?_ w ?_
      · rw [← hR, nY]; simp
      · exact pat_mk h.drop
    | cons c t =>
      simp only [List.length_cons] at hn hl
      have d : decide (c :: t = []) = false := by simp
      (repeat(first
|simp(disch:=omega)only[evA,evB,evC,af,ag,d]
|with_reducible refine bA h ?_))
      have os : OneV sv := fT (h.frt (A := LsH pcC 4 277 sv items))
      have d0 : decide (([] : List UInt8) = []) = true := by decide
      have tail : ∀ {w : World} {A B C : HP}, Sat w0 (A :: B :: C :: (items.map setOf ++ L)) w → Sat w0 L w := fun {w A B C} h => by
        have h2 : ∀ (l : List HP) {w : World}, Sat w0 (l ++ L) w → Sat w0 L w := by
          intro l
          induction l with
          | nil => exact fun h => h
          | cons x l ih => exact fun h => ih (Sat.drop h)
        exact h2 _ (h.drop.drop.drop)
      refine Hy (by omega) h.drew (fun hN x r w h => ?_) (fun y r hy q w h => ?_)
      · (repeat with_reducible refine bA h ?_)
        refine jQ (f := pcC) (x := x) CPc h u272 (fbPc x) rfl fun tv w h => ?_
        (repeat with_reducible refine bA h ?_)
        refine fI (f := pcC) (es := 4) (m := [x]) (L := _) CPc (h.frt (A := LsH pcC 4 277 sv items)) Zu (by kernel_rfl) (dw h) (by simp only [List.length_singleton]; omega) fun sv2 w h => ?_
        have := fT h
        (repeat ((with_reducible refine gH h ?_);intro _ h))
        obtain ⟨n, rfl⟩ : ∃ q, n = q + 1 := ⟨n - 1, by omega⟩
        have hN0 : gV s0 = none := by rw [← hR, mV, hN]; rfl
        rw [ky]
        unfold xV
        cases r with
        | nil =>
          (repeat(first
|simp(disch:=omega)only[evA,evB,evC,af,ag,d0]
|with_reducible refine bA h ?_))
          unfold pu uw
          (repeat(first
|simp(disch:=omega)only[evA,evB,evC,af,ag]
|with_reducible refine bA h ?_))
          exact hK0 hN0 _ (tail h.drop)
        | cons c2 r2 =>
          have d2 : decide (c2 :: r2 = []) = false := by simp
          (repeat(first
|simp(disch:=omega)only[evA,evB,evC,af,ag,d2]
|with_reducible refine bA h ?_))
          unfold pu uw
          (repeat(first
|simp(disch:=omega)only[evA,evB,evC,af,ag]
|with_reducible refine bA h ?_))
          exact hK0 hN0 _ (tail h.drop)
      · (repeat with_reducible refine bA h ?_)
        refine jQ (f := pcC) (x := (y, q)) CPc h u272 (fbPc (y, q)) rfl fun tv w h => ?_
        (repeat with_reducible refine bA h ?_)
        refine fI (f := pcC) (es := 4) (m := [(y, q)]) (L := _) CPc (h.frt (A := LsH pcC 4 277 sv items)) Zu (by kernel_rfl) (dw h) (by simp only [List.length_singleton]; omega) fun sv2 w h => ?_
        have := fT h
        (repeat ((with_reducible refine gH h ?_);intro _ h))
        have hrl := mW hy
        simp only [List.length_cons] at hrl
        refine ih r (items ++ [(y, q)]) sv2 _ (by omega) (by simp; omega) ?_ ?_
        · rw [← hR, mV, hy]
          simp only [Option.map_map]
          congr 1
          funext l
          simp
        · have h2 : Sat w0 (setOf (y, q) :: dV rp r false :: Cl p #[.string (bs s0), sv2] 274 :: LsH pcC 4 277 sv2 (items ++ [(y, q)]) :: (items.map setOf ++ L)) _ := h.got
          rw [List.map_append, List.append_assoc]
          refine h2.perm ?_
          show List.Perm (setOf (y, q) :: dV rp r false :: Cl p #[.string (bs s0), sv2] 274 :: LsH pcC 4 277 sv2 (items ++ [(y, q)]) :: (items.map setOf ++ L)) (dV rp r false :: Cl p #[.string (bs s0), sv2] 274 :: LsH pcC 4 277 sv2 (items ++ [(y, q)]) :: (items.map setOf ++ (setOf (y, q) :: L)))
          refine List.Perm.trans ?_ (List.Perm.cons _ (List.Perm.cons _ (List.Perm.cons _ List.perm_middle.symm)))
          exact (List.Perm.swap _ _ _).trans ((List.Perm.swap _ _ _).trans ((List.Perm.swap _ _ _).cons _) |>.cons _)
theorem Hz (hs : s.length ≤ 140737488351232) (h : Sat w0 L w)
    (hK0 : s.length > 256 → K (.tuple #[.pointer none, .int .i64 2]) w)
    (hK1 : s.length ≤ 256 → gV s = none → ∀ w', Sat w0 L w' → K (.tuple #[.pointer none, .int .i64 130]) w')
    (hK2 : ∀ l, qx s = some l → ∀ p w', Sat w0 (zG p s l :: L) w' → K (.tuple #[.pointer (some ⟨p, 0, none⟩), .int .i64 0]) w') : ai I4 [.string (bs s)] w K := by
  refine c107 ?_
  unfold U1 FQ FO
  by_cases g : s.length > 256
  · have d : decide ((s.length : Int) > 256) = true := by simp; omega
    (repeat simp(disch:=omega)only[evA,evB,evC,af,ag,d])
    exact hK0 g
  · have d : decide ((s.length : Int) > 256) = false := by simp; omega
    have fb1 : aD Tryz.prog 271 [(0, .string (bs s))] = some (.agg #[.string (bs s), .bool false]) := X3 _
    have fb2 : aD Tryz.prog 274 [(0, .string (bs s))] = some (.agg #[.string (bs s), .slice none 0 0]) := X0 _
    (repeat(first
|simp(disch:=omega)only[evA,evB,evC,af,ag,d]
|refine ax (fb1 ..) ?_
|((with_reducible apply cB h);rfl;intro _ _ h)))
    (repeat(first
|refine ax (fb2 ..) ?_
|((with_reducible apply cB h);rfl;intro _ _ h)))
    unfold AA
    have h2 := Sat.nilLs (α := PQ) pcC 4 277 h
    refine HV (s0 := s) (L := L) (hK1 (by omega)) (fun l hl p' h => ?_) fuel s [] (.slice none 0 0) _ (by unfold fuel; omega) (by simp; omega) (by simp) (h2.got)
    exact hK2 l (by unfold qx; rw [if_neg g]; exact hl) _ p' h
end
end Go.Proofs.Gong

/- Gl4 -/
namespace Go.Proofs.Gong
open Go Go.Sx Go.Proofs
set_option maxRecDepth 100000
structure PatIn (w : World) (p : Nat) (sv : Value) (items : List PQ) : Prop where
  cell : w.cell? ⟨p, 1, none⟩ = some sv
  rd : Rd w 4 sv items.length (items.flatMap pcC)
  sets : ∀ x ∈ items, x.1.any = false → ∀ i : Nat, i < 256 → w.cell? ⟨x.2, i, none⟩ = some (.bool (x.1.has (byt i)))
theorem PatIn.to {w w' : World} {p : Nat} {sv : Value} {items : List PQ} (h : PatIn w p sv items) (e : Same w w') : PatIn w' p sv items :=
  ⟨(e.cell _).trans h.cell, h.rd.to e, fun x hx ha i hi => (e.cell _).trans (h.sets x hx ha i hi)⟩
theorem pat_in {w0 w : World} {L : List HP} {p : Nat} {tx : List UInt8} {l : List Pc} (h : Sat w0 (zG p tx l :: L) w) : ∃ (items : List PQ) (sv : Value), items.map Prod.fst = l ∧ PatIn w p sv items := by
  obtain ⟨items, sv, e, h⟩ := QF h
  refine ⟨items, sv, e, ?_, dw h.f1, fun x hx ha i hi => ?_⟩
  · rw [cell_of h.cl]; rfl
  · obtain ⟨a, b, e⟩ := List.append_of_mem hx
    rw [e, List.map_append, List.map_cons, pz ha] at h
    have h2 := h.drop.drop
    rw [List.append_assoc, List.cons_append] at h2
    have h3 : Sat w0 (gJ x.2 x.1.has :: (a.map setOf ++ (b.map setOf ++ L))) w := h2.perm List.perm_middle
    have := Qp h3 hi
    rwa [bu] at this
def GN (st : Option (Nat × Nat)) : Bool ⊕ (Nat × Nat × Option (Nat × Nat)) := match st with | none => .inl false | some (s, f) => .inr (f + 1, s + 1, some (s, f + 1))
def Bu (st : Option (Nat × Nat)) : Value := match st with | none => .int .i64 (-1) | some (s, _) => .int .i64 (s : Nat)
def fromV (st : Option (Nat × Nat)) : Value := match st with | none => .int .i64 0 | some (_, f) => .int .i64 (f : Nat)
attribute [local irreducible] aD bY bO eqv dB Cl bS LsH SlH ld1 ldN st ai bT aY dF bI bz bE aJ aB bK bZ
section
variable {w0 w : World} {L : List HP} {K : Value → World → Prop} {p : Nat} {sv : Value} {items : List PQ} {S : List UInt8}
theorem RF {c : UInt8} {w1 : World} {x : PQ} (H : PatIn w1 p sv items) (hx : x ∈ items) (ha : x.1.any = false) (hK : K (.bool (x.1.has c)) w1) : ai TB [.pointer (Gj x), .int .u8 c.toNat] w1 K := by
  refine c220 ?_
  unfold YN Gj
  rw [ha]
  have hc := c.toNat_lt
  (repeat(first
|simp(disch:=omega)only[evA,evB,evC,af,ag,Bool.false_eq_true,if_false]
|refine ax (CU (q:=x.2) (j:=.u8) (i:=c.toNat) (by omega) ..) ?_))
  refine ax (v := .bool (x.1.has c)) ?_ hK
  rw [bu, H.sets x hx ha c.toNat hc, vg]
theorem H5 {w1 : World} {R : Bool} (H : PatIn w1 p sv items) (hl : items.length ≤ 1000) (hK : K (.bool R) w1) : ∀ (d k n : Nat), items.length = k + d → d < n → oJ ((items.map Prod.fst).drop k) = R → jX n (.pointer (some ⟨p, 0, none⟩)) (.int .i64 (k : Nat)) w1 K := by
  have hcell : ld1 (.pointer (some ⟨p, 1, none⟩)) w1 = some sv := by rw [bu, H.cell]
  have hlen := H.rd.len
  intro d
  induction d with
  | zero =>
    intro k n he hn hR
    obtain ⟨n, rfl⟩ : ∃ q, n = q + 1 := ⟨n - 1, by omega⟩
    rw [jX]
    unfold xI
    have g : decide ((k : Int) < (items.length : Int)) = false := by simp; omega
    (repeat(first
|simp(disch:=omega)only[evA,evB,evC,af,ag,hlen,g]
|refine ax (hcell ..) ?_))
    have g2 : decide ((k : Int) = (items.length : Int)) = true := by simp; omega
    rw [g2]
    rw [List.drop_eq_nil_of_le (by simp; omega)] at hR
    have : R = true := by rw [← hR]; rfl
    rw [← this]; exact hK
  | succ d ih =>
    intro k n he hn hR
    obtain ⟨n, rfl⟩ : ∃ q, n = q + 1 := ⟨n - 1, by omega⟩
    have hk : k < items.length := by omega
    rw [jX]
    unfold xI
    have g : decide ((k : Int) < (items.length : Int)) = true := by simp; omega
    have f1 := fV H.rd hk
    have f2 := Gv (j := 1) CPc H.rd hk (by omega)
    have f3 : ld1 (elF 4 sv k 1) w1 = some (.bool items[k].1.any) := yD CPc H.rd hk inferInstance
    (repeat(first
|simp(disch:=omega)only[evA,evB,evC,af,ag,hlen,g]
|refine ax (hcell ..) ?_
|refine ax (f1 ..) ?_
|refine ax (f2 ..) ?_
|refine ax (f3 ..) ?_))
    have hd : (items.map Prod.fst).drop k = items[k].1 :: (items.map Prod.fst).drop (k + 1) := by
      rw [List.drop_eq_getElem_cons (by simpa using hk)]; simp
    rw [hd] at hR
    cases ha : items[k].1.any
    · (repeat(first
|simp(disch:=omega)only[evA,evB,evC,af,ag,hlen]
|refine ax (hcell ..) ?_))
      have g2 : decide ((k : Int) = (items.length : Int)) = false := by simp; omega
      rw [g2]
      have : R = false := by rw [← hR]; simp [oJ, ha]
      rw [← this]; exact hK
    · have e1 : (k : Int) + 1 = ((k + 1 : Nat) : Int) := by omega
      (repeat simp(disch:=omega)only[evA,evB,evC,af,ag])
      rw [e1]
      refine ih (k + 1) n (by omega) (by omega) ?_
      rw [← hR]
      simp [oJ, ha]
theorem H7 {w : World} (H0 : PatIn w p sv items) (hl : items.length ≤ 1000) (hS : S.length ≤ 1000000000) {R : Bool} (hK : ∀ w', Same w w' → K (.bool R) w') :
    ∀ (n : Nat) (a k : Nat) (st : Option (Nat × Nat)) (w1 : World), qm items.length S.length k st < n → mok (items.map Prod.fst) a k st → a ≤ S.length → k ≤ items.length → (R = true ↔ sw (items.map Prod.fst) S a k st) → Same w w1 →
      jY (n + 1) (.pointer (some ⟨p, 0, none⟩)) (.string (bs S)) (.int .i64 (a : Nat)) (.int .i64 (k : Nat)) (Bu st) (fromV st) w1 K := by
  intro n
  induction n with
  | zero => intro a k st w1 hn; omega
  | succ n ih =>
    intro a k st w1 hn hok ha hk hR hw
    have H := H0.to hw
    have hcell : ld1 (.pointer (some ⟨p, 1, none⟩)) w1 = some sv := by rw [bu, H.cell]
    have hlen := H.rd.len
    have hml : (items.map Prod.fst).length = items.length := by simp
    rw [jY]
    unfold EY
    rcases Nat.lt_or_ge a S.length with haS | haS
    · have g1 : decide ((a : Int) < (S.length : Int)) = true := by simp; omega
      have ms := Rb (st := st) haS (by rw [hml]; exact hk) hok
      have e1 : (a : Int) + 1 = ((a + 1 : Nat) : Int) := by omega
      have e2 : (k : Int) + 1 = ((k + 1 : Nat) : Int) := by omega
      have hsl : ∀ s f, st = some (s, f) → s + 1 ≤ k ∧ f + (k - (s + 1)) = a := fun s f e => ⟨(hok s f e).1, (hok s f e).2.1⟩
      have back : wG (items.map Prod.fst) S a k st = GN st → ∀ w2, Same w w2 →
          aa (bLt (Bu st) (.int .i64 0)) (fun v59 => ifB v59 (K (.bool false) w2) (aa (bH (fromV st) (.int .i64 1)) fun v60 => aa (bH (Bu st) (.int .i64 1)) fun v61 =>
            jY (n + 1) (.pointer (some ⟨p, 0, none⟩)) (.string (bs S)) v60 v61 (Bu st) v60 w2 K)) := by
        intro hm w2 hw2
        rw [hm] at ms
        unfold GN at ms
        cases st with
        | none =>
          have d : decide ((-1 : Int) < 0) = true := by decide
          unfold Bu fromV
          (repeat simp(disch:=omega)only[evA,evB,evC,af,ag,d])
          have : R = false := by
            cases R with
            | false => rfl
            | true => exact absurd (hR.1 rfl) ms.2
          rw [this] at hK
          exact hK w2 hw2
        | some q =>
          obtain ⟨s, f⟩ := q
          obtain ⟨h1, h2⟩ := hsl s f rfl
          have d : decide ((s : Int) < 0) = false := by simp
          have e3 : (f : Int) + 1 = ((f + 1 : Nat) : Int) := by omega
          have e4 : (s : Int) + 1 = ((s + 1 : Nat) : Int) := by omega
          unfold Bu fromV
          (repeat simp(disch:=omega)only[evA,evB,evC,af,ag,d])
          rw [e3, e4]
          have := Ki (p := items.length) (s := S.length) (k := k) (x := s) (f := f) (by omega) hk (by omega)
          exact ih (f + 1) (s + 1) (some (s, f + 1)) w2 (by omega) ms.1 ms.2.1 (by rw [← hml]; exact ms.2.2.1) (hR.trans ms.2.2.2.symm) hw2
      rcases Nat.lt_or_ge k items.length with hkl | hkl
      · have g2 : decide ((k : Int) < (items.length : Int)) = true := by simp; omega
        have f1 := fV H.rd hkl
        have f2 := Gv (j := 1) CPc H.rd hkl (by omega)
        have f3 : ld1 (elF 4 sv k 1) w1 = some (.bool items[k].1.any) := yD CPc H.rd hkl inferInstance
        have f4 := Gv (j := 0) CPc H.rd hkl (by omega)
        have f5 : ld1 (elF 4 sv k 0) w1 = some (.pointer (Gj items[k])) := yD CPc H.rd hkl inferInstance
        have eP : (items.map Prod.fst)[k]? = some items[k].1 := by simp [hkl]
        have i1 : dG (.string (bs S)) (.int .i64 (a : Nat)) = some (.int .u8 S[a].toNat) := mZ haS
        have hmem := List.getElem_mem hkl
        cases hany : items[k].1.any
        · have hm0 : wG (items.map Prod.fst) S a k st = if items[k].1.has S[a] = true then .inr (a + 1, k + 1, st) else GN st := by
            unfold wG GN
            simp only [eP, Option.elim_some, hany, Bool.false_eq_true, if_false, List.getElem?_eq_getElem haS, Option.getD_some]
            rfl
          rw [hany] at f3
          (repeat(first
|simp(disch:=omega)only[evA,evB,evC,af,ag,g1,hlen,g2]
|refine ax (hcell ..) ?_
|refine ax (f1 ..) ?_
|refine ax (f2 ..) ?_
|refine ax (f3 ..) ?_
|refine ax (f4 ..) ?_
|refine ax (f5 ..) ?_
|refine ax (i1 ..) ?_))
          refine RF (x := items[k]) (H.to (.drew _)) hmem hany ?_
          cases hh : items[k].1.has S[a]
          · (repeat simp(disch:=omega)only[evA,evB,evC,af,ag])
            exact back (by rw [hm0, hh]; rfl) _ (hw.trans (.drew _))
          · (repeat simp(disch:=omega)only[evA,evB,evC,af,ag])
            rw [hm0, hh] at ms
            rw [e1, e2]
            have := OL (p := items.length) (s := S.length) (k := k) (st := st) hkl
            exact ih (a + 1) (k + 1) st _ (by omega) ms.1 ms.2.1 (by omega) (hR.trans ms.2.2.2.symm) (hw.trans (.drew _))
        · have hm0 : wG (items.map Prod.fst) S a k st = .inr (a, k + 1, some (k, a)) := by
            unfold wG
            simp only [eP, Option.elim_some, hany, if_true]
          rw [hany] at f3
          (repeat(first
|simp(disch:=omega)only[evA,evB,evC,af,ag,g1,hlen,g2]
|refine ax (hcell ..) ?_
|refine ax (f1 ..) ?_
|refine ax (f2 ..) ?_
|refine ax (f3 ..) ?_))
          rw [hm0] at ms
          rw [e2]
          have := OM (p := items.length) (s := S.length) (k := k) (a := a) (st := st) hkl haS (fun x f e => by have := (hsl x f e).1; omega)
          exact ih a (k + 1) (some (k, a)) w1 (by omega) ms.1 (by omega) (by omega) (hR.trans ms.2.2.2.symm) hw
      · have g2 : decide ((k : Int) < (items.length : Int)) = false := by simp; omega
        (repeat(first
|simp(disch:=omega)only[evA,evB,evC,af,ag,g1,hlen,g2]
|refine ax (hcell ..) ?_))
        refine back ?_ _ (hw.trans (.drew _))
        unfold wG GN
        have : (items.map Prod.fst)[k]? = none := by simp; omega
        simp only [this, Option.elim_none, Bool.false_eq_true, if_false]
        rfl
    · have haS' : a = S.length := by omega
      subst haS'
      have g1 : decide ((S.length : Int) < (S.length : Int)) = false := by simp
      (repeat simp(disch:=omega)only[evA,evB,evC,af,ag,g1])
      unfold vI
      refine H5 (R := R) H hl (hK w1 hw) (items.length - k) k fuel (by omega) (by unfold fuel; omega) ?_
      have := OO hok (by rw [hml]; exact hk)
      cases hA : oJ ((items.map Prod.fst).drop k) with
      | true => exact (hR.2 (this.2 hA)).symm
      | false =>
        cases R with
        | false => rfl
        | true =>
          have := this.1 (hR.1 rfl)
          rw [hA] at this; cases this
theorem Pj {w : World} (H : PatIn w p sv items) (hl : items.length ≤ 1000) (hS : S.length ≤ 1000000000) (hK : ∀ w', Same w w' → K (.bool (gm (items.map Prod.fst) S)) w') : ai P5 [.pointer (some ⟨p, 0, none⟩), .string (bs S)] w K := by
  refine c170 ?_
  unfold UR E5 EZ Ag
  have := GM (p := items.length) (s := S.length) hl hS
  have e : fuel = (4611686018427387903 : Nat) + 1 := rfl
  rw [e]
  refine H7 (R := gm (items.map Prod.fst) S) H hl hS hK 4611686018427387903 0 0 none w (by omega) (fun s f e => by cases e) (by omega) (by omega) ?_ (.refl _)
  unfold sw
  simp
theorem H6 {tx : List UInt8} {l : List Pc} (h : Sat w0 (zG p tx l :: L) w) (hl : l.length ≤ 1000) (hS : S.length ≤ 1000000000) (hK : ∀ w', Sat w0 (zG p tx l :: L) w' → K (.bool (gm l S)) w') : ai P5 [.pointer (some ⟨p, 0, none⟩), .string (bs S)] w K := by
  obtain ⟨items, sv, e, H⟩ := pat_in h
  subst e
  exact Pj H (by simpa using hl) hS fun w' e => hK w' (h.to e)
end
end Go.Proofs.Gong

/- Qx0 -/
namespace Go.Proofs.Gong
open Go Go.Sx Go.Proofs
set_option maxRecDepth 100000
def X6 (c : UInt8) : Bool := decide (48 ≤ c.toNat) && decide (c.toNat ≤ 57)
def Nj (s p : UInt8) : Bool := if p = 100 then X6 s else decide (s = p)
def oC : List UInt8 → List UInt8 → Bool
  | [], [] => true
  | s :: ss, p :: ps => Nj s p && oC ss ps
  | _, _ => false
theorem BX : ∀ {s p : List UInt8}, oC s p = true → s.length = p.length
  | [], [], _ => rfl
  | s :: ss, p :: ps, h => by
    rw [oC, Bool.and_eq_true] at h
    simp [BX h.2]
  | [], _ :: _, h => by cases h
  | _ :: _, [], h => by cases h
attribute [local irreducible] aD bY bO eqv dB Cl bS LsH SlH ld1 ldN st ai bT aY dF bI bz bE aJ aB bK bZ
section
variable {w0 w : World} {L : List HP} {K : Value → World → Prop}
theorem Gi {c : UInt8} (hK : K (.bool (X6 c)) w) : ai Lu [.int .u8 c.toNat] w K := by
  refine c268 ?_
  unfold YE
  unfold X6 at hK
  by_cases h1 : 48 ≤ c.toNat
  · have d1 : decide ((c.toNat : Int) ≥ 48) = true := by simp; omega
    by_cases h2 : c.toNat ≤ 57
    · have d2 : decide ((c.toNat : Int) ≤ 57) = true := by simp; omega
      rw [decide_eq_true h1, decide_eq_true h2] at hK
      simp (disch := omega) only [evA, evB, evC, d1, d2]
      exact hK
    · have d2 : decide ((c.toNat : Int) ≤ 57) = false := by simp; omega
      rw [decide_eq_true h1, decide_eq_false h2] at hK
      simp (disch := omega) only [evA, evB, evC, d1, d2]
      exact hK
  · have d1 : decide ((c.toNat : Int) ≥ 48) = false := by simp; omega
    rw [decide_eq_false h1] at hK
    simp (disch := omega) only [evA, evB, evC, d1]
    exact hK
theorem BV {s p : List UInt8} (hl : s.length = p.length) (hb : s.length ≤ 1000000) (hK : ∀ w', Sat w0 L w' → K (.bool (oC s p)) w') : ∀ (k i n : Nat) (w : World), i + k = s.length → k < n → oC s p = oC (s.drop i) (p.drop i) → Sat w0 L w → jy n (.string (bs s)) (.string (bs p)) (.int .i64 s.length) (.int .i64 (i : Nat)) w K
  | 0, i, n, w, hi, hn, he, h => by
    obtain ⟨n, rfl⟩ : ∃ q, n = q + 1 := ⟨n - 1, by omega⟩
    have him : i = s.length := by omega
    subst him
    have g' : decide ((s.length : Int) < (s.length : Int)) = false := by simp
    rw [List.drop_of_length_le (Nat.le_refl _), List.drop_of_length_le (by omega)] at he
    rw [he] at hK
    rw [jy]
    unfold xx
    (repeat simp(disch:=omega)only[evA,evB,evC,af,ag,g'])
    unfold vC Ev
    exact hK w h
  | k + 1, i, n, w, hi, hn, he, h => by
    obtain ⟨n, rfl⟩ : ∃ q, n = q + 1 := ⟨n - 1, by omega⟩
    have hil : i < s.length := by omega
    have hip : i < p.length := by omega
    have g' : decide ((i : Int) < (s.length : Int)) = true := by simpa using hil
    have i1 : dG (.string (bs s)) (.int .i64 (i : Nat)) = some (.int .u8 s[i].toNat) := mZ hil
    have i2 : dG (.string (bs p)) (.int .i64 (i : Nat)) = some (.int .u8 p[i].toNat) := mZ hip
    have e3 : (i : Int) + 1 = ((i + 1 : Nat) : Int) := by omega
    rw [List.drop_eq_getElem_cons hil, List.drop_eq_getElem_cons hip, oC] at he
    have next : Nj s[i] p[i] = true → ∀ w', Sat w0 L w' → jy n (.string (bs s)) (.string (bs p)) (.int .i64 s.length) (.int .i64 ((i + 1 : Nat) : Int)) w' K := fun hf w' h' => by
      rw [hf, Bool.true_and] at he
      exact BV hl hb hK k (i + 1) n w' (by omega) (by omega) he h'
    have stop : Nj s[i] p[i] = false → ∀ w', Sat w0 L w' → K (.bool false) w' := fun hf w' h' => by
      rw [hf, Bool.false_and] at he
      rw [he] at hK
      exact hK w' h'
    unfold Nj at next stop
    rw [jy]
    unfold xx
    by_cases hp : p[i] = 100
    · rw [if_pos hp] at next stop
      have d1 : decide ((p[i].toNat : Int) = 100) = true := by rw [hp]; rfl
      (repeat(first
|simp(disch:=omega)only[evA,evB,evC,af,ag,g',d1]
|refine ax (i1 ..) ?_
|refine ax (i2 ..) ?_))
      refine Gi ?_
      cases hd : X6 s[i]
      · (repeat simp(disch:=omega)only[evA,evB,evC,af,ag])
        exact stop hd _ h.drew
      · (repeat(first
|simp(disch:=omega)only[evA,evB,evC,af,ag,d1]
|refine ax (i2 ..) ?_))
        rw [e3]
        exact next hd _ h.drew
    · rw [if_neg hp] at next stop
      have hpn : ¬ (p[i].toNat : Int) = 100 := fun e => hp (UInt8.toNat_inj.1 (by show p[i].toNat = 100; omega))
      have d1 : decide ((p[i].toNat : Int) = 100) = false := by simpa using hpn
      by_cases hs : s[i] = p[i]
      · have d3 : decide ((s[i].toNat : Int) = p[i].toNat) = true := by rw [hs]; simp
        (repeat(first
|simp(disch:=omega)only[evA,evB,evC,af,ag,g',d1,d3]
|refine ax (i1 ..) ?_
|refine ax (i2 ..) ?_))
        rw [e3]
        exact next (by simpa using hs) _ h.drew
      · have d3 : decide ((s[i].toNat : Int) = p[i].toNat) = false := by
          rw [decide_eq_false_iff_not]
          exact fun e => hs (UInt8.toNat_inj.1 (by omega))
        (repeat(first
|simp(disch:=omega)only[evA,evB,evC,af,ag,g',d1,d3]
|refine ax (i1 ..) ?_
|refine ax (i2 ..) ?_))
        exact stop (by simpa using hs) _ h.drew
theorem Pp {s p : List UInt8} (hb : s.length ≤ 1000000) (hp : p.length ≤ 1000000) (h : Sat w0 L w) (hK : ∀ w', Sat w0 L w' → K (.bool (oC s p)) w') : ai IV [.string (bs s), .string (bs p)] w K := by
  refine c221 ?_
  unfold UG Ex Ew
  by_cases g : s.length = p.length
  · have d : decide ((s.length : Int) = (p.length : Int)) = true := by simp; omega
    (repeat simp(disch:=omega)only[evA,evB,evC,af,ag,d])
    unfold zU
    exact BV g hb hK s.length 0 fuel w (by omega) (by unfold fuel; omega) rfl h
  · have d : decide ((s.length : Int) = (p.length : Int)) = false := by simp; omega
    have hf : oC s p = false := by
      cases e : oC s p with
      | false => rfl
      | true => exact absurd (BX e) g
    rw [hf] at hK
    (repeat simp(disch:=omega)only[evA,evB,evC,af,ag,d])
    exact hK w h
theorem eU {s : List UInt8} {n : Int} (h : Sat w0 L w) (hl : s.length ≤ 18) (hn : Lib.atoi s = some n) (hK : ∀ w', Sat w0 L w' → K (.int .i64 n) w') : ai gK [.string (bs s)] w K := by
  refine c269 ?_
  unfold YD
  refine IL h hl hn fun w h => ?_
  (repeat simp(disch:=omega)only[evA,evB,evC,af,ag])
  exact hK _ h
end
end Go.Proofs.Gong

/- Qx1 -/
namespace Go.Proofs.Gong
open Go Go.Sx Go.Proofs
set_option maxRecDepth 100000
def Qg : List UInt8 := [49, 57, 55, 48, 45, 48, 49, 45, 48, 49, 84, 48, 48, 58, 48, 48, 58]
def tC (c : UInt8) : List UInt8 := Qg ++ [c, 48, 90]
def kN (c : UInt8) : Int := (c.toNat - 48) * 10
theorem CV {c : UInt8} (hc : c = 49 ∨ c = 50) : kN c = 10 ∨ kN c = 20 := by rcases hc with rfl | rfl <;> decide
attribute [local irreducible] aD bY bO eqv dB Cl bS LsH SlH ld1 ldN st ai bT aY dF bI bz bE aJ aB bK bZ
section
variable {w0 w : World} {L : List HP} {K : Value → World → Prop} {c : UInt8}
theorem JL (hc : c = 49 ∨ c = 50) (A : fF w0) (h : Sat w0 L w) (hK : ∀ w', Sat w0 L w' → K (.tuple #[.agg #[.int .i64 1970, .int .i64 1, .int .i64 1, .int .i64 0, .int .i64 0, .int .i64 (kN c)], .bool true]) w') : ai TA [.string (bs (tC c))] w K := by
  refine c222 ?_
  unfold YM
  have s1 : di (.string (bs (tC c))) none (some (.int .i64 4)) = some (.string (bs [49, 57, 55, 48])) := by rcases hc with rfl | rfl <;> kernel_rfl
  have s2 : di (.string (bs (tC c))) (some (.int .i64 5)) (some (.int .i64 7)) = some (.string (bs [48, 49])) := by rcases hc with rfl | rfl <;> kernel_rfl
  have s3 : di (.string (bs (tC c))) (some (.int .i64 8)) (some (.int .i64 10)) = some (.string (bs [48, 49])) := by rcases hc with rfl | rfl <;> kernel_rfl
  have s4 : di (.string (bs (tC c))) (some (.int .i64 11)) (some (.int .i64 13)) = some (.string (bs [48, 48])) := by rcases hc with rfl | rfl <;> kernel_rfl
  have s5 : di (.string (bs (tC c))) (some (.int .i64 14)) (some (.int .i64 16)) = some (.string (bs [48, 48])) := by rcases hc with rfl | rfl <;> kernel_rfl
  have s6 : di (.string (bs (tC c))) (some (.int .i64 17)) (some (.int .i64 19)) = some (.string (bs [c, 48])) := by rcases hc with rfl | rfl <;> kernel_rfl
  have n1 : Lib.atoi [49, 57, 55, 48] = some 1970 := by kernel_rfl
  have n2 : Lib.atoi [48, 49] = some 1 := by kernel_rfl
  have n3 : Lib.atoi [48, 48] = some 0 := by kernel_rfl
  have n4 : Lib.atoi [c, 48] = some (kN c) := by rcases hc with rfl | rfl <;> kernel_rfl
  have hs := CV hc
  have b2 : beforeN 1970 2 = 31 := by kernel_rfl
  have b1 : beforeN 1970 1 = 0 := by kernel_rfl
  have d1 : decide ((1970 : Int) > 2100) = false := by decide
  have d2 : decide ((1 : Int) < 1) = false := by decide
  have d3 : decide ((1 : Int) > 12) = false := by decide
  have d4 : decide ((1 : Int) ≥ 1) = true := by decide
  have d5 : decide ((1 : Int) ≤ 31 - 0) = true := by decide
  have d6 : decide ((0 : Int) < 24) = true := by decide
  have d7 : decide ((0 : Int) < 60) = true := by decide
  have d8 : decide (kN c < 60) = true := by simp only [decide_eq_true_eq]; omega
  refine cu h z342 rfl fun p w h => ?_
  refine ax s1 (ax s2 (ax s3 (ax s4 (ax s5 (ax s6 (And.intro ?_ ?_))))))
  all_goals have h := h.drew
  refine eU h (by decide) n1 fun w h => And.intro ?_ ?_
  refine eU h (by decide) n2 fun w h => And.intro ?_ ?_
  refine eU h (by decide) n2 fun w h => And.intro ?_ ?_
  refine eU h (by decide) n3 fun w h => And.intro ?_ ?_
  refine eU h (by decide) n3 fun w h => And.intro ?_ ?_
  all_goals
    repeat (first
      | refine eU h (by decide) n1 fun w h => ?_
      | refine eU h (by decide) n2 fun w h => ?_
      | refine eU h (by decide) n3 fun w h => ?_
      | refine eU h (by simp) n4 fun w h => ?_
      | (first |simp(disch:=omega)only[evA,evB,evC,af,ag,sS,d1,d2,d3] |with_reducible refine bA h ?_ |((with_reducible apply RO h);rfl) |((with_reducible refine gH h ?_);intro _ h) |((with_reducible apply dO h);rfl;rfl;(first|rfl|simp[OneV.o]);intro _ h) |((with_reducible apply RJ h);rfl;(first|rfl|simp[OneV.o]);intro _ h) |((with_reducible apply cB h);rfl;intro _ _ h) |((with_reducible apply cu h);(first|exact z342);rfl;intro _ _ h) |((with_reducible apply RP h);omega) |((with_reducible first|apply Dm h|apply Nb h|apply Dk h|apply Dl h);(case hi=>omega);(try case hx=>exact inferInstance);(try case hv=>rfl)) |((with_reducible apply go_fa h);omega;omega)))
    refine jH (y := 1970) (m := 2) A h.drew (by omega) (by omega) fun w h => ?_
    rw [b2]
    (repeat with_reducible refine bA h ?_)
    refine jH (y := 1970) (m := 1) A h (by omega) (by omega) fun w h => ?_
    rw [b1]
    (repeat(first
|simp(disch:=omega)only[evA,evB,evC,af,ag,d4,d5,d6,d7,d8]
|with_reducible refine bA h ?_
|((with_reducible apply dO h);rfl;rfl;(first|rfl|simp[OneV.o]);intro _ h)))
    exact hK _ (h.got)
theorem Kc {s p : List UInt8} (hp : p.length ≤ 4611686018427387904) (hK : K (if p.length ≤ s.length ∧ s.take p.length = p then .tuple #[.string (bs (s.drop p.length)), .bool true] else .tuple #[.string (bs s), .bool false]) w) :
    ai Tv [.string (bs s), .string (bs p)] w K := by
  refine c240 ?_
  unfold YK
  refine c287 ?_
  unfold Yy
  refine c304 ?_
  unfold Yw
  have t0 : ∀ x y : Value, aK (.tuple #[x, y]) 0 = some x := fun _ _ => rfl
  have t1 : ∀ x y : Value, aK (.tuple #[x, y]) 1 = some y := fun _ _ => rfl
  have un : ∀ b : Bool, dN (.bool b) = some (.bool (!b)) := fun _ => rfl
  by_cases g : p.length ≤ s.length
  · have e : bGe (.int .i64 (s.length : Int)) (.int .i64 (p.length : Int)) = some (.bool true) := by simp; omega
    simp only [iw, fM, ak, e, bC, aQ, aH, Qi g, eB, bW, cz, aI]
    by_cases g2 : s.take p.length = p
    · rw [if_pos ⟨g, g2⟩] at hK
      simp only [g2, decide_true, un, ak, Bool.not_true, aL, iw, fM, nS g, t0, t1]
      exact hK
    · rw [if_neg (fun x => g2 x.2)] at hK
      simp only [g2, decide_false, un, ak, Bool.not_false, aR, t0, t1]
      exact hK
  · rw [if_neg (fun x => g x.1)] at hK
    have e : bGe (.int .i64 (s.length : Int)) (.int .i64 (p.length : Int)) = some (.bool false) := by simp; omega
    simp only [iw, fM, ak, e, bC, aP, aF, aC, un, Bool.not_false, aR, t0, t1]
    exact hK
theorem part_z (hK : K (.tuple #[.int .i64 0, .string (bs [90]), .bool true]) w) : ai Tz [.string (bs [90])] w K := by
  refine c223 ?_
  unfold UF Eu Et
  refine Kc (p := [46]) (by simp) ?_
  rw [if_neg (by decide)]
  (repeat simp(disch:=omega)only[evA,evB,evC,af,ag])
  exact hK
theorem zone_z (hK : K (.tuple #[.int .i64 0, .bool true]) w) : ai Ty [.string (bs [90])] w K := by
  refine c224 ?_
  unfold UE Er Ep
  have d1 : decide (([90] : List UInt8) = [90]) = true := by decide
  (repeat simp(disch:=omega)only[evA,evB,evC,af,ag,d1])
  exact hK
theorem Qt (hc : c = 49 ∨ c = 50) (A : fF w0) (h : Sat w0 L w) (hK : ∀ w', Sat w0 L w' → K (.int .i64 (kN c)) w') : ai Tm [.agg #[.int .i64 1970, .int .i64 1, .int .i64 1, .int .i64 0, .int .i64 0, .int .i64 (kN c)]] w K := by
  refine c272 ?_
  unfold YB
  have hs := CV hc
  have b1 : beforeN 1970 1 = 0 := by kernel_rfl
  have b0 : dY 1970 = 0 := by kernel_rfl
  have e1 := PK (x := 0 + 0 + 1 - 1) (c := 86400) (by omega)
  have e2 := PK (x := 0) (c := 3600) (by omega)
  have e3 := PK (x := 0) (c := 60) (by omega)
  have e4 : (0 + 0 + 1 - 1) * 86400 + (0 + 0 + 1 - 1) * 86400 + (0 + 0 + 1 - 1) * 86400 + kN c = kN c := by omega
  refine cB h (l := [.int .i64 1970, .int .i64 1, .int .i64 1, .int .i64 0, .int .i64 0, .int .i64 (kN c)]) rfl fun p w h => ?_
  (repeat(first
|simp(disch:=omega)only[evA,evB,evC,af,ag]
|with_reducible refine bA h ?_))
  refine qP (y := 1970) (by omega) ?_
  rw [b0]
  (repeat(first
|simp(disch:=omega)only[evA,evB,evC,af,ag]
|with_reducible refine bA h ?_))
  refine jH (y := 1970) (m := 1) A h.drew (by omega) (by omega) fun w h => ?_
  rw [b1]
  (repeat(first
|simp(disch:=omega)only[evA,evB,evC,af,ag]
|refine ax (e1 ..) ?_
|with_reducible refine bA h ?_))
  rw [e4]
  exact hK _ h.drop
theorem JR (hc : c = 49 ∨ c = 50) (A : fF w0) (h : Sat w0 L w) (hK : ∀ w', Sat w0 L w' → K (.int .i64 (kN c)) w') : ai Tx [.agg #[.int .i64 1970, .int .i64 1, .int .i64 1, .int .i64 0, .int .i64 0, .int .i64 (kN c)], .bool true] w K := by
  refine c225 ?_
  unfold YL
  refine cB h (l := [.int .i64 1970, .int .i64 1, .int .i64 1, .int .i64 0, .int .i64 0, .int .i64 (kN c)]) rfl fun p w h => ?_
  (repeat(first
|simp(disch:=omega)only[evA,evB,evC,af,ag]
|with_reducible refine bA h ?_))
  refine Qt hc A h fun w h => ?_
  skip
  exact hK _ h.drop
theorem Gf (hc : c = 49 ∨ c = 50) (A : fF w0) (h : Sat w0 L w) (hK : ∀ w', Sat w0 L w' → K (.tuple #[.int .i64 (kN c * 1000000000), .int .i64 0]) w') : ai PZ [.string (bs (tC c))] w K := by
  refine c173 ?_
  unfold YT
  have hs := CV hc
  have hl : (tC c).length = 20 := rfl
  have s1 : di (.string (bs (tC c))) none (some (.int .i64 19)) = some (.string (bs (Qg ++ [c, 48]))) := by rcases hc with rfl | rfl <;> kernel_rfl
  have s2 : di (.string (bs (tC c))) (some (.int .i64 19)) none = some (.string (bs [90])) := by rcases hc with rfl | rfl <;> kernel_rfl
  have f1 : oC (Qg ++ [c, 48]) [100, 100, 100, 100, 45, 100, 100, 45, 100, 100, 84, 100, 100, 58, 100, 100, 58, 100, 100] = true := by rcases hc with rfl | rfl <;> kernel_rfl
  have d1 : decide (((20 : Nat) : Int) < 19) = false := by decide
  have m1 := PK (x := 0) (c := 60) (by omega)
  have m2 := PK (x := kN c) (c := 1000000000) (by omega)
  have e1 : kN c - 0 * 60 = kN c := by omega
  have d2 : decide (kN c < 0) = false := by simp only [decide_eq_false_iff_not]; omega
  have d3 : decide (kN c > 2305843009) = false := by simp only [decide_eq_false_iff_not]; omega
  have d4 : decide (kN c * 1000000000 > 2305843009213693952 - 0) = false := by simp only [decide_eq_false_iff_not]; omega
  have e2 : kN c * 1000000000 + 0 = kN c * 1000000000 := by omega
  (repeat(first
|simp(disch:=omega)only[evA,evB,evC,af,ag,hl,d1]
|refine ax (s1 ..) ?_))
  refine Pp (s := Qg ++ [c, 48]) (p := [100, 100, 100, 100, 45, 100, 100, 45, 100, 100, 84, 100, 100, 58, 100, 100, 58, 100, 100]) (by simp [Qg]) (by decide) h fun w h => ?_
  rw [f1]
  (repeat simp(disch:=omega)only[evA,evB,evC,af,ag])
  refine JL hc A h fun w h => ?_
  (repeat(first
|simp(disch:=omega)only[evA,evB,evC,af,ag]
|refine ax (s2 ..) ?_
|((with_reducible apply dO h);rfl;rfl;(first|rfl|simp[OneV.o]);intro _ h)
|((with_reducible apply cu h);(first|exact z342);rfl;intro _ _ h)))
  refine part_z ?_
  (repeat simp(disch:=omega)only[evA,evB,evC,af,ag])
  refine zone_z ?_
  (repeat(first
|simp(disch:=omega)only[evA,evB,evC,af,ag]
|with_reducible refine bA h ?_))
  refine JR hc A h fun w h => ?_
  (repeat(first
|simp(disch:=omega)only[evA,evB,evC,af,ag,e1,d2,d3,d4,e2]
|refine ax (m1 ..) ?_
|refine ax (m2 ..) ?_))
  exact hK _ h.drop
end
end Go.Proofs.Gong

/- Qx2 -/
namespace Go.Proofs.Gong
open Go Go.Sx Go.Proofs
set_option maxRecDepth 100000
def sI : List UInt8 := [110, 111, 100, 101]
def mY : List UInt8 := [99, 108, 97, 115, 115]
def A7 : List UInt8 := [107, 101, 121]
def sH : List UInt8 := [116, 101, 120, 116]
def jw : List UInt8 := [98, 101, 102, 111, 114, 101]
def qX : List UInt8 := [115, 105, 110, 99, 101]
def iE : List UInt8 := [97, 99, 107, 101, 100]
def Kt : List UInt8 := [121, 101, 115]
def kNo : List UInt8 := [110, 111]
def wE (key : List UInt8) (e : Evt) : List UInt8 := if key = sI then e.node else if key = mY then e.cls else if key = A7 then e.key else e.text
section
variable (dJ : List UInt8 → Option Int)
def ofQ (key word : List UInt8) : Option (Row → Bool) :=
  if key = sI ∨ key = mY ∨ key = A7 ∨ key = sH then (qx word).map fun l r => gm l (wE key r.e)
  else if key = dE then (iL word).bind fun n => if n ≤ 5 then some fun r => decide (r.e.level ≥ (n : Int)) else none
  else if key = jw ∨ key = qX then (dJ word).map fun t r => decide (r.last < t) == decide (key = jw)
  else if key = iE then (if word = Kt ∨ word = kNo then some fun r => r.acked == decide (word = Kt) else none)
  else none
end
def DU (w0 : World) (dJ : List UInt8 → Option Int) (s : List UInt8) : Prop := ∀ (L : List HP) (w : World) (K : Value → World → Prop), Sat w0 L w → (dJ s = none → ∀ t e w', e ≠ 0 → Sat w0 L w' → K (.tuple #[.int .i64 t, .int .i64 e]) w') →
  (∀ t, dJ s = some t → ∀ w', Sat w0 L w' → K (.tuple #[.int .i64 t, .int .i64 0]) w') → ai PZ [.string (bs s)] w K
attribute [local irreducible] aD bY bO eqv dB Cl bS LsH SlH ld1 ldN st ai bT aY dF bI bz bE aJ aB bK bZ
section
variable {w0 w : World} {L : List HP} {K : Value → World → Prop} {dJ : List UInt8 → Option Int} {key word : List UInt8}
theorem OA {e : Evt} (h : Sat w0 L w) (hK : ∀ w', Sat w0 L w' → K (.string (bs (wE key e))) w') : ai TK [.string (bs key), evV e] w K := by
  refine c171 ?_
  unfold YV
  refine cB h rfl fun p w h => ?_
  unfold wE sI mY A7 at hK
  by_cases g1 : key = [110, 111, 100, 101]
  · rw [if_pos g1] at hK
    have d1 : decide (key = [110, 111, 100, 101]) = true := by simpa using g1
    (repeat(first
|simp(disch:=omega)only[evA,evB,evC,af,ag,d1]
|with_reducible refine bA h ?_))
    exact hK _ h.drop
  rw [if_neg g1] at hK
  have d1 : decide (key = [110, 111, 100, 101]) = false := by simpa using g1
  by_cases g2 : key = [99, 108, 97, 115, 115]
  · rw [if_pos g2] at hK
    have d2 : decide (key = [99, 108, 97, 115, 115]) = true := by simpa using g2
    (repeat(first
|simp(disch:=omega)only[evA,evB,evC,af,ag,d1,d2]
|with_reducible refine bA h ?_))
    exact hK _ h.drop
  rw [if_neg g2] at hK
  have d2 : decide (key = [99, 108, 97, 115, 115]) = false := by simpa using g2
  by_cases g3 : key = [107, 101, 121]
  · rw [if_pos g3] at hK
    have d3 : decide (key = [107, 101, 121]) = true := by simpa using g3
    (repeat(first
|simp(disch:=omega)only[evA,evB,evC,af,ag,d1,d2,d3]
|with_reducible refine bA h ?_))
    exact hK _ h.drop
  rw [if_neg g3] at hK
  have d3 : decide (key = [107, 101, 121]) = false := by simpa using g3
  (repeat(first
|simp(disch:=omega)only[evA,evB,evC,af,ag,d1,d2,d3]
|with_reducible refine bA h ?_))
  exact hK _ h.drop
theorem OB {r : Row} (hr : QFit r) : (wE key r.e).length ≤ 1000000000 := by
  unfold wE
  split
  · exact hr.node
  · split
    · exact hr.cls
    · split
      · exact hr.key
      · exact hr.text
theorem Pk {s : List UInt8} {l : List Pc} (h : qx s = some l) : l.length ≤ 1000 := by
  unfold qx at h
  split at h
  · cases h
  · have := wD s.length (Nat.le_refl _) h
    omega
theorem Gd {A B C : HP} (h : Sat w0 (A :: B :: C :: L) w) : Sat w0 (HSt A (HSt B C) :: L) w := by
  have h2 : Sat w0 (B :: C :: A :: L) w := h.got
  exact Sat.star_iff.2 (Sat.star_iff.2 h2).f1
theorem pat_at {pb p kb : Nat} {l : List Pc} (hl : l.length ≤ 1000) : eH w0 (HSt (Cl pb #[.pointer (some ⟨p, 0, none⟩)] 212) (HSt (zG p word l) (Cl kb #[.string (bs key)] 9))) (.func (.func 169) #[] #[.pointer (some ⟨pb, 0, none⟩), .pointer (some ⟨kb, 0, none⟩)]) (fun r => gm l (wE key r.e)) := by
  intro L w r K hr h hK
  show ai TL [fQ r, .pointer (some ⟨pb, 0, none⟩), .pointer (some ⟨kb, 0, none⟩)] w K
  refine c169 ?_
  unfold YW
  have h := Sat.star_iff.1 h
  have h := (Sat.star_iff.1 h.f1)
  refine cB h rfl fun q w h => ?_
  (repeat(first
|simp(disch:=omega)only[evA,evB,evC,af,ag,Nat.reduceAdd]
|with_reducible refine bA h ?_))
  refine OA (e := r.e) h.drew fun w h => ?_
  (repeat with_reducible refine bA h ?_)
  refine H6 (tx := word) (l := l) (h.frt (A := zG p word l)) hl (OB hr) fun w h => ?_
  skip
  refine hK _ ?_
  exact Gd (h.got)
theorem PH (hw : word.length ≤ 140737488351232) (h : Sat w0 L w) (hF : qx word = none → ∀ fv w', Sat w0 L w' → K (.tuple #[fv, .bool false]) w')
    (hK : ∀ l, qx word = some l → ∀ TP g c w', eH w0 TP (.func (.func g) #[] c) (fun r => gm l (wE key r.e)) → Sat w0 (TP :: L) w' → K (.tuple #[.func (.func g) #[] c, .bool true]) w') : ai Uc [.string (bs key), .string (bs word)] w K := by
  refine c122 ?_
  unfold Zc
  have d0 : decide ((2 : Int) = 0) = false := by decide
  have d1 : decide ((130 : Int) = 0) = false := by decide
  have d2 : decide ((0 : Int) = 0) = true := by decide
  refine cB h (l := [.string (bs key)]) rfl fun kb w h => ?_
  refine Hz hw h (fun hl => ?_) (fun hl hn w h => ?_) fun l hl p w h => ?_
  · (repeat(first
|simp(disch:=omega)only[evA,evB,evC,af,ag,d0]
|((with_reducible refine gH h ?_);intro _ h)
|((with_reducible apply cu h);(first|exact z212);rfl;intro _ _ h)))
    exact hF (by unfold qx; rw [if_pos hl]) _ _ (h.got)
  · (repeat(first
|simp(disch:=omega)only[evA,evB,evC,af,ag,d1]
|((with_reducible refine gH h ?_);intro _ h)
|((with_reducible apply cu h);(first|exact z212);rfl;intro _ _ h)))
    exact hF (by unfold qx; rw [if_neg (by omega)]; exact hn) _ _ (h.got)
  · (repeat(first
|simp(disch:=omega)only[evA,evB,evC,af,ag,d2]
|((with_reducible refine gH h ?_);intro _ h)
|((with_reducible apply cu h);(first|exact z212);rfl;intro _ _ h)))
    refine hK l hl _ _ _ _ (pat_at (p := p) (word := word) (Pk hl)) ?_
    exact Gd h
theorem U6 {tb kb : Nat} {t : Int} : eH w0 (HSt (Cl tb #[.int .i64 t] 3) (Cl kb #[.string (bs key)] 9)) (.func (.func 174) #[] #[.pointer (some ⟨tb, 0, none⟩), .pointer (some ⟨kb, 0, none⟩)]) (fun r => decide (r.last < t) == decide (key = jw)) := by
  intro L w r K hr h hK
  show ai TI [fQ r, .pointer (some ⟨tb, 0, none⟩), .pointer (some ⟨kb, 0, none⟩)] w K
  refine c174 ?_
  unfold YS
  have h := Sat.star_iff.1 h
  refine cB h rfl fun q w h => ?_
  have b1 : ∀ a b, bEq Tryz.prog 4 (.tmp 8) (.tmp 10) (.bool a) (.bool b) = some (.bool (a == b)) := fun a b => by cases a <;> cases b <;> kernel_rfl
  (repeat(first
|simp(disch:=omega)only[evA,evB,evC,af,ag,Nat.reduceAdd]
|refine ax (b1 ..) ?_
|with_reducible refine bA h ?_))
  refine hK _ ?_
  have h2 := Sat.star_iff.2 (h.drop)
  exact h2
theorem K6 (N : DU w0 dJ word) (h : Sat w0 L w) (hF : dJ word = none → ∀ fv w', Sat w0 L w' → K (.tuple #[fv, .bool false]) w')
    (hK : ∀ t, dJ word = some t → ∀ TP g c w', eH w0 TP (.func (.func g) #[] c) (fun r => decide (r.last < t) == decide (key = jw)) → Sat w0 (TP :: L) w' → K (.tuple #[.func (.func g) #[] c, .bool true]) w') : ai Ua [.string (bs key), .string (bs word)] w K := by
  refine c124 ?_
  unfold Za
  have d2 : decide ((0 : Int) = 0) = true := by decide
  refine cB h (l := [.string (bs key)]) rfl fun kb w h => ?_
  refine N _ w _ h (fun hn t e w he h => ?_) fun t ht w h => ?_
  · have d0 : decide (e = 0) = false := by simpa using he
    (repeat(first
|simp(disch:=omega)only[evA,evB,evC,af,ag,d0]
|((with_reducible refine gH h ?_);intro _ h)
|((with_reducible apply cu h);(first|exact z3);rfl;intro _ _ h)))
    exact hF hn _ _ (h.got)
  · (repeat(first
|simp(disch:=omega)only[evA,evB,evC,af,ag,d2]
|((with_reducible refine gH h ?_);intro _ h)
|((with_reducible apply cu h);(first|exact z3);rfl;intro _ _ h)))
    refine hK t ht _ _ _ _ U6 ?_
    exact Sat.star_iff.2 h
theorem IP {wb : Nat} : eH w0 (Cl wb #[.string (bs word)] 9) (.func (.func 125) #[] #[.pointer (some ⟨wb, 0, none⟩)]) (fun r => r.acked == decide (word = Kt)) := by
  intro L w r K hr h hK
  show ai TZ [fQ r, .pointer (some ⟨wb, 0, none⟩)] w K
  refine c125 ?_
  unfold Y9
  refine cB h rfl fun q w h => ?_
  have b1 : ∀ a b, bEq Tryz.prog 4 (.tmp 5) (.tmp 7) (.bool a) (.bool b) = some (.bool (a == b)) := fun a b => by cases a <;> cases b <;> kernel_rfl
  (repeat(first
|simp(disch:=omega)only[evA,evB,evC,af,ag,Nat.reduceAdd]
|refine ax (b1 ..) ?_
|with_reducible refine bA h ?_))
  exact hK _ h.drop
theorem kU (hk : key = sI ∨ key = mY ∨ key = A7 ∨ key = sH) (hw : word.length ≤ 140737488351232) : ry w0 (ofQ dJ) key word := by
  intro L w K h hF hK
  have ho : ofQ dJ key word = (qx word).map fun l r => gm l (wE key r.e) := by unfold ofQ; rw [if_pos hk]
  rw [ho] at hF hK
  refine c71 ?_
  unfold F71 tY oM
  refine cB h (l := [.string (bs word)]) rfl fun p w h => ?_
  unfold qE
  have last : I9 (.string (bs key)) (.pointer (some ⟨p, 0, none⟩)) w K := by
    unfold I9 LH
    (repeat with_reducible refine bA h ?_)
    refine PH hw h (fun hn fv w h => ?_) fun l hl TP g c w hT h => ?_
    · (repeat simp(disch:=omega)only[evA,evB,evC,af,ag])
      exact hF (by rw [hn]; rfl) _ _ (h.got)
    · (repeat simp(disch:=omega)only[evA,evB,evC,af,ag])
      exact hK _ (by rw [hl]; rfl) _ _ _ _ hT (h.got)
  unfold tX oL
  rcases hk with rfl | rfl | rfl | rfl
  · have d1 : decide (sI = [110, 111, 100, 101]) = true := by decide
    (repeat simp(disch:=omega)only[evA,evB,evC,af,ag,d1])
    unfold mJ
    (repeat simp(disch:=omega)only[evA,evB,evC,af,ag])
    exact last
  · have d1 : decide (mY = [110, 111, 100, 101]) = false := by decide
    have d2 : decide (mY = [99, 108, 97, 115, 115]) = true := by decide
    (repeat simp(disch:=omega)only[evA,evB,evC,af,ag,d1,d2])
    unfold mJ
    (repeat simp(disch:=omega)only[evA,evB,evC,af,ag])
    exact last
  · have d1 : decide (A7 = [110, 111, 100, 101]) = false := by decide
    have d2 : decide (A7 = [99, 108, 97, 115, 115]) = false := by decide
    have d3 : decide (A7 = [107, 101, 121]) = true := by decide
    (repeat simp(disch:=omega)only[evA,evB,evC,af,ag,d1,d2,d3])
    unfold mJ
    (repeat simp(disch:=omega)only[evA,evB,evC,af,ag])
    exact last
  · have d1 : decide (sH = [110, 111, 100, 101]) = false := by decide
    have d2 : decide (sH = [99, 108, 97, 115, 115]) = false := by decide
    have d3 : decide (sH = [107, 101, 121]) = false := by decide
    have d4 : decide (sH = [116, 101, 120, 116]) = true := by decide
    (repeat simp(disch:=omega)only[evA,evB,evC,af,ag,d1,d2,d3,d4])
    unfold mJ
    (repeat simp(disch:=omega)only[evA,evB,evC,af,ag])
    exact last
theorem OJ {u : Nat} (T : gQ Tryz.prog w0) (hu : u ≤ 5) : ry w0 (ofQ dJ) dE (Lib.itoa (u : Int)) := by
  have e : ofQ dJ dE (Lib.itoa (u : Int)) = ofS dE (Lib.itoa (u : Int)) := by
    unfold ofQ ofS
    rw [if_neg (by decide)]
    rfl
  intro L w K h hF hK
  rw [e] at hF hK
  exact GI T hu L w K h hF hK
theorem MZ (hk : key = jw ∨ key = qX) (N : DU w0 dJ word) : ry w0 (ofQ dJ) key word := by
  intro L w K h hF hK
  have ho : ofQ dJ key word = (dJ word).map fun t r => decide (r.last < t) == decide (key = jw) := by
    unfold ofQ
    rw [if_neg (by rcases hk with rfl | rfl <;> decide), if_neg (by rcases hk with rfl | rfl <;> decide), if_pos hk]
  rw [ho] at hF hK
  have d1 : decide (key = [110, 111, 100, 101]) = false := by rcases hk with rfl | rfl <;> decide
  have d2 : decide (key = [99, 108, 97, 115, 115]) = false := by rcases hk with rfl | rfl <;> decide
  have d3 : decide (key = [107, 101, 121]) = false := by rcases hk with rfl | rfl <;> decide
  have d4 : decide (key = [116, 101, 120, 116]) = false := by rcases hk with rfl | rfl <;> decide
  have d5 : decide (key = [108, 101, 118, 101, 108]) = false := by rcases hk with rfl | rfl <;> decide
  refine c71 ?_
  unfold F71 tY oM
  refine cB h (l := [.string (bs word)]) rfl fun p w h => ?_
  have last : nE (.string (bs key)) (.pointer (some ⟨p, 0, none⟩)) (.string (bs key)) (.bool true) w K := by
    unfold nE qc
    (repeat(first
|simp(disch:=omega)only[evA,evB,evC,af,ag]
|with_reducible refine bA h ?_))
    refine K6 N h (fun hn fv w h => ?_) fun t ht TP g c w hT h => ?_
    · (repeat simp(disch:=omega)only[evA,evB,evC,af,ag])
      exact hF (by rw [hn]; rfl) _ _ (h.got)
    · (repeat simp(disch:=omega)only[evA,evB,evC,af,ag])
      exact hK _ (by rw [ht]; rfl) _ _ _ _ hT (h.got)
  unfold qE tX oL
  (repeat simp(disch:=omega)only[evA,evB,evC,af,ag,d1,d2,d3,d4])
  unfold mJ
  (repeat simp(disch:=omega)only[evA,evB,evC,af,ag])
  unfold wU rz
  (repeat simp(disch:=omega)only[evA,evB,evC,af,ag,d5])
  unfold tT
  (repeat simp(disch:=omega)only[evA,evB,evC,af,ag])
  unfold rA qd
  rcases hk with rfl | rfl
  · have d6 : decide (jw = [98, 101, 102, 111, 114, 101]) = true := by decide
    (repeat simp(disch:=omega)only[evA,evB,evC,af,ag,d6])
    exact last
  · have d6 : decide (qX = [98, 101, 102, 111, 114, 101]) = false := by decide
    have d7 : decide (qX = [115, 105, 110, 99, 101]) = true := by decide
    (repeat simp(disch:=omega)only[evA,evB,evC,af,ag,d6,d7])
    exact last
theorem GJ : ry w0 (ofQ dJ) iE word := by
  intro L w K h hF hK
  have ho : ofQ dJ iE word = if word = Kt ∨ word = kNo then some fun r => r.acked == decide (word = Kt) else none := by
    unfold ofQ
    rw [if_neg (by decide), if_neg (by decide), if_neg (by decide), if_pos rfl]
  rw [ho] at hF hK
  have d1 : decide (iE = [110, 111, 100, 101]) = false := by decide
  have d2 : decide (iE = [99, 108, 97, 115, 115]) = false := by decide
  have d3 : decide (iE = [107, 101, 121]) = false := by decide
  have d4 : decide (iE = [116, 101, 120, 116]) = false := by decide
  have d5 : decide (iE = [108, 101, 118, 101, 108]) = false := by decide
  have d6 : decide (iE = [98, 101, 102, 111, 114, 101]) = false := by decide
  have d7 : decide (iE = [115, 105, 110, 99, 101]) = false := by decide
  have d8 : decide (iE = [97, 99, 107, 101, 100]) = true := by decide
  refine c71 ?_
  unfold F71 tY oM
  refine cB h (l := [.string (bs word)]) rfl fun p w h => ?_
  unfold qE tX oL
  (repeat simp(disch:=omega)only[evA,evB,evC,af,ag,d1,d2,d3,d4])
  unfold mJ
  (repeat simp(disch:=omega)only[evA,evB,evC,af,ag])
  unfold wU rz
  (repeat simp(disch:=omega)only[evA,evB,evC,af,ag,d5])
  unfold tT
  (repeat simp(disch:=omega)only[evA,evB,evC,af,ag])
  unfold rA qd
  (repeat simp(disch:=omega)only[evA,evB,evC,af,ag,d6,d7])
  unfold nE qc
  by_cases g1 : word = Kt
  · have e1 : decide (word = [121, 101, 115]) = true := by rw [decide_eq_true_eq]; exact g1
    rw [if_pos (.inl g1)] at hK
    (repeat(first
|simp(disch:=omega)only[evA,evB,evC,af,ag,d8,e1]
|with_reducible refine bA h ?_))
    exact hK _ rfl _ _ _ _ IP h.drew
  · have e1 : decide (word = [121, 101, 115]) = false := by rw [decide_eq_false_iff_not]; exact g1
    by_cases g2 : word = kNo
    · have e2 : decide (word = [110, 111]) = true := by rw [decide_eq_true_eq]; exact g2
      rw [if_pos (.inr g2)] at hK
      (repeat(first
|simp(disch:=omega)only[evA,evB,evC,af,ag,d8,e1,e2]
|with_reducible refine bA h ?_))
      exact hK _ rfl _ _ _ _ IP h.drew
    · have e2 : decide (word = [110, 111]) = false := by rw [decide_eq_false_iff_not]; exact g2
      rw [if_neg (fun g => g.elim g1 g2)] at hF
      (repeat(first
|simp(disch:=omega)only[evA,evB,evC,af,ag,d8,e1,e2]
|with_reducible refine bA h ?_))
      exact hF rfl _ _ (h.drew.got)
theorem GH (h0 : key ≠ sI ∧ key ≠ mY ∧ key ≠ A7 ∧ key ≠ sH ∧ key ≠ dE ∧ key ≠ jw ∧ key ≠ qX ∧ key ≠ iE) : ry w0 (ofQ dJ) key word := by
  obtain ⟨n1, n2, n3, n4, n5, n6, n7, n8⟩ := h0
  intro L w K h hF _
  have ho : ofQ dJ key word = none := by
    unfold ofQ
    rw [if_neg (fun g => g.elim n1 fun g => g.elim n2 fun g => g.elim n3 n4), if_neg n5, if_neg (fun g => g.elim n6 n7), if_neg n8]
  refine c71 ?_
  unfold F71 tY oM
  have d1 : decide (key = [110, 111, 100, 101]) = false := by rw [decide_eq_false_iff_not]; exact n1
  have d2 : decide (key = [99, 108, 97, 115, 115]) = false := by rw [decide_eq_false_iff_not]; exact n2
  have d3 : decide (key = [107, 101, 121]) = false := by rw [decide_eq_false_iff_not]; exact n3
  have d4 : decide (key = [116, 101, 120, 116]) = false := by rw [decide_eq_false_iff_not]; exact n4
  have d5 : decide (key = [108, 101, 118, 101, 108]) = false := by rw [decide_eq_false_iff_not]; exact n5
  have d6 : decide (key = [98, 101, 102, 111, 114, 101]) = false := by rw [decide_eq_false_iff_not]; exact n6
  have d7 : decide (key = [115, 105, 110, 99, 101]) = false := by rw [decide_eq_false_iff_not]; exact n7
  have d8 : decide (key = [97, 99, 107, 101, 100]) = false := by rw [decide_eq_false_iff_not]; exact n8
  refine cB h (l := [.string (bs word)]) rfl fun p w h => ?_
  unfold qE tX oL
  (repeat simp(disch:=omega)only[evA,evB,evC,af,ag,d1,d2,d3,d4])
  unfold mJ
  (repeat simp(disch:=omega)only[evA,evB,evC,af,ag])
  unfold wU rz
  (repeat simp(disch:=omega)only[evA,evB,evC,af,ag,d5])
  unfold tT
  (repeat simp(disch:=omega)only[evA,evB,evC,af,ag])
  unfold rA qd
  (repeat simp(disch:=omega)only[evA,evB,evC,af,ag,d6,d7])
  unfold nE qc
  (repeat simp(disch:=omega)only[evA,evB,evC,af,ag,d8])
  unfold fE D5
  exact hF ho _ w h.drop
end
end Go.Proofs.Gong

/- Qx3 -/
namespace Go.Proofs.Gong
open Go Go.Sx Go.Proofs
set_option maxRecDepth 100000
abbrev PW := List UInt8 × List UInt8
def dU (prs : List PW) : List (List UInt8) := prs.flatMap fun p => [p.1, p.2]
def dC (prs : List PW) : List UInt8 := prs.flatMap fun p => 32 :: p.1 ++ 32 :: p.2
def NoB (s : List UInt8) : Prop := (32 : UInt8) ∉ s ∧ s ≠ []
theorem yf : ∀ {prs : List PW} {k : List UInt8}, (32 : UInt8) ∉ k → (∀ p ∈ prs, (32 : UInt8) ∉ p.1 ∧ (32 : UInt8) ∉ p.2) → eF (k ++ dC prs) = k :: dU prs
  | [], k, hk, _ => by simp [dC, dU, qN hk]
  | p :: r, k, hk, h => by
    have h1 := h p (by simp)
    have e : k ++ dC (p :: r) = k ++ 32 :: (p.1 ++ 32 :: (p.2 ++ dC r)) := by simp [dC]
    rw [e, lC hk, lC h1.1, yf h1.2 fun q hq => h q (by simp [hq])]
    simp [dU]
theorem qI {prs : List PW} {k : List UInt8} (hk : NoB k) (h : ∀ p ∈ prs, NoB p.1 ∧ NoB p.2) : uz (k ++ dC prs) = k :: dU prs := by
  unfold uz
  rw [yf hk.1 fun p hp => ⟨(h p hp).1.1, (h p hp).2.1⟩]
  rw [List.filter_eq_self.2]
  intro a ha
  have : a ≠ [] := by
    rcases List.mem_cons.1 ha with rfl | ha
    · exact hk.2
    · unfold dU at ha
      obtain ⟨p, hp, ha⟩ := List.mem_flatMap.1 ha
      have := h p hp
      simp only [List.mem_cons, List.not_mem_nil, or_false] at ha
      rcases ha with rfl | rfl
      · exact this.1.2
      · exact this.2.2
  simpa using this
theorem uY (prs : List PW) : (dU prs).length = 2 * prs.length := by
  induction prs with
  | nil => rfl
  | cons p r ih => simp [dU] at *; omega
theorem nu {P : List UInt8 → List UInt8 → Prop} : ∀ {prs : List PW}, (∀ p ∈ prs, P p.1 p.2) → ∀ i (h : i + 1 < (dU prs).length), i % 2 = 0 → P (dU prs)[i] (dU prs)[i + 1]
  | [], _, i, h, _ => by simp [dU] at h
  | p :: r, hp, 0, _, _ => hp p (by simp)
  | p :: r, hp, 1, _, h2 => by omega
  | p :: r, hp, i + 2, h, h2 => nu (prs := r) (fun q hq => hp q (by simp [hq])) i (by simp [dU] at h ⊢; omega) (by omega)
theorem pV {P : List UInt8 → Prop} : ∀ {prs : List PW}, (∀ p ∈ prs, p.2 ≠ bX ∧ (p.1 = bX → P p.2)) → ∀ i (h : i + 1 < (dU prs).length), (dU prs)[i] = bX → P (dU prs)[i + 1]
  | [], _, i, h, _ => by simp [dU] at h
  | p :: r, hp, 0, _, h2 => (hp p (by simp)).2 h2
  | p :: r, hp, 1, _, h2 => absurd h2 (hp p (by simp)).1
  | p :: r, hp, i + 2, h, h2 => pV (prs := r) (fun q hq => hp q (by simp [hq])) i (by simp [dU] at h ⊢; omega) h2
def eD (s : List UInt8) : Option Int := if s = tC 49 then some 10000000000 else if s = tC 50 then some 20000000000 else none
def prT : List PW := [(dE, [51]), (dE, [53]), (iE, Kt), (iE, kNo), (sI, [97, 42]), (sI, [42]), (mY, [108, 42]), (sH, [42, 120, 42]), (A7, [63]), (jw, tC 50), (qX, tC 49)]
def prK (k : Nat) : PW := prT[k]?.getD (dE, [51])
def Ga (k : Nat) : Row → Bool := (ofQ eD (prK k).1 (prK k).2).getD fun _ => true
theorem num3 : Lib.itoa ((3 : Nat) : Int) = [51] := by kernel_rfl
theorem num5 : Lib.itoa ((5 : Nat) : Int) = [53] := by kernel_rfl
theorem uJ {P : PW → Prop} (h0 : ∀ p ∈ prT, P p) {k : Nat} (hk : k < 11) : P (prK k) := by
  have hl : k < prT.length := by simpa [prT] using hk
  unfold prK
  rw [List.getElem?_eq_getElem hl, Option.getD_some]
  exact h0 _ (List.getElem_mem hl)
theorem Db {s : List UInt8} (h : s = [51] ∨ s = [52] ∨ s = [53]) : ∃ u : Nat, u ≤ 5 ∧ s = Lib.itoa (u : Int) := by
  rcases h with rfl | rfl | rfl
  · exact ⟨3, by omega, num3.symm⟩
  · exact ⟨4, by omega, Xy.symm⟩
  · exact ⟨5, by omega, num5.symm⟩
theorem uM {st : List UInt8 → Option Int} {u : Nat} (h : u ≤ 5) : ofQ st dE (Lib.itoa (u : Int)) = some fun r => decide (r.e.level ≥ (u : Int)) := by
  unfold ofQ
  rw [if_neg (by decide), if_pos rfl, kC (by omega)]
  simp only [Option.bind_some, if_pos h]
theorem yh {α : Type} {o : Option α} {d : α} (h : o.isSome = true) : o = some (o.getD d) := by cases o <;> simp at *
theorem Xw : ∀ p ∈ prT, (ofQ eD p.1 p.2).isSome = true := by
  intro p hp
  simp only [prT, List.mem_cons, List.not_mem_nil, or_false] at hp
  rcases hp with rfl | rfl | rfl | rfl | rfl | rfl | rfl | rfl | rfl | rfl | rfl
  · obtain ⟨u, hu, e⟩ := Db (s := [51]) (.inl rfl)
    show (ofQ eD dE [51]).isSome = true
    rw [e, uM hu]; rfl
  · obtain ⟨u, hu, e⟩ := Db (s := [53]) (.inr (.inr rfl))
    show (ofQ eD dE [53]).isSome = true
    rw [e, uM hu]; rfl
  all_goals kernel_rfl
theorem Xx {k : Nat} (hk : k < 11) : ofQ eD (prK k).1 (prK k).2 = some (Ga k) := by
  unfold Ga
  exact yh (uJ (P := fun p => (ofQ eD p.1 p.2).isSome = true) Xw hk)
theorem yX : ∀ p ∈ prT, p.1 ≠ dA ∧ p.1 ≠ bX ∧ p.2 ≠ bX := by decide
theorem GZ {k : Nat} (hk : k < 11) : (prK k).1 ≠ dA ∧ (prK k).1 ≠ bX ∧ (prK k).2 ≠ bX := uJ (P := fun p => p.1 ≠ dA ∧ p.1 ≠ bX ∧ p.2 ≠ bX) yX hk
def dL : List (List UInt8) := [[105, 100], [108, 97, 115, 116], [108, 101, 118, 101, 108], [116, 97, 108, 108, 121]]
def qh (p : PW) : Prop := p ∈ prT ∨ (p.1 = dA ∧ p.2 ∈ dL) ∨ (∃ n : Nat, n < 12 ∧ p = (bX, Lib.itoa (n : Int))) ∨ p = (dE, [52])
theorem Xz : ∀ p ∈ prT, ((32 : UInt8) ∉ p.1 ∧ p.1 ≠ []) ∧ ((32 : UInt8) ∉ p.2 ∧ p.2 ≠ []) := by decide
theorem yO : ∀ p ∈ dL, ((32 : UInt8) ∉ p ∧ p ≠ []) ∧ p ≠ bX := by decide
theorem XJ : ∀ p ∈ prT, p.1.length + p.2.length ≤ 30 := by decide
theorem yU : ∀ p ∈ dL, p.length ≤ 10 := by decide
theorem nobL : NoB bX := ⟨by decide, by decide⟩
theorem nonL : bX ≠ sI ∧ bX ≠ mY ∧ bX ≠ A7 ∧ bX ≠ sH ∧ bX ≠ dE ∧ bX ≠ jw ∧ bX ≠ qX ∧ bX ≠ iE := by decide
theorem yM {p : PW} (h : qh p) : NoB p.1 ∧ NoB p.2 := by
  rcases h with h | ⟨h, h2⟩ | ⟨n, hn, rfl⟩ | rfl
  · exact Xz p h
  · exact ⟨by rw [h]; exact ⟨by decide, by decide⟩, (yO _ h2).1⟩
  · exact ⟨nobL, Dh n, M7 n⟩
  · exact ⟨⟨by decide, by decide⟩, by decide, by decide⟩
theorem Rx {n : Nat} (hn : n < 12) : Lib.itoa (n : Int) ≠ bX := by
  intro h
  have : (108 : UInt8) ∈ Lib.itoa (n : Int) := by rw [h]; decide
  rw [ou] at this
  have := q8 n _ this
  simp at this
theorem yN {p : PW} (h : qh p) : p.2 ≠ bX := by
  rcases h with h | ⟨h, h2⟩ | ⟨n, hn, rfl⟩ | rfl
  · exact (yX p h).2.2
  · exact (yO _ h2).2
  · exact Rx hn
  · decide
theorem QN {p : PW} (h : qh p) : p.1.length + p.2.length ≤ 30 := by
  rcases h with h | ⟨h, h2⟩ | ⟨n, hn, rfl⟩ | rfl
  · exact XJ p h
  · rw [h]; have := yU _ h2; simp [dA]; omega
  · have := sJ (u := n) (by omega); simp [bX]; omega
  · decide
theorem jg {prs : List PW} (h : ∀ p ∈ prs, qh p) : (dC prs).length ≤ 32 * prs.length := by
  induction prs with
  | nil => simp [dC]
  | cons p r ih =>
    have h1 := QN (h p (by simp))
    have h2 := ih fun q hq => h q (by simp [hq])
    simp [dC] at h2 ⊢; omega
section
variable {w0 : World}
theorem Bw {c : UInt8} (A : fF w0) (hc : c = 49 ∨ c = 50) : DU w0 eD (tC c) := by
  intro L w K h _ hK
  have e : eD (tC c) = some (kN c * 1000000000) := by rcases hc with rfl | rfl <;> rfl
  exact Gf hc A h fun w' h' => hK _ e w' h'
theorem Da {p : PW} (A : fF w0) (T : gQ Tryz.prog w0) (h : qh p) : ry w0 (ofQ eD) p.1 p.2 := by
  have lv : ∀ s : List UInt8, (s = [51] ∨ s = [52] ∨ s = [53]) → ry w0 (ofQ eD) dE s := fun s hs => by
    obtain ⟨u, hu, rfl⟩ := Db hs
    exact OJ T hu
  rcases h with h | ⟨h, h2⟩ | ⟨n, hn, rfl⟩ | rfl
  · simp only [prT, List.mem_cons, List.not_mem_nil, or_false] at h
    rcases h with rfl | rfl | rfl | rfl | rfl | rfl | rfl | rfl | rfl | rfl | rfl
    · exact lv _ (.inl rfl)
    · exact lv _ (.inr (.inr rfl))
    · exact GJ
    · exact GJ
    · exact kU (.inl rfl) (by decide)
    · exact kU (.inl rfl) (by decide)
    · exact kU (.inr (.inl rfl)) (by decide)
    · exact kU (.inr (.inr (.inr rfl))) (by decide)
    · exact kU (.inr (.inr (.inl rfl))) (by decide)
    · exact MZ (.inl rfl) (Bw A (.inr rfl))
    · exact MZ (.inr rfl) (Bw A (.inl rfl))
  · rw [h]; exact GH (by decide)
  · exact GH nonL
  · exact lv _ (.inr (.inl rfl))
theorem yL {p : PW} (T : gQ Tryz.prog w0) (h : qh p) (hl : p.1 = bX) : wT w0 iL p.2 := by
  rcases h with h | ⟨h, h2⟩ | ⟨n, hn, rfl⟩ | rfl
  · exact absurd hl (yX p h).2.1
  · rw [h] at hl; exact absurd hl (by decide)
  · exact Q8 T (by omega)
  · exact absurd hl (by decide)
end
theorem U8 {k : Nat} (hk : k < 11) (s : QSt) : gL (ofQ eD) iL s (prK k).1 (prK k).2 = some { s with ps := s.ps ++ [Ga k] } := by
  unfold gL
  rw [if_neg (fun h => (GZ hk).1 h.1), if_neg (fun h => (GZ hk).2.1 h.1), Xx hk]; rfl
theorem rZ : ∀ (ks : List Nat) (s : QSt) (rest : List PW), (∀ k ∈ ks, k < 11) → fu (ofQ eD) iL (dU (ks.map prK ++ rest)) s = fu (ofQ eD) iL (dU rest) { s with ps := s.ps ++ ks.map Ga }
  | [], s, rest, _ => by simp
  | k :: ks, s, rest, h => by
    have e : dU ((k :: ks).map prK ++ rest) = (prK k).1 :: (prK k).2 :: dU (ks.map prK ++ rest) := by simp [dU]
    rw [e, fu, U8 (h k (by simp))]
    simp only
    rw [rZ ks _ rest fun q hq => h q (by simp [hq])]
    simp
theorem yc {s : QSt} {x : List UInt8} (hx : x ∈ dL) (hs : s.ord = none) : gL (ofQ eD) iL s dA x = some { s with ord := fZ x } := by
  unfold gL
  rw [if_pos]
  refine ⟨rfl, by rw [hs]; rfl, ?_⟩
  have : ∀ y ∈ dL, (fZ y).isSome = true := by
    intro y hy
    simp only [dL, List.mem_cons, List.not_mem_nil, or_false] at hy
    rcases hy with rfl | rfl | rfl | rfl <;> rfl
  exact this x hx
theorem JJ {s : QSt} {n : Nat} (hn : n < 12) (hs : s.lim < 0) : gL (ofQ eD) iL s bX (Lib.itoa (n : Int)) = some { s with lim := (n : Int) } := by
  unfold gL
  rw [if_neg (fun h => absurd h.1 (by decide)), if_pos ⟨rfl, hs⟩, kC (by omega)]; rfl
theorem JK {s : QSt} : gL (ofQ eD) iL s dE [52] = some { s with ps := s.ps ++ [fun r => decide (r.e.level ≥ ((4 : Nat) : Int))] } := by
  unfold gL
  rw [if_neg (fun h => absurd h.1 (by decide)), if_neg (fun h => absurd h.1 (by decide)), ← Xy, uM (by omega)]; rfl
end Go.Proofs.Gong

/- Qx4 -/
namespace Go.Proofs.Gong
open Go Go.Sx Go.Proofs
set_option maxRecDepth 100000
theorem M4 : NoB fC := ⟨by decide, by decide⟩
theorem Q9 : NoB om := ⟨by decide, by decide⟩
section
variable {w0 w : World} {L : List HP} {K : Value → World → Prop} {P : SP} {D : SD} {prs : List PW} {s : QSt}
theorem qa (Q : QW w0) (hok : ∀ p ∈ prs, qh p) (hlen : prs.length ≤ 20) (hR : fu (ofQ eD) iL (dU prs) ⟨[], none, -1⟩ = some s) (hL : ∀ r ∈ D.rs, LFit r) (hrl : D.rs.length ≤ 1000000) (h : StS w0 P D L w)
    (hK : ∀ m v w', m.Perm (D.rs.filter (passes s.ps)) → m.Pairwise (fun x y => ltQ (s.ord.getD fun _ => 0) y x = false) → StS w0 P D (LsH cSt 1 9 v ((jJ s.lim m).map dS) :: L) w' → K (.tuple #[v, .int .i64 0]) w') :
    ai G9 [pt P.x, .string (bs (fC ++ dC prs))] w K := by
  have h1 := jg hok
  have h2 := uY prs
  refine IM (L := L) (D := D) (q := fC ++ dC prs) (ws := dU prs) (ofL := ofQ eD) (numL := iL) (R := some s) Q.A Q.T Q.M (by simp [fC]; omega) (qI M4 fun p hp => yM (hok p hp)) (by omega)
    (nu fun p hp => Da Q.A Q.T (hok p hp)) (pV fun p hp => ⟨yN (hok p hp), yL Q.T (hok p hp)⟩) (by rw [if_pos (by omega)]; exact hR) hL hrl h (fun g => by cases g) fun s' hs m v w hp hps h => ?_
  cases hs
  exact hK m v w hp hps h
theorem La (Q : QW w0) (hok : ∀ p ∈ prs, qh p) (hlen : prs.length ≤ 20) (hR : fu (ofQ eD) iL (dU prs) ⟨[], none, -1⟩ = some s) (hL : ∀ r ∈ D.rs, LFit r) (hrl : D.rs.length ≤ 1000000) (h : StS w0 P D L w)
    (hK : ∀ m v w', m.Perm (D.rs.filter (passes s.ps)) → StS w0 P D (LsH cSt 1 9 v [Lib.itoa ((jJ s.lim m).length : Nat)] :: L) w' → K (.tuple #[v, .int .i64 0]) w') :
    ai G9 [pt P.x, .string (bs (om ++ dC prs))] w K := by
  have h1 := jg hok
  have h2 := uY prs
  refine PM (L := L) (D := D) (q := om ++ dC prs) (ws := dU prs) (ofL := ofQ eD) (numL := iL) (R := some s) Q.T Q.M (by simp [om]; omega) (qI Q9 fun p hp => yM (hok p hp)) (by omega)
    (nu fun p hp => Da Q.A Q.T (hok p hp)) (pV fun p hp => ⟨yN (hok p hp), yL Q.T (hok p hp)⟩) (by rw [if_pos (by omega)]; exact hR) hL hrl h (fun g => by cases g) fun s' hs m v w hp hps h => ?_
  cases hs
  exact hK m v w hp h
end
section
variable {ks : List Nat}
def wsK (ks : List Nat) : List PW := ks.map prK
def psK (ks : List Nat) : List (Row → Bool) := ks.map Ga
theorem Vn {k : Nat} (hk : k < 11) : prK k ∈ prT := uJ (P := fun p => p ∈ prT) (fun _ h => h) hk
theorem lT (h : ∀ k ∈ ks, k < 11) : ∀ p ∈ wsK ks, qh p := by
  intro p hp
  obtain ⟨k, hk, rfl⟩ := List.mem_map.1 hp
  exact .inl (Vn (h k hk))
theorem yC (h : ∀ k ∈ ks, k < 11) : fu (ofQ eD) iL (dU (wsK ks)) ⟨[], none, -1⟩ = some ⟨psK ks, none, -1⟩ := by
  have := rZ ks ⟨[], none, -1⟩ [] h
  rw [List.append_nil] at this
  unfold wsK
  rw [this]
  simp [dU, fu, psK]
theorem J7 {x : List UInt8} (hx : x ∈ dL) (h : ∀ k ∈ ks, k < 11) : fu (ofQ eD) iL (dU ((dA, x) :: wsK ks)) ⟨[], none, -1⟩ = some ⟨psK ks, fZ x, -1⟩ := by
  have e : dU ((dA, x) :: wsK ks) = dA :: x :: dU (wsK ks) := rfl
  rw [e, fu, yc hx rfl]
  have := rZ ks ⟨[], fZ x, -1⟩ [] h
  rw [List.append_nil] at this
  unfold wsK
  simp only
  rw [this]
  simp [dU, fu, psK]
theorem J8 {x : List UInt8} {n : Nat} (hn : n < 12) (hx : x ∈ dL) (h : ∀ k ∈ ks, k < 11) : fu (ofQ eD) iL (dU (wsK ks ++ [(bX, Lib.itoa (n : Int)), (dA, x)])) ⟨[], none, -1⟩ = some ⟨psK ks, fZ x, (n : Int)⟩ := by
  unfold wsK
  rw [rZ ks ⟨[], none, -1⟩ _ h]
  have e : dU [(bX, Lib.itoa (n : Int)), (dA, x)] = bX :: Lib.itoa (n : Int) :: dA :: x :: [] := rfl
  rw [e, fu, JJ hn (by show (-1 : Int) < 0; omega)]
  simp only
  rw [fu, yc hx rfl]
  simp only
  rw [fu]; rfl
theorem J9 (h : ∀ k ∈ ks, k < 11) : fu (ofQ eD) iL (dU ((dE, [52]) :: wsK ks)) ⟨[], none, -1⟩ = some ⟨(fun r => decide (r.e.level ≥ ((4 : Nat) : Int))) :: psK ks, none, -1⟩ := by
  have e : dU ((dE, [52]) :: wsK ks) = dE :: [52] :: dU (wsK ks) := rfl
  rw [e, fu, JK]
  have := rZ ks ⟨[fun r => decide (r.e.level ≥ ((4 : Nat) : Int))], none, -1⟩ [] h
  rw [List.append_nil] at this
  unfold wsK
  simp only [List.nil_append]
  rw [this]
  simp [dU, fu, psK]
theorem JF (p : PW) (l : List PW) : dC (p :: l) = 32 :: (p.1 ++ 32 :: (p.2 ++ dC l)) := by simp [dC]
theorem Oc (a b : List PW) : dC (a ++ b) = dC a ++ dC b := by simp [dC]
end
theorem rP {a b : List UInt8} (h1 : a ≤ b) (h2 : b ≤ a) : a = b := List.le_antisymm h1 h2
theorem Oh {a b : List (List UInt8)} (hp : a.Perm b) (ha : a.Pairwise (· ≤ ·)) (hb : b.Pairwise (· ≤ ·)) : a = b :=
  List.Perm.eq_of_pairwise (le := fun x y => x ≤ y) (fun x y _ _ h1 h2 => rP h1 h2) ha hb hp
end Go.Proofs.Gong

/- Qx5 -/
namespace Go.Proofs.Gong
open Go Go.Sx Go.Proofs
set_option maxRecDepth 100000
def jN : List (List UInt8) := prT.map fun p => p.1 ++ 32 :: p.2
theorem Qf {k : Nat} (hk : k < jN.length) : jN[k] = (prK k).1 ++ 32 :: (prK k).2 := by
  have hl : k < prT.length := by simpa [jN] using hk
  have e : jN[k] = prT[k].1 ++ 32 :: prT[k].2 := by simp [jN]
  refine e.trans ?_
  unfold prK
  rw [List.getElem?_eq_getElem hl, Option.getD_some]
theorem Gb : jN.length = 11 := by simp [jN, prT]
theorem U7 : ∀ x ∈ jN, x.length ≤ 40 := by decide
theorem JE {ks : List Nat} {k : Nat} (hk : k < jN.length) : dC (wsK ks) ++ 32 :: jN[k] = dC (wsK (ks ++ [k])) := by
  rw [Qf hk]
  simp [wsK, dC]
instance : CodC cSt 1 := ⟨CSt⟩
instance (n : List UInt8) : Nth (cSt n) 0 (.string (bs n)) := ⟨rfl⟩
attribute [local irreducible] aD bY bO eqv dB Cl bS LsH SlH ld1 ldN st ai bT aY dF bI bz bE aJ aB bK bZ
section
variable {w0 w : World} {L : List HP} {K : Value → World → Prop} {a b pv tv sv : Value} {l : List (List UInt8)} {P : SP} {D : SD} {prs : List PW} {s : QSt}
theorem Gx [ra : RdIn w0 L a (List UInt8) cSt 1 l] [rb : RdIn w0 L b (List UInt8) cSt 1 l] (hl : l.length ≤ 1073741824) (hK : ∀ w', Sat w0 L w' → K (.bool true) w') : ∀ (k i : Nat) (w : World), l.length - i < k → i ≤ l.length → Sat w0 L w → pq k a b (.bool true) (.int .i64 i) w K := by
  intro k
  induction k with
  | zero => intro i w hd; omega
  | succ k ih =>
    intro i w hd hi h
    rw [pq]
    unfold MM
    by_cases g : i < l.length
    · have g' : decide ((i : Int) < (l.length : Int)) = true := by simpa using g
      (repeat(first
|simp(disch:=omega)only[evA,evB,evC,af,ag,g']
|with_reducible apply fq h
|((with_reducible apply jm h);omega)
|((with_reducible first|apply jq h|apply jo h|apply gW h|apply gX h|apply jr h|apply gY h);(case hc=>exact inferInstance);(case hi=>omega);(try case hx=>exact inferInstance);(try case hv=>rfl))))
      exact ih (i + 1) _ (by omega) (by omega) h.drew
    · have g' : decide ((i : Int) < (l.length : Int)) = false := by simpa using g
      (repeat(first
|simp(disch:=omega)only[evA,evB,evC,af,ag,g']
|with_reducible apply fq h))
      unfold CJ ML
      exact hK _ h
theorem nW [ra : RdIn w0 L a (List UInt8) cSt 1 l] [rb : RdIn w0 L b (List UInt8) cSt 1 l] (hl : l.length ≤ 1073741824) (h : Sat w0 L w) (hK : ∀ w', Sat w0 L w' → K (.bool true) w') : ai G10 [a, b] w K := by
  refine c10 ?_
  unfold F10 NZ MN Ju
  (repeat(first
|simp(disch:=omega)only[evA,evB,evC,af,ag]
|with_reducible apply fq h))
  exact Gx hl hK fuel 0 _ (by unfold fuel; omega) (by omega) h
theorem AY {l : List Int} (hrd : Rd w0 1 pv l.length (l.flatMap cI)) (hl : l.length ≤ 140737488351232) (hK : ∀ ks w', ks.length ≤ 6 → (∀ k ∈ ks, k < 11) → Sat w0 (LsH cSt 1 9 tv jN :: L) w' → K (.string (bs (dC (wsK ks)))) w') :
    ∀ (d : Nat) (ks : List Nat) (n : Nat) (w : World), ks.length + d = 6 → d < n → (∀ k ∈ ks, k < 11) → Sat w0 (LsH cSt 1 9 tv jN :: L) w → tQ n pv (.string (bs (dC (wsK ks)))) tv (.int .i64 (ks.length : Nat)) w K := by
  intro d
  induction d with
  | zero =>
    intro ks n w hd hn hks h
    obtain ⟨n, rfl⟩ : ∃ q, n = q + 1 := ⟨n - 1, by omega⟩
    haveI : ∀ M, RdIn w0 M pv Int cI 1 l := fun M => RdIn.arg hrd
    rw [tQ]
    unfold Nw
    by_cases g : ks.length < l.length
    · have d1 : decide ((ks.length : Int) < (l.length : Int)) = true := by simpa using g
      have d2 : decide ((ks.length : Int) < 6) = false := by simp only [decide_eq_false_iff_not]; omega
      (repeat(first
|simp(disch:=omega)only[evA,evB,evC,af,ag,d1,d2]
|with_reducible apply fq h))
      unfold I6 I5
      exact hK ks _ (by omega) hks h
    · have d1 : decide ((ks.length : Int) < (l.length : Int)) = false := by simpa using g
      (repeat(first
|simp(disch:=omega)only[evA,evB,evC,af,ag,d1]
|with_reducible apply fq h))
      unfold I6 I5
      exact hK ks _ (by omega) hks h
  | succ d ih =>
    intro ks n w hd hn hks h
    obtain ⟨n, rfl⟩ : ∃ q, n = q + 1 := ⟨n - 1, by omega⟩
    haveI : ∀ M, RdIn w0 M pv Int cI 1 l := fun M => RdIn.arg hrd
    rw [tQ]
    unfold Nw
    by_cases g : ks.length < l.length
    · have d1 : decide ((ks.length : Int) < (l.length : Int)) = true := by simpa using g
      have d2 : decide ((ks.length : Int) < 6) = true := by simp only [decide_eq_true_eq]; omega
      have htv : Rd w 1 tv jN.length (jN.flatMap cSt) := dw h
      have f0 : bI tv = some (.int .i64 ((11 : Nat) : Int)) := by rw [← Gb]; exact htv.len
      (repeat(first
|simp(disch:=omega)only[evA,evB,evC,af,ag,d1,d2,f0]
|with_reducible apply fq h
|((with_reducible apply jm h);omega)
|((with_reducible first|apply jq h|apply jo h|apply gW h|apply gX h|apply jr h|apply gY h);(case hc=>exact inferInstance);(case hi=>omega);(try case hx=>exact inferInstance);(try case hv=>rfl))))
      refine AC (by omega) (by omega) fun b hb1 hb2 _ => ?_
      obtain ⟨k, rfl⟩ : ∃ k : Nat, b = k := ⟨b.toNat, by omega⟩
      have hk : k < jN.length := by rw [Gb]; omega
      have htv2 : Rd w.drew 1 tv jN.length (jN.flatMap cSt) := dw h.drew
      have g1 : bq 1 tv (.int .i64 (k : Nat)) = some (elP 1 tv k) := fV (i := k) htv hk
      have g2 : ld1 (elP 1 tv k) w = some (.string (bs jN[k])) := fG (i := k) (l := jN) (g := fun x : List UInt8 => .string (bs x)) htv hk
      have b1 := U7 _ (List.getElem_mem hk)
      have b2 := jg (lT hks)
      have b3 : (wsK ks).length = ks.length := by simp [wsK]
      have a1 : bH (.string (bs [32])) (.string (bs jN[k])) = some (.string (bs (32 :: jN[k]))) := by
        rw [dH (by simp; omega)]; rfl
      have a2 : bH (.string (bs (dC (wsK ks)))) (.string (bs (32 :: jN[k]))) = some (.string (bs (dC (wsK (ks ++ [k]))))) := by
        rw [dH (by simp; omega), JE hk]
      have e3 : (ks.length : Int) + 1 = (((ks ++ [k]).length : Nat) : Int) := by simp
      (repeat(first
|refine ax (g1 ..) ?_
|refine ax (g2 ..) ?_
|refine ax (a1 ..) ?_
|refine ax (a2 ..) ?_))
      rw [e3]
      refine ih (ks ++ [k]) n _ (by simp; omega) (by omega) (fun q hq => ?_) (by first | exact h | exact h.drew)
      rcases List.mem_append.1 hq with hq | hq
      · exact hks q hq
      · obtain rfl := List.mem_singleton.1 hq
        omega
    · have d1 : decide ((ks.length : Int) < (l.length : Int)) = false := by simpa using g
      (repeat(first
|simp(disch:=omega)only[evA,evB,evC,af,ag,d1]
|with_reducible apply fq h))
      unfold I6 I5
      exact hK ks _ (by omega) hks h
theorem AX {l : List Int} (hrd : Rd w0 1 pv l.length (l.flatMap cI)) (hl : l.length ≤ 140737488351232) (h : Sat w0 L w) (hK : ∀ ks w', ks.length ≤ 6 → (∀ k ∈ ks, k < 11) → Sat w0 L w' → K (.string (bs (dC (wsK ks)))) w') : ai G7 [pv] w K := by
  refine c7 ?_
  unfold F7 Yr Um
  refine iD (m := jN) (f := cSt) (es := 1) CSt h u32 (c := (jN.flatMap cSt).toArray) (by kernel_rfl) (by simp) fun tv w h => ?_
  unfold Ul
  exact AY hrd hl (fun ks w' h1 h2 h3 => hK ks w' h1 h2 h3.drop) 6 [] fuel w (by simp) (by unfold fuel; omega) (by simp) h
theorem Ky (Q : QW w0) (hok : ∀ p ∈ prs, qh p) (hlen : prs.length ≤ 20) (hR : fu (ofQ eD) iL (dU prs) ⟨[], none, -1⟩ = some s) (h : Sat w0 L w) (hK : ∀ w', Sat w0 L w' → K (.bool true) w') :
    ai G12 [.string (bs (fC ++ dC prs))] w K := by
  have t1 := jg hok
  have t2 := uY prs
  refine c12 ?_
  unfold F12
  refine c24 ?_
  unfold F24
  refine cu h z87 rfl fun ap w h => ?_
  refine qJ Q.M (by simp [fC]; omega) h fun wv w h => ?_
  rw [qI M4 fun p hp => yM (hok p hp)] at h
  obtain ⟨h1, h2, h3⟩ := uT h
  have d0 : decide ((((dU prs).length + 1 : Nat) : Int) = 0) = false := by simp only [decide_eq_false_iff_not]; omega
  have d1 : decide (fC = [108, 105, 115, 116]) = true := by decide
  (repeat(first
|simp(disch:=omega)only[evA,evB,evC,af,ag,h3,d0]
|refine ax (h1 ..) ?_))
  rw [h2]
  (repeat simp(disch:=omega)only[evA,evB,evC,af,ag,d1])
  obtain ⟨v', e, h⟩ := qM h
  refine ax e ?_
  refine qV (ofL := ofQ eD) (numL := iL) (R := some s) (by omega) (nu fun p hp => Da Q.A Q.T (hok p hp)) (pV fun p hp => ⟨yN (hok p hp), yL Q.T (hok p hp)⟩) (by rw [if_pos (by omega)]; exact hR) (fun hn fv w hg h => by cases hn) (fun s' hs FP fv w hg hf h => ?_) h
  obtain ⟨a, b, c, rfl, oa, ob, oc⟩ := hg
  (repeat(first
|simp(disch:=omega)only[evA,evB,evC,af,ag]
|with_reducible refine bA h ?_
|((with_reducible apply dO h);rfl;rfl;(first|rfl|simp[OneV.o]);intro _ h)
|((with_reducible apply cu h);(first|exact Jv);rfl;intro _ _ h)))
  refine ax (v := .agg #[.func (.func 43) #[.agg #[a, b, c]] #[]]) (by kernel_rfl) ?_
  (repeat(first
|with_reducible refine bA h ?_
|((with_reducible apply dO h);rfl;rfl;(first|rfl|simp[OneV.o]);intro _ h)
|((with_reducible apply cu h);(first|exact z87);rfl;intro _ _ h)))
  exact hK _ (h.got)
theorem Bp (h : Sat w0 (LsH cSt 1 9 sv l :: L) w) (hK : ∀ p w', Sat w0 (Cl p #[sv] 32 :: LsH cSt 1 9 sv l :: L) w' → K (.func (.func 28) #[] #[.pointer (some ⟨p, 0, none⟩)]) w') : ai G14 [sv] w K := by
  refine c14 ?_
  unfold F14
  obtain ⟨x, c, rfl, _⟩ := (dw h).cap
  refine cB h (l := [.slice x l.length c]) rfl fun p w h => ?_
  refine ax rfl ?_
  exact hK p w h
theorem vW {p : Nat} (hl : l.length ≤ 1000000000) (h : Sat w0 (Cl p #[sv] 32 :: LsH cSt 1 9 sv l :: L) w) (hK : ∀ v w', Sat w0 (LsH cSt 1 9 v (nM l) :: LsH cSt 1 9 sv l :: L) w' → K v w') : ai G13 [.func (.func 28) #[] #[.pointer (some ⟨p, 0, none⟩)]] w K := by
  refine c13 ?_
  unfold F13
  refine c26 ?_
  unfold F26
  refine SQ hl h fun v w h => ?_
  refine Og h (by omega) fun w h => ?_
  exact hK v w (h.got)
end
theorem uB (l : List (List UInt8)) : (nM l).Perm l := List.mergeSort_perm _ _
theorem vU (l : List (List UInt8)) : (nM l).Pairwise (· ≤ ·) := by
  have := List.pairwise_mergeSort (le := fun x y : List UInt8 => decide (x ≤ y)) (fun a b c h1 h2 => by simp only [decide_eq_true_eq] at *; exact List.le_trans h1 h2) (fun a b => by simp only [Bool.or_eq_true, decide_eq_true_eq]; exact List.le_total a b) l
  exact this.imp fun h => by simpa using h
theorem Qk {a b : List (List UInt8)} (h : a.Perm b) : nM a = nM b := Oh (((uB a).trans h).trans (uB b).symm) (vU a) (vU b)
theorem Ql (l : List (List UInt8)) : (nM l).length = l.length := (uB l).length_eq
end Go.Proofs.Gong

/- Qx6 -/
namespace Go.Proofs.Gong
open Go Go.Sx Go.Proofs
set_option maxRecDepth 100000
def flQ (ds : List Row) (ks : List Nat) : List Row := ds.filter (passes (psK ks))
def gu (ds : List Row) (ks : List Nat) : List (List UInt8) := (flQ ds ks).map dS
theorem Ni {ds : List Row} {ks : List Nat} (h : ds.Pairwise fun a b => a.id < b.id) : (flQ ds ks).Pairwise fun a b => a.id < b.id := h.filter _
theorem R8 {ds : List Row} {ks : List Nat} (h : ds.Pairwise fun a b => a.id < b.id) : (flQ ds ks).Pairwise fun a b => a.id ≠ b.id := (Ni h).imp fun {_ _} g => by omega
theorem xk {ds : List Row} {ks : List Nat} : (flQ ds ks).length ≤ ds.length := List.length_filter_le _ _
theorem listed {ds m : List Row} {ks : List Nat} (h : ds.Pairwise fun a b => a.id < b.id) (hp : m.Perm (ds.filter (passes (psK ks)))) (hs : m.Pairwise fun x y => ltQ ((none : Option (Row → Int)).getD fun _ => 0) y x = false) : m = flQ ds ks :=
  yg hp hs ((Ni h).imp fun {x y} g => by simp [ltQ]; omega) (R8 h)
theorem XF {ds m1 m2 : List Row} {ks : List Nat} {key : Row → Int} (h : ds.Pairwise fun a b => a.id < b.id) (hp1 : m1.Perm (ds.filter (passes (psK ks)))) (hs1 : m1.Pairwise fun x y => ltQ key y x = false) (hp2 : m2.Perm (ds.filter (passes (psK ks)))) (hs2 : m2.Pairwise fun x y => ltQ key y x = false) : m2 = m1 :=
  yg (hp2.trans hp1.symm) hs2 hs1 (hp1.symm.pairwise (R8 h) (fun {_ _} g => g.symm))
theorem Rm {ds m : List Row} {ks : List Nat} {p : Row → Bool} (hp : m.Perm (ds.filter (passes (p :: psK ks)))) : ∀ r ∈ m, dS r ∈ gu ds ks := by
  intro r hr
  have h1 := List.mem_filter.1 (hp.subset hr)
  refine List.mem_map.2 ⟨r, List.mem_filter.2 ⟨h1.1, ?_⟩, rfl⟩
  have h2 := h1.2
  unfold passes at h2 ⊢
  rw [List.all_cons, Bool.and_eq_true] at h2
  exact h2.2
theorem Rn {ds m : List Row} {ks : List Nat} {p : Row → Bool} (hp : m.Perm (ds.filter (passes (p :: psK ks)))) : m.length ≤ (gu ds ks).length := by
  rw [hp.length_eq]
  unfold gu flQ
  rw [List.length_map]
  have e : ds.filter (passes (p :: psK ks)) = (ds.filter (passes (psK ks))).filter p := by
    rw [List.filter_filter]
    congr 1
  rw [e]
  exact List.length_filter_le _ _
theorem sF (m : List Row) : jJ (-1) m = m := rfl
theorem Rk (u : Nat) (m : List Row) : jJ (u : Int) m = m.take u := by
  unfold jJ
  rw [if_pos (by omega), Int.toNat_natCast]
theorem OE {x : List UInt8} (hx : x ∈ dL) {prs : List PW} (h : ∀ p ∈ prs, qh p) : ∀ p ∈ (dA, x) :: prs, qh p := by
  intro p hp
  rcases List.mem_cons.1 hp with rfl | hp
  · exact .inr (.inl ⟨rfl, hx⟩)
  · exact h p hp
theorem XG {x : List UInt8} {u : Nat} (hu : u < 12) (hx : x ∈ dL) {prs : List PW} (h : ∀ p ∈ prs, qh p) : ∀ p ∈ prs ++ [(bX, Lib.itoa (u : Int)), (dA, x)], qh p := by
  intro p hp
  rcases List.mem_append.1 hp with hp | hp
  · exact h p hp
  · simp only [List.mem_cons, List.not_mem_nil, or_false] at hp
    rcases hp with rfl | rfl
    · exact .inr (.inr (.inl ⟨u, hu, rfl⟩))
    · exact .inr (.inl ⟨rfl, hx⟩)
theorem XI {prs : List PW} (h : ∀ p ∈ prs, qh p) : ∀ p ∈ (dE, [52]) :: prs, qh p := by
  intro p hp
  rcases List.mem_cons.1 hp with rfl | hp
  · exact .inr (.inr (.inr rfl))
  · exact h p hp
theorem CL (ks : List Nat) : (wsK ks).length = ks.length := by simp [wsK]
attribute [local irreducible] aD bY bO eqv dB Cl bS LsH SlH ld1 ldN st ai bT aY dF bI bz bE aJ aB bK bZ
section
variable {w0 w : World} {L : List HP} {K : Value → World → Prop} {rv : Value} {P : SP} {l : List Row} {ks : List Nat} {av : Value} {ds : List Row}
theorem zn {lsv : Value} {m : List Row} (hal : ds.length ≤ 40) (hm : ∀ r ∈ m, dS r ∈ gu ds ks) (hml : m.length ≤ (gu ds ks).length) (hK : ∀ w', Sat w0 L w' → K (.bool true) w') :
    ∀ (k i n : Nat) (w : World), i + k = m.length → k < n → Sat w0 (LsH cSt 1 9 lsv (m.map dS) :: LsH cSt 1 9 av (gu ds ks) :: L) w →
      uh n av (.int .i64 0) lsv lsv (.int .i64 (m.length : Nat)) (.int .i64 (i : Nat)) w K
  | 0, i, n, w, hi, hn, h => by
    obtain ⟨n, rfl⟩ : ∃ q, n = q + 1 := ⟨n - 1, by omega⟩
    have him : i = m.length := by omega
    subst him
    have g' : decide ((m.length : Int) < (m.length : Int)) = false := by simp
    have f0 : bI lsv = some (.int .i64 (m.length : Nat)) := by
      have := (dw h).len
      simpa using this
    have f1 : bI av = some (.int .i64 ((gu ds ks).length : Nat)) := (dw (h.frt (A := LsH cSt 1 9 av (gu ds ks)))).len
    have d0 : decide ((0 : Int) = 0) = true := by decide
    have d1 : decide ((m.length : Int) ≤ ((gu ds ks).length : Int)) = true := by simp only [decide_eq_true_eq]; omega
    rw [uh]
    unfold NM
    (repeat simp(disch:=omega)only[evA,evB,evC,af,ag,g'])
    unfold P9 Uw
    (repeat simp(disch:=omega)only[evA,evB,evC,af,ag,d0,f0,f1,d1])
    exact hK _ (h.got)
  | k + 1, i, n, w, hi, hn, h => by
    obtain ⟨n, rfl⟩ : ∃ q, n = q + 1 := ⟨n - 1, by omega⟩
    have hil : i < m.length := by omega
    have g' : decide ((i : Int) < (m.length : Int)) = true := by simpa using hil
    have e3 : (i : Int) + 1 = ((i + 1 : Nat) : Int) := by omega
    have hls : Rd w 1 lsv (m.map dS).length ((m.map dS).flatMap cSt) := dw h
    have g1 : bq 1 lsv (.int .i64 (i : Nat)) = some (elP 1 lsv i) := fV (i := i) hls (by simpa using hil)
    have g2 : ld1 (elP 1 lsv i) w = some (.string (bs (dS m[i]))) := by
      have := fG (i := i) (l := m.map dS) (g := fun x : List UInt8 => .string (bs x)) hls (by simpa using hil)
      simpa using this
    have hlen := xk (ds := ds) (ks := ks)
    have hll : (gu ds ks).length = (flQ ds ks).length := by simp [gu]
    rw [uh]
    unfold NM
    (repeat(first
|simp(disch:=omega)only[evA,evB,evC,af,ag,g']
|refine ax (g1 ..) ?_
|refine ax (g2 ..) ?_))
    have hav : Rd w 1 av (gu ds ks).length ((gu ds ks).flatMap cSt) := dw (h.frt (A := LsH cSt 1 9 av (gu ds ks)))
    refine PD hav (by omega) ?_
    have m1 : decide (dS m[i] ∈ gu ds ks) = true := by
      rw [decide_eq_true_eq]; exact hm _ (List.getElem_mem hil)
    (repeat simp(disch:=omega)only[evA,evB,evC,af,ag,m1])
    rw [e3]
    exact zn hal hm hml hK k (i + 1) n _ (by omega) (by omega) (by first | exact h | exact h.drew)
theorem IB (Q : QW w0) (hds : dsQ l = ds) (hL : ∀ r ∈ ds, LFit r) (ha : ds.Pairwise fun a b => a.id < b.id) (hal : ds.length ≤ 40) (hkl : ks.length ≤ 6) (hk : ∀ k ∈ ks, k < 11)
    (h : StS w0 P (DQ l) (LsH cSt 1 9 av (gu ds ks) :: L) w) (hK : ∀ w', Sat w0 L w' → K (.bool true) w') : Mo (pt P.x) (.string (bs (dC (wsK ks)))) av w K := by
  unfold Mo Uy
  have hok := XI (lT hk)
  have t1 := jg (lT hk)
  have t3 := CL ks
  have a1 : bH (.string (bs [108, 105, 115, 116, 32, 108, 101, 118, 101, 108, 32, 52])) (.string (bs (dC (wsK ks)))) = some (.string (bs (fC ++ dC ((dE, [52]) :: wsK ks)))) := by
    rw [dH (by simp; omega)]; rfl
  (repeat(first
|simp(disch:=omega)only[evA,evB,evC,af,ag]
|refine ax (a1 ..) ?_))
  refine qa (D := DQ l) (P := P) (L := LsH cSt 1 9 av (gu ds ks) :: L) Q hok (by simp; omega) (J9 hk) (by show ∀ r ∈ dsQ l, LFit r; rw [hds]; exact hL) (by show (dsQ l).length ≤ 1000000; rw [hds]; omega) (h.got) fun m lsv w hp hps h => ?_
  rw [sF] at h
  have hp' : m.Perm (ds.filter (passes ((fun r => decide (r.e.level ≥ ((4 : Nat) : Int))) :: psK ks))) := by rw [← hds]; exact hp
  have f0 : bI lsv = some (.int .i64 (m.length : Nat)) := by
    have := (dw (h.frt (A := LsH cSt 1 9 lsv (m.map dS)))).len
    simpa using this
  (repeat simp(disch:=omega)only[evA,evB,evC,af,ag,f0])
  unfold Ux
  have hml := Rn hp'
  have h1 := xk (ds := ds) (ks := ks)
  have hll : (gu ds ks).length = (flQ ds ks).length := by simp [gu]
  exact zn (L := L) hal (Rm hp') hml hK m.length 0 fuel w (by omega) (by unfold fuel; omega) (h.got)
theorem wP (Q : QW w0) {ov wv : Value} {u : Nat} (hu : u < 12) (hds : dsQ l = ds) (hL : ∀ r ∈ ds, LFit r) (ha : ds.Pairwise fun a b => a.id < b.id) (hal : ds.length ≤ 40) (hkl : ks.length ≤ 6) (hk : ∀ k ∈ ks, k < 11) (hK : ∀ w', Sat w0 L w' → K (.bool true) w') :
    ∀ (k i n : Nat) (w : World), i + k = dL.length → k < n → StS w0 P (DQ l) (LsH cSt 1 9 ov dL :: LsH cSt 1 9 wv (nM (gu ds ks)) :: LsH cSt 1 9 av (gu ds ks) :: L) w →
      ui n (.int .i64 (u : Nat)) (pt P.x) (.string (bs (dC (wsK ks)))) av wv ov (.int .i64 (dL.length : Nat)) (.int .i64 (i : Nat)) w K
  | 0, i, n, w, hi, hn, h => by
    obtain ⟨n, rfl⟩ : ∃ q, n = q + 1 := ⟨n - 1, by omega⟩
    have him : i = dL.length := by omega
    subst him
    have g' : decide ((dL.length : Int) < (dL.length : Int)) = false := by simp
    rw [ui]
    unfold NN
    (repeat simp(disch:=omega)only[evA,evB,evC,af,ag,g'])
    exact IB (L := L) Q hds hL ha hal hkl hk (h.got) hK
  | k + 1, i, n, w, hi, hn, h => by
    obtain ⟨n, rfl⟩ : ∃ q, n = q + 1 := ⟨n - 1, by omega⟩
    have hil : i < dL.length := by omega
    have ho4 : dL.length = 4 := rfl
    have hx : dL[i] ∈ dL := List.getElem_mem hil
    obtain ⟨x, hxe⟩ : ∃ x, dL[i] = x := ⟨_, rfl⟩
    rw [hxe] at hx
    have hxl := yU _ hx
    have g' : decide ((i : Int) < (dL.length : Int)) = true := by simpa using hil
    have e3 : (i : Int) + 1 = ((i + 1 : Nat) : Int) := by omega
    have hov : Rd w 1 ov dL.length (dL.flatMap cSt) := dw (h.frt (A := LsH cSt 1 9 ov dL))
    have g1 : bq 1 ov (.int .i64 (i : Nat)) = some (elP 1 ov i) := fV (i := i) hov hil
    have g2 : ld1 (elP 1 ov i) w = some (.string (bs x)) := by
      have := fG (i := i) (l := dL) (g := fun x : List UInt8 => .string (bs x)) hov hil
      rwa [hxe] at this
    have t1 := jg (lT hk)
    have t3 := CL ks
    have t4 := sJ (u := u) (by omega)
    have a1 : bH (.string (bs [108, 105, 115, 116, 32, 111, 114, 100, 101, 114, 32])) (.string (bs x)) = some (.string (bs (fC ++ 32 :: (dA ++ 32 :: x)))) := by
      rw [dH (by simp; omega)]; rfl
    have a2 : bH (.string (bs (fC ++ 32 :: (dA ++ 32 :: x)))) (.string (bs (dC (wsK ks)))) = some (.string (bs (fC ++ dC ((dA, x) :: wsK ks)))) := by
      rw [dH (by simp [fC, dA]; omega), JF]
      simp
    have a3 : bH (.string (bs [108, 105, 115, 116])) (.string (bs (dC (wsK ks)))) = some (.string (bs (fC ++ dC (wsK ks)))) := by
      rw [dH (by simp; omega)]; rfl
    have a4 : bH (.string (bs (fC ++ dC (wsK ks)))) (.string (bs [32, 108, 105, 109, 105, 116, 32])) = some (.string (bs (fC ++ dC (wsK ks) ++ 32 :: (bX ++ [32])))) := by
      rw [dH (by simp [fC]; omega)]; rfl
    have a5 : bH (.string (bs (fC ++ dC (wsK ks) ++ 32 :: (bX ++ [32])))) (.string (bs (Lib.itoa (u : Int)))) = some (.string (bs (fC ++ dC (wsK ks) ++ 32 :: (bX ++ 32 :: Lib.itoa (u : Int))))) := by
      rw [dH (by simp [fC, bX]; omega)]
      simp
    have a6 : bH (.string (bs (fC ++ dC (wsK ks) ++ 32 :: (bX ++ 32 :: Lib.itoa (u : Int))))) (.string (bs [32, 111, 114, 100, 101, 114, 32])) = some (.string (bs (fC ++ dC (wsK ks) ++ 32 :: (bX ++ 32 :: (Lib.itoa (u : Int) ++ 32 :: (dA ++ [32])))))) := by
      rw [dH (by simp [fC, bX]; omega)]
      simp [dA]
    have a7 : bH (.string (bs (fC ++ dC (wsK ks) ++ 32 :: (bX ++ 32 :: (Lib.itoa (u : Int) ++ 32 :: (dA ++ [32])))))) (.string (bs x)) = some (.string (bs (fC ++ dC (wsK ks ++ [(bX, Lib.itoa (u : Int)), (dA, x)])))) := by
      rw [dH (by simp [fC, bX, dA]; omega), Oc]
      simp [dC]
    rw [ui]
    unfold NN
    (repeat(first
|simp(disch:=omega)only[evA,evB,evC,af,ag,g']
|refine ax (g1 ..) ?_
|refine ax (g2 ..) ?_
|refine ax (a1 ..) ?_
|refine ax (a2 ..) ?_))
    refine qa (D := DQ l) (P := P) (L := LsH cSt 1 9 ov dL :: LsH cSt 1 9 wv (nM (gu ds ks)) :: LsH cSt 1 9 av (gu ds ks) :: L) Q (OE hx (lT hk)) (by simp; omega) (J7 hx hk) (by show ∀ r ∈ dsQ l, LFit r; rw [hds]; exact hL) (by show (dsQ l).length ≤ 1000000; rw [hds]; omega) (by first | exact h | exact h.drew) fun m1 lv w hp1 hs1 h => ?_
    (repeat(first
|simp(disch:=omega)only[evA,evB,evC,af,ag]
|refine ax (a3 ..) ?_
|refine ax (a4 ..) ?_))
    refine jF Q.T h (by omega) (by omega) fun w h => ?_
    (repeat(first
|refine ax (a5 ..) ?_
|refine ax (a6 ..) ?_
|refine ax (a7 ..) ?_))
    refine qa (D := DQ l) (P := P) (L := LsH cSt 1 9 lv ((jJ (-1) m1).map dS) :: LsH cSt 1 9 ov dL :: LsH cSt 1 9 wv (nM (gu ds ks)) :: LsH cSt 1 9 av (gu ds ks) :: L) Q (XG hu hx (lT hk)) (by simp; omega) (J8 hu hx hk) (by show ∀ r ∈ dsQ l, LFit r; rw [hds]; exact hL) (by show (dsQ l).length ≤ 1000000; rw [hds]; omega) (h.got) fun m2 kv w hp2 hs2 h => ?_
    have hp1' : m1.Perm (ds.filter (passes (psK ks))) := by rw [← hds]; exact hp1
    have hp2' : m2.Perm (ds.filter (passes (psK ks))) := by rw [← hds]; exact hp2
    have hm2 : m2 = m1 := XF ha hp1' hs1 hp2' hs2
    subst hm2
    rw [sF, Rk] at h
    have hml : m2.length ≤ 40 := by
      rw [hp1'.length_eq]
      have := xk (ds := ds) (ks := ks)
      unfold flQ at this; omega
    have hso : nM (m2.map dS) = nM (gu ds ks) := Qk (hp1'.map dS)
    have hsl : (nM (gu ds ks)).length = m2.length := by rw [← hso, Ql, List.length_map]
    have d0 : decide ((0 : Int) = 0) = true := by decide
    (repeat simp(disch:=omega)only[evA,evB,evC,af,ag,d0])
    refine Bp (h.frt (A := LsH cSt 1 9 lv (m2.map dS))) fun p w h => ?_
    skip
    refine vW (by simp; omega) h fun sv w h => ?_
    rw [hso] at h
    skip
    refine nW (a := sv) (b := wv) (l := nM (gu ds ks)) (by omega) h fun w h => ?_
    have f0 : bI lv = some (.int .i64 (m2.length : Nat)) := by
      have := (dw (h.frt (A := LsH cSt 1 9 lv (m2.map dS)))).len
      simpa using this
    have hmc : min (u : Int) (m2.length : Int) = ((min u m2.length : Nat) : Int) := by omega
    have h2 := h.frt (A := LsH cSt 1 9 lv (m2.map dS))
    obtain ⟨v', e, h'⟩ := Kk (f := cSt) (es := 1) CSt h2 (A := none) (H := some (.int .i64 ((min u m2.length : Nat) : Int))) (M := none) (lo := 0) (hi := min u m2.length) .none (.some _ _) (.none _) (Nat.zero_le _) (by simp; omega)
    have htk : (m2.map dS).take (min u m2.length) = (m2.take u).map dS := by
      rw [List.map_take]
      rcases Nat.le_total u m2.length with g | g
      · rw [Nat.min_eq_left g]
      · rw [Nat.min_eq_right g, List.take_of_length_le (by simp), List.take_of_length_le (by simpa using g)]
    rw [List.drop_zero, htk] at h'
    (repeat simp(disch:=omega)only[evA,evB,evC,af,ag,f0])
    rw [hmc]
    refine ax e ?_
    refine nW (a := kv) (b := v') (l := (m2.take u).map dS) (by simp; omega) h' fun w h => ?_
    (repeat simp(disch:=omega)only[evA,evB,evC,af,ag])
    rw [e3]
    exact wP Q hu hds hL ha hal hkl hk hK k (i + 1) n _ (by omega) (by omega) (h.got)
theorem uI {limit : Int} {pv : Value} {pl : List Int} (Q : QW w0) (hl : l.length ≤ 140737488351232) (hb : ∀ r ∈ l, RBig r) (hrd : Rd w0 11 rv l.length (l.flatMap bR)) (hpl : pl.length ≤ 140737488351232) (hpd : Rd w0 1 pv pl.length (pl.flatMap cI)) (h : Sat w0 L w) (hK : ∀ w', Sat w0 L w' → K (.bool true) w') : ai G3 [rv, pv, .int .i64 limit] w K := by
  refine c3 ?_
  unfold F3 Yv UA
  refine Gw Q h fun w h => ?_
  (repeat simp(disch:=omega)only[evA,evB,evC,af,ag])
  refine JO hl hb hrd h fun w h => ?_
  cases hs : mO l
  · (repeat simp(disch:=omega)only[evA,evB,evC,af,ag])
    exact hK _ h
  · (repeat simp(disch:=omega)only[evA,evB,evC,af,ag])
    refine wI hl hrd (Om hs) h fun P y e2 b2 hd2 o2 w h => ?_
    (repeat simp(disch:=omega)only[evA,evB,evC,af,ag,JM])
    obtain ⟨R, I, H⟩ : ∃ R I, BInv 40 fJ R I (dsQ l) := zu (h.frt (A := gq (pt P.b) 40 fJ (dsQ l)))
    have hL := Nn H
    have hbd := H.bd
    have hal : (dsQ l).length ≤ 40 := by omega
    have ha := H.asc
    refine AX hpd hpl h fun ks w hkl hk h => ?_
    skip
    refine AC (by omega) (by omega) fun b hb1 hb2 _ => ?_
    obtain ⟨u, rfl⟩ : ∃ u : Nat, b = u := ⟨b.toNat, by omega⟩
    have t1 := jg (lT hk)
    have t3 := CL ks
    have a1 : bH (.string (bs [108, 105, 115, 116])) (.string (bs (dC (wsK ks)))) = some (.string (bs (fC ++ dC (wsK ks)))) := by
      rw [dH (by simp; omega)]; rfl
    have a2 : bH (.string (bs [99, 111, 117, 110, 116])) (.string (bs (dC (wsK ks)))) = some (.string (bs (om ++ dC (wsK ks)))) := by
      rw [dH (by simp; omega)]; rfl
    (repeat refine ax (a1 ..) ?_)
    refine qa (D := DQ l) (P := P) (L := L) Q (lT hk) (by omega) (yC hk) hL (by show (dsQ l).length ≤ 1000000; omega) (h.got) fun m av w hp hps h => ?_
    have hm : m = flQ (dsQ l) ks := listed ha hp hps
    subst hm
    rw [sF, show (flQ (dsQ l) ks).map dS = gu (dsQ l) ks from rfl] at h
    have hfl := xk (ds := dsQ l) (ks := ks)
    have hll : (gu (dsQ l) ks).length = (flQ (dsQ l) ks).length := by simp [gu]
    (repeat(first
|simp(disch:=omega)only[evA,evB,evC,af,ag]
|refine ax (a2 ..) ?_))
    refine La (D := DQ l) (P := P) (L := LsH cSt 1 9 av (gu (dsQ l) ks) :: L) Q (lT hk) (by omega) (yC hk) hL (by show (dsQ l).length ≤ 1000000; omega) (h.got) fun m cv w hpc h => ?_
    have hcl : (jJ (-1) m).length = (gu (dsQ l) ks).length := by
      rw [sF, hpc.length_eq, hll]; rfl
    rw [hcl] at h
    have d0 : decide ((0 : Int) = 0) = true := by decide
    have f1 : bI av = some (.int .i64 ((gu (dsQ l) ks).length : Nat)) := (dw (h.frt (A := LsH cSt 1 9 av (gu (dsQ l) ks)))).len
    (repeat simp(disch:=omega)only[evA,evB,evC,af,ag,d0,f1])
    refine jF Q.T h (by omega) (by omega) fun w h => ?_
    skip
    refine iD (m := [Lib.itoa ((gu (dsQ l) ks).length : Nat)]) (f := cSt) (es := 1) CSt h u32 (c := #[.string (bs (Lib.itoa ((gu (dsQ l) ks).length : Nat)))]) (by kernel_rfl) rfl fun tv w h => ?_
    skip
    refine nW (a := cv) (b := tv) (l := [Lib.itoa ((gu (dsQ l) ks).length : Nat)]) (by simp) h fun w h => ?_
    (repeat(first
|simp(disch:=omega)only[evA,evB,evC,af,ag]
|refine ax (a1 ..) ?_))
    refine Ky Q (lT hk) (by omega) (yC hk) h fun w h => ?_
    (repeat simp(disch:=omega)only[evA,evB,evC,af,ag])
    refine Bp (h.frt (A := LsH cSt 1 9 av (gu (dsQ l) ks))) fun p w h => ?_
    skip
    refine vW (by omega) h fun wv w h => ?_
    skip
    refine iD (m := dL) (f := cSt) (es := 1) CSt h u32 (c := (dL.flatMap cSt).toArray) (by kernel_rfl) (by simp) fun ov w h => ?_
    have f2 : bI ov = some (.int .i64 (dL.length : Nat)) := (dw h).len
    (repeat simp(disch:=omega)only[evA,evB,evC,af,ag,f2])
    unfold Uz
    exact wP (L := L) Q (by omega) rfl hL ha hal hkl hk hK dL.length 0 fuel w (by omega) (by unfold fuel; simp [dL]) (h.got)
end
end Go.Proofs.Gong

/- Qx7 -/
namespace Go.Proofs.Gong
open Go Go.Sx Go.Proofs
set_option maxRecDepth 100000
abbrev SB : List CK2 := [.int .i64, .str, .str, .str, .int .i64, .str, .int .i64, .int .i64, .int .i64, .bool, .str]
theorem R9 {W : World} {c : List Value} (h : dI W 140737488351232 SB c) : ∃ r : Row, c = bR r ∧ RBig r := by
  obtain ⟨a1, _, rfl, _, g1⟩ := kD h
  obtain ⟨a2, _, rfl, b2, g2⟩ := mF g1
  obtain ⟨a3, _, rfl, b3, g3⟩ := mF g2
  obtain ⟨a4, _, rfl, b4, g4⟩ := mF g3
  obtain ⟨a5, _, rfl, _, g5⟩ := kD g4
  obtain ⟨a6, _, rfl, b6, g6⟩ := mF g5
  obtain ⟨a7, _, rfl, _, g7⟩ := kD g6
  obtain ⟨a8, _, rfl, _, g8⟩ := kD g7
  obtain ⟨a9, _, rfl, _, g9⟩ := kD g8
  obtain ⟨a10, _, rfl, g10⟩ := KG g9
  obtain ⟨a11, _, rfl, b11, g11⟩ := mF g10
  rw [Ca g11]
  exact ⟨⟨a1, ⟨a2, a3, a4, a5, a6⟩, a7, a8, a9, a10, a11⟩, rfl, ⟨b2, b3, b4, b6, b11⟩⟩
theorem Sa {W : World} {c : List Value} (h : dI W 140737488351232 [.int .i64] c) : ∃ n : Int, c = cI n ∧ True := by
  obtain ⟨a1, _, rfl, _, g1⟩ := kD h
  rw [Ca g1]
  exact ⟨a1, rfl, trivial⟩
theorem yV {W : World} (Q : QW W) {v : Value} {n : Nat} {cs : List Value} (rd : Rd W 11 v n cs) (hn : n ≤ 140737488351232) (ft : ∀ i, i < n → dI W 140737488351232 SB ((cs.drop (i * 11)).take 11))
    {v' : Value} {n' : Nat} {cs' : List Value} (rd' : Rd W 1 v' n' cs') (hn' : n' ≤ 140737488351232) (ft' : ∀ i, i < n' → dI W 140737488351232 [.int .i64] ((cs'.drop (i * 1)).take 1)) (limit : Int) {p : Prop} (_ : p) :
    ai G3 [v, v', .int .i64 limit] W fun v w' => v = .bool true ∧ Sat W [] w' := by
  obtain ⟨l, rfl, rfl, hg⟩ := BZ (fun c h => R9 h) n cs rd.length ft
  obtain ⟨pl, rfl, rfl, _⟩ := BZ (fun c h => Sa h) n' cs' rd'.length ft'
  exact uI Q hn hg rd hn' rd' (Sat.start W) fun w' h => ⟨rfl, h⟩
end Go.Proofs.Gong
