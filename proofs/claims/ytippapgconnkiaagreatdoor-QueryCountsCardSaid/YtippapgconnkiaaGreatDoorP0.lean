/- A part of the proofs: what stands below it, told in lemmas. No condition. -/
import Derived.WalkKit
import Derived.KernelRfl
import Derived.Scope
import Derived.ChangeSame
import Derived.WideKeyArgs
import Derived.RowKit
import Derived.Below
import Derived.OpenShut
import Derived.Deep.Slices
import Derived.ChangeMaps5
set_option linter.all false

/- Sx1 -/
namespace Go.Sx
abbrev Env := Nat → Value
def Env.set (e : Env) (d : Nat) (v : Value) : Env := fun t => match Nat.beq t d with | true => v | false => e t
def put (nt : Nat) (e : Env) (dst : Option Tmp) (v : Value) : Env :=
  match dst with
  | none => e
  | some d => match Nat.ble nt d with | true => e | false => e.set d v
def ev (e : Env) : Operand → Value
  | .tmp t => e t
  | .const v => v
  | .global g => .pointer (some ⟨g, 0, none⟩)
  | .func f => .func (.func f) #[] #[]
def aG (c a b : Value) : Option Value := match c with | .bool true => some a | .bool false => some b | _ => none
def cZ (v : Value) : Option Value := match v with
  | .pointer (some a) => some (.pointer (some a))
  | .func (.func f) x y => some (.func (.func f) x y)
  | .iface t x => some (.iface t x)
  | _ => none
def ld1 (v : Value) (w : World) : Option Value := match v with
  | .pointer (some a) => w.cell? a
  | _ => none
def ldN (n : Nat) (v : Value) (w : World) : Option Value := match v with
  | .pointer (some ⟨b, o, none⟩) => match w.heap[b]? with
    | some (.cells c _ _) => if o + n ≤ c.size then some (.agg (c.extract o (o + n))) else none
    | _ => none
  | _ => none
def ae (off : Nat) (v : Value) : Option Value := match v with
  | .pointer (some ⟨b, o, none⟩) => some (.pointer (some ⟨b, o + off, none⟩))
  | _ => none
def ql (P : Program) (t : TypeId) (cs : Array Value) (off : Nat) : Option Value :=
  match P.underlying t with
  | some (.struct _) | some (.array _ _) => some (.agg (cs.extract off (off + P.cellsOf t)))
  | some _ => cs[off]?
  | none => none
def bq (size : Nat) (v i : Value) : Option Value := match v, i with
  | .slice (some ⟨b, o, none⟩) len _, .int _ n => if 0 ≤ n ∧ n < len then some (.pointer (some ⟨b, o + n.toNat * size, none⟩)) else none
  | _, _ => none
def iq (len size : Nat) (v i : Value) : Option Value := match v, i with
  | .pointer (some ⟨b, o, none⟩), .int _ n => if 0 ≤ n ∧ n < len then some (.pointer (some ⟨b, o + n.toNat * size, none⟩)) else none
  | _, _ => none
def dG (v i : Value) : Option Value := match v, i with
  | .string s, .int _ n => if 0 ≤ n then (s[n.toNat]?).map fun b => .int .u8 b.toNat else none
  | _, _ => none
def MS (P : Program) (len : Nat) (elem : TypeId) (v i : Value) : Option Value := match v, i with
  | .agg cs, .int _ n => if 0 ≤ n ∧ n < len then ql P elem cs (n.toNat * P.cellsOf elem) else none
  | _, _ => none
def bnd (v : Option Value) (dflt mx : Nat) : Option Nat := match v with
  | none => some dflt
  | some (.int _ i) => if 0 ≤ i ∧ i ≤ mx then some i.toNat else none
  | _ => none
def hiB (mx hi : Option Value) (len m : Nat) : Option Nat := match mx, hi with
  | some _, none => none
  | some _, some v => bnd (some v) len m
  | none, none => some len
  | none, some v => bnd (some v) len m
def di (v : Value) (lo hi : Option Value) : Option Value := match v with
  | .string s => match hiB none hi s.size s.size with
    | some h => match bnd lo 0 h with
      | some l => some (.string (s.extract l h))
      | none => none
    | none => none
  | _ => none
def dZ (size : Nat) (v : Value) (lo hi mx : Option Value) : Option Value := match v with
  | .slice a len cap => match bnd mx cap cap with
    | some m => match hiB mx hi len m with
      | some h => match bnd lo 0 h with
        | some l => some (.slice (if m = l then a else a.map (·.add (l * size))) (h - l) (m - l))
        | none => none
      | none => none
    | none => none
  | _ => none
def MR (n size : Nat) (v : Value) (lo hi mx : Option Value) : Option Value := match v with
  | .pointer (some a) => match bnd mx n n with
    | some m => match hiB mx hi n m with
      | some h => match bnd lo 0 h with
        | some l => some (.slice (some (if m = l then a else a.add (l * size))) (h - l) (m - l))
        | none => none
      | none => none
    | none => none
  | _ => none
def Vo (v : Value) : Option Value := match v with
  | .slice _ _ n => some (.int .i64 n)
  | _ => none
def OD (x y : Value) : Option Value := match x, y with
  | .int k a, .int _ b => some (.int k (if b < a then b else a))
  | _, _ => none
def QI (x y : Value) : Option Value := match x, y with
  | .int k a, .int _ b => some (.int k (if b > a then b else a))
  | _, _ => none
def bH (x y : Value) : Option Value := match x, y with
  | .int k a, .int k' b => if k = k' then some (.int k (k.wrap (a + b))) else none
  | .string a, .string b => if ((a.size + b.size : Nat) : Int) > IntKind.i64.max then none else some (.string (a ++ b))
  | _, _ => none
def jK (x y : Value) : Option Value := match x, y with
  | .int k a, .int k' b => if k = k' then some (.int k (k.wrap (a - b))) else none
  | _, _ => none
def nP (x y : Value) : Option Value := match x, y with
  | .int k a, .int k' b => if k = k' then some (.int k (k.wrap (a * b))) else none
  | _, _ => none
def iM (x y : Value) : Option Value := match x, y with
  | .int k a, .int k' b => if k = k' ∧ b ≠ 0 then some (.int k (k.wrap (a.tdiv b))) else none
  | _, _ => none
def gI (x y : Value) : Option Value := match x, y with
  | .int k a, .int k' b => if k = k' ∧ b ≠ 0 then some (.int k (a.tmod b)) else none
  | _, _ => none
def oH (op : BinOp) (k : IntKind) (x y : Int) : Option Int :=
  let a := BitVec.ofInt k.bits x
  let b := BitVec.ofInt k.bits y
  match op with
  | .and => some (k.wrap (a &&& b).toNat)
  | .or => some (k.wrap (a ||| b).toNat)
  | .xor => some (k.wrap (a ^^^ b).toNat)
  | .andNot => some (k.wrap (a &&& ~~~b).toNat)
  | _ => none
def l6 (op : BinOp) (x y : Value) : Option Value := match x, y with
  | .int k a, .int k' b => if k = k' then (oH op k a b).map (.int k) else none
  | _, _ => none
def SL (x y : Value) : Option Value := match x, y with
  | .int k a, .int _ b => if b < 0 then none else some (.int k (k.wrap (a * 2 ^ min b.toNat k.bits)))
  | _, _ => none
def rf (x y : Value) : Option Value := match x, y with
  | .int k a, .int _ b => if b < 0 then none else some (.int k (a.fdiv (2 ^ min b.toNat k.bits)))
  | _, _ => none
def vY (a b : ByteArray) : Bool := Op.bytesLess a.toList b.toList
def sEq (a b : ByteArray) : Bool := a.toList == b.toList
def bLt (x y : Value) : Option Value := match x, y with
  | .int k a, .int k' b => if k = k' then some (.bool (a < b)) else none
  | .string a, .string b => some (.bool (vY a b))
  | _, _ => none
def bLe (x y : Value) : Option Value := match x, y with
  | .int k a, .int k' b => if k = k' then some (.bool (a ≤ b)) else none
  | .string a, .string b => some (.bool (vY a b || sEq a b))
  | _, _ => none
def bGt (x y : Value) : Option Value := match x, y with
  | .int k a, .int k' b => if k = k' then some (.bool (a > b)) else none
  | .string a, .string b => some (.bool (!(vY a b || sEq a b)))
  | _, _ => none
def bGe (x y : Value) : Option Value := match x, y with
  | .int k a, .int k' b => if k = k' then some (.bool (a ≥ b)) else none
  | .string a, .string b => some (.bool (!vY a b))
  | _, _ => none
def eqFields (P : Program) (f : TypeId → Value → Value → Option Bool) (xs ys : Array Value) : List Field → Option Bool
  | [] => some true
  | fd :: r =>
    if fd.name = "_" then eqFields P f xs ys r else
    match ql P fd.type xs fd.offset, ql P fd.type ys fd.offset with
    | some x, some y => match f fd.type x y with
      | some true => eqFields P f xs ys r
      | some false => some false
      | none => none
    | _, _ => none
def sV (P : Program) (f : TypeId → Value → Value → Option Bool) (elem n : Nat) (xs ys : Array Value) : Nat → Nat → Option Bool
  | 0, _ => some true
  | k + 1, i =>
    match ql P elem xs (i * n), ql P elem ys (i * n) with
    | some x, some y => match f elem x y with
      | some true => sV P f elem n xs ys k (i + 1)
      | some false => some false
      | none => none
    | _, _ => none
def eqv (P : Program) : Nat → TypeId → Value → Value → Option Bool
  | 0, _, _, _ => none
  | d + 1, t, x, y => match P.underlying t, x, y with
    | some .bool, .bool a, .bool b => some (a == b)
    | some (.int _), .int k a, .int k' b => if k = k' then some (a == b) else none
    | some .string, .string a, .string b => some (sEq a b)
    | some (.pointer _), .pointer none, .pointer b => some b.isNone
    | some (.pointer _), .pointer (some _), .pointer none => some false
    | some (.pointer e), .pointer (some a), .pointer (some b) => if P.cellsOf e ≠ 0 ∧ a.block = b.block then some (a == b) else none
    | some (.interface _), .nilIface, .nilIface => some true
    | some (.interface _), .nilIface, .iface _ _ => some false
    | some (.interface _), .iface _ _, .nilIface => some false
    | some (.interface _), .iface tx vx, .iface ty vy => if tx = ty then (match P.info? tx with | some i => if i.comparable = true then eqv P d tx vx vy else none | none => none) else some false
    | some (.slice _), .slice none _ _, .slice b _ _ => some b.isNone
    | some (.slice _), .slice (some _) _ _, .slice none _ _ => some false
    | some (.map _ _), .map none, .map b => some b.isNone
    | some (.map _ _), .map (some _), .map none => some false
    | some (.func _ _ _), .nilFunc, .nilFunc => some true
    | some (.func _ _ _), .nilFunc, .func _ _ _ => some false
    | some (.func _ _ _), .func _ _ _, .nilFunc => some false
    | some (.struct fields), .agg xs, .agg ys => if P.stoodInHeld t then none else eqFields P (eqv P d) xs ys fields.toList
    | some (.array len elem), .agg xs, .agg ys => match P.info? elem with | some i => sV P (eqv P d) elem i.size xs ys len 0 | none => none
    | _, _, _ => none
def xm (P : Program) (t : TypeId) (x y : Operand) (a b : Value) : Bool := match a, b with
  | .nilIface, .nilIface => (match x with | .const _ => true | _ => false) || (match y with | .const _ => true | _ => false)
  | .agg _, .agg _ => !P.eqGuardType P.depth t
  | _, _ => true
def dB (P : Program) (t : TypeId) (x y : Operand) (a b : Value) : Option Bool := match a, b with
  | .int k n, .int k' m => if k = k' then some (n == m) else none
  | .string s, .string r => some (sEq s r)
  | .float _ _, _ => none
  | _, .float _ _ => none
  | .complex _ _ _, _ => none
  | _, .complex _ _ _ => none
  | a, b => if xm P t x y a b then eqv P Op.maxDepth t a b else none
def bEq (P : Program) (t : TypeId) (x y : Operand) (a b : Value) : Option Value := (dB P t x y a b).map .bool
def bNe (P : Program) (t : TypeId) (x y : Operand) (a b : Value) : Option Value := (dB P t x y a b).map fun r => .bool (!r)
def fBin (P : Program) (op : BinOp) (t : TypeId) (x y : Operand) (a b : Value) : Option Value := match op with
  | .add => bH a b | .sub => jK a b | .mul => nP a b | .quo => iM a b | .rem => gI a b
  | .and => l6 .and a b | .or => l6 .or a b | .xor => l6 .xor a b | .andNot => l6 .andNot a b
  | .shl => SL a b | .shr => rf a b
  | .eql => bEq P t x y a b | .neq => bNe P t x y a b
  | .lss => bLt a b | .leq => bLe a b | .gtr => bGt a b | .geq => bGe a b
def dN (x : Value) : Option Value := match x with | .bool b => some (.bool !b) | _ => none
def uNeg (x : Value) : Option Value := match x with | .int k n => some (.int k (k.wrap (0 - n))) | _ => none
def uXor (x : Value) : Option Value := match x with | .int k n => (oH .xor k (if k.signed then -1 else k.max) n).map (.int k) | _ => none
def fUn (op : UnOp) (x : Value) : Option Value := match op with
  | .not => dN x | .neg => uNeg x | .xor => uXor x | _ => none
def iG (k : IntKind) (x : Value) : Option Value := match x with | .int _ n => some (.int k (k.wrap n)) | _ => none
def cStr (x : Value) : Option Value := match x with | .string s => some (.string s) | _ => none
def bytesOf : List Value → Option (List UInt8)
  | [] => some []
  | .int .u8 n :: r => (bytesOf r).map (UInt8.ofNat n.toNat :: ·)
  | _ => none
def gF (x : Value) (w : World) : Option Value := match x with
  | .slice none _ _ => some (.string .empty)
  | .slice (some ⟨b, o, none⟩) len _ => match w.heap[b]? with
    | some (.cells c _ _) => if o + len ≤ c.size then (bytesOf (c.extract o (o + len)).toList).map fun l => .string ⟨l.toArray⟩ else none
    | _ => none
  | _ => none
def aK (x : Value) (i : Nat) : Option Value := match x with | .tuple vs => vs[i]? | _ => none
def lF (eq : Value → Option Bool) : List MapEntry → Nat → Option (Option (Nat × Value))
  | [], _ => some none
  | e :: es, i => match eq e.key with
    | some true => some (some (i, e.val))
    | some false => lF eq es (i + 1)
    | none => none
end Go.Sx

/- Sx2a -/
namespace Go.Sx
variable {P : Program} {w : World}
theorem ay {t : TypeId} {d : TypeDesc} (h : P.underlying t = some d) : (underlying t).run P w = .ok d w := by
  simp [underlying, h]
theorem bN {t : TypeId} {d : TypeInfo} (h : P.info? t = some d) : (typeInfo t).run P w = .ok d w := by
  simp [typeInfo, h]
theorem info_of_underlying {t : TypeId} {d : TypeDesc} (h : P.underlying t = some d) : ∃ i, P.info? t = some i := by
  unfold Program.underlying at h
  cases hi : P.info? t with
  | none => simp [hi] at h
  | some i => exact ⟨i, rfl⟩
theorem wm {t : TypeId} {d : TypeDesc} (h : P.underlying t = some d) : (sizeOf t).run P w = .ok (P.cellsOf t) w := by
  obtain ⟨i, hi⟩ := info_of_underlying h
  simp [sizeOf, bN hi, Program.cellsOf, hi]
def Di : TypeDesc → Bool | .struct _ | .array _ _ => true | _ => false
theorem yx {t : TypeId} {d : TypeDesc} (h : P.underlying t = some d) : (isAgg t).run P w = .ok (Di d) w := by
  simp only [isAgg, Sem.run_bind, ay h, Result.andThen_ok]
  cases d <;> rfl
theorem gD {t : TypeId} {cs : Array Value} {off : Nat} {v : Value} (h : ql P t cs off = some v) : (part t cs off).run P w = .ok v w := by
  unfold ql at h
  cases hu : P.underlying t with
  | none => simp [hu] at h
  | some d =>
    have ha := yx (w := w) hu
    have hs := wm (w := w) hu
    cases d <;> simp [hu] at h <;> simp [part, ha, hs, h, Di]
theorem loadCellsFrom_ok (c : Array Value) (ty : TypeId) (fz : Nat × Nat) (b o : Nat) (hb : w.heap[b]? = some (.cells c ty fz)) (n : Nat) : ∀ (i : Nat) (acc : Array Value), o + i + n ≤ c.size →
    (loadCellsFrom ⟨b, o, none⟩ i n acc).run P w = .ok (acc ++ c.extract (o + i) (o + i + n)) w := by
  induction n with
  | zero => intro i acc h; simp [loadCellsFrom]; omega
  | succ n ih =>
    intro i acc h
    have hc : w.cell? ((⟨b, o, none⟩ : Addr).add i) = some (c[o + i]'(by omega)) := by
      unfold Addr.add
      by_cases hi : i = 0
      · subst hi; simp [World.cell?, hb]
      · simp [World.cell?, hb, hi, show o + i < c.size by omega]
    simp only [loadCellsFrom, Sem.run_bind, run_load, hc, Result.andThen_ok]
    rw [ih (i + 1) _ (by omega)]
    congr 1
    apply Array.ext'
    simp only [Array.toList_append, Array.toList_push, Array.toList_extract, List.append_assoc]
    congr 1
    rw [List.extract_eq_take_drop, List.extract_eq_take_drop]
    have : o + i < c.toList.length := by simp; omega
    rw [List.drop_eq_getElem_cons this]
    simp only [show o + i + (n+1) - (o + i) = n + 1 by omega, show o + (i + 1) + n - (o + (i + 1)) = n by omega, List.take_succ_cons]
    simp [Nat.add_assoc]
theorem kP {c : Array Value} {ty : TypeId} {fz : Nat × Nat} {b o n : Nat} (hb : w.heap[b]? = some (.cells c ty fz)) (h : o + n ≤ c.size) :
    (loadCells ⟨b, o, none⟩ n).run P w = .ok (c.extract o (o + n)) w := by
  have := loadCellsFrom_ok (P := P) c ty fz b o hb n 0 #[] (by omega)
  simpa [loadCells] using this
def Cb (P : Program) (t : TypeId) (v : Value) (w : World) : Option Value := match P.underlying t with
  | some (.struct _) | some (.array _ _) => ldN (P.cellsOf t) v w
  | some _ => ld1 v w
  | none => none
theorem wo {t : TypeId} {v r : Value} (h : Cb P t v w = some r) : (Instr.loadAt t v).run P w = .ok r w := by
  unfold Cb at h
  cases hu : P.underlying t with
  | none => simp [hu] at h
  | some d =>
    have hag := yx (w := w) hu
    have hs := wm (w := w) hu
    have key1 : ld1 v w = some r → Di d = false → (Instr.loadAt t v).run P w = .ok r w := by
      intro h1 h2
      rw [h2] at hag
      unfold ld1 at h1
      split at h1
      · simp [Instr.loadAt, Instr.sureAddr, loadVar, hag, h1]
      · simp at h1
    have keyN : ldN (P.cellsOf t) v w = some r → Di d = true → (Instr.loadAt t v).run P w = .ok r w := by
      intro h1 h2
      rw [h2] at hag
      unfold ldN at h1
      split at h1
      · split at h1
        · split at h1
          · rename_i hb hsz
            simp only [Option.some.injEq] at h1
            simp [Instr.loadAt, Instr.sureAddr, loadVar, hag, hs, kP hb hsz, h1]
          · simp at h1
        · simp at h1
      · simp at h1
    cases d <;> simp only [hu] at h <;> first | exact key1 h rfl | exact keyN h rfl
theorem uG {s : TypeId} {fs : Array Field} {fd : Field} {f : Nat} {v r : Value} (hu : P.underlying s = some (.struct fs)) (hf : fs[f]? = some fd)
    (hs : P.info? fd.type ≠ none) (hz : P.cellsOf fd.type ≠ 0) (h : ae fd.offset v = some r) : (Instr.fieldAt s v f).run P w = .ok r w := by
  unfold ae at h
  split at h
  · simp only [Option.some.injEq] at h
    subst h
    cases hi : P.info? fd.type with
    | none => exact absurd hi hs
    | some i =>
      have h0 : i.size ≠ 0 := by simpa [Program.cellsOf, hi] using hz
      simp [Instr.fieldAt, ay hu, hf, Instr.sureAddr, fieldPlace, sizeOf, bN hi, h0, Addr.add]
  · simp at h
theorem jO {v : Value} {mx l : Nat} {d : Nat} {code : BoundsCode} (h : bnd (some v) d mx = some l) : (Instr.sliceBound v mx code).run P w = .ok l w := by
  unfold bnd at h
  cases v <;> simp at h
  rename_i k i
  obtain ⟨⟨h1, h2⟩, rfl⟩ := h
  simp [Instr.sliceBound, asIntOf, h1, h2]
theorem lV {isS : Bool} {len cap : Nat} {lo hi mx : Option Value} {m h l : Nat} (hm : bnd mx cap cap = some m)
    (hh : hiB mx hi len m = some h) (hl : bnd lo 0 h = some l) :
    (Instr.sliceBounds isS len cap lo hi mx).run P w = .ok (l, h, m) w := by
  have e1 : ∀ v, lo = some v → ∀ c, (Instr.sliceBound v h c).run P w = .ok l w := by
    intro v hv c; subst hv; exact jO hl
  have e0 : lo = none → l = 0 := by intro hv; subst hv; simp [bnd] at hl; omega
  have m1 : ∀ v, mx = some v → ∀ c, (Instr.sliceBound v cap c).run P w = .ok m w := by
    intro v hv c; subst hv; exact jO hm
  have m0 : mx = none → m = cap := by intro hv; subst hv; simp [bnd] at hm; omega
  cases mx with
  | none =>
    have := m0 rfl; subst this
    cases hi with
    | none =>
      simp [hiB] at hh; subst hh
      cases lo with
      | none => have := e0 rfl; subst this; simp [Instr.sliceBounds]
      | some lv => simp [Instr.sliceBounds, e1 lv rfl]
    | some hv =>
      have h1 : ∀ c, (Instr.sliceBound hv m c).run P w = .ok h w := fun c => jO hh
      cases lo with
      | none => have := e0 rfl; subst this; simp [Instr.sliceBounds, h1]
      | some lv => simp [Instr.sliceBounds, h1, e1 lv rfl]
  | some mv =>
    cases hi with
    | none => simp [hiB] at hh
    | some hv =>
      have h1 : ∀ c, (Instr.sliceBound hv m c).run P w = .ok h w := fun c => jO hh
      cases lo with
      | none => have := e0 rfl; subst this; simp [Instr.sliceBounds, h1, m1 mv rfl]
      | some lv => simp [Instr.sliceBounds, h1, e1 lv rfl, m1 mv rfl]
def KN (P : Program) (t : TypeId) (v : Value) (lo hi mx : Option Value) : Option Value := match P.underlying t with
  | some (.array n el) => match P.info? el with | some i => MR n i.size v lo hi mx | none => none
  | some .string => match mx with | none => di v lo hi | some _ => none
  | some (.slice el) => match P.info? el with | some i => dZ i.size v lo hi mx | none => none
  | _ => none
theorem CX {t : TypeId} {v r : Value} {lo hi mx : Option Value} (h : KN P t v lo hi mx = some r) : (Instr.sliceAt t v lo hi mx).run P w = .ok r w := by
  unfold KN at h
  split at h
  · rename_i n el hu
    split at h
    · rename_i i hi'
      unfold MR at h
      split at h
      · split at h
        · rename_i m hm
          split at h
          · rename_i hh' hh
            split at h
            · rename_i l hl
              simp only [Option.some.injEq] at h; subst h
              simp [Instr.sliceAt, ay hu, Instr.sureAddr, lV hm hh hl, sizeOf, bN hi']
            · simp at h
          · simp at h
        · simp at h
      · simp at h
    · simp at h
  · rename_i hu
    split at h
    · unfold di at h
      split at h
      · split at h
        · rename_i hh' hh
          split at h
          · rename_i l hl
            simp only [Option.some.injEq] at h; subst h
            simp [Instr.sliceAt, ay hu, Instr.slice, lV (isS := false) (lo := lo) (hi := hi) (mx := none) (m := _) (cap := _) rfl hh hl]
          · simp at h
        · simp at h
      · simp at h
    · simp at h
  · rename_i el hu
    split at h
    · rename_i i hi'
      unfold dZ at h
      split at h
      · split at h
        · rename_i m hm
          split at h
          · rename_i hh' hh
            split at h
            · rename_i l hl
              simp only [Option.some.injEq] at h; subst h
              simp [Instr.sliceAt, ay hu, Instr.slice, lV hm hh hl, sizeOf, bN hi']
            · simp at h
          · simp at h
        · simp at h
      · simp at h
    · simp at h
  · simp at h
end Go.Sx

/- Sx2b -/
namespace Go.Sx
variable {P : Program} {w : World}
theorem Il {d : Nat} {f : TypeId → Value → Value → Option Bool} (hf : ∀ t x y r, f t x y = some r → (Op.equalIn d t x y).run P w = .ok r w)
    (xs ys : Array Value) : ∀ (fs : List Field) (r : Bool), eqFields P f xs ys fs = some r → (Op.eqFields d xs ys fs).run P w = .ok r w := by
  intro fs
  induction fs with
  | nil => intro r h; simp [eqFields] at h; subst h; simp [Op.eqFields]
  | cons fd fs ih =>
    intro r h
    unfold eqFields at h
    by_cases hn : fd.name = "_"
    · rw [if_pos hn] at h
      simp only [Op.eqFields, hn, ne_eq, not_true_eq_false, if_false]
      exact ih r h
    · rw [if_neg hn] at h
      simp only [Op.eqFields, hn, ne_eq, not_false_eq_true, if_true]
      split at h
      · rename_i x y hx hy
        simp only [Sem.run_bind, gD hx, gD hy, Result.andThen_ok]
        split at h
        · rename_i he
          simp only [hf _ _ _ _ he, Result.andThen_ok, Bool.not_true, Bool.false_eq_true, if_false]
          exact ih r h
        · rename_i he
          simp only [Option.some.injEq] at h; subst h
          simp [hf _ _ _ _ he]
        · simp at h
      · simp at h
theorem KO {d : Nat} {f : TypeId → Value → Value → Option Bool} (hf : ∀ t x y r, f t x y = some r → (Op.equalIn d t x y).run P w = .ok r w)
    {elem n : Nat} (xs ys : Array Value) : ∀ (k i : Nat) (r : Bool), sV P f elem n xs ys k i = some r →
    (forIn (m := Sem) (List.range' i k) ((none, ()) : Option Bool × Unit) fun i _ => do
        let b ← Op.equalIn d elem (← part elem xs (i * n)) (← part elem ys (i * n))
        if (!b) = true then pure (ForInStep.done (some false, ())) else pure (ForInStep.yield (none, ()))).run P w = .ok (if r then none else some false, ()) w := by
  intro k
  induction k with
  | zero => intro i r h; simp [sV] at h; subst h; simp
  | succ k ih =>
    intro i r h
    unfold sV at h
    split at h
    · rename_i x y hx hy
      split at h
      · rename_i he
        have := ih (i + 1) r h
        simp only [List.range'_succ, List.forIn_cons, Sem.run_bind, gD hx, gD hy, Result.andThen_ok, hf _ _ _ _ he, Bool.not_true, Bool.false_eq_true, if_false, Sem.run_pure] at this ⊢
        exact this
      · rename_i he
        simp only [Option.some.injEq] at h; subst h
        simp [List.range'_succ, List.forIn_cons, gD hx, gD hy, hf _ _ _ _ he]
      · simp at h
    · simp at h
theorem uE (a b : ByteArray) : sEq a b = (a == b) := (beq_toListBytes a b).symm
theorem kQ : ∀ (d : Nat) (t : TypeId) (x y : Value) (r : Bool), eqv P d t x y = some r → (Op.equalIn d t x y).run P w = .ok r w := by
  intro d
  induction d with
  | zero => intro t x y r h; simp [eqv] at h
  | succ d ih =>
    intro t x y r h
    unfold eqv at h
    split at h
    case h_18 =>
      rename_i fields xs ys hu
      split at h
      · simp at h
      · rename_i hs
        have hfo : P.fieldsOf t = fields := by simp [Program.fieldsOf, hu]
        rw [run_equalIn_struct w d t xs ys (by rw [hfo]; exact hu) (by simpa using hs), hfo]
        exact Il ih xs ys _ r h
    case h_19 =>
      rename_i len elem xs ys hu
      split at h
      · rename_i i hi
        have := KO (w := w) ih xs ys len 0 r h
        simp only [Op.equalIn, Sem.run_bind, ay hu, Result.andThen_ok, sizeOf, bN hi, Sem.run_pure]
        rw [Std.Legacy.Range.forIn_eq_forIn_range', Std.Legacy.Range.size]
        simp only [Nat.sub_zero, Nat.add_sub_cancel, Nat.div_one]
        rw [this]
        cases r <;> simp
      · simp at h
    case h_3 => rename_i hu; simp only [Option.some.injEq] at h; simp [Op.equalIn, ay hu, ← h, uE]
    case h_6 =>
      rename_i e a b hu
      split at h
      · rename_i hc
        simp only [Option.some.injEq] at h
        obtain ⟨h1, h2⟩ := hc
        have hs : ∃ i, P.info? e = some i := by
          cases hi : P.info? e with
          | some i => exact ⟨i, rfl⟩
          | none => exact absurd (by simp [Program.cellsOf, hi]) h1
        obtain ⟨i, hi⟩ := hs
        have h3 : i.size ≠ 0 := by simpa [Program.cellsOf, hi] using h1
        simp [Op.equalIn, ay hu, sizeOf, bN hi, h3, sameAddr, h2, ← h]
      · simp at h
    case h_20 => simp at h
    case h_10 =>
      rename_i ms tx vx ty vy hu
      split at h
      · rename_i he
        subst he
        split at h
        · rename_i i hi
          split at h
          · rename_i hc
            have := ih _ _ _ _ h
            simp only [Op.equalIn, Sem.run_bind, ay hu, Result.andThen_ok]
            simp [bN hi, hc, this]
          · simp at h
        · simp at h
      · rename_i he
        simp only [Option.some.injEq] at h
        subst h
        simp only [Op.equalIn, Sem.run_bind, ay hu, Result.andThen_ok]
        simp [he]
    all_goals (rename_i hu; simp only [Op.equalIn, Sem.run_bind, ay hu, Result.andThen_ok]; simp_all)
theorem rU {op : BinOp} {t : TypeId} {x y : Operand} {a b : Value} (h : op ≠ .eql) (h' : op ≠ .neq) : (eqGuard op t x y a b).run P w = .ok () w := by
  unfold eqGuard
  cases op <;> first | exact absurd rfl h | exact absurd rfl h' | simp
theorem mP {op : BinOp} {t : TypeId} {x y : Operand} {a b : Value} (h : xm P t x y a b = true) : (eqGuard op t x y a b).run P w = .ok () w := by
  have key : ∀ op : BinOp, (op = .eql ∨ op = .neq) → (eqGuard op t x y a b).run P w = .ok () w := by
    intro op h1
    rcases h1 with rfl | rfl
    all_goals
      unfold eqGuard
      simp only [Bool.not_true, Bool.false_eq_true, if_false]
      unfold xm at h
      split at h
      · cases x <;> cases y <;> first | (simp; done) | (simp at h)
      · have : P.eqGuardType P.depth t = false := by simpa using h
        simp [this]
      · rename_i h2 h3
        cases a <;> cases b <;> first | exact (h2 rfl rfl).elim | exact (h3 _ _ rfl rfl).elim | simp
  by_cases h1 : op = .eql ∨ op = .neq
  · exact key op h1
  · exact rU (fun e => h1 (.inl e)) (fun e => h1 (.inr e))
theorem AU {op : BinOp} {t : TypeId} {x y : Operand} {k k' : IntKind} {a b : Int} : (eqGuard op t x y (.int k a) (.int k' b)).run P w = .ok () w :=
  mP (by rfl)
theorem AR {op : BinOp} {t : TypeId} {x y : Operand} {a b : ByteArray} : (eqGuard op t x y (.string a) (.string b)).run P w = .ok () w :=
  mP (by rfl)
theorem wu {t : TypeId} {x y : Operand} {a b : Value} {r : Bool} (h : dB P t x y a b = some r) :
    (binOp .eql t a b).run P w = .ok (.bool r) w ∧ (binOp .neq t a b).run P w = .ok (.bool (!r)) w ∧ ∀ op, (eqGuard op t x y a b).run P w = .ok () w := by
  unfold dB at h
  split at h
  · split at h
    · rename_i hk
      simp only [Option.some.injEq] at h; subst h; subst hk
      exact ⟨by simp [binOp, Op.intCmp], by simp [binOp, Op.intCmp, bne], fun _ => AU⟩
    · simp at h
  · simp only [Option.some.injEq] at h; subst h
    exact ⟨by simp [binOp, Op.stringOp, sEq], by simp [binOp, Op.stringOp, sEq], fun _ => AR⟩
  · simp at h
  · simp at h
  · simp at h
  · simp at h
  · rename_i h1 h2 h3 h4 h5 h6
    split at h
    · rename_i hp
      have he := kQ (w := w) _ _ _ _ _ h
      refine ⟨?_, ?_, fun _ => mP hp⟩
      · cases a <;> cases b <;> (try simp only [binOp, Op.equal, Sem.run_bind, he, Result.andThen_ok, Sem.run_pure]) <;> first
          | rfl | exact (h5 _ _ _ _ rfl rfl).elim | exact (h6 _ _ rfl rfl).elim | exact (h1 _ _ rfl).elim | exact (h2 _ _ _ rfl).elim | exact (h3 _ _ rfl).elim | exact (h4 _ _ _ rfl).elim
      · cases a <;> cases b <;> (try simp only [binOp, Op.equal, Sem.run_bind, he, Result.andThen_ok, Sem.run_pure]) <;> first
          | rfl | exact (h5 _ _ _ _ rfl rfl).elim | exact (h6 _ _ rfl rfl).elim | exact (h1 _ _ rfl).elim | exact (h2 _ _ _ rfl).elim | exact (h3 _ _ rfl).elim | exact (h4 _ _ _ rfl).elim
    · simp at h
theorem ww {op : BinOp} {k : IntKind} {a b r : Int} (h : oH op k a b = some r) : (Op.intBits op k a b).run P w = .ok (.int k r) w := by
  unfold oH at h
  cases op <;> simp at h <;> subst h <;> simp [Op.intBits]
theorem wy {op : BinOp} {t : TypeId} {x y : Operand} {a b r : Value} (h : fBin P op t x y a b = some r) :
    (binOp op t a b).run P w = .ok r w ∧ (eqGuard op t x y a b).run P w = .ok () w := by
  cases op <;> simp only [fBin] at h
  case eql =>
    simp only [bEq, Option.map_eq_some_iff] at h
    obtain ⟨q, hq, rfl⟩ := h
    obtain ⟨h1, _, h3⟩ := wu (w := w) hq
    exact ⟨h1, h3 _⟩
  case neq =>
    simp only [bNe, Option.map_eq_some_iff] at h
    obtain ⟨q, hq, rfl⟩ := h
    obtain ⟨_, h1, h3⟩ := wu (w := w) hq
    exact ⟨h1, h3 _⟩
  all_goals refine ⟨?_, rU (by decide) (by decide)⟩
  case add =>
    unfold bH at h
    split at h
    · split at h
      · rename_i hk; subst hk; simp only [Option.some.injEq] at h; subst h; simp [binOp, Op.intArith]
      · simp at h
    · split at h
      · simp at h
      · rename_i hn; simp only [Option.some.injEq] at h; subst h; simp only [binOp, Op.stringOp]; rw [if_neg hn]; rfl
    · simp at h
  case sub =>
    unfold jK at h
    split at h
    · split at h
      · rename_i hk; subst hk; simp only [Option.some.injEq] at h; subst h; simp [binOp, Op.intArith]
      · simp at h
    · simp at h
  case mul =>
    unfold nP at h
    split at h
    · split at h
      · rename_i hk; subst hk; simp only [Option.some.injEq] at h; subst h; simp [binOp, Op.intArith]
      · simp at h
    · simp at h
  case quo =>
    unfold iM at h
    split at h
    · split at h
      · rename_i hk; obtain ⟨hk, h0⟩ := hk; subst hk; simp only [Option.some.injEq] at h; subst h; simp [binOp, Op.intDiv, h0]
      · simp at h
    · simp at h
  case rem =>
    unfold gI at h
    split at h
    · split at h
      · rename_i hk; obtain ⟨hk, h0⟩ := hk; subst hk; simp only [Option.some.injEq] at h; subst h; simp [binOp, Op.intDiv, h0]
      · simp at h
    · simp at h
  case shl =>
    unfold SL at h
    split at h
    · split at h
      · simp at h
      · rename_i h0; simp only [Option.some.injEq] at h; subst h; simp only [binOp, Op.shift]; rw [if_neg h0]; rfl
    · simp at h
  case shr =>
    unfold rf at h
    split at h
    · split at h
      · simp at h
      · rename_i h0; simp only [Option.some.injEq] at h; subst h; simp only [binOp, Op.shift]; rw [if_neg h0]; rfl
    · simp at h
  case and | or | xor | andNot =>
    unfold l6 at h
    split at h
    · split at h
      · rename_i hk; subst hk
        simp only [Option.map_eq_some_iff] at h
        obtain ⟨q, hq, rfl⟩ := h
        simp only [binOp, ne_eq, not_true_eq_false, if_false]
        exact ww hq
      · simp at h
    · simp at h
  case lss =>
    unfold bLt at h
    split at h
    · split at h
      · rename_i hk; subst hk; simp only [Option.some.injEq] at h; subst h; simp [binOp, Op.intCmp]
      · simp at h
    · simp only [Option.some.injEq] at h; subst h; simp [binOp, Op.stringOp, vY]
    · simp at h
  case leq =>
    unfold bLe at h
    split at h
    · split at h
      · rename_i hk; subst hk; simp only [Option.some.injEq] at h; subst h; simp [binOp, Op.intCmp]
      · simp at h
    · simp only [Option.some.injEq] at h; subst h; simp [binOp, Op.stringOp, vY, sEq]
    · simp at h
  case gtr =>
    unfold bGt at h
    split at h
    · split at h
      · rename_i hk; subst hk; simp only [Option.some.injEq] at h; subst h; simp [binOp, Op.intCmp]
      · simp at h
    · simp only [Option.some.injEq] at h; subst h; simp [binOp, Op.stringOp, vY, sEq]
    · simp at h
  case geq =>
    unfold bGe at h
    split at h
    · split at h
      · rename_i hk; subst hk; simp only [Option.some.injEq] at h; subst h; simp [binOp, Op.intCmp]
      · simp at h
    · simp only [Option.some.injEq] at h; subst h; simp [binOp, Op.stringOp, vY]
    · simp at h
end Go.Sx

/- Sx2c -/
namespace Go.Sx
variable {P : Program} {w : World}
def oG (P : Program) (f : TypeId → Value → Bool) (xs : Array Value) : List Field → Bool
  | [] => true
  | fd :: r => if fd.name = "_" then oG P f xs r else
    match ql P fd.type xs fd.offset with
    | some x => f fd.type x && oG P f xs r
    | none => false
def xq (P : Program) (f : TypeId → Value → Bool) (elem n : Nat) (xs : Array Value) : Nat → Nat → Bool
  | 0, _ => true
  | k + 1, i => match ql P elem xs (i * n) with
    | some x => f elem x && xq P f elem n xs k (i + 1)
    | none => false
def ckv (P : Program) : Nat → TypeId → Value → Bool
  | 0, _, _ => false
  | d + 1, t, v => match P.underlying t, v with
    | some (.int _), _ | some .string, _ | some .bool, _ => true
    | some (.struct fields), .agg xs => oG P (ckv P d) xs fields.toList
    | some (.array len elem), .agg xs => match P.info? elem with | some i => xq P (ckv P d) elem i.size xs len 0 | none => false
    | _, _ => false
theorem IG {d : Nat} {em : Bool} {f : TypeId → Value → Bool} (hf : ∀ t x, f t x = true → (Instr.checkKey em d t x).run P w = .ok () w) (xs : Array Value) :
    ∀ fs : List Field, oG P f xs fs = true →
    (forIn (m := Sem) fs PUnit.unit fun f _ => if f.name ≠ "_" then do Instr.checkKey em d f.type (← part f.type xs f.offset); pure (ForInStep.yield PUnit.unit) else pure (ForInStep.yield PUnit.unit)).run P w = .ok PUnit.unit w := by
  intro fs
  induction fs with
  | nil => intro _; simp
  | cons fd fs ih =>
    intro h
    unfold oG at h
    by_cases hn : fd.name = "_"
    · rw [if_pos hn] at h
      simp only [List.forIn_cons, hn, ne_eq, not_true_eq_false, if_false, Sem.run_bind, Sem.run_pure, Result.andThen_ok]
      exact ih h
    · rw [if_neg hn] at h
      split at h
      · rename_i x hx
        simp only [Bool.and_eq_true] at h
        simp only [List.forIn_cons, hn, ne_eq, not_false_eq_true, if_true, Sem.run_bind, gD hx, Result.andThen_ok, hf _ _ h.1, Sem.run_pure]
        exact ih h.2
      · simp at h
theorem KX {d : Nat} {em : Bool} {f : TypeId → Value → Bool} (hf : ∀ t x, f t x = true → (Instr.checkKey em d t x).run P w = .ok () w) {elem : Nat} {inf : TypeInfo} (hi : P.info? elem = some inf) (xs : Array Value) :
    ∀ (k i : Nat), xq P f elem inf.size xs k i = true →
    (forIn (m := Sem) (List.range' i k) PUnit.unit fun i _ => do Instr.checkKey em d elem (← part elem xs (i * (← sizeOf elem))); pure (ForInStep.yield PUnit.unit)).run P w = .ok PUnit.unit w := by
  intro k
  induction k with
  | zero => intro i _; simp
  | succ k ih =>
    intro i h
    unfold xq at h
    split at h
    · rename_i x hx
      simp only [Bool.and_eq_true] at h
      simp only [List.range'_succ, List.forIn_cons, Sem.run_bind, sizeOf, bN hi, gD hx, Result.andThen_ok, hf _ _ h.1, Sem.run_pure]
      simpa only [sizeOf] using ih _ h.2
    · simp at h
theorem eQ {em : Bool} : ∀ (d : Nat) (t : TypeId) (v : Value), ckv P d t v = true → (Instr.checkKey em d t v).run P w = .ok () w := by
  intro d
  induction d with
  | zero => intro t v h; simp [ckv] at h
  | succ d ih =>
    intro t v h
    unfold ckv at h
    split at h
    case h_4 =>
      rename_i fields xs hu
      have := IG ih xs _ h
      simp only [Instr.checkKey, Sem.run_bind, ay hu, Result.andThen_ok]
      rw [← Array.forIn_toList]
      simp only [this, Result.andThen_ok, Sem.run_pure]
    case h_5 =>
      rename_i len elem xs hu
      split at h
      · rename_i i hi
        have := KX ih hi xs _ _ h
        simp only [Instr.checkKey, Sem.run_bind, ay hu, Result.andThen_ok]
        rw [Std.Legacy.Range.forIn_eq_forIn_range', Std.Legacy.Range.size]
        simp only [Nat.sub_zero, Nat.add_sub_cancel, Nat.div_one]
        rw [this]; rfl
      · simp at h
    case h_6 => simp at h
    all_goals (rename_i hu; simp [Instr.checkKey, ay hu])
theorem vX {kt : TypeId} {kind : TypeDesc} (hu : P.underlying kt = some kind) {k x : Value} {b b' : Bool} {d : Nat} (h : Instr.sameNow kind k x = some b) (h' : eqv P (d + 1) kt k x = some b') : b = b' := by
  unfold Instr.sameNow at h
  split at h
  · split at h
    · rename_i hk; simp only [eqv, hu, hk, if_true, Option.some.injEq] at h'; simp_all
    · simp at h
  · simp only [eqv, hu, Option.some.injEq, uE] at h'; simp_all
  · simp only [eqv, hu, Option.some.injEq] at h'; simp_all
  · simp at h
theorem KI {kt : TypeId} {kind : TypeDesc} (hu : P.underlying kt = some kind) {k : Value} {d : Nat} : ∀ (es : List MapEntry) (i : Nat) (r r' : Option (Nat × Value)),
    Instr.findNow kind k es i = some r → lF (eqv P (d + 1) kt k) es i = some r' → r = r' := by
  intro es
  induction es with
  | nil => intro i r r' h h'; simp [Instr.findNow] at h; simp [lF] at h'; rw [← h, ← h']
  | cons e es ih =>
    intro i r r' h h'
    unfold Instr.findNow at h
    unfold lF at h'
    split at h
    · rename_i hs
      split at h'
      · simp_all
      · rename_i hq; exact absurd (vX hu hs hq) (by simp)
      · simp at h'
    · rename_i hs
      split at h'
      · rename_i hq; exact absurd (vX hu hs hq) (by simp)
      · exact ih _ _ _ h h'
      · simp at h'
    · simp at h
theorem A9 {kt : TypeId} {k : Value} : ∀ (es : List MapEntry) (i : Nat) (r : Option (Nat × Value)),
    lF (eqv P Op.maxDepth kt k) es i = some r → (Instr.findAsking kt k es i).run P w = .ok r w := by
  intro es
  induction es with
  | nil => intro i r h; simp [lF] at h; subst h; simp [Instr.findAsking]
  | cons e es ih =>
    intro i r h
    unfold lF at h
    split at h
    · rename_i hq
      simp only [Option.some.injEq] at h; subst h
      simp [Instr.findAsking, Op.equal, kQ _ _ _ _ _ hq]
    · rename_i hq
      simp [Instr.findAsking, Op.equal, kQ _ _ _ _ _ hq, ih _ _ h]
    · simp at h
theorem eY {kt : TypeId} {kind : TypeDesc} (hu : P.underlying kt = some kind) {k : Value} {es : List MapEntry} {r : Option (Nat × Value)}
    (h : lF (eqv P Op.maxDepth kt k) es 0 = some r) : (Instr.findKey kt k es).run P w = .ok r w := by
  simp only [Instr.findKey, Sem.run_bind, ay hu, Result.andThen_ok]
  split
  · rename_i r' hn
    rw [KI hu (d := 9999) es 0 _ _ hn h]; rfl
  · exact A9 _ _ _ h
end Go.Sx

/- Sx2d -/
namespace Go.Sx
variable {P : Program} {w : World}
def bO (P : Program) (t : TypeId) : Option Value := match P.info? t with | some i => i.zero | none => none
theorem iI {t : TypeId} {z : Value} (h : bO P t = some z) : (zeroValue t).run P w = .ok z w := by
  unfold bO at h
  split at h
  · rename_i i hi; simp [zeroValue, bN hi, h]
  · simp at h
def mapOf (v : Value) (w : World) : Option (Array MapEntry) := match v with
  | .map none => some #[]
  | .map (some r) => match w.heap[r]? with | some (.map es _) => some es | _ => none
  | _ => none
def bY (P : Program) (t : TypeId) (m k : Value) (ok : Bool) (w : World) : Option Value := match P.underlying t with
  | some (.map kt et) => match mapOf m w with
    | some es => if ckv P 10000 kt k = true ∧ (P.underlying kt).isSome then
        match lF (eqv P Op.maxDepth kt k) es.toList 0 with
        | some (some (_, v)) => some (if ok then .tuple #[v, .bool true] else v)
        | some none => match bO P et with
          | some z => some (if ok then .tuple #[z, .bool false] else z)
          | none => none
        | none => none
      else none
    | none => none
  | _ => none
theorem AQ {t : TypeId} {m k r : Value} {ok : Bool} (h : bY P t m k ok w = some r) : (Instr.lookup t m k ok).run P w = .ok r w := by
  unfold bY at h
  split at h
  · rename_i kt et hu
    split at h
    · rename_i es hes
      split at h
      · rename_i hck
        obtain ⟨hck, hk⟩ := hck
        obtain ⟨kind, hk⟩ := Option.isSome_iff_exists.1 hk
        unfold mapOf at hes
        split at hes
        · simp only [Option.some.injEq] at hes; subst hes
          split at h
          · rename_i hf; simp [lF] at hf
          · rename_i hf
            split at h
            · rename_i z hz
              simp only [Option.some.injEq] at h; subst h
              simp only [Instr.lookup, Sem.run_bind, ay hu, Result.andThen_ok, Sem.run_pure, eQ _ _ _ hck, eY hk hf, iI hz]
            · simp at h
          · simp at h
        · split at hes
          · rename_i hb
            simp only [Option.some.injEq] at hes; subst hes
            split at h
            · rename_i hf
              simp only [Option.some.injEq] at h; subst h
              simp only [Instr.lookup, getObj, Sem.run, hb, Sem.run_bind, ay hu, Result.andThen_ok, Sem.run_pure, eQ _ _ _ hck, eY hk hf]
            · rename_i hf
              split at h
              · rename_i z hz
                simp only [Option.some.injEq] at h; subst h
                simp only [Instr.lookup, getObj, Sem.run, hb, Sem.run_bind, ay hu, Result.andThen_ok, Sem.run_pure, eQ _ _ _ hck, eY hk hf, iI hz]
              · simp at h
            · simp at h
          · simp at hes
        · simp at hes
      · simp at h
    · simp at h
  · simp at h
def placesOf (P : Program) (fields : Array Field) (i : Nat) : Option (Nat × Nat) := (fields[i]?).map fun f => (f.offset, P.cellsOf f.type)
def aD (P : Program) (t : TypeId) (parts : List (Nat × Value)) : Option Value := match bO P t with
  | some z => match P.underlying t with
    | some (.struct fields) => if fields.toList.all (fun f => (P.info? f.type).isSome) then (Instr.fill (placesOf P fields) z.cells parts).map .agg else none
    | some (.array _ elem) => match P.info? elem with
      | some i => (Instr.fill (fun j => some (j * i.size, i.size)) z.cells parts).map .agg
      | none => none
    | _ => none
  | none => none
theorem run_places (l : List Field) (h : l.all (fun f => (P.info? f.type).isSome) = true) :
    (l.mapM (m := Sem) fun f => do pure (f.offset, ← sizeOf f.type)).run P w = .ok (l.map fun f => (f.offset, P.cellsOf f.type)) w := by
  induction l with
  | nil => simp
  | cons f l ih =>
    simp only [List.all_cons, Bool.and_eq_true] at h
    obtain ⟨i, hi⟩ := Option.isSome_iff_exists.1 h.1
    have ih := ih h.2
    have hs : (sizeOf f.type).run P w = .ok (P.cellsOf f.type) w := by simp [sizeOf, bN hi, Program.cellsOf, hi]
    simp only [List.mapM_cons, Sem.run_bind, Result.andThen_ok, hs, Sem.run_pure, ih, List.map_cons]
theorem CZ {t : TypeId} {parts : Array (Nat × Value)} {r : Value} (h : aD P t parts.toList = some r) : (Instr.build t parts).run P w = .ok r w := by
  unfold aD at h
  split at h
  · rename_i z hz
    split at h
    · rename_i fields hu
      split at h
      · rename_i hall
        simp only [Option.map_eq_some_iff] at h
        obtain ⟨c, hc, rfl⟩ := h
        have hp : (fields.mapM (m := Sem) fun f => do pure (f.offset, ← sizeOf f.type)).run P w = .ok (fields.map fun f => (f.offset, P.cellsOf f.type)) w := by
          rw [Array.mapM_eq_mapM_toList]
          simp only [Sem.run_map, run_places _ hall, Result.andThen_ok]
          congr 1
          apply Array.ext'; simp
        simp only [Instr.build, Sem.run_bind, iI hz, ay hu, hp, Result.andThen_ok]
        have : (fun x => (fields.map fun f => (f.offset, P.cellsOf f.type))[x]?) = placesOf P fields := by
          funext x; simp [placesOf]
        rw [this, hc]; rfl
      · simp at h
    · rename_i elem hu
      split at h
      · rename_i i hi
        simp only [Option.map_eq_some_iff] at h
        obtain ⟨c, hc, rfl⟩ := h
        simp only [Instr.build, Sem.run_bind, iI hz, ay hu, sizeOf, bN hi, Result.andThen_ok, Sem.run_pure]
        rw [hc]; rfl
      · simp at h
    · simp at h
  · simp at h
theorem yz : ∀ (l : List Value) (bs : List UInt8) (s : ByteArray), bytesOf l = some bs →
    (forIn (m := Sem) l s fun c s => match c with
      | .int .u8 n => pure (ForInStep.yield (s.push (UInt8.ofNat n.toNat)))
      | _ => do
        (stuck "bytesToString: byte expected" : Sem PUnit)
        pure (ForInStep.yield s)).run P w = .ok ⟨s.data ++ bs.toArray⟩ w := by
  intro l
  induction l with
  | nil => intro bs s h; simp [bytesOf] at h; subst h; simp
  | cons v l ih =>
    intro bs s h
    unfold bytesOf at h
    split at h
    · simp at *
    · rename_i n r heq
      simp only [List.cons.injEq] at heq
      obtain ⟨rfl, rfl⟩ := heq
      simp only [Option.map_eq_some_iff] at h
      obtain ⟨bs', h', rfl⟩ := h
      simp only [List.forIn_cons, Sem.run_bind, Sem.run_pure, Result.andThen_ok]
      rw [ih _ _ h']
      simp [ByteArray.push]
    · simp at h
theorem AV {x r : Value} (h : gF x w = some r) : (Conv.bytesToString x).run P w = .ok r w := by
  unfold gF at h
  split at h
  · simp only [Option.some.injEq] at h; subst h; simp [Conv.bytesToString]
  · split at h
    · split at h
      · rename_i hb hsz
        simp only [Option.map_eq_some_iff] at h
        obtain ⟨bs, h, rfl⟩ := h
        simp only [Conv.bytesToString, Sem.run_bind, kP hb hsz, Result.andThen_ok]
        rw [← Array.forIn_toList]
        have := yz (P := P) (w := w) _ _ ByteArray.empty h
        refine (congrArg (fun z => Result.andThen z _) this).trans ?_
        simp [ByteArray.empty, ByteArray.emptyWithCapacity]
        rfl
      · simp at h
    · simp at h
  · simp at h
def Sn (P : Program) (s d : TypeId) (x : Value) (w : World) : Option Value := match P.underlying s, P.underlying d with
  | some _, some (.int k) => iG k x
  | some (.slice e), some .string => match P.underlying e with | some (.int .u8) => gF x w | _ => none
  | some _, some .string => cStr x
  | _, _ => none
theorem Gp {s d : TypeId} {x r : Value} (h : Sn P s d x w = some r) : (convert s d x).run P w = .ok r w := by
  unfold Sn at h
  split at h
  · rename_i u k hs hd
    unfold iG at h
    split at h
    · simp only [Option.some.injEq] at h; subst h
      cases u <;> simp [convert, ay hs, ay hd, Conv.intToInt]
    · simp at h
  · rename_i e hs hd
    split at h
    · rename_i he
      have := AV (P := P) h
      unfold gF at h
      split at h
      · simp [convert, ay hs, ay hd, ay he, this]
      · simp [convert, ay hs, ay hd, ay he, this]
      · simp at h
    · simp at h
  · rename_i u hx hs hd
    unfold cStr at h
    split at h
    · simp only [Option.some.injEq] at h; subst h
      cases u <;> simp [convert, ay hs, ay hd]
    · simp at h
  · simp at h
end Go.Sx

/- Sx3 -/
namespace Go.Sx
variable {P : Program} {w : World}
def Pv (P : Program) (t : TypeId) (x : Value) : Option Value := match P.underlying t with
  | some (.interface _) => none
  | some _ => some (.iface t x)
  | none => none
def zh (P : Program) (s : TypeId) (x : Value) (f : Nat) : Option Value := match P.underlying s with
  | some (.struct fs) => match fs[f]? with
    | some fd => match P.info? fd.type with
      | some i => match Nat.beq i.size 0 with
        | true => none
        | false => ae fd.offset x
      | none => none
    | none => none
  | _ => none
def Sm (P : Program) (t : TypeId) (x : Value) (f : Nat) : Option Value := match P.underlying t with
  | some (.struct fs) => match fs[f]? with
    | some fd => match x with | .agg cs => ql P fd.type cs fd.offset | _ => none
    | none => none
  | _ => none
def zg (P : Program) (t : TypeId) (x i : Value) : Option Value := match P.underlying t with
  | some (.slice el) => match P.info? el with | some n => bq n.size x i | none => none
  | some (.array len el) => match P.info? el with | some n => iq len n.size x i | none => none
  | _ => none
def Sl (P : Program) (t : TypeId) (x i : Value) : Option Value := match P.underlying t with
  | some .string => dG x i
  | some (.array len el) => match P.info? el with | some _ => MS P len el x i | none => none
  | _ => none
def Z6 (P : Program) (t : TypeId) (x : Value) (w : World) : Option Value := match P.underlying t with
  | some (.array n _) => some (.int .i64 n)
  | some .string => match x with | .string s => some (.int .i64 s.size) | _ => none
  | some (.slice _) => match x with | .slice _ n _ => some (.int .i64 n) | _ => none
  | some (.map _ _) => match mapOf x w with | some es => some (.int .i64 es.size) | none => none
  | _ => none
def fCap (P : Program) (t : TypeId) (x : Value) : Option Value := match P.underlying t with
  | some (.slice _) => Vo x
  | _ => none
def Nl (P : Program) (x : Value) (t : TypeId) (ok : Bool) : Option Value := match P.underlying t with
  | some (.interface _) => none
  | some _ => match x with
    | .iface u v => match Nat.beq u t with
      | true => some (if ok then .tuple #[v, .bool true] else v)
      | false => none
    | _ => none
  | none => none
def u7 (it : Value) (w : World) : Option Value := match it with
  | .pointer (some ⟨r, 0, _⟩) => match w.heap[r]? with
    | some (.mapIter (some m) _ seen stepped) => match seen.back?, w.heap[m]? with
      | some stamp, some (.map es clock) => if clock = stepped then (es.find? (·.born == stamp)).map fun e => .tuple #[e.key, e.val] else none
      | _, _ => none
    | _ => none
  | _ => none
def Sq (P : Program) (e : Env) (c : Call) (w : World) : Option Value := match c.callee, c.args.toList, c.argTypes.toList with
  | .builtin .len, [x], [t] => Z6 P t (ev e x) w
  | .builtin .cap, [x], [t] => fCap P t (ev e x)
  | .builtin .min, [x, y], _ => OD (ev e x) (ev e y)
  | .builtin .max, [x, y], _ => QI (ev e x) (ev e y)
  | _, _, _ => none
def fop (P : Program) (e : Env) (o : Op) (w : World) : Option Value := match o with
  | .move x => some (ev e x)
  | .assign x => some (ev e x)
  | .pick c a b => aG (ev e c) (ev e a) (ev e b)
  | .nilCheck x => cZ (ev e x)
  | .load t a => Cb P t (ev e a) w
  | .binOp op t x y _ => fBin P op t x y (ev e x) (ev e y)
  | .unOp op _ x => fUn op (ev e x)
  | .convert s d x => Sn P s d (ev e x) w
  | .makeInterface t x => Pv P t (ev e x)
  | .makeFunc fn f c => some (.func fn (f.toList.map (ev e)).toArray (c.toList.map (ev e)).toArray)
  | .fieldAddr s x f => zh P s (ev e x) f
  | .field t x f => Sm P t (ev e x) f
  | .indexAddr t x i => zg P t (ev e x) (ev e i)
  | .index t x i => Sl P t (ev e x) (ev e i)
  | .slice t x lo hi mx => KN P t (ev e x) (lo.map (ev e)) (hi.map (ev e)) (mx.map (ev e))
  | .lookup t x i ok => bY P t (ev e x) (ev e i) ok w
  | .build t parts => aD P t (parts.toList.map fun p => (p.1, ev e p.2))
  | .extract x i => aK (ev e x) i
  | .typeAssert x _ t ok => Nl P (ev e x) t ok
  | .entry it => u7 (ev e it) w
  | .call c => Sq P e c w
  | _ => none
theorem wX {v r : Value} {o : Oper} {e : Env} {x : Operand} (ho : o.op = .nilCheck x) (hx : ev e x = v) (h : cZ v = some r) : (execOp (ev e) o).run P w = .ok (.value r) w := by
  unfold cZ at h
  split at h <;> simp at h <;> subst h <;> simp [execOp, ho, hx]
theorem KF {e : Env} {o : Oper} {v : Value} (h : fop P e o.op w = some v) : (execOp (ev e) o).run P w = .ok (.value v) w := by
  obtain ⟨dst, op, ty, pos, aft, gd⟩ := o
  simp only at h
  cases op <;> simp only [fop] at h
  case move | assign => simp only [Option.some.injEq] at h; subst h; simp [execOp]
  case pick c a b =>
    unfold aG at h
    split at h
    · rename_i hc; simp only [Option.some.injEq] at h; subst h; simp [execOp, hc, asBool]
    · rename_i hc; simp only [Option.some.injEq] at h; subst h; simp [execOp, hc, asBool]
    · simp at h
  case nilCheck x => exact wX rfl rfl h
  case load t a => simp [execOp, wo h]
  case binOp op t x y yt => simp only [execOp, Sem.run_bind, (wy (w := w) h).1, (wy (w := w) h).2, Result.andThen_ok, Sem.run_pure]
  case unOp op t x =>
    unfold fUn at h
    cases op <;> simp only at h
    case not => unfold dN at h; split at h <;> simp at h; rename_i hx; subst h; simp [execOp, hx, Op.unary]
    case neg => unfold uNeg at h; split at h <;> simp at h; rename_i hx; subst h; simp [execOp, hx, Op.unary, Op.intArith]
    case xor =>
      unfold uXor at h; split at h
      · rename_i hx
        simp only [Option.map_eq_some_iff] at h
        obtain ⟨q, hq, rfl⟩ := h
        simp [execOp, hx, Op.unary, ww hq]
      · simp at h
    all_goals simp at h
  case convert s d x => simp [execOp, Gp h]
  case makeInterface t x =>
    unfold Pv at h
    split at h
    · simp at h
    · rename_i d hn hu
      simp only [Option.some.injEq] at h; subst h
      simp only [execOp, Instr.makeInterface, Sem.run_bind, ay hu, Result.andThen_ok]
      cases d <;> first | (exact absurd rfl (hn _)) | rfl
    · simp at h
  case makeFunc fn f c =>
    simp only [Option.some.injEq] at h; subst h
    have h1 : ∀ x : Array Operand, (x.toList.map (ev e)).toArray = x.map (ev e) := fun x => by apply Array.ext'; simp
    simp [execOp, Instr.makeFunc, h1]
  case fieldAddr s x f =>
    unfold zh at h
    split at h
    · rename_i fs hu
      split at h
      · rename_i fd hf
        split at h
        · rename_i i hi
          split at h
          · simp at h
          · rename_i hz
            have hz' : P.cellsOf fd.type ≠ 0 := by simp only [Program.cellsOf, hi]; intro h0; simp at h0; rw [h0] at hz; simp at hz
            simp [execOp, uG hu hf (by rw [hi]; simp) hz' h]
        · simp at h
      · simp at h
    · simp at h
  case field t x f =>
    unfold Sm at h
    split at h
    · rename_i fs hu
      split at h
      · rename_i fd hf
        split at h
        · rename_i cs hx
          simp [execOp, Instr.field, ay hu, hf, hx, asAgg, gD h]
        · simp at h
      · simp at h
    · simp at h
  case indexAddr t x i =>
    unfold zg at h
    split at h
    · rename_i el hu
      split at h
      · rename_i n hi
        unfold bq at h
        split at h
        · rename_i hx hix
          split at h
          · rename_i hb
            simp only [Option.some.injEq] at h; subst h
            simp [execOp, Instr.indexAt, hx, hix, asIntOf, ay hu, hb, sizeOf, bN hi, Addr.add]
          · simp at h
        · simp at h
      · simp at h
    · rename_i len el hu
      split at h
      · rename_i n hi
        unfold iq at h
        split at h
        · rename_i hx hix
          split at h
          · rename_i hb
            simp only [Option.some.injEq] at h; subst h
            simp [execOp, Instr.indexAt, Instr.sureAddr, hx, hix, asIntOf, ay hu, hb, sizeOf, bN hi, Addr.add]
          · simp at h
        · simp at h
      · simp at h
    · simp at h
  case index t x i =>
    unfold Sl at h
    split at h
    · rename_i hu
      unfold dG at h
      split at h
      · rename_i s k n hx hix
        split at h
        · rename_i h0
          simp only [Option.map_eq_some_iff] at h
          obtain ⟨b, hb, rfl⟩ := h
          simp [execOp, Instr.index, hx, hix, asIntOf, ay hu, h0, hb]
        · simp at h
      · simp at h
    · rename_i len el hu
      split at h
      · rename_i n hi
        unfold MS at h
        split at h
        · rename_i cs k m hx hix
          split at h
          · rename_i h0
            have hc : P.cellsOf el = n.size := by simp [Program.cellsOf, hi]
            rw [hc] at h
            simp [execOp, Instr.index, hx, hix, asIntOf, ay hu, h0, sizeOf, bN hi, gD h]
          · simp at h
        · simp at h
      · simp at h
    · simp at h
  case slice t x lo hi mx => simp [execOp, CX h]
  case lookup t x i ok => simp [execOp, AQ h]
  case build t parts =>
    have : (parts.map fun p => (p.1, ev e p.2)).toList = parts.toList.map fun p => (p.1, ev e p.2) := by simp
    rw [← this] at h
    simp [execOp, CZ h]
  case extract x i =>
    unfold aK at h
    split at h
    · rename_i hx; simp [execOp, hx, Instr.extract, h]
    · simp at h
  case typeAssert x xt t ok =>
    unfold Nl at h
    split at h
    · simp at h
    · rename_i d hn hu
      split at h
      · rename_i u v' hx
        split at h
        · rename_i he
          have he : u = t := Nat.eq_of_beq_eq_true he
          subst he
          simp only [Option.some.injEq] at h; subst h
          cases d <;> first | (exact absurd rfl (hn _)) | (simp [execOp, Instr.typeAssert, hx, ay hu])
        · simp at h
      · simp at h
    · simp at h
  case entry it =>
    unfold u7 at h
    split at h
    · rename_i hx
      split at h
      · rename_i hb
        split at h
        · rename_i hs hm
          split at h
          · rename_i hc
            simp only [Option.map_eq_some_iff] at h
            obtain ⟨en, hen, rfl⟩ := h
            simp [execOp, Instr.entry, hx, getObj, Sem.run, hb, hs, hm, hc, hen]
          · simp at h
        · simp at h
      · simp at h
    · simp at h
  case call c =>
    obtain ⟨cal, args, ats⟩ := c
    unfold Sq at h
    simp only at h
    split at h
    · rename_i x t ha ht
      obtain rfl : args = #[x] := Array.ext' ha
      obtain rfl : ats = #[t] := Array.ext' ht
      unfold Z6 at h
      split at h
      · rename_i hu
        simp only [Option.some.injEq] at h; subst h
        simp [execOp, resolve, invoke, builtin, Builtin.len_, ay hu, goInt]
      · rename_i hu
        split at h
        · rename_i hx; simp only [Option.some.injEq] at h; subst h
          simp [execOp, resolve, invoke, builtin, Builtin.len_, ay hu, goInt, hx]
        · simp at h
      · rename_i hu
        split at h
        · rename_i hx; simp only [Option.some.injEq] at h; subst h
          simp [execOp, resolve, invoke, builtin, Builtin.len_, ay hu, goInt, hx]
        · simp at h
      · rename_i hu
        split at h
        · rename_i es hes
          simp only [Option.some.injEq] at h; subst h
          unfold mapOf at hes
          split at hes
          · rename_i hx; simp only [Option.some.injEq] at hes; subst hes
            simp [execOp, resolve, invoke, builtin, Builtin.len_, ay hu, goInt, hx]
          · rename_i hx
            split at hes
            · rename_i hb; simp only [Option.some.injEq] at hes; subst hes
              simp [execOp, resolve, invoke, builtin, Builtin.len_, ay hu, goInt, hx, getObj, Sem.run, hb]
            · simp at hes
          · simp at hes
        · simp at h
      · simp at h
    · rename_i x t ha ht
      obtain rfl : args = #[x] := Array.ext' ha
      obtain rfl : ats = #[t] := Array.ext' ht
      unfold fCap at h
      split at h
      · rename_i hu
        unfold Vo at h
        split at h
        · rename_i hx; simp only [Option.some.injEq] at h; subst h
          simp [execOp, resolve, invoke, builtin, Builtin.cap_, ay hu, goInt, hx]
        · simp at h
      · simp at h
    · rename_i x y ha
      obtain rfl : args = #[x, y] := Array.ext' ha
      unfold OD at h
      split at h
      · rename_i hx hy; simp only [Option.some.injEq] at h; subst h
        simp [execOp, resolve, invoke, builtin, Builtin.min_, hx, hy, Builtin.min2]
      · simp at h
    · rename_i x y ha
      obtain rfl : args = #[x, y] := Array.ext' ha
      unfold QI at h
      split at h
      · rename_i hx hy; simp only [Option.some.injEq] at h; subst h
        simp [execOp, resolve, invoke, builtin, Builtin.max_, hx, hy, Builtin.max2]
      · simp at h
    · simp at h
  all_goals simp at h
end Go.Sx

/- Sx4 -/
namespace Go.Sx
variable {P : Program} {w : World}
def dK (w : World) (b : Nat) (o : Obj) : World := { w with heap := w.heap.setIfInBounds b o }
def wr (c : Array Value) (o : Nat) : List Value → Array Value
  | [] => c
  | v :: r => wr (c.setIfInBounds o v) (o + 1) r
@[simp] theorem size_wr (l : List Value) : ∀ (c : Array Value) (o : Nat), (wr c o l).size = c.size := by
  induction l with
  | nil => intro c o; rfl
  | cons v l ih => intro c o; simp [wr, ih]
def mM (w : World) (b o : Nat) (vs : List Value) : Option World := match w.heap[b]? with
  | some (.cells c ty fz) => if o + vs.length ≤ c.size ∧ (fz.2 ≤ fz.1 ∨ o + vs.length ≤ fz.1 ∨ fz.2 ≤ o) ∧ vs.all (·.oneCell') = true then
      some (dK w b (.cells (wr c o vs) ty fz)) else none
  | _ => none
theorem qQ (w : World) (b : Nat) (o : Obj) (b' : Nat) : (dK w b o).heap[b']? = if b = b' then (if b < w.heap.size then some o else none) else w.heap[b']? := by
  simp only [dK, Array.getElem?_setIfInBounds]
theorem AP (w : World) (b : Nat) (o o' : Obj) : dK (dK w b o) b o' = dK w b o' := by
  simp [dK, Array.setIfInBounds_setIfInBounds]
theorem dX {b : Nat} {o : Obj} (h : w.heap[b]? = some o) : b < w.heap.size := by
  rcases Nat.lt_or_ge b w.heap.size with h' | h'
  · exact h'
  · simp [Array.getElem?_eq_none h'] at h
theorem setCell_eq {b i : Nat} {c : Array Value} {ty : TypeId} {fz : Nat × Nat} (hb : w.heap[b]? = some (.cells c ty fz)) (v : Value) :
    w.setCell ⟨b, i, none⟩ v = dK w b (.cells (c.setIfInBounds i v) ty fz) := by
  have hlt := dX hb
  have he : w.heap.modify b (fun | .cells c elem frozen => .cells (c.setIfInBounds i v) elem frozen | o => o) = w.heap.setIfInBounds b (.cells (c.setIfInBounds i v) ty fz) := by
    apply Array.ext_getElem?
    intro j
    rw [Array.getElem?_modify, Array.getElem?_setIfInBounds]
    by_cases hj : b = j
    · subst hj; rw [if_pos rfl, if_pos rfl, hb, if_pos hlt]; rfl
    · rw [if_neg hj, if_neg hj]
  simp only [World.setCell, Option.isSome_none, Bool.false_eq_true, if_false, dK]
  exact congrArg (fun h => ({ w with heap := h } : World)) he
theorem AL {b : Nat} {ty : TypeId} {fz : Nat × Nat} (o : Nat) : ∀ (vs : List Value) (w : World) (c : Array Value) (i : Nat), w.heap[b]? = some (.cells c ty fz) →
    o + i + vs.length ≤ c.size → (fz.2 ≤ fz.1 ∨ o + i + vs.length ≤ fz.1 ∨ fz.2 ≤ o + i) → vs.all (·.oneCell') = true →
    (storeCells ⟨b, o, none⟩ vs i).run P w = .ok () (dK w b (.cells (wr c (o + i) vs) ty fz)) := by
  intro vs
  induction vs with
  | nil =>
    intro w c i hb _ _ _
    have : dK w b (.cells (wr c (o + i) []) ty fz) = w := by
      have hlt := dX hb
      simp only [wr, dK]
      have : w.heap.setIfInBounds b (.cells c ty fz) = w.heap := by
        apply Array.ext_getElem?
        intro j
        rw [Array.getElem?_setIfInBounds]
        split
        · rename_i h; subst h; exact hb.symm
        · rfl
      rw [this]
    rw [this]; simp [storeCells]
  | cons v vs ih =>
    intro w c i hb hsz hf hall
    simp only [List.all_cons, Bool.and_eq_true] at hall
    simp only [List.length_cons] at hsz hf
    have hadd : (⟨b, o, none⟩ : Addr).add i = ⟨b, o + i, none⟩ := by unfold Addr.add; split <;> simp_all
    have hc : w.cell? ⟨b, o + i, none⟩ = some (c[o + i]'(by omega)) := by simp [World.cell?, hb, show o + i < c.size by omega]
    have hfz : w.frozen? ⟨b, o + i, none⟩ = false := by
      simp only [World.frozen?, hb]
      rw [Bool.and_eq_false_iff, decide_eq_false_iff_not, decide_eq_false_iff_not]; omega
    simp only [storeCells, Sem.run_bind, hadd, run_store P w _ v _ hall.1, hc, hfz, Bool.false_eq_true, if_false, Result.andThen_ok]
    rw [setCell_eq hb]
    have hlt := dX hb
    have hb' : (dK w b (.cells (c.setIfInBounds (o + i) v) ty fz)).heap[b]? = some (.cells (c.setIfInBounds (o + i) v) ty fz) := by
      rw [qQ, if_pos rfl, if_pos hlt]
    rw [ih _ _ (i + 1) hb' (by simp; omega) (by omega) hall.2, AP]
    rfl
theorem wh {b o : Nat} {vs : List Value} {w' : World} (h : mM w b o vs = some w') : (storeCells ⟨b, o, none⟩ vs).run P w = .ok () w' := by
  unfold mM at h
  split at h
  · rename_i hb
    split at h
    · rename_i hc
      simp only [Option.some.injEq] at h; subst h
      have := AL (P := P) o vs w _ 0 hb (by omega) (by omega) hc.2.2
      simpa using this
    · simp at h
  · simp at h
def KM (P : Program) (t : TypeId) (a x : Value) (w : World) : Option World := match P.info? t with
  | some i => match a with
    | .pointer (some ⟨b, o, none⟩) => if x.cells.size = i.size then mM w b o x.cells.toList else none
    | _ => none
  | none => none
theorem JS {t : TypeId} {a x : Value} {w' : World} (h : KM P t a x w = some w') : (Instr.storeAt t a x).run P w = .ok () w' := by
  unfold KM at h
  split at h
  · rename_i i hi
    split at h
    · split at h
      · rename_i hs
        simp [Instr.storeAt, Instr.sureAddr, storeVar, sizeOf, bN hi, hs, wh h]
      · simp at h
    · simp at h
  · simp at h
def ptr (b : Nat) : Value := .pointer (some ⟨b, 0, none⟩)
def sl (b len cap : Nat) : Value := .slice (some ⟨b, 0, none⟩) len cap
def aY (P : Program) (t : TypeId) (w : World) (k : Value → World → Prop) : Prop := match bO P t with
  | some z => k (ptr w.heap.size) (w.alloc (.cells z.cells t))
  | none => False
def bT (t : TypeId) (v : Value) (w : World) (k : Value → World → Prop) : Prop := k (ptr w.heap.size) (w.alloc (.cells v.cells t))
def uy (z : Array Value) (n : Nat) : Array Value := (Array.range n).map (z[· % z.size]!)
def zOf (P : Program) (el n : Nat) : Option (Array Value) := if n = 0 then some #[] else (bO P el).map (·.cells)
def dx (P : Program) (el : TypeId) (len : Nat) (parts : List (Nat × Value)) : Option (Array Value) := match P.info? el with
  | some i => if len * i.size ≤ 2 ^ 24 then match zOf P el (len * i.size) with
      | some z => Instr.fill (fun j => some (j * i.size, i.size)) (uy z (len * i.size)) parts
      | none => none
    else none
  | none => none
def aB (P : Program) (t : TypeId) (len : Nat) (parts : List (Nat × Value)) (w : World) (k : Value → World → Prop) : Prop := match P.underlying t with
  | some (.slice el) => match dx P el len parts with
    | some c => k (sl w.heap.size len len) (w.alloc (.cells c el))
    | none => False
  | _ => False
def eG (r : Option Value) (w : World) (k : Value → World → Prop) : Prop := match r with
  | none => k (.map (some w.heap.size)) (w.alloc (.map #[] 0))
  | some _ => False
def pX (P : Program) (t : TypeId) (l c : Value) (w : World) (k : Value → World → Prop) : Prop := match P.underlying t with
  | some (.slice el) => match P.info? el, l, c with
    | some i, .int .i64 l, .int .i64 c => 0 ≤ l ∧ l ≤ c ∧ c < 2 ^ 63 ∧ i.bytes * c ≤ 2 ^ 48 ∧
      match zOf P el (c.toNat * i.size) with
      | some z => k (sl w.heap.size l.toNat c.toNat) (w.alloc (.cells (uy z (c.toNat * i.size)) el))
      | none => False
    | _, _, _ => False
  | _ => False
def firstC (size n : Nat) (x : Value) (w : World) : Option (Array Value) := match x with
  | .slice none _ _ => some #[]
  | .slice (some a) _ _ => if n * size = 0 then some #[] else match a with
    | ⟨b, o, none⟩ => match w.heap[b]? with
      | some (.cells c _ _) => if o + n * size ≤ c.size then some (c.extract o (o + n * size)) else none
      | _ => none
    | _ => none
  | .string s => some ((s.extract 0 n).data.map fun b => .int .u8 b.toNat)
  | _ => none
def lenV (x : Value) : Option Nat := match x with
  | .slice _ n _ => some n
  | .string s => some s.size
  | _ => none
def lw (w : World) (base : Option Addr) (off : Nat) (vs : List Value) : Option World := match base with
  | none => some w
  | some ⟨b, o, none⟩ => mM w b (o + off) vs
  | some _ => none
def nN (P : Program) (t : TypeId) : Bool := match P.underlying t with
  | some (.slice _) => true
  | some .string => true
  | _ => false
def aJ (P : Program) (t xt : TypeId) (s x : Value) (w : World) (k : Value → World → Prop) : Prop := match P.underlying t with
  | some (.slice el) => match P.info? el, nN P xt, s, lenV x with
    | some i, true, .slice base sLen sCap, some n => match firstC i.size n x w with
      | some new =>
        (sLen + n ≤ sCap → match lw w base (sLen * i.size) new.toList with
          | some w' => k (.slice base (sLen + n) sCap) w'
          | none => False) ∧
        (sCap < sLen + n → Builtin.nextslicecap (sLen + n) sCap * i.bytes ≤ 2 ^ 48 ∧ i.bytes ≠ 0 ∧
          match firstC i.size sLen s w, bO P el with
          | some old, some z => ∀ cap, sLen + n ≤ cap → k (sl w.heap.size (sLen + n) cap) (w.drew.alloc (.cells (old ++ new ++ Builtin.zeroCells z.cells (cap - (sLen + n))) el))
          | _, _ => False)
      | none => False
    | _, _, _, _ => False
  | _ => False
def Ce (P : Program) (t : TypeId) (d x : Value) (w : World) (k : Value → World → Prop) : Prop := match P.underlying t with
  | some (.slice el) => match P.info? el, d, lenV x with
    | some i, .slice base dLen _, some m => match firstC i.size (Nat.min m dLen) x w with
      | some new => match lw w base 0 new.toList with
        | some w' => k (.int .i64 (Nat.min m dLen)) w'
        | none => False
      | none => False
    | _, _, _ => False
  | _ => False
def unit : Value := .tuple #[]
def bz (P : Program) (t : TypeId) (m key v : Value) (w : World) (k : Value → World → Prop) : Prop := match P.underlying t with
  | some (.map kt _) => match m with
    | .map (some r) => match w.heap[r]? with
      | some (.map es clock) => (ckv P 10000 kt key = true ∧ (P.underlying kt).isSome = true) ∧
        match lF (eqv P Op.maxDepth kt key) es.toList 0 with
        | some (some (i, _)) => Instr.sameBits 10000 (((es[i]?).map (·.key)).getD key) key = true ∧ k unit (dK w r (.map (es.modify i fun e => { e with key := key, val := v }) clock))
        | some none => k unit (dK w r (.map (es.push { key := key, val := v, born := clock }) (clock + 1)))
        | none => False
      | _ => False
    | _ => False
  | _ => False
def bE (P : Program) (t : TypeId) (m key : Value) (w : World) (k : Value → World → Prop) : Prop := match P.underlying t with
  | some (.map kt _) => match m with
    | .map (some r) => match w.heap[r]? with
      | some (.map es clock) => (ckv P 10000 kt key = true ∧ (P.underlying kt).isSome = true) ∧
        match lF (eqv P Op.maxDepth kt key) es.toList 0 with
        | some (some (i, _)) => k unit (dK w r (.map (es.eraseIdxIfInBounds i) clock))
        | some none => k unit (dK w r (.map es clock))
        | none => False
      | _ => False
    | _ => False
  | _ => False
def l5 (P : Program) (t : TypeId) (m : Value) (w : World) (k : Value → World → Prop) : Prop := match P.underlying t with
  | some (.map _ _) => match m with
    | .map none => k unit w
    | .map (some r) => match w.heap[r]? with
      | some (.map _ clock) => k unit (dK w r (.map #[] clock))
      | _ => False
    | _ => False
  | _ => False
def bK (P : Program) (t : TypeId) (x : Value) (w : World) (k : Value → World → Prop) : Prop := match P.underlying t with
  | some .string => match x with
    | .string s => k (ptr w.heap.size) (w.alloc (.stringIter s 0))
    | _ => False
  | some (.map _ _) => match x with
    | .map none => k (ptr w.heap.size) (w.alloc (.mapIter none 0 #[] 0))
    | .map (some m) => match w.heap[m]? with
      | some (.map _ clock) => k (ptr w.heap.size) (w.alloc (.mapIter (some m) clock #[] clock))
      | _ => False
    | _ => False
  | _ => False
def over : Value := .tuple #[.bool false]
def kW (es : Array MapEntry) (since : Nat) (seen : Array Nat) : Array (Option MapEntry) :=
  let left := es.filter fun e => !seen.contains e.born
  let old := left.filter (·.born < since)
  let new := left.filter (·.born ≥ since)
  (if old.isEmpty then #[none] else #[]) ++ (old ++ new).map some
def bZ (it : Value) (isString : Bool) (w : World) (k : Value → World → Prop) : Prop := match it with
  | .pointer (some ⟨r, 0, _⟩) => match w.heap[r]?, isString with
    | some (.stringIter s pos), true => if pos < s.size then
        k (.tuple #[.bool true, .int .i64 pos, .int .i32 (Utf8.decode s pos).1]) (dK w r (.stringIter s (pos + (Utf8.decode s pos).2))) else k over w
    | some (.mapIter none _ _ _), false => k over w
    | some (.mapIter (some m) since seen last), false => match w.heap[m]? with
      | some (.map es clock) => (!seen.isEmpty && !es.isEmpty && es.all (·.born ≥ last)) = false ∧
        ∀ (j : Nat) (w1 : World), (w1 = w ∨ w1 = w.drew) → j < (kW es since seen).size → match (kW es since seen)[j]? with
          | some (some e) => k (.tuple #[.bool true, e.key, e.val]) (dK w1 r (.mapIter (some m) since (seen.push e.born) clock))
          | some none => k over w1
          | none => False
      | _ => False
    | _, _ => False
  | _ => False
def iX (P : Program) (s d : TypeId) (x : Value) (w : World) (k : Value → World → Prop) : Prop := match P.underlying s, P.underlying d with
  | some .string, some (.slice el) => match P.underlying el, x with
    | some (.int .u8), .string s => ∀ cap, s.size ≤ cap → k (sl w.heap.size s.size cap)
        (w.drew.alloc (.cells ((s.data.map fun b => .int .u8 b.toNat) ++ Array.replicate (cap - s.size) (.int .u8 0)) el (cap, cap + 1)))
    | _, _ => False
  | _, _ => False
abbrev eT := FuncId → List Value → World → (Value → World → Prop) → Prop
abbrev FnT := List Value → World → (Value → World → Prop) → Prop
def ai (F : FnT) (args : List Value) (w : World) (k : Value → World → Prop) : Prop := ∃ k0, F args w k0 ∧ ∀ v w', k0 v w' → k v w'
def gP (call : eT) (f : Value) (args : List Value) (w : World) (k : Value → World → Prop) : Prop := match f with
  | .func (.func g) first captured => ai (call g) (first.toList ++ (args ++ captured.toList)) w k
  | _ => False
def bF (o : Option World) (k : World → Prop) : Prop := match o with | some w => k w | none => False
def Sw (P : Program) (call : eT) (e : Env) (c : Call) (w : World) (k : Value → World → Prop) : Prop := match c.callee with
  | .value f => gP call (ev e f) (c.args.toList.map (ev e)) w k
  | .builtin b => match b, c.args.toList, c.argTypes.toList with
    | .append, [s, x], [t, xt] => aJ P t xt (ev e s) (ev e x) w k
    | .copy, [d, x], [t, _] => Ce P t (ev e d) (ev e x) w k
    | .delete, [m, x], [t, _] => bE P t (ev e m) (ev e x) w k
    | .clear, [m], [t] => l5 P t (ev e m) w k
    | _, _, _ => False
  | .invoke _ _ => False
def eop (P : Program) (call : eT) (e : Env) (o : Op) (w : World) (k : Value → World → Prop) : Prop := match o with
  | .alloc t => aY P t w k
  | .box t x => bT t (ev e x) w k
  | .buildSlice t len parts => aB P t len (parts.toList.map fun p => (p.1, ev e p.2)) w k
  | .store t a x => bF (KM P t (ev e a) (ev e x) w) fun w' => k undef w'
  | .makeMap _ r => eG (r.map (ev e)) w k
  | .makeSlice t l c => pX P t (ev e l) (ev e c) w k
  | .mapUpdate t m key v => bz P t (ev e m) (ev e key) (ev e v) w k
  | .insert t m key v => bz P t (ev e m) (ev e key) (ev e v) w k
  | .range t x => bK P t (ev e x) w k
  | .next it s => bZ (ev e it) s w k
  | .convert s d x => iX P s d (ev e x) w k
  | .call c => Sw P call e c w k
  | _ => False
end Go.Sx

/- Sx5 -/
namespace Go.Sx
variable {P : Program} {w : World}
def vT (P : Program) (f : FuncId) (args : Array Value) (w : World) (k : Value → World → Prop) : Prop :=
  ((callFunc f args).run P w = .ok (.enter f args) w ∧ Calls P f args w (fun e w' => ∃ v, e = .returned v ∧ k v w')) ∨
  (∃ v w', (callFunc f args).run P w = .ok (.value v) w' ∧ k v w')
theorem vT.mono {f : FuncId} {args : Array Value} {k k' : Value → World → Prop} (h : vT P f args w k) (hk : ∀ v w', k v w' → k' v w') : vT P f args w k' := by
  rcases h with ⟨h1, h2⟩ | ⟨v, w', h1, h2⟩
  · exact .inl ⟨h1, h2.mono fun e w' ⟨v, he, h⟩ => ⟨v, he, hk _ _ h⟩⟩
  · exact .inr ⟨v, w', h1, hk _ _ h2⟩
def lm (P : Program) (call : eT) : Prop := ∀ f args w k, call f args w k → vT P f args.toArray w k
def zD (P : Program) (s : Sem Next) (w : World) (k : Value → World → Prop) : Prop :=
  (∃ v w', s.run P w = .ok (.value v) w' ∧ k v w') ∨ (∃ w', s.run P w = .ok .skip w' ∧ k undef w') ∨
  (∃ f args, s.run P w = .ok (.enter f args) w ∧ Calls P f args w (fun e w' => ∃ v, e = .returned v ∧ k v w'))
theorem qH {o : Oper} {a : Act} {next : Act → World → Prop} {Q : Exit → Act → World → Prop} {k : Value → World → Prop}
    (h : zD P (execOp a.eval o) w k) (hk : ∀ v w', k v w' → next (a.put o.dst v) w') : o.wp P a w next Q := by
  unfold Oper.wp
  rcases h with ⟨v, w', hr, h⟩ | ⟨w', hr, h⟩ | ⟨f, args, hr, h⟩
  · rw [hr]; exact hk _ _ h
  · rw [hr]; exact hk _ _ h
  · rw [hr, Oper.upon_enter]
    refine h.mono ?_
    rintro e w' ⟨v, rfl, h⟩
    exact hk _ _ h
theorem gM {s : Sem Value} {k : Value → World → Prop} {v : Value} {w' : World} (h : s.run P w = .ok v w') (hk : k v w') :
    zD P (do pure (.value (← s))) w k := .inl ⟨v, w', by simp [h], hk⟩
theorem uF {s : Sem Unit} {k : Value → World → Prop} {w' : World} (h : s.run P w = .ok () w') (hk : k undef w') :
    zD P (do s; pure .skip) w k := .inr (.inl ⟨w', by simp [h], hk⟩)
theorem K5 {t : TypeId} {len : Nat} {parts : Array (Nat × Value)} {k : Value → World → Prop} (h : aB P t len parts.toList w k) :
    ∃ v w', (Instr.buildSlice t len parts).run P w = .ok v w' ∧ k v w' := by
  unfold aB at h
  split at h
  · rename_i el hu
    split at h
    · rename_i c hc
      unfold dx at hc
      split at hc
      · rename_i i hi
        split at hc
        · rename_i hle
          split at hc
          · rename_i z hz
            refine ⟨_, _, ?_, h⟩
            unfold zOf at hz
            split at hz
            · rename_i h0
              simp only [Option.some.injEq] at hz; subst hz
              simp only [Instr.buildSlice, Sem.run_bind, ay hu, Result.andThen_ok, sizeOf, bN hi, Sem.run_pure]
              rw [if_neg (by omega), if_pos h0]
              simp only [Sem.run_bind, Result.andThen_ok, Sem.run_pure]
              simp only [uy] at hc
              rw [hc]
              simp [newRow, sl]
            · rename_i h0
              simp only [Option.map_eq_some_iff] at hz
              obtain ⟨v, hv, rfl⟩ := hz
              simp only [Instr.buildSlice, Sem.run_bind, ay hu, Result.andThen_ok, sizeOf, bN hi, Sem.run_pure]
              rw [if_neg (by omega), if_neg h0]
              simp only [Sem.run_bind, Result.andThen_ok, Sem.run_pure, iI hv]
              simp only [uy] at hc
              rw [hc]
              simp [newRow, sl]
          · simp at hc
        · simp at hc
      · simp at hc
    · exact h.elim
  · exact h.elim
theorem OQ {t : TypeId} {l c : Value} {k : Value → World → Prop} (h : pX P t l c w k) : ∃ v w', (Instr.makeSlice t l c).run P w = .ok v w' ∧ k v w' := by
  unfold pX at h
  split at h
  · rename_i el hu
    split at h
    · rename_i i l c hi
      obtain ⟨h0, hlc, hc63, hb, h⟩ := h
      split at h
      · rename_i z hz
        refine ⟨_, _, ?_, h⟩
        have hl : IntKind.i64.wrap l = l := IntWalk.i64_in _ (by omega)
        have hc : IntKind.i64.wrap c = c := IntWalk.i64_in _ (by omega)
        have ht : (decide (c < 0) || decide ((i.bytes : Int) * c > 2 ^ 48)) = false := by
          rw [Bool.or_eq_false_iff, decide_eq_false_iff_not, decide_eq_false_iff_not]; omega
        have ht2 : (decide (l < 0) || decide (l > c)) = false := by
          rw [Bool.or_eq_false_iff, decide_eq_false_iff_not, decide_eq_false_iff_not]; omega
        have hcond : ((decide (c < 0) || decide ((i.bytes : Int) * c > 2 ^ 48)) || decide (l < 0) || decide (l > c)) = false := by
          rw [Bool.or_assoc, ht, ht2]; rfl
        unfold zOf at hz
        split at hz
        · rename_i hn
          simp only [Option.some.injEq] at hz; subst hz
          simp only [Instr.makeSlice, Sem.run_bind, ay hu, Result.andThen_ok, asInt, asIntOf, Sem.run_pure, bN hi, hl, hc]
          rw [if_neg (by rw [hcond]; simp)]
          simp only [Sem.run_bind, run_askRoom, Result.andThen_ok, sizeOf, bN hi, Sem.run_pure]
          rw [if_pos hn]
          simp [newRow, sl, uy]
        · rename_i hn
          simp only [Option.map_eq_some_iff] at hz
          obtain ⟨v, hv, rfl⟩ := hz
          simp only [Instr.makeSlice, Sem.run_bind, ay hu, Result.andThen_ok, asInt, asIntOf, Sem.run_pure, bN hi, hl, hc]
          rw [if_neg (by rw [hcond]; simp)]
          simp only [Sem.run_bind, run_askRoom, Result.andThen_ok, sizeOf, bN hi, Sem.run_pure]
          rw [if_neg hn]
          simp [newRow, sl, uy, iI hv]
      · exact h.elim
    · exact h.elim
  · exact h.elim
theorem add_eq (b o n : Nat) : (⟨b, o, none⟩ : Addr).add n = ⟨b, o + n, none⟩ := by unfold Addr.add; split <;> simp_all
theorem mQ {size n : Nat} {x : Value} {c : Array Value} (h : firstC size n x w = some c) : (Builtin.firstCells size n x).run P w = .ok c w := by
  unfold firstC at h
  split at h
  · simp only [Option.some.injEq] at h; subst h; simp [Builtin.firstCells]
  · split at h
    · rename_i h0
      simp only [Option.some.injEq] at h; subst h
      simp [Builtin.firstCells, h0, loadCells, loadCellsFrom]
    · split at h
      · split at h
        · split at h
          · rename_i hb hsz
            simp only [Option.some.injEq] at h; subst h
            simp [Builtin.firstCells, kP hb hsz]
          · simp at h
        · simp at h
      · simp at h
  · simp only [Option.some.injEq] at h; subst h; simp [Builtin.firstCells]
  · simp at h
theorem Gm {x : Value} {n : Nat} (h : lenV x = some n) : (Builtin.lenOf x).run P w = .ok n w := by
  unfold lenV at h
  split at h <;> simp at h <;> subst h <;> simp [Builtin.lenOf]
theorem vZ {base : Option Addr} {off : Nat} {vs : List Value} {w' : World} (h : lw w base off vs = some w') :
    (match base with | some a => storeCells (a.add off) vs | none => pure () : Sem Unit).run P w = .ok () w' := by
  unfold lw at h
  split at h
  · simp only [Option.some.injEq] at h; subst h; rfl
  · simp only [add_eq]; exact wh h
  · simp at h
theorem Gn {t : TypeId} (h : nN P t = true) : (∃ e, P.underlying t = some (.slice e)) ∨ P.underlying t = some .string := by
  unfold nN at h
  split at h
  · rename_i hu; exact .inl ⟨_, hu⟩
  · rename_i hu; exact .inr hu
  · simp at h
theorem PN {t xt : TypeId} {ty : TypeId} {s x : Value} {k : Value → World → Prop} (h : aJ P t xt s x w k) :
    ∃ v w', (Builtin.append_ #[t, xt] ty #[s, x]).run P w = .ok v w' ∧ k v w' := by
  unfold aJ at h
  split at h
  · rename_i el hu
    split at h
    · rename_i i base sLen sCap n hi hss hlen
      split at h
      · rename_i new hnew
        have hf := mQ (P := P) hnew
        have hl := Gm (P := P) (w := w) hlen
        obtain ⟨h1, h2⟩ := h
        by_cases hcap : sLen + n ≤ sCap
        · have h1 := h1 hcap
          split at h1
          · rename_i w' hw'
            refine ⟨_, _, ?_, h1⟩
            have hst := vZ (P := P) hw'
            rcases Gn hss with ⟨e, hd⟩ | hd
            all_goals
              simp only [Builtin.append_]
              simp only [Sem.run_bind, ay hu, Result.andThen_ok, sizeOf, bN hi, Sem.run_pure, List.getElem?_toArray, List.getElem?_cons_succ, List.getElem?_cons_zero]
              simp only [ay hd, Result.andThen_ok, Bool.false_eq_true, if_false, Sem.run_bind, hl, hcap, if_true, Bool.not_false, hf]
              cases base with
              | none => simp at hst; simp [hst]
              | some a => simp at hst; simp [hst]
          · exact h1.elim
        · obtain ⟨h3, h4, h5⟩ := h2 (by omega)
          split at h5
          · rename_i old z hold hz
            have hq : (Question.appendCap (sLen + n) sCap el).forced = false := rfl
            refine ⟨_, _, ?_, h5 ((Question.appendCap (sLen + n) sCap el).cut (w.tape w.drawn (.appendCap (sLen + n) sCap el))) ?_⟩
            · rcases Gn hss with ⟨e, hd⟩ | hd
              all_goals
                have hfo' : (Builtin.firstCells i.size sLen (.slice base sLen sCap)).run P w.drew = .ok old w.drew := mQ (w := w.drew) hold
                have hf' : (Builtin.firstCells i.size n x).run P w.drew = .ok new w.drew := mQ (w := w.drew) hnew
                simp only [Builtin.append_]
                simp only [Sem.run_bind, ay hu, Result.andThen_ok, sizeOf, bN hi, Sem.run_pure, List.getElem?_toArray, List.getElem?_cons_succ, List.getElem?_cons_zero]
                simp only [ay hd, Result.andThen_ok, Bool.false_eq_true, if_false, Sem.run_bind, hl, hcap, Bool.not_false, bN hi, h4, or_false, and_false]
                rw [if_neg (by omega)]
                simp [hq, hfo', hf', bN hi, iI hz, newRow, sl]
            · simp only [Question.cut]; omega
          · exact h5.elim
      · exact h.elim
    · exact h.elim
  · exact h.elim
theorem X8 {t xt : TypeId} {ty : TypeId} {d x : Value} {k : Value → World → Prop} (h : Ce P t d x w k) :
    ∃ v w', (Builtin.copy_ #[t, xt] ty #[d, x]).run P w = .ok v w' ∧ k v w' := by
  unfold Ce at h
  split at h
  · rename_i el hu
    split at h
    · rename_i i base dLen dCap m hi hlen
      split at h
      · rename_i new hnew
        split at h
        · rename_i w' hw'
          refine ⟨_, _, ?_, h⟩
          have hst := vZ (P := P) hw'
          have hf := mQ (P := P) hnew
          have hl := Gm (P := P) (w := w) hlen
          simp only [Builtin.copy_]
          simp only [Sem.run_bind, ay hu, Result.andThen_ok, sizeOf, bN hi, Sem.run_pure, List.getElem?_toArray, List.getElem?_cons_succ, List.getElem?_cons_zero, hl, hf]
          cases base with
          | none => simp at hst; simp [hst, goInt]
          | some a =>
            have : a.add 0 = a := by simp [Addr.add]
            simp [this] at hst; simp [hst, goInt]
        · exact h.elim
      · exact h.elim
    · exact h.elim
  · exact h.elim
theorem BL {t : TypeId} {m key v : Value} {k : Value → World → Prop} (h : bz P t m key v w k) : ∃ w', (Instr.mapUpdate t m key v).run P w = .ok () w' ∧ k unit w' := by
  unfold bz at h
  split at h
  · rename_i kt et hu
    split at h
    · rename_i r
      split at h
      · rename_i es clock hb
        obtain ⟨⟨hck, hk⟩, h⟩ := h
        obtain ⟨kind, hk⟩ := Option.isSome_iff_exists.1 hk
        split at h
        · rename_i i q hf
          obtain ⟨hs, h⟩ := h
          refine ⟨_, ?_, h⟩
          simp only [Instr.mapUpdate, Sem.run_bind, ay hu, Result.andThen_ok, getObj, Sem.run, hb, eQ _ _ _ hck, eY hk hf, Instr.keyThatStays, hs, if_true, Sem.run_pure, setObj]
          rfl
        · rename_i hf
          refine ⟨_, ?_, h⟩
          simp only [Instr.mapUpdate, Sem.run_bind, ay hu, Result.andThen_ok, getObj, Sem.run, hb, eQ _ _ _ hck, eY hk hf, setObj]
          rfl
        · exact h.elim
      · exact h.elim
    · exact h.elim
  · exact h.elim
theorem Py {t xt ty : TypeId} {m key : Value} {k : Value → World → Prop} (h : bE P t m key w k) : ∃ v w', (Builtin.delete_ #[t, xt] ty #[m, key]).run P w = .ok v w' ∧ k v w' := by
  unfold bE at h
  split at h
  · rename_i kt et hu
    split at h
    · rename_i r
      split at h
      · rename_i es clock hb
        obtain ⟨⟨hck, hk⟩, h⟩ := h
        obtain ⟨kind, hk⟩ := Option.isSome_iff_exists.1 hk
        split at h
        · rename_i i q hf
          refine ⟨_, _, ?_, h⟩
          simp only [Builtin.delete_]
          simp only [Sem.run_bind, ay hu, Result.andThen_ok, Sem.run_pure, List.getElem?_toArray, List.getElem?_cons_succ, List.getElem?_cons_zero, getObj, Sem.run, hb, eQ _ _ _ hck, eY hk hf, setObj]
          rfl
        · rename_i hf
          refine ⟨_, _, ?_, h⟩
          simp only [Builtin.delete_]
          simp only [Sem.run_bind, ay hu, Result.andThen_ok, Sem.run_pure, List.getElem?_toArray, List.getElem?_cons_succ, List.getElem?_cons_zero, getObj, Sem.run, hb, eQ _ _ _ hck, eY hk hf, setObj]
          rfl
        · exact h.elim
      · exact h.elim
    · exact h.elim
  · exact h.elim
theorem SA {t ty : TypeId} {m : Value} {k : Value → World → Prop} (h : l5 P t m w k) : ∃ v w', (Builtin.clear_ #[t] ty #[m]).run P w = .ok v w' ∧ k v w' := by
  unfold l5 at h
  split at h
  · rename_i kt et hu
    split at h
    · exact ⟨_, _, by simp [Builtin.clear_, ay hu, unit], h⟩
    · split at h
      · rename_i hb
        refine ⟨_, _, ?_, h⟩
        simp only [Builtin.clear_]
        simp only [Sem.run_bind, ay hu, Result.andThen_ok, Sem.run_pure, List.getElem?_toArray, List.getElem?_cons_zero, getObj, Sem.run, hb, setObj]
        rfl
      · exact h.elim
    · exact h.elim
  · exact h.elim
theorem QC {t : TypeId} {x : Value} {k : Value → World → Prop} (h : bK P t x w k) : ∃ v w', (Instr.range t x).run P w = .ok v w' ∧ k v w' := by
  unfold bK at h
  split at h
  · rename_i hu
    split at h
    · exact ⟨_, _, by simp [Instr.range, ay hu, ptr], h⟩
    · exact h.elim
  · rename_i hu
    split at h
    · exact ⟨_, _, by simp [Instr.range, ay hu, ptr], h⟩
    · split at h
      · rename_i hb
        exact ⟨_, _, by simp [Instr.range, ay hu, ptr, getObj, Sem.run, hb], h⟩
      · exact h.elim
    · exact h.elim
  · exact h.elim
theorem CY (W : World) (c : Array Value) (el : TypeId) : (markStringish ⟨W.heap.size, 0, none⟩).run P (W.alloc (.cells c el)) = .ok () (W.alloc (.cells c el (c.size, c.size + 1))) := by
  have hz : (W.alloc (.cells c el)).shape? W.heap.size = some (el, c.size) := by
    show (match (W.heap.push (.cells c el))[W.heap.size]? with | some (.cells c elem _) => some (elem, c.size) | _ => none) = _
    rw [Array.getElem?_push, if_pos rfl]
  have hzf : (W.alloc (.cells c el)).freeze ⟨W.heap.size, c.size, none⟩ 1 = W.alloc (.cells c el (c.size, c.size + 1)) := by
    have : (W.heap.push (.cells c el)).modify W.heap.size (fun | .cells c1 elem (lo, hi) => .cells c1 elem (if lo == hi then (c.size, c.size + 1) else (min lo c.size, max hi (c.size + 1))) | o => o) = W.heap.push (.cells c el (c.size, c.size + 1)) := by
      apply Array.ext_getElem?
      intro j
      rw [Array.getElem?_modify, Array.getElem?_push, Array.getElem?_push]
      split
      · rename_i hj; subst hj; simp
      · rename_i hj; rw [if_neg (by omega), if_neg (by omega)]
    unfold World.freeze
    rw [if_neg (by omega)]
    exact congrArg (fun h => ({ W with heap := h } : World)) this
  simp only [markStringish, Sem.run_bind, run_shape, hz, Result.andThen_ok, run_freeze, hzf]
theorem JC {s d : TypeId} {x : Value} {k : Value → World → Prop} (h : iX P s d x w k) : ∃ v w', (convert s d x).run P w = .ok v w' ∧ k v w' := by
  unfold iX at h
  split at h
  · rename_i el hs hd
    split at h
    · rename_i str he
      have hq : (Question.appendCap str.size 0 el).forced = false := rfl
      have hcap : str.size ≤ (Question.appendCap str.size 0 el).cut (w.tape w.drawn (.appendCap str.size 0 el)) := by simp only [Question.cut]; omega
      have hk := h _ hcap
      refine ⟨_, _, ?_, hk⟩
      have hrun : (choose (.appendCap str.size 0 el)).run P w = .ok ((Question.appendCap str.size 0 el).cut (w.tape w.drawn (.appendCap str.size 0 el))) w.drew := by
        simp [hq]
      generalize (Question.appendCap str.size 0 el).cut (w.tape w.drawn (.appendCap str.size 0 el)) = cap at hcap hrun
      have hsz : ((str.data.map fun b : UInt8 => Value.int .u8 b.toNat) ++ Array.replicate (cap - str.size) (Value.int .u8 0)).size = cap := by
        have : str.data.size = str.size := rfl
        simp [this]; omega
      have hm := CY (P := P) w.drew ((str.data.map fun b : UInt8 => Value.int .u8 b.toNat) ++ Array.replicate (cap - str.size) (Value.int .u8 0)) el
      rw [hsz] at hm
      have hm : (markStringish ⟨w.heap.size, 0, none⟩).run P _ = .ok () _ := hm
      simp only [convert, Sem.run_bind, ay hs, ay hd, ay he, Result.andThen_ok, Conv.stringToBytes, hrun, newRow, run_newObj, Sem.run_pure, World.alloc_eq, World.size_drew, hm, sl]
    · exact h.elim
  · exact h.elim
theorem XB {it : Value} {b : Bool} {ty : TypeId} {k : Value → World → Prop} (h : bZ it b w k) : ∃ v w', (Instr.next it b ty).run P w = .ok v w' ∧ k v w' := by
  unfold bZ at h
  split at h
  · rename_i r sp
    split at h
    · rename_i s pos hb
      split at h
      · rename_i hlt
        exact ⟨_, _, by simp [Instr.next, getObj, Sem.run, hb, hlt, setObj, goInt, dK], h⟩
      · rename_i hlt
        exact ⟨_, _, by simp [Instr.next, getObj, Sem.run, hb, hlt, over], h⟩
    · rename_i hb
      exact ⟨_, _, by simp [Instr.next, getObj, Sem.run, hb, over], h⟩
    · rename_i m since seen last hb
      split at h
      · rename_i es clock hm
        obtain ⟨hx, h⟩ := h
        have hlast : (choose (.mapNext (kW es since seen).size)).run P w = .ok 0 w ∧ (kW es since seen).size ≤ 1 ∨ ∃ j, (choose (.mapNext (kW es since seen).size)).run P w = .ok j w.drew ∧ j < (kW es since seen).size := by
          by_cases hq : (kW es since seen).size ≤ 1
          · left; simp [Question.forced, hq]
          · right
            refine ⟨_, by simp [Question.forced, hq]; rfl, ?_⟩
            simp only [Question.cut]; exact Nat.mod_lt _ (by omega)
        have hpos : 0 < (kW es since seen).size := by
          simp only [kW]
          split
          · simp only [Array.size_append, List.size_toArray, List.length_cons, List.length_nil]; omega
          · rename_i hne
            simp only [Array.isEmpty_iff_size_eq_zero] at hne
            simp only [Array.size_append, Array.size_map, List.size_toArray, List.length_nil]
            omega
        have key : ∀ j w1, (choose (.mapNext (kW es since seen).size)).run P w = .ok j w1 → (w1 = w ∨ w1 = w.drew) → j < (kW es since seen).size → ∃ v w', (Instr.next (.pointer (some ⟨r, 0, sp⟩)) false ty).run P w = .ok v w' ∧ k v w' := by
          intro j w1 hc hw1 hj
          have h := h j w1 hw1 hj
          have hb1 : w1.heap[r]? = some (.mapIter (some m) since seen last) := by rcases hw1 with rfl | rfl <;> exact hb
          split at h
          · rename_i e he
            refine ⟨_, _, ?_, h⟩
            simp only [Instr.next, Sem.run_bind, getObj, Sem.run, hb, Result.andThen_ok, hm, hx, Bool.false_eq_true, if_false]
            simp only [kW] at hc he
            simp only [hc, Result.andThen_ok, he, Sem.run_bind, setObj, Sem.run, hb1]
            rfl
          · rename_i he
            refine ⟨_, _, ?_, h⟩
            simp only [Instr.next, Sem.run_bind, getObj, Sem.run, hb, Result.andThen_ok, hm, hx, Bool.false_eq_true, if_false]
            simp only [kW] at hc he
            simp only [hc, Result.andThen_ok, he]
            rfl
          · exact h.elim
        rcases hlast with ⟨hc, _⟩ | ⟨j, hc, hj⟩
        · exact key 0 w hc (.inl rfl) hpos
        · exact key j w.drew hc (.inr rfl) hj
      · exact h.elim
    · exact h.elim
  · exact h.elim
theorem Su {call : eT} (hc : lm P call) {e : Env} {o : Oper} {k : Value → World → Prop} (h : eop P call e o.op w k) : zD P (execOp (ev e) o) w k := by
  obtain ⟨dst, op, ty, pos, aft, gd⟩ := o
  simp only at h
  cases op <;> simp only [eop] at h
  case alloc t =>
    unfold aY at h
    split at h
    · rename_i z hz
      refine gM (s := Instr.alloc t true (.tuple #[])) ?_ h
      simp [Instr.alloc, iI hz, newVar, newRow, ptr]
    · exact h.elim
  case box t x => exact gM (s := Instr.box t (ev e x)) (by simp [Instr.box, newVar, newRow, ptr]) h
  case buildSlice t len parts =>
    have : (parts.map fun p => (p.1, ev e p.2)).toList = parts.toList.map fun p => (p.1, ev e p.2) := by simp
    rw [← this] at h
    obtain ⟨v, w', hr, hk⟩ := K5 h
    exact gM hr hk
  case store t a x =>
    unfold bF at h
    split at h
    · rename_i w' hs
      exact uF (JS hs) h
    · exact h.elim
  case makeMap t r =>
    unfold eG at h
    split at h
    · rename_i hr
      refine gM (s := Instr.makeMap t (r.map (ev e))) ?_ h
      simp only [hr]
      simp [Instr.makeMap]
    · exact h.elim
  case makeSlice t l c =>
    obtain ⟨v, w', hr, hk⟩ := OQ h
    exact gM hr hk
  case mapUpdate t m key v =>
    obtain ⟨w', hr, hk⟩ := BL h
    exact uF hr hk
  case insert t m key v =>
    obtain ⟨w', hr, hk⟩ := BL h
    exact uF hr hk
  case range t x =>
    obtain ⟨v, w', hr, hk⟩ := QC h
    exact gM hr hk
  case next it s =>
    obtain ⟨v, w', hr, hk⟩ := XB (ty := ty) h
    exact gM hr hk
  case convert s d x =>
    obtain ⟨v, w', hr, hk⟩ := JC h
    exact gM hr hk
  case call c =>
    obtain ⟨cal, args, ats⟩ := c
    unfold Sw at h
    simp only at h
    split at h
    · rename_i f
      unfold gP at h
      split at h
      · rename_i g first captured hf
        obtain ⟨k0, h, hk0⟩ := h
        have hg := (hc _ _ _ _ h).mono hk0
        have hl : (first.toList ++ (args.toList.map (ev e) ++ captured.toList)).toArray = first ++ args.map (ev e) ++ captured := by apply Array.ext'; simp
        rw [hl] at hg
        have he : (execOp (ev e) { dst := dst, op := Op.call { callee := .value f, args := args, argTypes := ats }, type := ty, pos := pos, after := aft, guard := gd }).run P w = (callFunc g (first ++ args.map (ev e) ++ captured)).run P w := by
          simp [execOp, resolve, Deferred.ofValue, hf, invoke]
        rcases hg with ⟨h1, h2⟩ | ⟨v, w', h1, h2⟩
        · exact .inr (.inr ⟨_, _, he.trans h1, h2⟩)
        · exact .inl ⟨_, _, he.trans h1, h2⟩
      · exact h.elim
    · rename_i b
      split at h
      · rename_i s x t xt ha ht
        obtain rfl : args = #[s, x] := Array.ext' ha
        obtain rfl : ats = #[t, xt] := Array.ext' ht
        obtain ⟨v, w', hr, hk⟩ := PN (ty := ty) h
        exact .inl ⟨v, w', by simp [execOp, resolve, invoke, builtin, hr], hk⟩
      · rename_i s x t xt ha ht
        obtain rfl : args = #[s, x] := Array.ext' ha
        obtain rfl : ats = #[t, xt] := Array.ext' ht
        obtain ⟨v, w', hr, hk⟩ := X8 (xt := xt) (ty := ty) h
        exact .inl ⟨v, w', by simp [execOp, resolve, invoke, builtin, hr], hk⟩
      · rename_i s x t xt ha ht
        obtain rfl : args = #[s, x] := Array.ext' ha
        obtain rfl : ats = #[t, xt] := Array.ext' ht
        obtain ⟨v, w', hr, hk⟩ := Py (xt := xt) (ty := ty) h
        exact .inl ⟨v, w', by simp [execOp, resolve, invoke, builtin, hr], hk⟩
      · rename_i s t ha ht
        obtain rfl : args = #[s] := Array.ext' ha
        obtain rfl : ats = #[t] := Array.ext' ht
        obtain ⟨v, w', hr, hk⟩ := SA (ty := ty) h
        exact .inl ⟨v, w', by simp [execOp, resolve, invoke, builtin, hr], hk⟩
      · exact h.elim
    · exact h.elim
end Go.Sx

/- Sx6 -/
namespace Go.Sx
variable {P : Program} {w : World}
def lH (P : Program) : Op → Bool
  | .alloc _ | .box _ _ | .buildSlice _ _ _ | .store _ _ _ | .makeMap _ _ | .makeSlice _ _ _ | .mapUpdate _ _ _ _ | .insert _ _ _ _ | .range _ _ | .next _ _ => true
  | .convert s d _ => match P.underlying s, P.underlying d with
    | some .string, some (.slice _) => true
    | _, _ => false
  | .call c => match c.callee with
    | .builtin b => match b with
      | .append | .copy | .delete | .clear => true
      | _ => false
    | _ => true
  | _ => false
def Rz : Op → Bool
  | .load _ _ | .lookup _ _ _ _ | .convert _ _ _ | .entry _ | .call _ => true
  | _ => false
theorem RZ {e : Env} {o : Op} (h : Rz o = false) (w w' : World) : fop P e o w = fop P e o w' := by
  cases o <;> simp [Rz] at h <;> rfl
def guardE (ops : Array Oper) (o : Oper) (e : Env) : Bool := match o.guard with
  | none => true
  | some (g, want) => match (ops[g]?).bind (·.dst) with
    | some t => match e t with | .bool b => b == want | _ => false
    | none => false
def aa (o : Option Value) (k : Value → Prop) : Prop := match o with | some v => k v | none => False
def stepG (g : Bool) (o : Option Value) (k : Value → Prop) : Prop := match g with | true => aa o k | false => k undef
def dz (g : Bool) (E : (Value → World → Prop) → Prop) (w : World) (k : Value → World → Prop) : Prop := match g with | true => E k | false => k undef w
def aS (g : Bool) (v : Value) (k : Value → Prop) : Prop := match g with | true => k v | false => k undef
def mvOf : Op → Option Operand
  | .move x => some x
  | .assign x => some x
  | _ => none
def uZ (P : Program) (ops : Array Oper) (nt : Nat) (o : Oper) (e : Env) (w : World) (K : Env → Prop) : Prop := match mvOf o.op with
  | some x => aS (guardE ops o e) (ev e x) fun v => K (put nt e o.dst v)
  | none => stepG (guardE ops o e) (fop P e o.op w) fun v => K (put nt e o.dst v)
theorem pW {ops : Array Oper} {nt : Nat} {o : Oper} {e : Env} {K : Env → Prop} : uZ P ops nt o e w K = stepG (guardE ops o e) (fop P e o.op w) fun v => K (put nt e o.dst v) := by
  unfold uZ
  cases hm : mvOf o.op with
  | none => rfl
  | some x =>
    have : fop P e o.op w = some (ev e x) := by
      cases ho : o.op <;> rw [ho] at hm <;> simp [mvOf] at hm <;> subst hm <;> rfl
    rw [this]
    cases guardE ops o e <;> rfl
def lZ (P : Program) (call : eT) (ops : Array Oper) (nt : Nat) (o : Oper) (e : Env) (w : World) (K : Env → World → Prop) : Prop :=
  dz (guardE ops o e) (fun k => eop P call e o.op w k) w fun v w' => K (put nt e o.dst v) w'
def fP (P : Program) (call : eT) (ops : Array Oper) (nt : Nat) : List Oper → Env → World → (Env → World → Prop) → Prop
  | [], e, w, k => k e w
  | o :: l, e, w, k => match lH P o.op with
    | false => uZ P ops nt o e w fun e' => fP P call ops nt l e' w k
    | true => lZ P call ops nt o e w fun e' w' => fP P call ops nt l e' w' k
def wZ {α : Type} (p : α → Prop) : List α → Prop
  | [] => True
  | [x] => p x
  | x :: y :: r => p x ∧ wZ p (y :: r)
theorem oI {α : Type} {p : α → Prop} : ∀ {l : List α}, wZ p l ↔ ∀ x ∈ l, p x
  | [] => by simp [wZ]
  | [x] => by simp [wZ]
  | x :: y :: r => by simp only [wZ, oI (l := y :: r)]; simp
def rY (rem : List Nat) (o : Oper) : Bool := o.after.toList.all fun e => !Region.binds .any e || !rem.contains e.on
def Dc (acc : List Nat) (o : Oper) : Nat := o.after.toList.foldl (fun s e => if Region.binds .any e then s ||| 2 ^ e.on ||| acc.getD e.on 0 else s) 0
def Kj : List Oper → List Nat → List Nat
  | [], acc => acc
  | o :: r, acc => Kj r (acc ++ [Dc acc o])
def masks (ops : Array Oper) : List Nat := Kj ops.toList []
def bef (ms : List Nat) (j k : Nat) : Bool := (ms.getD j 0).testBit k
def lG (ops : Array Oper) (ms : List Nat) (j t : Nat) : Bool := (List.range ops.size).any fun k => (match ops[k]? with | some o => o.dst == some t | none => false) && bef ms k j
def fw (ops : Array Oper) (ms : List Nat) (j : Nat) (e0 e : Env) : Env := fun t => match lG ops ms j t with | true => e0 t | false => e t
def fok (g : Bool) (o : Option Value) (v : Value) : Prop := match g with | true => o = some v | false => v = undef
def iy (P : Program) (ops : Array Oper) (e : Env) (o : Oper) (w : World) : Prop := match o.dst with
  | some d => fok (guardE ops o e) (fop P e o.op w) (e d)
  | none => match guardE ops o e with
    | true => (fop P e o.op w).isSome = true
    | false => True
def nk (P : Program) (ops : Array Oper) (nt : Nat) : List Nat → List Nat → Env → World → (List Nat → Env → Prop) → Prop
  | [], acc, e, _, K => K acc e
  | i :: todo, acc, e, w, K => match ops[i]? with
    | none => False
    | some o => match !lH P o.op && rY acc o with
      | true => uZ P ops nt o e w fun e' => nk P ops nt todo acc e' w K
      | false => nk P ops nt todo (acc ++ [i]) e w K
def rcs (P : Program) (ops : Array Oper) (ms : List Nat) (rem : List Nat) (i : Nat) : List Nat := (List.range ops.size).filter fun j =>
  !rem.contains j && (match ops[j]? with | some o => Rz o.op && !lH P o.op | none => false) && !bef ms i j
def rX (P : Program) (ops : Array Oper) (rem : List Nat) : List Nat := rem.filter fun i => match ops[i]? with
  | some o => lH P o.op && rY rem o
  | none => false
def uV (P : Program) (call : eT) (ops : Array Oper) (nt : Nat) (e0 : Env) (ms : List Nat) : Nat → List Nat → Env → World → (Env → World → Prop) → Prop
  | 0, _, _, _, _ => False
  | f + 1, rem, e, w, k => nk P ops nt rem [] e w fun rem' e' => match rem' with
    | [] => k e' w
    | _ :: _ => match rX P ops rem' with
      | [] => False
      | l => wZ (fun i => match ops[i]? with
        | none => False
        | some o => lZ P call ops nt o e' w fun e2 w2 => match rcs P ops ms rem' i with
          | [] => uV P call ops nt e0 ms f (rem'.erase i) e2 w2 k
          | c :: cs => wZ (fun j => match ops[j]? with | some oj => iy P ops (fw ops ms j e0 e2) oj w2 | none => True) (c :: cs) ∧ uV P call ops nt e0 ms f (rem'.erase i) e2 w2 k) l
def eX (o : Oper) : List Nat := (o.after.toList.filter fun e => Region.binds .any e).map (·.on)
def okR (ops : Array Oper) (nt : Nat) (ms : List Nat) : Bool :=
  (List.range ops.size).all fun i => match ops[i]? with
    | none => false
    | some o =>
      (eX o).all (fun d => Nat.blt d i) &&
      (match o.guard with | none => true | some (g, _) => (eX o).contains g && (match ops[g]? with | some og => og.dst.isSome | none => false)) &&
      (match o.dst with | none => true | some d => Nat.blt d nt && !(o.looksAt ops).contains d) &&
      (List.range ops.size).all fun k => match ops[k]? with
        | none => false
        | some ok => match ok.dst with
          | none => true
          | some t => i == k || ((o.dst != some t) && (!(o.looksAt ops).contains t || bef ms i k || bef ms k i))
theorem BU {e e' : Env} {o : Op} (h : ∀ x ∈ o.operands, ev e x = ev e' x) (w : World) : fop P e o w = fop P e' o w := by
  have pairs : ∀ ps : Array (Nat × Operand), (∀ x ∈ ps.map (·.2), ev e x = ev e' x) → (ps.toList.map fun p => (p.1, ev e p.2)) = (ps.toList.map fun p => (p.1, ev e' p.2)) := fun ps hp =>
    List.map_congr_left fun p hm => by
      simp only [hp p.2 (Array.mem_map.2 ⟨p, Array.mem_toList_iff.1 hm, rfl⟩)]
  cases o <;> simp only [Op.operands] at h <;> simp only [fop]
  case build t ps => rw [pairs ps fun x hx => h x (by simpa using hx)]
  case makeFunc fn first captured =>
    rw [List.map_congr_left (l := first.toList) fun x hx => h x (by simp [Array.mem_toList_iff.1 hx]), List.map_congr_left (l := captured.toList) fun x hx => h x (by simp [Array.mem_toList_iff.1 hx])]
  case call c =>
    obtain ⟨cal, args, ats⟩ := c
    have ha : ∀ x ∈ args.toList, ev e x = ev e' x := fun x hx => h x (by simp [Call.operands]; exact .inr (Array.mem_toList_iff.1 hx))
    unfold Sq
    simp only
    generalize args.toList = l at ha
    split
    · rw [ha _ (by simp)]
    · rw [ha _ (by simp)]
    · rw [ha _ (by simp), ha _ (by simp)]
    · rw [ha _ (by simp), ha _ (by simp)]
    · rfl
  case slice t x lo hi mx => cases lo <;> cases hi <;> cases mx <;> simp_all
  all_goals (first | rfl | (simp_all; done))
def val (a : Act) (t : Nat) : Value := a.tmps.getD t undef
theorem gG {a : Act} {e : Env} {x : Operand} (h : ∀ t, x = .tmp t → val a t = e t) : a.eval x = ev e x := by
  cases x with
  | tmp t => exact h t rfl
  | const v => rfl
  | global g => rfl
  | func f => rfl
theorem uA {ops : Array Oper} {o : Oper} {t : Nat} (h : Operand.tmp t ∈ o.op.operands) : t ∈ o.looksAt ops :=
  List.mem_append_left _ (List.mem_filterMap.2 ⟨.tmp t, by simpa using h, rfl⟩)
theorem guard_looks {ops : Array Oper} {o og : Oper} {g t : Nat} {b : Bool} (h : o.guard = some (g, b)) (hg : ops[g]? = some og) (hd : og.dst = some t) : t ∈ o.looksAt ops := by
  refine List.mem_append_right _ ?_
  simp [h, hg, hd]
theorem sN {ops : Array Oper} {o : Oper} {e e' : Env} (h : ∀ t ∈ o.looksAt ops, e t = e' t) : guardE ops o e = guardE ops o e' := by
  unfold guardE
  split
  · rfl
  · rename_i g want hg
    cases hog : ops[g]? with
    | none => rfl
    | some og =>
      cases hd : og.dst with
      | none => simp [hd]
      | some t => simp only [Option.bind_some, hd]; rw [h t (guard_looks hg hog hd)]
theorem mf {ops : Array Oper} {o : Oper} {a : Act} {e : Env} (h : ∀ t ∈ o.looksAt ops, val a t = e t) : Region.wanted o (yielded ops a.tmps) = guardE ops o e := by
  unfold Region.wanted guardE
  cases hg : o.guard with
  | none => rfl
  | some p =>
    obtain ⟨g, want⟩ := p
    simp only [yielded]
    cases hog : ops[g]? with
    | none => simp
    | some og =>
      cases hd : og.dst with
      | none => simp [hd]
      | some t =>
        have := h t (guard_looks hg hog hd)
        simp only [Option.bind_some, hd, val, Array.getD_eq_getD_getElem?] at this ⊢
        rw [← this]
        cases a.tmps[t]? with
        | none => rfl
        | some v => cases v <;> first | rfl | (rename_i b; cases b <;> cases want <;> rfl)
theorem qy {ops : Array Oper} {o : Oper} {e e' : Env} (h : ∀ t ∈ o.looksAt ops, e t = e' t) (hd : ∀ d, o.dst = some d → e d = e' d) : iy P ops e o w ↔ iy P ops e' o w := by
  unfold iy
  rw [sN h, BU (e := e) (e' := e') (fun x hx => by
    cases x with
    | tmp t => exact h t (uA hx)
    | const v => rfl
    | global g => rfl
    | func f => rfl)]
  cases ho : o.dst with
  | none => rfl
  | some d => simp only [hd d ho]
inductive Reach (ops : Array Oper) : Nat → Nat → Prop
  | base {i d : Nat} {o : Oper} (ho : ops[i]? = some o) (hd : d ∈ eX o) : Reach ops i d
  | step {i d k : Nat} {o : Oper} (ho : ops[i]? = some o) (hd : d ∈ eX o) (h : Reach ops d k) : Reach ops i k
theorem GR {ops : Array Oper} {acc : List Nat} {o : Oper} {i : Nat} (ho : ops[i]? = some o) (hacc : ∀ j k, (acc.getD j 0).testBit k = true → Reach ops j k) {k : Nat} (h : (Dc acc o).testBit k = true) : Reach ops i k := by
  unfold Dc at h
  have key : ∀ (l : List Edge) (s : Nat), (∀ e ∈ l, e ∈ o.after.toList) → (s.testBit k = true → Reach ops i k) →
      (l.foldl (fun s e => if Region.binds .any e then s ||| 2 ^ e.on ||| acc.getD e.on 0 else s) s).testBit k = true → Reach ops i k := by
    intro l
    induction l with
    | nil => intro s _ hs h; exact hs h
    | cons e l ih =>
      intro s hl hs h
      refine ih _ (fun e' he' => hl e' (List.mem_cons_of_mem _ he')) ?_ h
      by_cases hb : Region.binds .any e = true
      · simp only [if_pos hb]
        intro hb'
        have hdep : e.on ∈ eX o := List.mem_map.2 ⟨e, List.mem_filter.2 ⟨hl e (List.mem_cons_self ..), hb⟩, rfl⟩
        simp only [Nat.testBit_or, Bool.or_eq_true] at hb'
        rcases hb' with (hb' | hb') | hb'
        · exact hs hb'
        · have : e.on = k := by
            rw [Nat.testBit_two_pow] at hb'; simpa using hb'
          subst this
          exact .base ho hdep
        · exact .step ho hdep (hacc _ _ hb')
      · simp only [if_neg hb]; exact hs
  exact key _ 0 (fun _ h => h) (by simp) h
theorem GQ {ops : Array Oper} : ∀ (l : List Oper) (acc : List Nat), (∀ j, (acc.length + j < ops.size → ops[acc.length + j]? = l[j]?)) → acc.length + l.length = ops.size →
    (∀ j k, (acc.getD j 0).testBit k = true → Reach ops j k) → ∀ j k, ((Kj l acc).getD j 0).testBit k = true → Reach ops j k := by
  intro l
  induction l with
  | nil => intro acc _ _ h; exact h
  | cons o l ih =>
    intro acc hl hlen hacc
    have ho : ops[acc.length]? = some o := by have := hl 0 (by simp at hlen; omega); simpa using this
    refine ih _ ?_ (by simp at hlen ⊢; omega) ?_
    · intro j hj
      have := hl (j + 1) (by simp at hj; omega)
      simp only [List.length_append, List.length_cons, List.length_nil, Nat.zero_add] at hj ⊢
      rw [show acc.length + 1 + j = acc.length + (j + 1) by omega, this]; simp
    · intro j k h
      by_cases hj : j < acc.length
      · refine hacc j k ?_
        simpa [List.getElem?_append_left hj] using h
      · by_cases hj' : j = acc.length
        · subst hj'
          simp at h
          exact GR ho hacc h
        · have : (acc ++ [Dc acc o]).getD j 0 = 0 := by
            simp only [List.getD_eq_getElem?_getD]
            rw [List.getElem?_eq_none (by simp; omega)]; rfl
          rw [this] at h; simp at h
theorem SH {ops : Array Oper} {j k : Nat} (h : bef (masks ops) j k = true) : Reach ops j k :=
  GQ ops.toList [] (fun j _ => by simp) (by simp) (fun j k h => by simp at h) j k h
end Go.Sx

/- Sx7 -/
namespace Go.Sx
variable {P : Program} {w : World}
structure Fits (ops : Array Oper) (nt : Nat) (ms : List Nat) : Prop where
  edge : ∀ (i : Nat) (o : Oper), ops[i]? = some o → ∀ d ∈ eX o, d < i
  guard : ∀ (i : Nat) (o : Oper) (g : Nat) (want : Bool), ops[i]? = some o → o.guard = some (g, want) → g ∈ eX o
  dst : ∀ (i : Nat) (o : Oper) (d : Tmp), ops[i]? = some o → o.dst = some d → d < nt ∧ d ∉ o.looksAt ops
  nodup : ∀ (i k : Nat) (o ok : Oper) (t : Tmp), ops[i]? = some o → ops[k]? = some ok → ok.dst = some t → i ≠ k → o.dst ≠ some t
  ord : ∀ (i k : Nat) (o ok : Oper) (t : Tmp), ops[i]? = some o → ops[k]? = some ok → ok.dst = some t → i ≠ k → t ∈ o.looksAt ops → bef ms i k = true ∨ bef ms k i = true
  mask : ∀ (i k : Nat), bef ms i k = true → Reach ops i k
theorem eZ {ops : Array Oper} {i : Nat} {o : Oper} (h : ops[i]? = some o) : i < ops.size := (Array.getElem?_eq_some_iff.1 h).1
theorem XW {ops : Array Oper} {nt : Nat} (h : okR ops nt (masks ops) = true) : Fits ops nt (masks ops) := by
  unfold okR at h
  rw [List.all_eq_true] at h
  have hh := fun (i : Nat) (o : Oper) (ho : ops[i]? = some o) => by
    have := h i (List.mem_range.2 (eZ ho))
    simp only [ho, Bool.and_eq_true] at this
    exact this
  refine ⟨?_, ?_, ?_, ?_, ?_, fun _ _ h => SH h⟩
  · intro i o ho d hd
    have := (hh i o ho).1.1.1
    rw [List.all_eq_true] at this
    have := this d hd
    simpa [Nat.blt_eq] using this
  · intro i o g want ho hg
    have := (hh i o ho).1.1.2
    simp only [hg, Bool.and_eq_true] at this
    simpa using this.1
  · intro i o d ho hd
    have := (hh i o ho).1.2
    simp only [hd, Bool.and_eq_true] at this
    exact ⟨by simpa [Nat.blt_eq] using this.1, by simpa using this.2⟩
  · intro i k o ok t ho hk ht hne
    have := (hh i o ho).2
    rw [List.all_eq_true] at this
    have := this k (List.mem_range.2 (eZ hk))
    simp only [hk, ht, Bool.or_eq_true, beq_iff_eq, hne, false_or, Bool.and_eq_true] at this
    simpa using this.1
  · intro i k o ok t ho hk ht hne hl
    have := (hh i o ho).2
    rw [List.all_eq_true] at this
    have := this k (List.mem_range.2 (eZ hk))
    simp only [hk, ht, Bool.or_eq_true, beq_iff_eq, hne, false_or, Bool.and_eq_true] at this
    rcases this.2 with (h1 | h1) | h1
    · simp at h1; exact absurd hl h1
    · exact .inl h1
    · exact .inr h1
theorem Reach.lt {ops : Array Oper} {nt : Nat} {ms : List Nat} (F : Fits ops nt ms) {i k : Nat} (h : Reach ops i k) : k < i := by
  induction h with
  | base ho hd => exact F.edge _ _ ho _ hd
  | step ho hd _ ih => have := F.edge _ _ ho _ hd; omega
abbrev L (listed : Array Bool) (i : Nat) : Prop := listed.getD i false = true
structure Inv (P : Program) (ops : Array Oper) (nt : Nat) (ms : List Nat) (e0 : Env) (listed : Array Bool) (rem : List Nat) (e : Env) (w : World) (a : Act) : Prop where
  size : listed.size = ops.size
  tsz : a.tmps.size = nt
  dfr : a.defers = []
  sub : ∀ i, L listed i → i ∉ rem
  remlt : ∀ i ∈ rem, i < ops.size
  nd : rem.Pairwise (· < ·)
  closS : ∀ (i : Nat) (o : Oper), ops[i]? = some o → L listed i → ∀ d ∈ eX o, L listed d
  closD : ∀ (i : Nat) (o : Oper), ops[i]? = some o → i ∉ rem → ∀ d ∈ eX o, d ∉ rem
  eff : ∀ (i : Nat) (o : Oper), ops[i]? = some o → lH P o.op = true → i ∉ rem → L listed i
  a1 : ∀ (i : Nat) (o : Oper) (t : Tmp), ops[i]? = some o → o.dst = some t → L listed i → val a t = e t
  a2 : ∀ t : Nat, (∀ (i : Nat) (o : Oper), ops[i]? = some o → o.dst = some t → ¬ L listed i) → val a t = e0 t
  e2 : ∀ t : Nat, (∀ (i : Nat) (o : Oper), ops[i]? = some o → o.dst = some t → i ∈ rem) → e t = e0 t
  pend : ∀ (j : Nat) (o : Oper), ops[j]? = some o → j ∉ rem → ¬ L listed j → iy P ops (fw ops ms j e0 e) o w
section
variable {ops : Array Oper} {nt : Nat} {ms : List Nat} {e0 : Env} {listed : Array Bool} {rem : List Nat} {e : Env} {a : Act}
theorem jl {j t : Nat} : lG ops ms j t = true ↔ ∃ (k : Nat) (o : Oper), ops[k]? = some o ∧ o.dst = some t ∧ bef ms k j = true := by
  unfold lG
  rw [List.any_eq_true]
  constructor
  · rintro ⟨k, hk, h⟩
    simp only [Bool.and_eq_true] at h
    cases ho : ops[k]? with
    | none => simp [ho] at h
    | some o => simp only [ho, beq_iff_eq] at h; exact ⟨k, o, ho, h.1, h.2⟩
  · rintro ⟨k, o, ho, hd, hb⟩
    exact ⟨k, List.mem_range.2 (eZ ho), by simp [ho, hd, hb]⟩
theorem Inv.reachS (I : Inv P ops nt ms e0 listed rem e w a) {i k : Nat} (h : Reach ops i k) (hL : L listed i) : L listed k := by
  induction h with
  | base ho hd => exact I.closS _ _ ho hL _ hd
  | step ho hd _ ih => exact ih (I.closS _ _ ho hL _ hd)
theorem Inv.reachS' (I : Inv P ops nt ms e0 listed rem e w a) {i k : Nat} {o : Oper} (ho : ops[i]? = some o) (h : Reach ops i k) (hL : ∀ d ∈ eX o, L listed d) : L listed k := by
  cases h with
  | base ho' hd => rw [ho] at ho'; cases ho'; exact hL _ hd
  | step ho' hd h' => rw [ho] at ho'; cases ho'; exact I.reachS h' (hL _ hd)
theorem Inv.reachD (I : Inv P ops nt ms e0 listed rem e w a) {i k : Nat} (h : Reach ops i k) (hD : i ∉ rem) : k ∉ rem := by
  induction h with
  | base ho hd => exact I.closD _ _ ho hD _ hd
  | step ho hd _ ih => exact ih (I.closD _ _ ho hD _ hd)
theorem Inv.agree (F : Fits ops nt ms) (I : Inv P ops nt ms e0 listed rem e w a) {i : Nat} {o : Oper} (ho : ops[i]? = some o) (hn : ¬ L listed i) (hd : ∀ d ∈ eX o, L listed d) :
    ∀ t ∈ o.looksAt ops, val a t = fw ops ms i e0 e t := by
  intro t ht
  by_cases hw : ∃ (k : Nat) (ok : Oper), ops[k]? = some ok ∧ ok.dst = some t
  · obtain ⟨k, ok, hk, hkd⟩ := hw
    have hne : i ≠ k := by
      rintro rfl
      rw [ho] at hk; cases hk
      exact (F.dst i o t ho hkd).2 ht
    have only : ∀ (k' : Nat) (ok' : Oper), ops[k']? = some ok' → ok'.dst = some t → k' = k := fun k' ok' hk' hd' => Classical.byContradiction fun h => F.nodup k' k ok' ok t hk' hk hkd h hd'
    rcases F.ord i k o ok t ho hk hkd hne ht with hb | hb
    · have hr := F.mask _ _ hb
      have hLk := I.reachS' ho hr hd
      rw [I.a1 k ok t hk hkd hLk]
      have : lG ops ms i t = false := by
        cases hl : lG ops ms i t with
        | false => rfl
        | true =>
          obtain ⟨k', ok', hk', hd', hb'⟩ := jl.1 hl
          rw [only k' ok' hk' hd'] at hb'
          have := Reach.lt F hr; have := Reach.lt F (F.mask _ _ hb'); omega
      simp only [fw, this]
    · have hr := F.mask _ _ hb
      have hnk : ¬ L listed k := fun h => hn (I.reachS hr h)
      rw [I.a2 t (fun k' ok' hk' hd' => by rw [only k' ok' hk' hd']; exact hnk)]
      have : lG ops ms i t = true := jl.2 ⟨k, ok, hk, hkd, hb⟩
      simp only [fw, this]
  · have hno : ∀ (k : Nat) (ok : Oper), ops[k]? = some ok → ok.dst = some t → False := fun k ok hk hd => hw ⟨k, ok, hk, hd⟩
    rw [I.a2 t (fun k ok hk hd => (hno k ok hk hd).elim)]
    have : lG ops ms i t = false := by
      cases hl : lG ops ms i t with
      | false => rfl
      | true => obtain ⟨k', ok', hk', hd', _⟩ := jl.1 hl; exact (hno _ _ hk' hd').elim
    simp only [fw, this]
    exact (I.e2 t (fun k ok hk hd => (hno k ok hk hd).elim)).symm
theorem Inv.agreeD (F : Fits ops nt ms) (I : Inv P ops nt ms e0 listed rem e w a) {i : Nat} (hi : i ∈ rem) :
    ∀ t : Nat, e t = fw ops ms i e0 e t := by
  intro t
  cases hl : lG ops ms i t with
  | false => simp only [fw, hl]
  | true =>
    simp only [fw, hl]
    obtain ⟨k, ok, hk, hkd, hb⟩ := jl.1 hl
    have only : ∀ (k' : Nat) (ok' : Oper), ops[k']? = some ok' → ok'.dst = some t → k' = k := fun k' ok' hk' hd' => Classical.byContradiction fun h => F.nodup k' k ok' ok t hk' hk hkd h hd'
    have hkr : k ∈ rem := Classical.byContradiction fun h => I.reachD (F.mask _ _ hb) h hi
    exact I.e2 t fun k' ok' hk' hd' => by rw [only k' ok' hk' hd']; exact hkr
theorem nX {d : Option Tmp} {v : Value} {t : Nat} (h : d ≠ some t) : put nt e d v t = e t := by
  cases d with
  | none => rfl
  | some d' =>
    simp only [put]
    cases Nat.ble nt d' with
    | true => rfl
    | false =>
      simp only [Env.set]
      cases hb : Nat.beq t d' with
      | false => rfl
      | true => exact absurd (congrArg some (Nat.eq_of_beq_eq_true hb).symm) h
theorem put_eq {d : Nat} {v : Value} (h : d < nt) : put nt e (some d) v d = v := by
  have : Nat.ble nt d = false := by
    cases hb : Nat.ble nt d with
    | false => rfl
    | true => have := Nat.le_of_ble_eq_true hb; omega
  simp only [put, this, Env.set, Nat.beq_refl]
theorem Inv.keep (F : Fits ops nt ms) (I : Inv P ops nt ms e0 listed rem e w a) {i j : Nat} {o oj : Oper} (ho : ops[i]? = some o) (hi : i ∈ rem) (hoj : ops[j]? = some oj) (hj : j ∉ rem) (v : Value) :
    (∀ t ∈ oj.looksAt ops, fw ops ms j e0 e t = fw ops ms j e0 (put nt e o.dst v) t) ∧ (∀ d, oj.dst = some d → fw ops ms j e0 e d = fw ops ms j e0 (put nt e o.dst v) d) := by
  have hne : j ≠ i := fun h => hj (h ▸ hi)
  constructor
  · intro t ht
    by_cases hd : o.dst = some t
    · rcases F.ord j i oj o t hoj ho hd hne ht with hb | hb
      · exact absurd hi (I.reachD (F.mask _ _ hb) hj)
      · have : lG ops ms j t = true := jl.2 ⟨i, o, ho, hd, hb⟩
        simp only [fw, this]
    · simp only [fw, nX hd]
  · intro d hd
    have : o.dst ≠ some d := F.nodup i j o oj d ho hoj hd (Ne.symm hne)
    simp only [fw, nX this]
theorem Inv.float (F : Fits ops nt ms) {acc todo : List Nat} {i : Nat} (I : Inv P ops nt ms e0 listed (acc ++ i :: todo) e w a) {o : Oper} (ho : ops[i]? = some o) (hE : lH P o.op = false)
    (hd : ∀ d ∈ eX o, d ∉ acc ++ i :: todo) {v : Value} (hv : (guardE ops o e = true ∧ fop P e o.op w = some v) ∨ (guardE ops o e = false ∧ v = undef)) :
    Inv P ops nt ms e0 listed (acc ++ todo) (put nt e o.dst v) w a := by
  have hmem : i ∈ acc ++ i :: todo := by simp
  have hni : i ∉ acc ++ todo := by
    have := I.nd
    rw [List.pairwise_append] at this
    intro h
    rcases List.mem_append.1 h with h | h
    · have := this.2.2 i h i (by simp); omega
    · have h2 := (List.pairwise_cons.1 this.2.1).1 i h; omega
  have hiff : ∀ j, j ∉ acc ++ todo ↔ (j = i ∨ j ∉ acc ++ i :: todo) := by
    intro j
    constructor
    · intro h
      by_cases hji : j = i
      · exact .inl hji
      · refine .inr fun h' => h ?_
        rcases List.mem_append.1 h' with h' | h'
        · exact List.mem_append_left _ h'
        · rcases List.mem_cons.1 h' with h' | h'
          · exact absurd h' hji
          · exact List.mem_append_right _ h'
    · rintro (rfl | h)
      · exact hni
      · intro h'; refine h ?_
        rcases List.mem_append.1 h' with h' | h'
        · exact List.mem_append_left _ h'
        · exact List.mem_append_right _ (List.mem_cons_of_mem _ h')
  have hLi : ¬ L listed i := fun h => I.sub i h hmem
  refine ⟨I.size, I.tsz, I.dfr, fun j h => (hiff j).2 (.inr (I.sub j h)), ?_, ?_, I.closS, ?_, ?_, ?_, I.a2, ?_, ?_⟩
  · intro j hj
    exact I.remlt j (Classical.byContradiction fun h => (hiff j).2 (.inr h) hj)
  · have := I.nd
    rw [List.pairwise_append] at this ⊢
    exact ⟨this.1, (List.pairwise_cons.1 this.2.1).2, fun x hx y hy => this.2.2 x hx y (List.mem_cons_of_mem _ hy)⟩
  · intro j oj hoj hj d hdj
    rcases (hiff j).1 hj with rfl | hj
    · rw [ho] at hoj; cases hoj
      exact (hiff d).2 (.inr (hd d hdj))
    · exact (hiff d).2 (.inr (I.closD j oj hoj hj d hdj))
  · intro j oj hoj hEj hj
    rcases (hiff j).1 hj with rfl | hj
    · rw [ho] at hoj; cases hoj; rw [hE] at hEj; cases hEj
    · exact I.eff j oj hoj hEj hj
  · intro j oj t hoj hdj hLj
    rw [I.a1 j oj t hoj hdj hLj]
    have hne : j ≠ i := fun h => hLi (h ▸ hLj)
    exact (nX (F.nodup i j o oj t ho hoj hdj (Ne.symm hne))).symm
  · intro t ht
    have : o.dst ≠ some t := fun h => hni (ht i o ho h)
    rw [nX this]
    exact I.e2 t fun j oj hoj hdj => Classical.byContradiction fun h => (hiff j).2 (.inr h) (ht j oj hoj hdj)
  · intro j oj hoj hj hLj
    by_cases hji : j = i
    · subst hji
      rw [ho] at hoj; cases hoj
      have hag := I.agreeD F hmem
      have hagp : ∀ t ∈ o.looksAt ops, e t = fw ops ms j e0 (put nt e o.dst v) t := by
        intro t ht
        have hne : o.dst ≠ some t := fun h => (F.dst j o t ho h).2 ht
        rw [hag t]
        simp only [fw, nX hne]
      have hdst : ∀ d, o.dst = some d → fw ops ms j e0 (put nt e o.dst v) d = v := by
        intro d hdd
        have hl : lG ops ms j d = false := by
          cases hl : lG ops ms j d with
          | false => rfl
          | true =>
            obtain ⟨k, ok, hk, hkd, hb⟩ := jl.1 hl
            have : k = j := Classical.byContradiction fun h => F.nodup k j ok o d hk ho hdd h hkd
            subst this
            have := Reach.lt F (F.mask _ _ hb); omega
        simp only [fw, hl]
        rw [hdd]; exact put_eq (F.dst j o d ho hdd).1
      have hg := sN (ops := ops) (o := o) hagp
      have hf := BU (P := P) (e := e) (e' := fw ops ms j e0 (put nt e o.dst v)) (o := o.op) (fun x hx => by
        cases x with
        | tmp t => exact hagp t (uA hx)
        | const v => rfl
        | global g => rfl
        | func f => rfl) w
      unfold iy
      rcases hv with ⟨h1, h2⟩ | ⟨h1, h2⟩
      · rw [← hg, h1, ← hf, h2]
        cases hdd : o.dst with
        | none => rfl
        | some d => simp only [fok]; rw [← hdd, hdst d hdd]
      · rw [← hg, h1]
        cases hdd : o.dst with
        | none => trivial
        | some d => simp only [fok]; rw [← hdd, hdst d hdd, h2]
    · have hj' := ((hiff j).1 hj).resolve_left hji
      have hk := I.keep F ho hmem hoj hj' v
      exact (qy hk.1 hk.2).1 (I.pend j oj hoj hj' hLj)
theorem qR {o : Oper} {rem : List Nat} : rY rem o = true ↔ ∀ d ∈ eX o, d ∉ rem := by
  unfold rY eX
  rw [List.all_eq_true]
  constructor
  · intro h d hd
    obtain ⟨x, hx, rfl⟩ := List.mem_map.1 hd
    obtain ⟨hx1, hx2⟩ := List.mem_filter.1 hx
    have := h x hx1
    simpa [hx2] using this
  · intro h x hx
    cases hb : Region.binds .any x with
    | false => rfl
    | true =>
      have := h x.on (List.mem_map.2 ⟨x, List.mem_filter.2 ⟨hx, hb⟩, rfl⟩)
      simpa using this
theorem Qh (F : Fits ops nt ms) {K : List Nat → Env → Prop} : ∀ (todo acc : List Nat) (e : Env), Inv P ops nt ms e0 listed (acc ++ todo) e w a →
    (∀ i ∈ acc, ∀ o, ops[i]? = some o → lH P o.op = false → ∃ d ∈ eX o, d ∈ acc) → nk P ops nt todo acc e w K →
    ∃ rem' e', K rem' e' ∧ Inv P ops nt ms e0 listed rem' e' w a ∧ (∀ i ∈ rem', ∀ o, ops[i]? = some o → lH P o.op = false → ∃ d ∈ eX o, d ∈ rem') := by
  intro todo
  induction todo with
  | nil =>
    intro acc e I hacc h
    exact ⟨acc, e, h, by simpa using I, hacc⟩
  | cons i todo ih =>
    intro acc e I hacc h
    unfold nk at h
    split at h
    · exact h.elim
    · rename_i o ho
      split at h
      · rename_i hc
        simp only [Bool.and_eq_true, Bool.not_eq_true'] at hc
        have hd : ∀ d ∈ eX o, d ∉ acc ++ i :: todo := by
          intro d hd hm
          rcases List.mem_append.1 hm with hm | hm
          · exact qR.1 hc.2 d hd hm
          · have hlt := F.edge i o ho d hd
            have hp := I.nd
            rw [List.pairwise_append] at hp
            rcases List.mem_cons.1 hm with rfl | hm
            · omega
            · have := (List.pairwise_cons.1 hp.2.1).1 d hm; omega
        rw [pW] at h
        unfold stepG at h
        split at h
        · rename_i hg
          unfold aa at h
          split at h
          · rename_i v hf
            exact ih acc _ (I.float F ho hc.1 hd (.inl ⟨hg, hf⟩)) hacc h
          · exact h.elim
        · rename_i hg
          exact ih acc _ (I.float F ho hc.1 hd (.inr ⟨hg, rfl⟩)) hacc h
      · rename_i hc
        refine ih (acc ++ [i]) e (by simpa using I) ?_ h
        intro j hj oj hoj hEj
        rcases List.mem_append.1 hj with hj | hj
        · obtain ⟨d, h1, h2⟩ := hacc j hj oj hoj hEj
          exact ⟨d, h1, List.mem_append_left _ h2⟩
        · simp only [List.mem_singleton] at hj; subst hj
          rw [ho] at hoj; cases hoj
          have hr : rY acc o = false := by simpa [hEj] using hc
          have : ¬ ∀ d ∈ eX o, d ∉ acc := fun h => by rw [qR.2 h] at hr; cases hr
          simp only [Classical.not_forall, Classical.not_not] at this
          obtain ⟨d, h1, h2⟩ := this
          exact ⟨d, h1, List.mem_append_left _ h2⟩
end
end Go.Sx

/- Sx8 -/
namespace Go.Sx
variable {P : Program} {w : World}
section
variable {ops : Array Oper} {nt : Nat} {ms : List Nat} {e0 : Env} {listed : Array Bool} {rem : List Nat} {e : Env} {a : Act}
theorem CO {a : Act} {d : Tmp} {v : Value} (h : d < a.tmps.size) : val (a.put (some d) v) d = v := by
  simp [val, Act.put, h]
theorem kJ {a : Act} {d : Option Tmp} {v : Value} {t : Nat} (h : d ≠ some t) : val (a.put d v) t = val a t := by
  cases d with
  | none => rfl
  | some d =>
    have hne : d ≠ t := fun h' => h (h' ▸ rfl)
    simp only [val, Act.put, Array.getD_eq_getD_getElem?, Array.getElem?_setIfInBounds_ne hne]
theorem size_put {a : Act} {d : Option Tmp} {v : Value} : (a.put d v).tmps.size = a.tmps.size := by cases d <;> simp [Act.put]
theorem xn {a : Act} {d : Option Tmp} {v : Value} : (a.put d v).defers = a.defers := by cases d <;> rfl
theorem Ti {i j : Nat} (hi : i < listed.size) : L (listed.setIfInBounds i true) j ↔ (j = i ∨ L listed j) := by
  unfold L
  by_cases h : i = j
  · subst h; simp [hi]
  · rw [getD_set_ne false h]
    constructor
    · exact .inr
    · rintro (h' | h'); exact absurd h'.symm h; exact h'
theorem Inv.done (F : Fits ops nt ms) (I : Inv P ops nt ms e0 listed rem e w a) {i : Nat} {o : Oper} (ho : ops[i]? = some o) (hi : i ∉ rem) (hd : ∀ d ∈ eX o, L listed d)
    {v : Value} (hv : ∀ d, o.dst = some d → e d = v) : Inv P ops nt ms e0 (listed.setIfInBounds i true) rem e w (a.put o.dst v) := by
  have hlt : i < listed.size := by rw [I.size]; exact eZ ho
  have hL := fun j => Ti (j := j) hlt
  refine ⟨by simpa using I.size, by rw [size_put]; exact I.tsz, by rw [xn]; exact I.dfr, ?_, I.remlt, I.nd, ?_, I.closD, fun j oj hj hE hr => (hL j).2 (.inr (I.eff j oj hj hE hr)), ?_, ?_, I.e2, ?_⟩
  · intro j hj
    rcases (hL j).1 hj with rfl | hj
    · exact hi
    · exact I.sub j hj
  · intro j oj hoj hj d hdj
    rcases (hL j).1 hj with rfl | hj
    · rw [ho] at hoj; cases hoj; exact (hL d).2 (.inr (hd d hdj))
    · exact (hL d).2 (.inr (I.closS j oj hoj hj d hdj))
  · intro j oj t hoj hdj hj
    by_cases hji : j = i
    · subst hji
      rw [ho] at hoj; cases hoj
      rw [hv t hdj, hdj, CO (by rw [I.tsz]; exact (F.dst j o t ho hdj).1)]
    · have hLj := ((hL j).1 hj).resolve_left hji
      rw [kJ (F.nodup i j o oj t ho hoj hdj (Ne.symm hji))]
      exact I.a1 j oj t hoj hdj hLj
  · intro t ht
    have : o.dst ≠ some t := fun h => ht i o ho h ((hL i).2 (.inl rfl))
    rw [kJ this]
    exact I.a2 t fun j oj hoj hdj hLj => ht j oj hoj hdj ((hL j).2 (.inr hLj))
  · intro j oj hoj hj hLj
    exact I.pend j oj hoj hj fun h => hLj ((hL j).2 (.inr h))
theorem Inv.effect (F : Fits ops nt ms) (I : Inv P ops nt ms e0 listed rem e w a) {i : Nat} {o : Oper} (ho : ops[i]? = some o) (hi : i ∈ rem) (hd : ∀ d ∈ eX o, L listed d) {v : Value} {w' : World}
    (hre : ∀ j ∈ rcs P ops ms rem i, ∀ oj, ops[j]? = some oj → iy P ops (fw ops ms j e0 (put nt e o.dst v)) oj w') :
    Inv P ops nt ms e0 (listed.setIfInBounds i true) (rem.erase i) (put nt e o.dst v) w' (a.put o.dst v) := by
  have hlt : i < listed.size := by rw [I.size]; exact eZ ho
  have hL := fun j => Ti (j := j) hlt
  have hnd : rem.Nodup := I.nd.imp (fun h => Nat.ne_of_lt h)
  have hm : ∀ j, j ∈ rem.erase i ↔ j ≠ i ∧ j ∈ rem := fun j => hnd.mem_erase_iff
  have hLi : ¬ L listed i := fun h => I.sub i h hi
  refine ⟨by simpa using I.size, by rw [size_put]; exact I.tsz, by rw [xn]; exact I.dfr, ?_, fun j hj => I.remlt j ((hm j).1 hj).2, I.nd.sublist List.erase_sublist, ?_, ?_, ?_, ?_, ?_, ?_, ?_⟩
  · intro j hj h
    rcases (hL j).1 hj with rfl | hj
    · exact ((hm j).1 h).1 rfl
    · exact I.sub j hj ((hm j).1 h).2
  · intro j oj hoj hj d hdj
    rcases (hL j).1 hj with rfl | hj
    · rw [ho] at hoj; cases hoj; exact (hL d).2 (.inr (hd d hdj))
    · exact (hL d).2 (.inr (I.closS j oj hoj hj d hdj))
  · intro j oj hoj hj d hdj h
    by_cases hji : j = i
    · subst hji
      rw [ho] at hoj; cases hoj
      exact I.sub d (hd d hdj) ((hm d).1 h).2
    · have : j ∉ rem := fun h' => hj ((hm j).2 ⟨hji, h'⟩)
      exact I.closD j oj hoj this d hdj ((hm d).1 h).2
  · intro j oj hoj hE hj
    by_cases hji : j = i
    · exact (hL j).2 (.inl hji)
    · exact (hL j).2 (.inr (I.eff j oj hoj hE fun h' => hj ((hm j).2 ⟨hji, h'⟩)))
  · intro j oj t hoj hdj hj
    by_cases hji : j = i
    · subst hji
      rw [ho] at hoj; cases hoj
      rw [hdj, CO (by rw [I.tsz]; exact (F.dst j o t ho hdj).1), put_eq (F.dst j o t ho hdj).1]
    · have hLj := ((hL j).1 hj).resolve_left hji
      have hne := F.nodup i j o oj t ho hoj hdj (Ne.symm hji)
      rw [kJ hne, nX hne]
      exact I.a1 j oj t hoj hdj hLj
  · intro t ht
    have : o.dst ≠ some t := fun h => ht i o ho h ((hL i).2 (.inl rfl))
    rw [kJ this]
    exact I.a2 t fun j oj hoj hdj hLj => ht j oj hoj hdj ((hL j).2 (.inr hLj))
  · intro t ht
    have : o.dst ≠ some t := fun h => ((hm i).1 (ht i o ho h)).1 rfl
    rw [nX this]
    exact I.e2 t fun j oj hoj hdj => ((hm j).1 (ht j oj hoj hdj)).2
  · intro j oj hoj hj hLj
    have hji : j ≠ i := fun h => hLj ((hL j).2 (.inl h))
    have hjr : j ∉ rem := fun h => hj ((hm j).2 ⟨hji, h⟩)
    have hLj' : ¬ L listed j := fun h => hLj ((hL j).2 (.inr h))
    have hk := I.keep F ho hi hoj hjr v
    have hp := (qy hk.1 hk.2).1 (I.pend j oj hoj hjr hLj')
    by_cases hrd : Rz oj.op = true
    · have hb : bef ms i j = false := by
        cases hb : bef ms i j with
        | false => rfl
        | true => exact absurd (I.reachS' ho (F.mask _ _ hb) hd) hLj'
      refine hre j ?_ oj hoj
      unfold rcs
      rw [List.mem_filter]
      refine ⟨List.mem_range.2 (eZ hoj), ?_⟩
      have hnE : lH P oj.op = false := by
        cases hE : lH P oj.op with
        | false => rfl
        | true => exact absurd (I.eff j oj hoj hE hjr) hLj'
      simp [hjr, hoj, hrd, hb, hnE]
    · have hrd : Rz oj.op = false := by simpa using hrd
      unfold iy at hp ⊢
      rw [RZ hrd w' w]
      exact hp
theorem iQ {e : Env} {o : Oper} {v : Value} (h : fop P e o.op w = some v) : ∀ cs b, o.op ≠ .select cs b := by
  intro _ _ hb; rw [hb] at h; simp [fop] at h
theorem lD {call : eT} {e : Env} {o : Oper} {k : Value → World → Prop} (h : eop P call e o.op w k) : ∀ cs b, o.op ≠ .select cs b := by
  intro _ _ hb; rw [hb] at h; exact h
theorem iW {e : Env} {o : Oper} (h : ∀ t ∈ o.looksAt ops, val a t = e t) (hs : ∀ cs b, o.op ≠ .select cs b) : execOp a.eval o = execOp (ev e) o :=
  execOp_congr o hs fun _ hx => gG fun t ht => h t (uA (ht ▸ hx))
def tL (P : Program) (call : eT) (ops : Array Oper) (nt : Nat) (e0 : Env) (ms : List Nat) (f : Nat) (k : Env → World → Prop) (w : World) (rem' : List Nat) (e' : Env) : Prop := match rem' with
    | [] => k e' w
    | _ :: _ => match rX P ops rem' with
      | [] => False
      | l => wZ (fun i => match ops[i]? with
        | none => False
        | some o => lZ P call ops nt o e' w fun e2 w2 => match rcs P ops ms rem' i with
          | [] => uV P call ops nt e0 ms f (rem'.erase i) e2 w2 k
          | c :: cs => wZ (fun j => match ops[j]? with | some oj => iy P ops (fw ops ms j e0 e2) oj w2 | none => True) (c :: cs) ∧ uV P call ops nt e0 ms f (rem'.erase i) e2 w2 k) l
theorem Pn {call : eT} {k : Env → World → Prop} {f : Nat} : uV P call ops nt e0 ms (f + 1) rem e w k = nk P ops nt rem [] e w (tL P call ops nt e0 ms f k w) := rfl
theorem settle {call : eT} (F : Fits ops nt ms) {k : Env → World → Prop} {f : Nat} (I : Inv P ops nt ms e0 listed rem e w a) (h : uV P call ops nt e0 ms f rem e w k) :
    ∃ f' rem' e', tL P call ops nt e0 ms f' k w rem' e' ∧ Inv P ops nt ms e0 listed rem' e' w a ∧ (∀ i ∈ rem', ∀ o, ops[i]? = some o → lH P o.op = false → ∃ d ∈ eX o, d ∈ rem') := by
  cases f with
  | zero => exact h.elim
  | succ f =>
    rw [Pn] at h
    obtain ⟨rem', e', h1, h2, h3⟩ := Qh F rem [] e (by simpa using I) (by simp) h
    exact ⟨f, rem', e', h1, h2, h3⟩
theorem Cc {call : eT} (hc : lm P call) {o : Oper} (ha : ∀ t ∈ o.looksAt ops, val a t = e t) {K : Env → World → Prop} (h : lZ P call ops nt o e w K) {K' : Act → World → Prop} {Q : Exit → Act → World → Prop}
    (hK : ∀ v w', K (put nt e o.dst v) w' → K' (a.put o.dst v) w') :
    (if Region.wanted o (yielded ops a.tmps) then o.wp P a w K' Q ∨ (o.asks P a w ∧ LetsOut Q) else K' (a.put o.dst undef) w) := by
  rw [mf ha]
  unfold lZ dz at h
  split at h
  · rename_i hg
    rw [if_pos hg]
    refine .inl (qH (k := fun v w' => K (put nt e o.dst v) w') ?_ fun v w' hk => hK v w' hk)
    rw [iW ha (lD h)]
    exact Su hc h
  · rename_i hg
    rw [if_neg (by rw [hg]; decide)]
    exact hK _ _ h
theorem XV {call : eT} (hc : lm P call) (F : Fits ops nt ms) {Q : Exit → Act → World → Prop} {k : Env → World → Prop}
    (hQ : ∀ e' w' a', a'.tmps.size = nt → a'.defers = [] → (∀ t, val a' t = e' t) → k e' w' → Q .normal a' w') :
    ∀ (n : Nat) (U : List Nat) (listed : Array Bool) (f : Nat) (rem : List Nat) (e : Env) (w : World) (a : Act), U.length ≤ n → U.Nodup → (∀ i, i ∈ U ↔ i < ops.size ∧ ¬ L listed i) →
      Inv P ops nt ms e0 listed rem e w a → (∀ i ∈ rem, ∀ o, ops[i]? = some o → lH P o.op = false → ∃ d ∈ eX o, d ∈ rem) → tL P call ops nt e0 ms f k w rem e → wpAny P .any ops Q n listed a w := by
  have fin : ∀ (listed : Array Bool) (f : Nat) (rem : List Nat) (e : Env) (w : World) (a : Act), Inv P ops nt ms e0 listed rem e w a → tL P call ops nt e0 ms f k w rem e → (∀ i < ops.size, L listed i) → Q .normal a w := by
    intro listed f rem e w a I h hall
    have hrem : rem = [] := by
      cases rem with
      | nil => rfl
      | cons i r => exact absurd (List.mem_cons_self ..) (I.sub i (hall i (I.remlt i (List.mem_cons_self ..))))
    subst hrem
    refine hQ e w a I.tsz I.dfr ?_ h
    intro t
    by_cases hw : ∃ (i : Nat) (o : Oper), ops[i]? = some o ∧ o.dst = some t
    · obtain ⟨i, o, ho, hd⟩ := hw
      exact I.a1 i o t ho hd (hall i (eZ ho))
    · have hno : ∀ (i : Nat) (o : Oper), ops[i]? = some o → o.dst = some t → False := fun i o ho hd => hw ⟨i, o, ho, hd⟩
      rw [I.a2 t (fun i o ho hd => (hno i o ho hd).elim), I.e2 t (fun i o ho hd => (hno i o ho hd).elim)]
  have rdy : ∀ (listed : Array Bool), listed.size = ops.size → Region.ready .any ops listed = [] → ∀ i < ops.size, L listed i := by
    intro listed hsz hr i
    induction i using Nat.strongRecOn with
    | _ i ih =>
      intro hi
      refine Classical.byContradiction fun hL => ?_
      have ho : ops[i]? = some ops[i] := Array.getElem?_eq_getElem hi
      have : i ∈ Region.ready .any ops listed := by
        rw [mem_ready]
        refine ⟨?_, ops[i], ho, ?_⟩
        · have : i < listed.size := by omega
          unfold L at hL
          simp [this] at hL ⊢
          exact hL
        · intro x hx hb
          have hd : x.on ∈ eX ops[i] := List.mem_map.2 ⟨x, List.mem_filter.2 ⟨Array.mem_toList_iff.2 hx, hb⟩, rfl⟩
          have hlt := F.edge i _ ho _ hd
          exact ih x.on hlt (by omega)
      rw [hr] at this; simp at this
  intro n
  induction n with
  | zero =>
    intro U listed f rem e w a hU hnd hmem I hno h
    have hU0 : U = [] := List.length_eq_zero_iff.1 (by omega)
    subst hU0
    have hall : ∀ i < ops.size, L listed i := fun i hi => Classical.byContradiction fun hL => by simpa using (hmem i).2 ⟨hi, hL⟩
    refine ⟨?_, fin listed f rem e w a I h hall⟩
    cases hr : Region.ready .any ops listed with
    | nil => rfl
    | cons i r =>
      have : i ∈ Region.ready .any ops listed := by rw [hr]; exact List.mem_cons_self ..
      rw [mem_ready] at this
      obtain ⟨h0, o, ho, _⟩ := this
      have hL := hall i (eZ ho)
      have hlt : i < listed.size := by rw [I.size]; exact eZ ho
      unfold L at hL
      simp [hlt] at h0 hL
      rw [h0] at hL; cases hL
  | succ n ih =>
    intro U listed f rem e w a hU hnd hmem I hno h
    refine ⟨fun hr => fin listed f rem e w a I h (rdy listed I.size hr), ?_⟩
    intro i hi
    rw [mem_ready] at hi
    obtain ⟨h0, o, ho, hdeps⟩ := hi
    have hlt : i < listed.size := by rw [I.size]; exact eZ ho
    have hnL : ¬ L listed i := by
      unfold L; simp [hlt] at h0 ⊢; exact h0
    have hd : ∀ d ∈ eX o, L listed d := by
      intro d hd
      obtain ⟨x, hx, rfl⟩ := List.mem_map.1 hd
      obtain ⟨hx1, hx2⟩ := List.mem_filter.1 hx
      exact hdeps x (Array.mem_toList_iff.1 hx1) hx2
    have hag := I.agree F ho hnL hd
    have hU' : (U.erase i).length ≤ n := by
      rw [List.length_erase_of_mem ((hmem i).2 ⟨eZ ho, hnL⟩)]; omega
    have hmem' : ∀ j, j ∈ U.erase i ↔ j < ops.size ∧ ¬ L (listed.setIfInBounds i true) j := by
      intro j
      rw [hnd.mem_erase_iff, hmem j, Ti hlt]
      constructor
      · rintro ⟨h1, h2, h3⟩; exact ⟨h2, fun h => h.elim h1 h3⟩
      · rintro ⟨h1, h2⟩; exact ⟨fun h => h2 (.inl h), h1, fun h => h2 (.inr h)⟩
    unfold wpOp
    simp only [ho]
    by_cases hir : i ∈ rem
    · have hE : lH P o.op = true := by
        cases hE : lH P o.op with
        | true => rfl
        | false =>
          obtain ⟨d, h1, h2⟩ := hno i hir o ho hE
          exact absurd h2 (I.sub d (hd d h1))
      have hrd : i ∈ rX P ops rem := by
        unfold rX
        rw [List.mem_filter]
        refine ⟨hir, ?_⟩
        simp only [ho, hE, Bool.true_and]
        exact qR.2 fun d hdd => I.sub d (hd d hdd)
      have heff : lZ P call ops nt o e w fun e2 w2 => match rcs P ops ms rem i with
          | [] => uV P call ops nt e0 ms f (rem.erase i) e2 w2 k
          | c :: cs => wZ (fun j => match ops[j]? with | some oj => iy P ops (fw ops ms j e0 e2) oj w2 | none => True) (c :: cs) ∧ uV P call ops nt e0 ms f (rem.erase i) e2 w2 k := by
        unfold tL at h
        split at h
        · simp at hir
        · split at h
          · exact h.elim
          · have := oI.1 h i hrd
            simpa only [ho] using this
      have hage : ∀ t ∈ o.looksAt ops, val a t = e t := fun t ht => (hag t ht).trans (I.agreeD F hir t).symm
      refine Cc hc hage heff ?_
      intro v w' hk
      have hre : (∀ j ∈ rcs P ops ms rem i, ∀ oj, ops[j]? = some oj → iy P ops (fw ops ms j e0 (put nt e o.dst v)) oj w') ∧ uV P call ops nt e0 ms f (rem.erase i) (put nt e o.dst v) w' k := by
        split at hk
        · rename_i hnil
          exact ⟨fun j hj => by rw [hnil] at hj; simp at hj, hk⟩
        · rename_i c cs hcs
          refine ⟨fun j hj oj hoj => ?_, hk.2⟩
          rw [hcs] at hj
          have := oI.1 hk.1 j hj
          simpa only [hoj] using this
      have I' := I.effect F ho hir hd hre.1
      obtain ⟨f', rem', e', hS, I'', hno'⟩ := settle F I' hre.2
      exact ih (U.erase i) _ f' rem' e' w' _ hU' (hnd.erase i) hmem' I'' hno' hS
    · have hp := I.pend i o ho hir hnL
      rw [mf hag]
      unfold iy at hp
      have hdst : ∀ d, o.dst = some d → fw ops ms i e0 e d = e d := by
        intro d hdd
        have hl : lG ops ms i d = false := by
          cases hl : lG ops ms i d with
          | false => rfl
          | true =>
            obtain ⟨k', ok, hk', hkd, hb⟩ := jl.1 hl
            have : k' = i := Classical.byContradiction fun h => F.nodup k' i ok o d hk' ho hdd h hkd
            subst this
            have := Reach.lt F (F.mask _ _ hb); omega
        simp only [fw, hl]
      by_cases hg : guardE ops o (fw ops ms i e0 e) = true
      · rw [if_pos hg]
        left
        have hv : ∃ v, fop P (fw ops ms i e0 e) o.op w = some v ∧ ∀ d, o.dst = some d → e d = v := by
          cases hdd : o.dst with
          | none =>
            simp only [hdd, hg] at hp
            obtain ⟨v, hv⟩ := Option.isSome_iff_exists.1 hp
            exact ⟨v, hv, fun d h => by cases h⟩
          | some d =>
            simp only [hdd, hg, fok] at hp
            exact ⟨_, hp, fun d' h => by cases h; exact (hdst d hdd).symm⟩
        obtain ⟨v, hf, hv⟩ := hv
        refine qH (k := fun v' w' => v' = v ∧ w' = w) ?_ ?_
        · rw [iW hag (iQ hf)]
          exact .inl ⟨v, w, KF hf, rfl, rfl⟩
        · rintro v' w' ⟨rfl, rfl⟩
          exact ih (U.erase i) _ f rem e w' _ hU' (hnd.erase i) hmem' (I.done F ho hir hd hv) hno h
      · rw [if_neg hg]
        refine ih (U.erase i) _ f rem e w _ hU' (hnd.erase i) hmem' (I.done F ho hir hd fun d hdd => ?_) hno h
        have hg : guardE ops o (fw ops ms i e0 e) = false := by simpa using hg
        simp only [hdd, hg, fok] at hp
        rw [← hdst d hdd]; exact hp
end
end Go.Sx

/- Sx9 -/
namespace Go.Sx
variable {P : Program} {w : World}
def ifB (c : Value) (a b : Prop) : Prop := match c with
  | .bool true => a
  | .bool false => b
  | _ => False
def nZ : Nat → (Env → World → (Env → World → Prop) → Prop) → Env → World → Prop
  | 0, _, _, _ => False
  | n + 1, body, e, w => body e w fun e' w' => nZ n body e' w'
def Vg (P : Program) (call : eT) (nt : Nat) (ops : Array Oper) (draw : Bool) (e : Env) (w : World) (k : Env → World → Prop) : Prop := match draw with
  | false => fP P call ops nt ops.toList e w k
  | true => match okR ops nt (masks ops) with
    | true => uV P call ops nt e (masks ops) (ops.size + 1) (List.range ops.size) e w.drew k
    | false => False
def bB (id : Nat) (kn : Env → World → Prop) (ke : Nat → Env → World → Prop) : Nat → Env → World → Prop := fun id' e w => match Nat.beq id' id with | true => kn e w | false => ke id' e w
def den (P : Program) (call : eT) (nt n : Nat) : Code → Env → World → (Env → World → Prop) → (Env → World → Prop) → (Nat → Env → World → Prop) → Prop
  | .skip, e, w, kn, _, _ => kn e w
  | .region _ ops draw, e, w, kn, _, _ => Vg P call nt ops draw e w kn
  | .seq a b, e, w, kn, kr, ke => den P call nt n a e w (fun e w => den P call nt n b e w kn kr ke) kr ke
  | .cond c a b, e, w, kn, kr, ke => ifB (ev e c) (den P call nt n a e w kn kr ke) (den P call nt n b e w kn kr ke)
  | .block id body, e, w, kn, kr, ke => den P call nt n body e w kn kr (bB id kn ke)
  | .loop body, e, w, _, kr, ke => nZ n (fun e w k => den P call nt n body e w k kr ke) e w
  | .exit id, e, w, _, _, ke => ke id e w
  | .ret, e, w, _, kr, _ => kr e w
  | .scope c, e, w, kn, kr, ke => den P call nt n c e w kn kr ke
  | .label _, e, w, kn, _, _ => kn e w
  | _, _, _, _, _, _ => False
structure Rel (nt : Nat) (e : Env) (a : Act) : Prop where
  sz : a.tmps.size = nt
  df : a.defers = []
  v : ∀ t, val a t = e t
theorem Rel.put {nt : Nat} {e : Env} {a : Act} (h : Rel nt e a) (d : Option Tmp) (v : Value) : Rel nt (Sx.put nt e d v) (a.put d v) := by
  refine ⟨by rw [size_put, h.sz], by rw [xn, h.df], fun t => ?_⟩
  by_cases hd : d = some t
  · subst hd
    by_cases hlt : t < nt
    · rw [put_eq hlt, CO (by rw [h.sz]; exact hlt)]
    · have h1 : Sx.put nt e (some t) v = e := by
        have : Nat.ble nt t = true := Nat.ble_eq_true_of_le (by omega)
        simp only [Sx.put, this]
      have h2 : a.put (some t) v = a := by
        simp only [Act.put]
        rw [Array.setIfInBounds, dif_neg (by rw [h.sz]; exact hlt)]
      rw [h1, h2, h.v]
  · rw [nX hd, kJ hd, h.v]
theorem Vd {call : eT} (hc : lm P call) {ops : Array Oper} {nt : Nat} {k : Env → World → Prop} {Q : Exit → Act → World → Prop}
    (hQ : ∀ e' w' a', Rel nt e' a' → k e' w' → Q .normal a' w') : ∀ (l : List Oper) (e : Env) (w : World) (a : Act), Rel nt e a → fP P call ops nt l e w k → wpList P ops Q l a w := by
  intro l
  induction l with
  | nil => intro e w a hr h; exact hQ e w a hr h
  | cons o l ih =>
    intro e w a hr h
    unfold fP at h
    have hag : ∀ t ∈ o.looksAt ops, val a t = e t := fun t _ => hr.v t
    unfold wpList
    split at h
    · rw [pW] at h
      unfold stepG at h
      rw [mf hag]
      split at h
      · rename_i hg
        unfold aa at h
        split at h
        · rename_i v hf
          rw [if_pos hg]
          refine .inl (qH (k := fun v' w' => v' = v ∧ w' = w) ?_ ?_)
          · rw [iW hag (iQ hf)]
            exact .inl ⟨v, w, KF hf, rfl, rfl⟩
          · rintro v' w' ⟨rfl, rfl⟩
            exact ih _ _ _ (hr.put _ _) h
        · exact h.elim
      · rename_i hg
        rw [if_neg (by rw [hg]; decide)]
        exact ih _ _ _ (hr.put _ _) h
    · exact Cc hc hag h fun v w' hk => ih _ _ _ (hr.put _ _) hk
theorem Inv.start {ops : Array Oper} {nt : Nat} {ms : List Nat} {e : Env} {a : Act} (hr : Rel nt e a) : Inv P ops nt ms e (Array.replicate ops.size false) (List.range ops.size) e w a := by
  have hL : ∀ i, ¬ L (Array.replicate ops.size false) i := by
    intro i
    unfold L
    by_cases h : i < ops.size <;> simp [h]
  refine ⟨by simp, hr.sz, hr.df, fun i h => (hL i h).elim, fun i h => List.mem_range.1 h, List.pairwise_lt_range, fun i o _ h => (hL i h).elim, ?_, ?_, fun i o t _ _ h => (hL i h).elim, fun t _ => hr.v t, fun t _ => rfl, ?_⟩
  · intro i o ho hi
    exact (hi (List.mem_range.2 (eZ ho))).elim
  · intro i o ho _ hi
    exact (hi (List.mem_range.2 (eZ ho))).elim
  · intro i o ho hi
    exact (hi (List.mem_range.2 (eZ ho))).elim
theorem Vf {call : eT} (hc : lm P call) (hm : P.follows .mixedOrders = true) {id : Nat} {ops : Array Oper} {draw : Bool} {nt : Nat} {k : Env → World → Prop} {Q : Exit → Act → World → Prop}
    (hQ : ∀ e' w' a', Rel nt e' a' → k e' w' → Q .normal a' w') {e : Env} {a : Act} (hr : Rel nt e a)
    (h : Vg P call nt ops draw e w k) : (Code.region id ops draw).wp P Q a w := by
  unfold Vg at h
  split at h
  · exact wp_region_list (Vd hc hQ _ _ _ _ hr h)
  · split at h
    · rename_i hok
      have F := XW hok
      refine wp_region_any hm ?_
      have I : Inv P ops nt (masks ops) e (Array.replicate ops.size false) (List.range ops.size) e w.drew a := Inv.start hr
      obtain ⟨f', rem', e', hS, I', hno⟩ := settle F I h
      refine XV hc F (k := k) (fun e' w' a' h1 h2 h3 h4 => hQ e' w' a' ⟨h1, h2, h3⟩ h4) ops.size (List.range ops.size) _ f' rem' e' _ a (by simp) List.nodup_range ?_ I' hno hS
      intro i
      have : ¬ L (Array.replicate ops.size false) i := by
        unfold L
        by_cases h : i < ops.size <;> simp [h]
      simp [this]
    · exact h.elim
theorem least {p : Nat → Prop} (h : ∃ n, p n) : ∃ m, p m ∧ ∀ k, p k → m ≤ k := by
  obtain ⟨n, hn⟩ := h
  induction n using Nat.strongRecOn with
  | _ n ih =>
    by_cases hk : ∃ k, k < n ∧ p k
    · obtain ⟨k, hlt, hk⟩ := hk; exact ih k hlt hk
    · exact ⟨n, hn, fun k hpk => Nat.le_of_not_lt fun hlt => hk ⟨k, hlt, hpk⟩⟩
theorem Rh {body : Code} {B : Env → World → (Env → World → Prop) → Prop} {nt : Nat} {Q : Exit → Act → World → Prop}
    (hB : ∀ (K : Env → World → Prop) (K' : Act → World → Prop) e w a, Rel nt e a → (∀ e' w' a', Rel nt e' a' → K e' w' → K' a' w') → B e w K → body.wp P (Exit.then K' Q) a w)
    {n : Nat} {e : Env} {a : Act} (hr : Rel nt e a) (h : nZ n B e w) : (Code.loop body).wp P Q a w := by
  classical
  have hex : ∃ m, ∃ e, Rel nt e a ∧ nZ m B e w := ⟨n, e, hr, h⟩
  let μ : Act → World → Nat := fun a w => if hx : ∃ m, ∃ e, Rel nt e a ∧ nZ m B e w then Classical.choose (least hx) else 0
  refine wp_loop (fun a w => ∃ m, ∃ e, Rel nt e a ∧ nZ m B e w) μ hex ?_
  intro a w hx
  have hμ : μ a w = Classical.choose (least hx) := dif_pos hx
  obtain ⟨⟨e, hr, h⟩, _⟩ := Classical.choose_spec (least hx)
  cases hm : Classical.choose (least hx) with
  | zero => rw [hm] at h; exact h.elim
  | succ m =>
    rw [hm] at h
    refine hB _ _ e w a hr ?_ h
    intro e' w' a' hr' h'
    refine ⟨⟨m, e', hr', h'⟩, ?_⟩
    have hx' : ∃ m, ∃ e, Rel nt e a' ∧ nZ m B e w' := ⟨m, e', hr', h'⟩
    have : μ a' w' = Classical.choose (least hx') := dif_pos hx'
    rw [this, hμ, hm]
    exact Nat.lt_succ_of_le ((Classical.choose_spec (least hx')).2 m ⟨e', hr', h'⟩)
theorem den_ok {call : eT} (hc : lm P call) (hm : P.follows .mixedOrders = true) {nt n : Nat} (c : Code) : ∀ {e : Env} {w : World} {kn kr : Env → World → Prop} {ke : Nat → Env → World → Prop} {a : Act} {Q : Exit → Act → World → Prop},
    Rel nt e a → den P call nt n c e w kn kr ke → (∀ e' w' a', Rel nt e' a' → kn e' w' → Q .normal a' w') → (∀ e' w' a', Rel nt e' a' → kr e' w' → Q .ret a' w') →
    (∀ id e' w' a', Rel nt e' a' → ke id e' w' → Q (.exit id) a' w') → c.wp P Q a w := by
  induction c with
  | skip => intro e w kn kr ke a Q hr h hn _ _; exact wp_skip (hn e w a hr h)
  | region id ops draw => intro e w kn kr ke a Q hr h hn _ _; exact Vf hc hm hn hr h
  | seq x y ihx ihy =>
    intro e w kn kr ke a Q hr h hn hR hE
    refine wp_seq (ihx hr h ?_ ?_ ?_)
    · intro e' w' a' hr' h'; exact ihy hr' h' hn hR hE
    · exact hR
    · exact hE
  | cond c x y ihx ihy =>
    intro e w kn kr ke a Q hr h hn hR hE
    simp only [den, ifB] at h
    have hev : a.eval c = ev e c := gG fun t _ => hr.v t
    split at h
    · rename_i hb; exact wp_cond_true (hev.trans hb) (ihx hr h hn hR hE)
    · rename_i hb; exact wp_cond_false (hev.trans hb) (ihy hr h hn hR hE)
    · exact h.elim
  | block id body ih =>
    intro e w kn kr ke a Q hr h hn hR hE
    refine wp_block (ih hr h ?_ ?_ ?_)
    · exact hn
    · exact hR
    · intro id' e' w' a' hr' h'
      simp only [Exit.inBlock]
      unfold bB at h'
      split at h'
      · rename_i hb
        rw [if_pos (Nat.eq_of_beq_eq_true hb)]; exact hn _ _ _ hr' h'
      · rename_i hb
        rw [if_neg (fun he => by subst he; simp at hb)]; exact hE _ _ _ _ hr' h'
  | loop body ih =>
    intro e w kn kr ke a Q hr h hn hR hE
    refine Rh (B := fun e w k => den P call nt n body e w k kr ke) ?_ hr h
    intro K K' e w a hr' hK h'
    exact ih hr' h' hK hR hE
  | exit id => intro e w kn kr ke a Q hr h hn hR hE; exact wp_exit (hE _ _ _ _ hr h)
  | ret => intro e w kn kr ke a Q hr h hn hR hE; exact wp_ret (hR _ _ _ hr h)
  | rangeFunc f params assign body ih1 ih2 => intro e w kn kr ke a Q hr h; exact h.elim
  | scope body ih =>
    intro e w kn kr ke a Q hr h hn hR hE
    exact wp_scope_straight (ih hr h hn hR hE)
  | label l => intro e w kn kr ke a Q hr h hn _ _; exact wp_label (hn e w a hr h)
  | goto l => intro e w kn kr ke a Q hr h; exact h.elim
  | refuse why => intro e w kn kr ke a Q hr h; exact h.elim
def oneOf (l : List Value) : Value := match l with
  | [v] => v
  | l => .tuple l.toArray
def Px (P : Program) (K : Value → World → Prop) (e : Env) (w : World) : List ResultVar → List Value → Prop
  | [], acc => K (oneOf acc) w
  | .tmp t :: l, acc => Px P K e w l (acc ++ [e t])
  | .cell a t :: l, acc => aa (Cb P t (e a) w) fun v => Px P K e w l (acc ++ [v])
def aW (P : Program) (rs : List ResultVar) (K : Value → World → Prop) (e : Env) (w : World) : Prop := Px P K e w rs []
def dD (args : List Value) : Env := fun t => args.getD t undef
def fnD (P : Program) (call : eT) (n : Nat) (fn : Func) (args : List Value) (w : World) (K : Value → World → Prop) : Prop := match fn.body with
  | some c => match Nat.ble args.length fn.ntmps with
    | true => den P call fn.ntmps n c (dD args) w (aW P fn.results.toList K) (aW P fn.results.toList K) fun _ _ _ => False
    | false => False
  | none => False
theorem Pw {t : TypeId} {v r : Value} (h : Cb P t v w = some r) : ∃ a, v = .pointer (some a) := by
  unfold Cb at h
  split at h
  all_goals first
    | (unfold ldN at h; split at h <;> first | exact ⟨_, rfl⟩ | (simp at h))
    | (unfold ld1 at h; split at h <;> first | exact ⟨_, rfl⟩ | (simp at h))
    | simp at h
theorem Qw {e : Env} {a : Act} {K : Value → World → Prop} (hr : ∀ t, val a t = e t) : ∀ (rs : List ResultVar) (acc : List Value), Px P K e w rs acc →
    ∃ l, (rs.mapM (m := Sem) fun | .tmp t => pure (a.tmps.getD t undef) | .cell ad t => do loadVar t (← asAddr (a.tmps.getD ad undef))).run P w = .ok l w ∧ K (oneOf (acc ++ l)) w := by
  intro rs
  induction rs with
  | nil => intro acc h; exact ⟨[], by simp, by simpa [Px] using h⟩
  | cons r rs ih =>
    intro acc h
    cases r with
    | tmp t =>
      obtain ⟨l, h1, h2⟩ := ih _ h
      have : a.tmps.getD t undef = e t := hr t
      exact ⟨e t :: l, by simp only [List.mapM_cons, Sem.run_bind, Sem.run_pure, Result.andThen_ok, h1, this], by simpa using h2⟩
    | cell ad t =>
      unfold Px aa at h
      split at h
      · rename_i v hv
        obtain ⟨l, h1, h2⟩ := ih _ h
        obtain ⟨p, hp⟩ := Pw hv
        have hv' := wo (P := P) hv
        have : a.tmps.getD ad undef = .pointer (some p) := (hr ad).trans hp
        rw [hp] at hv'
        simp only [Instr.loadAt, Instr.sureAddr, Sem.run_bind, Sem.run_pure, Result.andThen_ok] at hv'
        have hasA : (asAddr (.pointer (some p))).run P w = .ok p w := rfl
        exact ⟨v :: l, by simp only [List.mapM_cons, Sem.run_bind, Sem.run_pure, Result.andThen_ok, h1, this, hasA, hv'], by simpa using h2⟩
      · exact h.elim
theorem nU {fn : Func} {e : Env} {a : Act} {K : Value → World → Prop} (hr : ∀ t, val a t = e t) (h : aW P fn.results.toList K e w) : ∃ v, (results fn a.tmps).run P w = .ok v w ∧ K v w := by
  obtain ⟨l, key, hK⟩ := Qw hr _ _ h
  refine ⟨oneOf l, ?_, by simpa using hK⟩
  have key2 : (fn.results.mapM (m := Sem) fun | .tmp t => pure (a.tmps.getD t undef) | .cell ad t => do loadVar t (← asAddr (a.tmps.getD ad undef))).run P w = .ok l.toArray w := by
    rw [Array.mapM_eq_mapM_toList]
    simp only [Sem.run_map]
    exact (congrArg (fun z => Result.andThen z fun (a : List Value) w' => Result.ok a.toArray w') key).trans rfl
  unfold results
  simp only [Sem.run_bind]
  refine (congrArg (fun z => Result.andThen z fun (vs : Array Value) w' => (pure (if h : vs.size = 1 then vs[0] else .tuple vs) : Sem Value).run P w') key2).trans ?_
  simp only [Result.andThen_ok]
  cases l with
  | nil => rfl
  | cons v l => cases l <;> rfl
theorem fn_ok {call : eT} (hc : lm P call) (hm : P.follows .mixedOrders = true) {n i : Nat} {fn : Func} (hf : P.funcs[i]? = some fn) (hcall : ∀ args w, (callFunc i args).run P w = .ok (.enter i args) w)
    {args : Array Value} {K : Value → World → Prop} (h : fnD P call n fn args.toList w K) : vT P i args w K := by
  refine .inl ⟨hcall _ _, ?_⟩
  unfold fnD at h
  split at h
  · rename_i c hb
    split at h
    · rename_i hle
      have hle : args.size ≤ fn.ntmps := by simpa using Nat.le_of_ble_eq_true hle
      refine calls_of_wp hf hb ?_
      have hr : Rel fn.ntmps (dD args.toList) { tmps := args ++ Array.replicate (fn.ntmps - args.size) undef, defers := [] } := by
        refine ⟨by simp; omega, rfl, fun t => ?_⟩
        simp only [val, dD, Array.getD_eq_getD_getElem?, List.getD_eq_getElem?_getD, Array.getElem?_toList]
        by_cases ht : t < args.size
        · rw [Array.getElem?_append_left ht]
        · rw [Array.getElem?_append_right (by omega), Array.getElem?_eq_none (xs := args) (by omega)]
          by_cases ht2 : t - args.size < fn.ntmps - args.size
          · simp [ht2]
          · simp [ht2]
      have hend : ∀ e' w' a', Rel fn.ntmps e' a' → aW P fn.results.toList K e' w' → a'.defers = [] ∧ ∃ v, (results fn a'.tmps).run P w' = .ok v w' ∧ ∃ v', Ending.returned v = .returned v' ∧ K v' w' := by
        intro e' w' a' hr' h'
        obtain ⟨v, h1, h2⟩ := nU hr'.v h'
        exact ⟨hr'.df, v, h1, v, rfl, h2⟩
      exact den_ok hc hm c hr h (fun e' w' a' hr' h' => hend e' w' a' hr' h') (fun e' w' a' hr' h' => hend e' w' a' hr' h') (fun _ _ _ _ _ h' => h'.elim)
    · exact h.elim
  · exact h.elim
def OkF (P : Program) (i : Nat) (F : FnT) : Prop := ∀ args w K, F args w K → vT P i args.toArray w K
def au : List (Nat × FnT) → eT
  | [], _, _, _, _ => False
  | (i, F) :: l, f, args, w, K => match Nat.beq f i with
    | true => F args w K
    | false => au l f args w K
def TabOk (P : Program) : List (Nat × FnT) → Prop
  | [] => True
  | (i, F) :: l => OkF P i F ∧ TabOk P l
theorem aN : ∀ {l : List (Nat × FnT)}, TabOk P l → lm P (au l)
  | [], _ => fun _ _ _ _ h => h.elim
  | (i, F) :: l, ⟨h1, h2⟩ => fun f args w K h => by
    unfold au at h
    split at h
    · rename_i hb
      have := h1 _ _ _ h
      rw [Nat.eq_of_beq_eq_true hb]
      exact this
    · exact aN h2 f args w K h
theorem aO {call : eT} (hc : lm P call) (hm : P.follows .mixedOrders = true) {n i : Nat} {fn : Func} (hf : P.funcs[i]? = some fn) (hcall : ∀ args w, (callFunc i args).run P w = .ok (.enter i args) w)
    {F : FnT} (h : ∀ args w K, F args w K → fnD P call n fn args w K) : OkF P i F := fun args w K hF => fn_ok hc hm hf hcall (by simpa using h _ _ _ hF)
def flat : Code → List Code
  | .seq a b => flat a ++ flat b
  | .scope c => flat c
  | .label _ => []
  | c => [c]
def aA (P : Program) (call : eT) (nt n : Nat) : List Code → Env → World → (Env → World → Prop) → (Env → World → Prop) → (Nat → Env → World → Prop) → Prop
  | [], e, w, kn, _, _ => kn e w
  | c :: l, e, w, kn, kr, ke => den P call nt n c e w (fun e w => aA P call nt n l e w kn kr ke) kr ke
section
variable {call : eT} {nt n : Nat}
theorem wN (l l' : List Code) : ∀ {e : Env} {w : World} {kn kr : Env → World → Prop} {ke : Nat → Env → World → Prop},
    aA P call nt n (l ++ l') e w kn kr ke = aA P call nt n l e w (fun e w => aA P call nt n l' e w kn kr ke) kr ke := by
  induction l with
  | nil => intros; rfl
  | cons c l ih =>
    intro e w kn kr ke
    simp only [List.cons_append, aA, ih]
theorem pY (c : Code) : ∀ {e : Env} {w : World} {kn kr : Env → World → Prop} {ke : Nat → Env → World → Prop}, aA P call nt n (flat c) e w kn kr ke = den P call nt n c e w kn kr ke := by
  induction c with
  | seq a b iha ihb =>
    intro e w kn kr ke
    simp only [flat, wN, iha, ihb, den]
  | scope c ih =>
    intro e w kn kr ke
    simp only [flat, ih, den]
  | _ => intros; rfl
theorem K8 {o : Option Value} {k k' : Value → Prop} (hk : ∀ v, k v → k' v) (h : aa o k) : aa o k' := by
  unfold aa at *; split <;> simp_all
theorem PR {α : Type} {p q : α → Prop} {l : List α} (hpq : ∀ x, p x → q x) (h : wZ p l) : wZ q l := oI.2 fun x hx => hpq x (oI.1 h x hx)
end
section
variable {k k' : Value → World → Prop} (hk : ∀ v w, k v w → k' v w)
include hk
theorem Iw {t : TypeId} (h : aY P t w k) : aY P t w k' := by
  unfold aY at *; split at h
  · rename_i hz; (try rw [hz]); exact hk _ _ h
  · exact h.elim
theorem Be {t : TypeId} {len : Nat} {ps : List (Nat × Value)} (h : aB P t len ps w k) : aB P t len ps w k' := by
  unfold aB at *; split at h
  · rename_i hz; (try rw [hz]); split at h
    · rename_i hc; (try simp only [hc]); exact hk _ _ h
    · exact h.elim
  · exact h.elim
theorem K7 {o : Option World} {v : Value} (h : bF o fun w => k v w) : bF o fun w => k' v w := by
  unfold bF at *; split at h
  · exact hk _ _ h
  · exact h.elim
theorem Bc {r : Option Value} (h : eG r w k) : eG r w k' := by
  unfold eG at *; split at h
  · exact hk _ _ h
  · exact h.elim
theorem Dy {t : TypeId} {l c : Value} (h : pX P t l c w k) : pX P t l c w k' := by
  unfold pX at *; split at h
  · rename_i hz; (try rw [hz]); split at h
    · rename_i hi; (try simp only [hi])
      obtain ⟨h1, h2, h3, h4, h5⟩ := h
      refine ⟨h1, h2, h3, h4, ?_⟩
      split at h5
      · rename_i hc; (try simp only [hc]); exact hk _ _ h5
      · exact h5.elim
    · exact h.elim
  · exact h.elim
theorem sW {t : TypeId} {m key v : Value} (h : bz P t m key v w k) : bz P t m key v w k' := by
  unfold bz at *; split at h
  · rename_i hz; (try rw [hz]); split at h
    · split at h
      · rename_i hb; (try simp only [hb])
        refine ⟨h.1, ?_⟩
        have h := h.2
        split at h
        · rename_i hf; (try simp only [hf]); exact ⟨h.1, hk _ _ h.2⟩
        · rename_i hf; (try simp only [hf]); exact hk _ _ h
        · exact h.elim
      · exact h.elim
    · exact h.elim
  · exact h.elim
theorem Dz {t : TypeId} {m key : Value} (h : bE P t m key w k) : bE P t m key w k' := by
  unfold bE at *; split at h
  · rename_i hz; (try rw [hz]); split at h
    · split at h
      · rename_i hb; (try simp only [hb])
        refine ⟨h.1, ?_⟩
        have h := h.2
        split at h
        · rename_i hf; (try simp only [hf]); exact hk _ _ h
        · rename_i hf; (try simp only [hf]); exact hk _ _ h
        · exact h.elim
      · exact h.elim
    · exact h.elim
  · exact h.elim
theorem Io {t : TypeId} {m : Value} (h : l5 P t m w k) : l5 P t m w k' := by
  unfold l5 at *; split at h
  · rename_i hz; (try rw [hz]); split at h
    · exact hk _ _ h
    · split at h
      · rename_i hb; (try simp only [hb]); exact hk _ _ h
      · exact h.elim
    · exact h.elim
  · exact h.elim
theorem Im {t : TypeId} {x : Value} (h : bK P t x w k) : bK P t x w k' := by
  unfold bK at *; split at h
  · rename_i hz; (try rw [hz]); split at h
    · exact hk _ _ h
    · exact h.elim
  · rename_i hz; (try rw [hz]); split at h
    · exact hk _ _ h
    · split at h
      · rename_i hb; (try simp only [hb]); exact hk _ _ h
      · exact h.elim
    · exact h.elim
  · exact h.elim
theorem KR {it : Value} {b : Bool} (h : bZ it b w k) : bZ it b w k' := by
  unfold bZ at *; split at h
  · split at h
    · rename_i hb; (try simp only [hb]); split at h
      · rename_i hlt; (try rw [if_pos hlt]); exact hk _ _ h
      · rename_i hlt; (try rw [if_neg hlt]); exact hk _ _ h
    · rename_i hb; (try simp only [hb]); exact hk _ _ h
    · rename_i hb; (try simp only [hb]); split at h
      · rename_i hm; (try simp only [hm])
        refine ⟨h.1, fun j w1 hw1 hj => ?_⟩
        have h := h.2 j w1 hw1 hj
        split at h
        · rename_i he; (try simp only [he]); exact hk _ _ h
        · rename_i he; (try simp only [he]); exact hk _ _ h
        · exact h.elim
      · exact h.elim
    · exact h.elim
  · exact h.elim
theorem Bb {s d : TypeId} {x : Value} (h : iX P s d x w k) : iX P s d x w k' := by
  unfold iX at *; split at h
  · rename_i h1 h2; (try simp only [h1, h2]); split at h
    · rename_i h3; (try simp only [h3]); exact fun cap hc => hk _ _ (h cap hc)
    · exact h.elim
  · exact h.elim
theorem Ip {call : eT} {f : Value} {args : List Value} (h : gP call f args w k) : gP call f args w k' := by
  unfold gP at *; split at h
  · obtain ⟨k0, h1, h2⟩ := h
    exact ⟨k0, h1, fun v w' h => hk _ _ (h2 v w' h)⟩
  · exact h.elim
theorem ny {t xt : TypeId} {s x : Value} (h : aJ P t xt s x w k) : aJ P t xt s x w k' := by
  unfold aJ at *; split at h
  · rename_i hz; (try rw [hz]); split at h
    · rename_i hi hs hl; (try simp only [hi, hs, hl]); split at h
      · rename_i hn; (try simp only [hn])
        refine ⟨fun hcap => ?_, fun hcap => ?_⟩
        · have h := h.1 hcap
          split at h
          · rename_i hst; (try simp only [hst]); exact hk _ _ h
          · exact h.elim
        · obtain ⟨h1, h2, h3⟩ := h.2 hcap
          refine ⟨h1, h2, ?_⟩
          split at h3
          · rename_i ho hz; (try simp only [ho, hz]); exact fun cap hc => hk _ _ (h3 cap hc)
          · exact h3.elim
      · exact h.elim
    · exact h.elim
  · exact h.elim
theorem KT {t : TypeId} {d x : Value} (h : Ce P t d x w k) : Ce P t d x w k' := by
  unfold Ce at *; split at h
  · rename_i hz; (try rw [hz]); split at h
    · rename_i hi hl; (try simp only [hi, hl]); split at h
      · rename_i hn; (try simp only [hn]); split at h
        · rename_i hst; (try simp only [hst]); exact hk _ _ h
        · exact h.elim
      · exact h.elim
    · exact h.elim
  · exact h.elim
theorem Sv {call : eT} {e : Env} {o : Op} (h : eop P call e o w k) : eop P call e o w k' := by
  cases o <;> simp only [eop] at h ⊢
  case alloc t => exact Iw hk h
  case box t x => exact hk _ _ h
  case buildSlice t len parts => exact Be hk h
  case store t a x => exact K7 hk h
  case makeMap t r => exact Bc hk h
  case makeSlice t l c => exact Dy hk h
  case mapUpdate t m key v => exact sW hk h
  case insert t m key v => exact sW hk h
  case range t x => exact Im hk h
  case next it s => exact KR hk h
  case convert s d x => exact Bb hk h
  case call c =>
    unfold Sw at *
    split at h
    · rename_i hc; (try simp only [hc]); exact Ip hk h
    · rename_i hc; (try simp only [hc]); split at h
      · rename_i h1 h2; (try simp only [h1, h2]); exact ny hk h
      · rename_i h1 h2; (try simp only [h1, h2]); exact KT hk h
      · rename_i h1 h2; (try simp only [h1, h2]); exact Dz hk h
      · rename_i h1 h2; (try simp only [h1, h2]); exact Io hk h
      · exact h.elim
    · exact h.elim
end
section
variable {call : eT} {nt n : Nat}
theorem wJ {ops : Array Oper} {o : Oper} {e : Env} {K K' : Env → Prop} (hk : ∀ e, K e → K' e) (h : uZ P ops nt o e w K) : uZ P ops nt o e w K' := by
  rw [pW] at *
  unfold stepG at *; split at h
  · exact K8 (fun v hv => hk _ hv) h
  · exact hk _ h
theorem wL {ops : Array Oper} {o : Oper} {e : Env} {K K' : Env → World → Prop} (hk : ∀ e w, K e w → K' e w) (h : lZ P call ops nt o e w K) : lZ P call ops nt o e w K' := by
  unfold lZ dz at *; split at h
  · exact Sv (fun v w hv => hk _ _ hv) h
  · exact hk _ _ h
theorem Oq {ops : Array Oper} {k k' : Env → World → Prop} (hk : ∀ e w, k e w → k' e w) : ∀ (l : List Oper) {e : Env} {w : World}, fP P call ops nt l e w k → fP P call ops nt l e w k' := by
  intro l
  induction l with
  | nil => intro e w h; exact hk _ _ h
  | cons o l ih =>
    intro e w h
    unfold fP at h ⊢
    split at h
    · rename_i he; (try rw [he]); exact wJ (K := fun e' => fP P call ops nt l e' w k) (K' := fun e' => fP P call ops nt l e' w k') (fun e h => ih h) h
    · rename_i he; (try rw [he]); exact wL (K := fun e' w' => fP P call ops nt l e' w' k) (K' := fun e' w' => fP P call ops nt l e' w' k') (fun e w h => ih h) h
theorem Ia {ops : Array Oper} {K K' : List Nat → Env → Prop} (hk : ∀ r e, K r e → K' r e) : ∀ (todo acc : List Nat) {e : Env}, nk P ops nt todo acc e w K → nk P ops nt todo acc e w K' := by
  intro todo
  induction todo with
  | nil => intro acc e h; exact hk _ _ h
  | cons i todo ih =>
    intro acc e h
    unfold nk at h ⊢
    split at h
    · exact h.elim
    · rename_i o ho; (try simp only [ho]); split at h
      · rename_i he; (try rw [he]); exact wJ (fun e h => ih _ h) h
      · rename_i he; (try rw [he]); exact ih _ h
theorem Po {ops : Array Oper} {ms : List Nat} {e0 : Env} {k k' : Env → World → Prop} (hk : ∀ e w, k e w → k' e w) : ∀ (f : Nat) {rem : List Nat} {e : Env} {w : World}, uV P call ops nt e0 ms f rem e w k → uV P call ops nt e0 ms f rem e w k' := by
  intro f
  induction f with
  | zero => intro rem e w h; exact h
  | succ f ih =>
    intro rem e w h
    unfold uV at h ⊢
    refine Ia (fun r e h => ?_) _ _ h
    split at h
    · exact hk _ _ h
    · split at h
      · exact h.elim
      · refine PR (fun i h => ?_) h
        split at h
        · exact h.elim
        · refine wL (fun e w h => ?_) h
          split at h
          · exact ih h
          · exact ⟨h.1, ih h.2⟩
theorem IA (c : Code) : ∀ {kn kn' kr kr' : Env → World → Prop} {ke ke' : Nat → Env → World → Prop}, (∀ e w, kn e w → kn' e w) → (∀ e w, kr e w → kr' e w) → (∀ i e w, ke i e w → ke' i e w) →
    ∀ {e : Env} {w : World}, den P call nt n c e w kn kr ke → den P call nt n c e w kn' kr' ke' := by
  induction c with
  | skip => intro kn kn' kr kr' ke ke' hn hr he e w h; exact hn _ _ h
  | region id ops draw =>
    intro kn kn' kr kr' ke ke' hn hr he e w h
    simp only [den, Vg] at *
    split at h
    · exact Oq hn _ h
    · split at h
      · rename_i hok; (try rw [hok]); exact Po hn _ h
      · exact h.elim
  | seq a b iha ihb => intro kn kn' kr kr' ke ke' hn hr he e w h; exact iha (fun e w h => ihb hn hr he h) hr he h
  | cond c a b iha ihb =>
    intro kn kn' kr kr' ke ke' hn hr he e w h
    simp only [den, ifB] at *
    split at h
    · exact iha hn hr he h
    · exact ihb hn hr he h
    · exact h.elim
  | block id body ih =>
    intro kn kn' kr kr' ke ke' hn hr he e w h
    refine ih hn hr (fun i e w h => ?_) h
    unfold bB at *
    split at h
    · rename_i hb; (try rw [hb]); exact hn _ _ h
    · rename_i hb; (try rw [hb]); exact he _ _ _ h
  | loop body ih =>
    intro kn kn' kr kr' ke ke' hn hr he e w h
    have : ∀ m e w, nZ m (fun e w k => den P call nt n body e w k kr ke) e w → nZ m (fun e w k => den P call nt n body e w k kr' ke') e w := by
      intro m
      induction m with
      | zero => intro e w h; exact h
      | succ m ihm => intro e w h; exact ih (fun e w h => ihm e w h) hr he h
    exact this _ _ _ h
  | exit id => intro kn kn' kr kr' ke ke' hn hr he e w h; exact he _ _ _ h
  | ret => intro kn kn' kr kr' ke ke' hn hr he e w h; exact hr _ _ h
  | rangeFunc f params assign body ih1 ih2 => intro kn kn' kr kr' ke ke' hn hr he e w h; exact h
  | scope body ih => intro kn kn' kr kr' ke ke' hn hr he e w h; exact ih hn hr he h
  | label l => intro kn kn' kr kr' ke ke' hn hr he e w h; exact hn _ _ h
  | goto l => intro kn kn' kr kr' ke ke' hn hr he e w h; exact h
  | refuse why => intro kn kn' kr kr' ke ke' hn hr he e w h; exact h
theorem ve : ∀ (l : List Code) {kn kn' kr kr' : Env → World → Prop} {ke ke' : Nat → Env → World → Prop}, (∀ e w, kn e w → kn' e w) → (∀ e w, kr e w → kr' e w) → (∀ i e w, ke i e w → ke' i e w) →
    ∀ {e : Env} {w : World}, aA P call nt n l e w kn kr ke → aA P call nt n l e w kn' kr' ke'
  | [], _, _, _, _, _, _, hn, _, _, _, _, h => hn _ _ h
  | c :: l, _, _, _, _, _, _, hn, hr, he, _, _, h => IA c (fun _ _ h => ve l hn hr he h) hr he h
end
end Go.Sx

/- Sx10 -/
namespace Go.Sx
variable {P : Program} {w : World}
def noE : Nat → Env → World → Prop := fun _ _ _ => False
def fuel : Nat := 4611686018427387904
def aV (l : List Code) (j : Nat) : Code := l.getD j .skip
def ah (f : Func) : Code := f.body.getD .skip
def bi : Code → Code | .block _ b => b | c => c
def aU : Code → Code | .loop b => b | c => c
def nR : Code → Code | .cond _ a _ => a | c => c
def il : Code → Code | .cond _ _ b => b | c => c
section
variable {call : eT} {nt n : Nat} {kn kr : Env → World → Prop} {ke : Nat → Env → World → Prop}
theorem seg {l : List Code} (j : Nat) {fy fr : Env → World → Prop} {fe : Nat → Env → World → Prop} {e : Env} (h : aA P call nt n (l.take j) e w fy fr fe)
    (hy : ∀ e w, fy e w → aA P call nt n (l.drop j) e w kn kr ke) (hr : ∀ e w, fr e w → kr e w) (he : ∀ i e w, fe i e w → ke i e w) : aA P call nt n l e w kn kr ke := by
  rw [← List.take_append_drop j l, wN]
  exact ve _ hy hr he h
theorem bQ {l : List Code} {fn fr : Env → World → Prop} {fe : Nat → Env → World → Prop} {e : Env} (h : aA P call nt n l e w fn fr fe)
    (hn : ∀ e w, fn e w → kn e w) (hr : ∀ e w, fr e w → kr e w) (he : ∀ i e w, fe i e w → ke i e w) : aA P call nt n l e w kn kr ke :=
  ve _ hn hr he h
theorem bD {id : Nat} {fn : Env → World → Prop} {fe : Nat → Env → World → Prop} (hn : ∀ e w, fn e w → kn e w) (he : ∀ i e w, fe i e w → ke i e w) : ∀ i e w, bB id fn fe i e w → bB id kn ke i e w := by
  intro i e w h
  unfold bB at *
  split at h
  · rename_i hb; (try rw [hb]); exact hn _ _ h
  · rename_i hb; (try rw [hb]); exact he _ _ _ h
theorem bM {l l2 : List Code} {id : Nat} {body : Code} {e : Env} (hl : l = .block id (.loop body) :: l2)
    (h : nZ n (fun e w k => den P call nt n body e w k kr (bB id (fun e w => aA P call nt n l2 e w kn kr ke) ke)) e w) : aA P call nt n l e w kn kr ke := by
  subst hl; exact h
theorem pE {l l2 : List Code} {id : Nat} {body : Code} {e : Env} (hl : l = .block id body :: l2)
    (h : aA P call nt n (flat body) e w (fun e w => aA P call nt n l2 e w kn kr ke) kr (bB id (fun e w => aA P call nt n l2 e w kn kr ke) ke)) : aA P call nt n l e w kn kr ke := by
  subst hl; rw [pY] at h; exact h
theorem yo {l l2 : List Code} {c : Operand} {a b : Code} {e : Env} (hl : l = .cond c a b :: l2) {fa fb : Prop} (h : ifB (ev e c) fa fb)
    (ha : fa → aA P call nt n (flat a) e w (fun e w => aA P call nt n l2 e w kn kr ke) kr ke) (hb : fb → aA P call nt n (flat b) e w (fun e w => aA P call nt n l2 e w kn kr ke) kr ke) : aA P call nt n l e w kn kr ke := by
  subst hl
  rw [pY] at ha hb
  simp only [aA, den, ifB] at *
  split at h
  · exact ha h
  · exact hb h
  · exact h.elim
theorem bV {body : Code} {fr : Env → World → Prop} {fe : Nat → Env → World → Prop} {FL : Nat → Env → World → Prop} (h0 : ∀ e w, ¬ FL 0 e w)
    (hs : ∀ m e w, FL (m + 1) e w → aA P call nt n (flat body) e w (FL m) fr fe) (hr : ∀ e w, fr e w → kr e w) (he : ∀ i e w, fe i e w → ke i e w) :
    ∀ m e w, FL m e w → nZ m (fun e w k => den P call nt n body e w k kr ke) e w := by
  intro m
  induction m with
  | zero => intro e w h; exact (h0 e w h).elim
  | succ m ih =>
    intro e w h
    have := hs m e w h
    rw [pY] at this
    exact IA body (fun e w h => ih e w h) hr he this
end
theorem az {call : eT} {n : Nat} {fn : Func} {c : Code} (hb : fn.body = some c) {args : List Value} (hle : Nat.ble args.length fn.ntmps = true) {K : Value → World → Prop}
    (h : aA P call fn.ntmps n (flat c) (dD args) w (aW P fn.results.toList K) (aW P fn.results.toList K) noE) : fnD P call n fn args w K := by
  unfold fnD
  rw [hb]
  simp only [hle]
  rw [pY] at h
  exact h
def on0 (p : Prop) : List Value → Prop | [] => p | _ => False
def on1 (p : Value → Prop) : List Value → Prop | [a] => p a | _ => False
def on2 (p : Value → Value → Prop) : List Value → Prop | [a, b] => p a b | _ => False
def on3 (p : Value → Value → Value → Prop) : List Value → Prop | [a, b, c] => p a b c | _ => False
def on4 (p : Value → Value → Value → Value → Prop) : List Value → Prop | [a, b, c, d] => p a b c d | _ => False
theorem Q7 {p : Prop} {l : List Value} (h : on0 p l) : l = [] ∧ p := by unfold on0 at h; split at h; exact ⟨rfl, h⟩; exact h.elim
theorem bJ {p : Value → Prop} {l : List Value} (h : on1 p l) : ∃ a, l = [a] ∧ p a := by unfold on1 at h; split at h; exact ⟨_, rfl, h⟩; exact h.elim
theorem dn {p : Value → Value → Prop} {l : List Value} (h : on2 p l) : ∃ a b, l = [a, b] ∧ p a b := by unfold on2 at h; split at h; exact ⟨_, _, rfl, h⟩; exact h.elim
theorem kV {p : Value → Value → Value → Prop} {l : List Value} (h : on3 p l) : ∃ a b c, l = [a, b, c] ∧ p a b c := by unfold on3 at h; split at h; exact ⟨_, _, _, rfl, h⟩; exact h.elim
theorem Q6 {p : Value → Value → Value → Value → Prop} {l : List Value} (h : on4 p l) : ∃ a b c d, l = [a, b, c, d] ∧ p a b c d := by unfold on4 at h; split at h; exact ⟨_, _, _, _, rfl, h⟩; exact h.elim
def gd (want : Bool) (v : Value) : Bool := match v with | .bool b => b == want | _ => false
def st (n : Nat) (a x : Value) (w : World) : Option World := match a with
  | .pointer (some ⟨b, o, none⟩) => if x.cells.size = n then mM w b o x.cells.toList else none
  | _ => none
def ik (x : Value) : Option Value := match x with | .string s => some (.int .i64 s.size) | _ => none
def bI (x : Value) : Option Value := match x with | .slice _ n _ => some (.int .i64 n) | _ => none
def dF (x : Value) (w : World) : Option Value := match mapOf x w with | some es => some (.int .i64 es.size) | none => none
abbrev V0 := World → Prop
abbrev V1 := Value → V0
abbrev V2 := Value → V1
abbrev V3 := Value → V2
abbrev V4 := Value → V3
abbrev V5 := Value → V4
abbrev V6 := Value → V5
abbrev V7 := Value → V6
abbrev V8 := Value → V7
abbrev ET := Env → World → Prop
abbrev JT := Nat → Env → World → Prop
abbrev HN (f kn : ET) : Prop := ∀ e w, f e w → kn e w
abbrev HR (P : Program) (rs : List ResultVar) (K : V1) (kr : ET) : Prop := ∀ e w, aW P rs K e w → kr e w
abbrev HE (f ke : JT) : Prop := ∀ i e w, f i e w → ke i e w
end Go.Sx

/- Sy1 -/
namespace Go.Sx
section
variable {w : World} {k : Value → Prop} {K : Value → World → Prop}
@[congr] theorem bindP_congr {o o' : Option Value} (h : o = o') : aa o k = aa o' k := by rw [h]
@[congr] theorem Zp {g g' : Bool} {o : Option Value} (h : g = g') : Sx.stepG g o k = Sx.stepG g' o k := by rw [h]
@[congr] theorem Zo {g g' : Bool} {v : Value} (h : g = g') : aS g v k = aS g' v k := by rw [h]
@[congr] theorem Zq {g g' : Bool} {E : (Value → World → Prop) → Prop} (h : g = g') : dz g E w K = dz g' E w K := by rw [h]
@[congr] theorem Z9 {o o' : Option World} {q : World → Prop} (h : o = o') : bF o q = bF o' q := by rw [h]
@[congr] theorem ifB_congr {c c' : Value} {a b : Prop} (h : c = c') : ifB c a b = ifB c' a b := by rw [h]
@[congr] theorem Z8 {F : FnT} {l l' : List Value} (h : l = l') : ai F l w K = ai F l' w K := by rw [h]
@[simp] theorem ak (v : Value) : aa (some v) k = k v := congrFun (rfl : aa (some v) = fun k => k v) k
@[simp] theorem aH (o : Option Value) : Sx.stepG true o k = aa o k := congrFun (rfl : Sx.stepG true o = aa o) k
@[simp] theorem aF (o : Option Value) : Sx.stepG false o k = k undef := congrFun (rfl : Sx.stepG false o = fun k => k undef) k
@[simp] theorem aQ (v : Value) : aS true v k = k v := congrFun (rfl : aS true v = fun k => k v) k
@[simp] theorem aP (v : Value) : aS false v k = k undef := congrFun (rfl : aS false v = fun k => k undef) k
@[simp] theorem bf (E : (Value → World → Prop) → Prop) : dz true E w K = E K := congrFun (rfl : dz true E w = E) K
@[simp] theorem aT (E : (Value → World → Prop) → Prop) : dz false E w K = K undef w := congrFun (rfl : dz false E w = fun K => K undef w) K
@[simp] theorem ll {q : World → Prop} (w' : World) : bF (some w') q = q w' := congrFun (rfl : bF (some w') = fun q => q w') q
@[simp] theorem aR {a b : Prop} : ifB (.bool true) a b = a := congrFun (rfl : ifB (.bool true) a = fun _ => a) b
@[simp] theorem aL {a b : Prop} : ifB (.bool false) a b = b := congrFun (rfl : ifB (.bool false) a = fun b => b) b
@[simp] theorem bC (b : Bool) : gd true (.bool b) = b := by cases b <;> rfl
@[simp] theorem aZ (b : Bool) : gd false (.bool b) = !b := by cases b <;> rfl
@[simp] theorem aI (a b : Value) : aG (.bool true) a b = some a := rfl
@[simp] theorem aC (a b : Value) : aG (.bool false) a b = some b := rfl
@[simp] theorem yI (a : Addr) : cZ (.pointer (some a)) = some (.pointer (some a)) := rfl
@[simp] theorem aX (off b o : Nat) : ae off (.pointer (some ⟨b, o, none⟩)) = some (.pointer (some ⟨b, o + off, none⟩)) := rfl
@[simp] theorem bu (a : Addr) : ld1 (.pointer (some a)) w = w.cell? a := rfl
@[simp] theorem fD (o : Option Value) (v : Value) : fok true o v = (o = some v) := rfl
@[simp] theorem fok_false (o : Option Value) (v : Value) : fok false o v = (v = undef) := rfl
@[simp] theorem bg (b : Bool) : dN (.bool b) = some (.bool !b) := rfl
@[simp] theorem zy (j : IntKind) (a b : Int) : bH (.int j a) (.int j b) = some (.int j (j.wrap (a + b))) := by simp [bH]
@[simp] theorem SI (j : IntKind) (a b : Int) : jK (.int j a) (.int j b) = some (.int j (j.wrap (a - b))) := by simp [jK]
@[simp] theorem zx (j : IntKind) (a b : Int) : nP (.int j a) (.int j b) = some (.int j (j.wrap (a * b))) := by simp [nP]
theorem tu (j : IntKind) (a b : Int) (h : b ≠ 0) : gI (.int j a) (.int j b) = some (.int j (a.tmod b)) := by simp [gI, h]
theorem tF (j : IntKind) (a b : Int) (h : b ≠ 0) : iM (.int j a) (.int j b) = some (.int j (j.wrap (a.tdiv b))) := by simp [iM, h]
@[simp] theorem bG (j : IntKind) (a b : Int) : bLt (.int j a) (.int j b) = some (.bool (a < b)) := by simp [bLt]
@[simp] theorem gZ (j : IntKind) (a b : Int) : bLe (.int j a) (.int j b) = some (.bool (a ≤ b)) := by simp [bLe]
@[simp] theorem bU (j : IntKind) (a b : Int) : bGt (.int j a) (.int j b) = some (.bool (a > b)) := by simp [bGt]
@[simp] theorem lK (j : IntKind) (a b : Int) : bGe (.int j a) (.int j b) = some (.bool (a ≥ b)) := by simp [bGe]
variable {P : Program} {t : TypeId} {x y : Operand}
@[simp] theorem iY (j : IntKind) (a b : Int) : bEq P t x y (.int j a) (.int j b) = some (.bool (decide (a = b))) := by have : (a == b) = decide (a = b) := (by rw [Bool.eq_iff_iff]; simp); simp [bEq, dB, this]
@[simp] theorem dh (j : IntKind) (a b : Int) : bNe P t x y (.int j a) (.int j b) = some (.bool (!decide (a = b))) := by have : (a == b) = decide (a = b) := (by rw [Bool.eq_iff_iff]; simp); simp [bNe, dB, this]
@[simp] theorem eB (a b : ByteArray) : bEq P t x y (.string a) (.string b) = some (.bool (a == b)) := by simp [bEq, dB, uE]
@[simp] theorem cK (a b : ByteArray) : bNe P t x y (.string a) (.string b) = some (.bool (!(a == b))) := by simp [bNe, dB, uE]
theorem bNe_nilp {e : TypeId} (h : P.underlying t = some (.pointer e)) (a : Option Addr) : bNe P t x y (.pointer a) (.pointer none) = some (.bool (!a.isNone)) := by
  cases a <;> simp [bNe, dB, xm, eqv, Op.maxDepth, h]
@[simp] theorem OC (l : List Value) (i : Nat) : aK (.tuple l.toArray) i = l[i]? := by simp [aK]
@[simp] theorem M5 (a : Option Addr) (n c : Nat) : bI (.slice a n c) = some (.int .i64 n) := rfl
@[simp] theorem iw (s : ByteArray) : ik (.string s) = some (.int .i64 s.size) := rfl
end
theorem aj {F : FnT} {l : List Value} {w : World} {K : Value → World → Prop} (h : F l w K) : ai F l w K := ⟨K, h, fun _ _ h => h⟩
@[simp] theorem heap_drew (w : World) : w.drew.heap = w.heap := rfl
theorem cell_of {w : World} {b i : Nat} {c : Array Value} {ty : TypeId} {fz : Nat × Nat} (h : w.heap[b]? = some (.cells c ty fz)) : w.cell? ⟨b, i, none⟩ = c[i]? := by simp [World.cell?, h]
theorem heap_alloc_new (w : World) (o : Obj) : (w.alloc o).heap[w.heap.size]? = some o := by show (w.heap.push o)[w.heap.size]? = _; simp
theorem qw (w : World) (o : Obj) {b : Nat} (h : b < w.heap.size) : (w.alloc o).heap[b]? = w.heap[b]? := by show (w.heap.push o)[b]? = _; rw [Array.getElem?_push, if_neg (by omega)]
@[simp] theorem Zw (w : World) (b : Nat) (o : Obj) : (dK w b o).heap.size = w.heap.size := by simp [dK]
theorem nT {w : World} {b : Nat} {o o' : Obj} (h : w.heap[b]? = some o') : (dK w b o).heap[b]? = some o := by rw [qQ, if_pos rfl, if_pos (dX h)]
theorem uD {w : World} {b b' : Nat} {o : Obj} (h : b ≠ b') : (dK w b o).heap[b']? = w.heap[b']? := by rw [qQ, if_neg h]
structure Fr (l : List Nat) (w w' : World) : Prop where
  os : w'.os = w.os
  tape : w'.tape = w.tape
  output : w'.output = w.output
  size : w.heap.size ≤ w'.heap.size
  blk : ∀ b, b < w.heap.size → b ∉ l → w'.heap[b]? = w.heap[b]?
theorem Fr.refl (l : List Nat) (w : World) : Fr l w w := ⟨rfl, rfl, rfl, Nat.le_refl _, fun _ _ _ => rfl⟩
theorem Fr.trans {l l' : List Nat} {a b c : World} (h : Fr l a b) (h' : Fr l' b c) (hl : ∀ x ∈ l', x ∈ l ∨ a.heap.size ≤ x) : Fr l a c :=
  ⟨h'.os.trans h.os, h'.tape.trans h.tape, h'.output.trans h.output, Nat.le_trans h.size h'.size, fun x hx hn => by
    rw [h'.blk x (by have := h.size; omega) fun hm => by rcases hl x hm with h1 | h1; exact hn h1; omega, h.blk x hx hn]⟩
theorem Fr.mono {l l' : List Nat} {a b : World} (h : Fr l a b) (hl : ∀ x ∈ l, x ∈ l' ∨ a.heap.size ≤ x) : Fr l' a b :=
  ⟨h.os, h.tape, h.output, h.size, fun x hx hn => h.blk x hx fun hm => by rcases hl x hm with h1 | h1; exact hn h1; omega⟩
theorem Fr.alloc (l : List Nat) (w : World) (o : Obj) : Fr l w (w.alloc o) := ⟨rfl, rfl, rfl, by simp, fun _ h _ => qw w o h⟩
theorem Fr.drew (l : List Nat) (w : World) : Fr l w w.drew := ⟨rfl, rfl, rfl, Nat.le_refl _, fun _ _ _ => rfl⟩
theorem Fr.set {l : List Nat} (w : World) {b : Nat} (o : Obj) (h : b ∈ l) : Fr l w (dK w b o) := ⟨rfl, rfl, rfl, by simp, fun _ _ hn => uD fun e => hn (e ▸ h)⟩
theorem Fr.below {w w' : World} (h : Fr [] w w') : RowKit.Below w.heap.size w w' := ⟨h.os, h.tape, h.output, h.size, fun b hb => h.blk b hb (by simp)⟩
theorem fK {n : Int} (h : -9223372036854775808 ≤ n ∧ n ≤ 9223372036854775807) : IntKind.i64.wrap n = n := IntWalk.i64_in n h
end Go.Sx

/- Sy2 -/
namespace Go.Sx
structure Stp (fp fp' : List Nat) (w w' : World) : Prop where
  fr : Fr fp w w'
  ext : ∀ b ∈ fp', b ∈ fp ∨ w.heap.size ≤ b
theorem Stp.refl (fp : List Nat) (w : World) : Stp fp fp w w := ⟨.refl _ _, fun _ h => .inl h⟩
theorem Stp.trans {fp fp' fp'' : List Nat} {a b c : World} (h : Stp fp fp' a b) (h' : Stp fp' fp'' b c) : Stp fp fp'' a c :=
  ⟨h.fr.trans h'.fr h.ext, fun x hx => by
    rcases h'.ext x hx with h1 | h1
    · exact h.ext x h1
    · exact .inr (Nat.le_trans h.fr.size h1)⟩
def Apart (l m : List Nat) : Prop := ∀ x ∈ l, x ∉ m
theorem Apart.symm {l m : List Nat} (h : Apart l m) : Apart m l := fun x hx hl => h x hl hx
theorem Apart.step {l l' m : List Nat} {w w' : World} (h : Apart l m) (hm : ∀ b ∈ m, b < w.heap.size) (s : Stp l l' w w') : Apart l' m := fun x hx hl => by
  rcases s.ext x hx with h1 | h1
  · exact h x h1 hl
  · have := hm x hl; omega
theorem Stp.keep {fp fp' : List Nat} {w w' : World} (s : Stp fp fp' w w') {b : Nat} (hb : b < w.heap.size) (hn : b ∉ fp) : w'.heap[b]? = w.heap[b]? := s.fr.blk b hb hn
theorem Stp.of {fp fp' gp gp' : List Nat} {w w' : World} (s : Stp fp fp' w w') (h1 : ∀ b ∈ fp, b ∈ gp) (h2 : ∀ b ∈ gp', b ∈ gp ∨ b ∈ fp' ∨ w.heap.size ≤ b) : Stp gp gp' w w' :=
  ⟨s.fr.mono fun x hx => .inl (h1 x hx), fun b hb => by
    rcases h2 b hb with h | h | h
    · exact .inl h
    · rcases s.ext b h with h | h
      · exact .inl (h1 b h)
      · exact .inr h
    · exact .inr h⟩
theorem Stp.cons {fp fp' : List Nat} {w w' : World} (s : Stp fp fp' w w') (p : Nat) : Stp (p :: fp) (p :: fp') w w' :=
  s.of (fun b hb => by simp [hb]) fun b hb => by
    rcases List.mem_cons.1 hb with h | h
    · exact .inl (by simp [h])
    · exact .inr (.inl h)
theorem Stp.drew (gp : List Nat) (w : World) : Stp gp gp w w.drew := ⟨Fr.drew _ _, fun _ h => .inl h⟩
theorem Stp.set {gp : List Nat} (w : World) {b : Nat} (o : Obj) (h : b ∈ gp) : Stp gp gp w (dK w b o) := ⟨Fr.set _ _ h, fun _ h => .inl h⟩
structure SlT (P : Program) (t el : TypeId) (es bytes : Nat) : Prop where
  u : P.underlying t = some (.slice el)
  i : ∃ i, P.info? el = some i ∧ i.size = es ∧ i.bytes = bytes
  z : ∃ z, bO P el = some z ∧ z.cells.size = es
  pos : 0 < es
  bpos : 0 < bytes
inductive Rd (w : World) (es : Nat) : Value → Nat → List Value → Prop
  | emp (a : Option Addr) (cap : Nat) : Rd w es (.slice a 0 cap) 0 []
  | blk {b o n cap : Nat} {a : Array Value} {ty : TypeId} {fz : Nat × Nat} {cs : List Value} (hb : w.heap[b]? = some (.cells a ty fz)) (hn : n ≤ cap) (ha : o + n * es ≤ a.size)
      (hc : cs = (a.toList.drop o).take (n * es)) : Rd w es (.slice (some ⟨b, o, none⟩) n cap) n cs
inductive Own (w : World) (es : Nat) (ty : TypeId) : List Nat → Value → Nat → List Value → Prop
  | nil : Own w es ty [] (.slice none 0 0) 0 []
  | blk {b o n cap : Nat} {a : Array Value} {cs : List Value} (hb : w.heap[b]? = some (.cells a ty (0, 0))) (hn : n ≤ cap) (ha : o + cap * es ≤ a.size)
      (hc : cs = (a.toList.drop o).take (n * es)) : Own w es ty [b] (.slice (some ⟨b, o, none⟩) n cap) n cs
section
variable {w w' : World} {es n : Nat} {ty : TypeId} {fp : List Nat} {v : Value} {cs : List Value}
theorem Own.rd (h : Own w es ty fp v n cs) : Rd w es v n cs := by
  cases h with
  | nil => exact .emp _ _
  | blk hb hn ha hc => exact .blk hb hn (by have := Nat.mul_le_mul_right es hn; omega) hc
theorem Own.keep (h : Own w es ty fp v n cs) (hk : ∀ b ∈ fp, w'.heap[b]? = w.heap[b]?) : Own w' es ty fp v n cs := by
  cases h with
  | nil => exact .nil
  | blk hb hn ha hc => exact .blk (by rw [hk _ (by simp), hb]) hn ha hc
theorem Own.lt (h : Own w es ty fp v n cs) : ∀ b ∈ fp, b < w.heap.size := by
  cases h with
  | nil => simp
  | blk hb hn ha hc => intro b hb'; simp at hb'; subst hb'; exact dX hb
theorem Rd.length (h : Rd w es v n cs) : cs.length = n * es := by
  cases h with
  | emp => simp
  | blk hb hn ha hc => subst hc; rw [List.length_take, List.length_drop, Array.length_toList]; omega
theorem Rd.len (h : Rd w es v n cs) : bI v = some (.int .i64 n) := by cases h <;> rfl
theorem Rd.lenV (h : Rd w es v n cs) : lenV v = some n := by cases h <;> rfl
theorem Rd.cap (h : Rd w es v n cs) : ∃ a c, v = .slice a n c ∧ n ≤ c := by
  cases h with
  | emp => exact ⟨_, _, rfl, Nat.zero_le _⟩
  | blk hb hn ha hc => exact ⟨_, _, rfl, hn⟩
theorem Rd.firstC (h : Rd w es v n cs) {m : Nat} (hm : m ≤ n) : firstC es m v w = some (cs.take (m * es)).toArray := by
  cases h with
  | emp a cap => have : m = 0 := by omega
                 subst this; cases a <;> simp [Sx.firstC]
  | blk hb hn ha hc =>
    have hm' := Nat.mul_le_mul_right es hm
    simp only [Sx.firstC, hb]
    by_cases h0 : m * es = 0
    · rw [if_pos h0, h0]; simp
    rw [if_neg h0, if_pos (by omega)]
    subst hc
    rw [List.take_take, Nat.min_eq_left hm']
    congr 1
    apply Array.ext'
    simp only [Array.toList_extract, List.extract_eq_take_drop]
    rw [show ∀ o : Nat, o + m * es - o = m * es by intro o; omega]
theorem List.take_append_add_of_len {α : Type} {l m : List α} {o k : Nat} (h : l.length = o) : List.take (o + k) (l ++ m) = l ++ List.take k m := by
  subst h; rw [List.take_length_add_append]
theorem List.drop_append_add {α : Type} {l m : List α} {k : Nat} : List.drop (l.length + k) (l ++ m) = List.drop k m := by
  rw [List.drop_length_add_append]
theorem ma : ∀ (l : List Value) (c : Array Value) (o : Nat), o + l.length ≤ c.size → (wr c o l).toList = c.toList.take o ++ l ++ c.toList.drop (o + l.length) := by
  intro l
  induction l with
  | nil => intro c o h; simp [wr]
  | cons v l ih =>
    intro c o h
    simp only [List.length_cons] at h
    simp only [wr]
    rw [ih _ _ (by simp; omega)]
    simp only [Array.toList_setIfInBounds, List.length_cons]
    have hlt : o < c.toList.length := by simp; omega
    have e2 : (List.take o c.toList).length = o := by simp; omega
    rw [List.set_eq_take_append_cons_drop, if_pos hlt, show o + 1 + l.length = (List.take o c.toList).length + (1 + l.length) by omega, List.drop_append_add]
    rw [List.take_append_add_of_len e2]
    simp [Nat.add_comm]
    omega
theorem mK {b o : Nat} {a : Array Value} {vs : List Value} (hb : w.heap[b]? = some (.cells a ty (0, 0))) (h : o + vs.length ≤ a.size) (hv : vs.all (·.oneCell') = true) :
    mM w b o vs = some (dK w b (.cells (wr a o vs) ty (0, 0))) := by
  simp only [mM, hb]; rw [if_pos ⟨h, by omega, hv⟩]
theorem Iu {P : Program} {t xt el : TypeId} {bytes m : Nat} {s x : Value} {ds : List Value} {K : Value → World → Prop} (T : SlT P t el es bytes) (hxt : nN P xt = true)
    (hO : Own w es el fp s n cs) (hR : Rd w es x m ds) (hd : ds.all (·.oneCell') = true) (hb : (n + m) * bytes ≤ 140737488355328)
    (hK : ∀ w' fp' s', Own w' es el fp' s' (n + m) (cs ++ ds) → Stp fp fp' w w' → K s' w') : aJ P t xt s x w K := by
  obtain ⟨i, hi, his, hib⟩ := T.i
  obtain ⟨z, hz, hzs⟩ := T.z
  have hrd := hO.rd
  have hnew := hR.firstC (Nat.le_refl m)
  have hlen := hR.length
  rw [List.take_of_length_le (by omega)] at hnew
  have hold := hrd.firstC (Nat.le_refl n)
  have hlenc := hrd.length
  rw [List.take_of_length_le (by omega)] at hold
  have grow : ∀ sc : Nat, sc < n + m → Builtin.nextslicecap (n + m) sc * i.bytes ≤ 2 ^ 48 ∧ i.bytes ≠ 0 ∧
      (∀ cap, n + m ≤ cap → K (sl w.heap.size (n + m) cap) (w.drew.alloc (.cells (cs.toArray ++ ds.toArray ++ Builtin.zeroCells z.cells (cap - (n + m))) el))) := by
    intro sc hsc
    have := growslice_fits hsc (hib ▸ hb)
    have hbp := T.bpos
    refine ⟨by rw [hib] at this ⊢; omega, by omega, fun cap hcap => hK _ [w.heap.size] _ (.blk (o := 0) (heap_alloc_new _ _) hcap ?_ ?_) ⟨?_, ?_⟩⟩
    · simp [Builtin.zeroCells, hzs, hlen, hlenc, ← Nat.add_mul]
      rw [Nat.add_sub_cancel' hcap]; exact Nat.le_refl _
    · simp only [List.drop_zero, Array.toList_append]
      rw [List.take_append_of_le_length (by simp [hlen, hlenc, Nat.add_mul])]
      rw [List.take_of_length_le (by simp [hlen, hlenc, Nat.add_mul])]
    · exact ((Fr.drew fp w).trans (Fr.alloc fp w.drew _) fun x hx => .inl hx)
    · intro b hb; simp at hb; subst hb; exact .inr (Nat.le_refl _)
  unfold aJ
  simp only [T.u, hi, hxt, hR.lenV]
  cases hO with
  | nil =>
    simp only [hz, his, hnew, hold]
    refine ⟨fun h => ?_, fun h => ?_⟩
    · have : m = 0 := by omega
      subst this
      have : ds = [] := by cases ds with | nil => rfl | cons => simp at hlen
      subst this
      simp only [lw]
      exact hK _ _ _ .nil (.refl _ _)
    · obtain ⟨h1, h2, h3⟩ := grow 0 h
      exact ⟨h1, h2, h3⟩
  | blk hb' hn ha hc =>
    rename_i b o cap a
    simp only [hz, his, hnew, hold]
    refine ⟨fun h => ?_, fun h => ?_⟩
    · have hm1 := Nat.mul_le_mul_right es h
      rw [Nat.add_mul] at hm1
      simp only [lw]
      rw [mK hb' (by simp only [hlen]; omega) hd]
      refine hK _ [b] _ (.blk (nT hb') h (by simpa using ha) ?_) ⟨Fr.set _ _ (by simp), fun x hx => .inl hx⟩
      rw [ma _ _ _ (by rw [hlen]; omega), Nat.add_mul]
      subst hc
      have e1 : List.take (o + n * es) a.toList = List.take o a.toList ++ List.take (n * es) (List.drop o a.toList) := by rw [List.take_add]
      have e2 : (List.take o a.toList).length = o := by simp; omega
      rw [e1]
      simp only [List.append_assoc]
      rw [List.drop_left' e2]
      rw [← List.append_assoc, List.take_left' (by rw [List.length_append, hlen, hlenc])]
    · obtain ⟨h1, h2, h3⟩ := grow cap h
      exact ⟨h1, h2, h3⟩
end
end Go.Sx

/- Sy3 -/
namespace Go.Sx
theorem SlT.of {P : Program} {t el : TypeId} {es bytes : Nat} (u : P.underlying t = some (.slice el)) (i : (P.info? el).map (fun i => (i.size, i.bytes)) = some (es, bytes))
    (z : (bO P el).map (fun z => z.cells.size) = some es) (pos : 0 < es) (bpos : 0 < bytes) : SlT P t el es bytes := by
  simp only [Option.map_eq_some_iff, Prod.mk.injEq] at i z
  exact ⟨u, i, z, pos, bpos⟩
class OneV (v : Value) : Prop where
  c : v.cells = #[v]
  o : v.oneCell' = true
instance (k : IntKind) (n : Int) : OneV (.int k n) := ⟨rfl, rfl⟩
instance (s : ByteArray) : OneV (.string s) := ⟨rfl, rfl⟩
instance (b : Bool) : OneV (.bool b) := ⟨rfl, rfl⟩
instance (a : Option Addr) : OneV (.pointer a) := ⟨rfl, rfl⟩
instance (a : Option Addr) (n c : Nat) : OneV (.slice a n c) := ⟨rfl, rfl⟩
instance (m : Option Nat) : OneV (.map m) := ⟨rfl, rfl⟩
theorem Rd.one {w : World} {es n : Nat} {v : Value} {cs : List Value} (h : Rd w es v n cs) : OneV v := by cases h <;> infer_instance
theorem Own.one {w : World} {es n : Nat} {ty : TypeId} {fp : List Nat} {v : Value} {cs : List Value} (h : Own w es ty fp v n cs) : OneV v := h.rd.one
section
variable {w w' : World} {es n : Nat} {ty : TypeId} {fp : List Nat} {v : Value} {cs : List Value}
theorem Zt {b o : Nat} {c : Array Value} (h : w.heap[b]? = some (.cells c ty (0, 0))) (x : Value) [hx : OneV x] (ho : o < c.size) :
    st 1 (.pointer (some ⟨b, o, none⟩)) x w = some (dK w b (.cells (c.setIfInBounds o x) ty (0, 0))) := by
  simp only [st, hx.c]
  rw [if_pos (by rfl), mK h (by simp; omega) (by simp [hx.o])]
  rfl
theorem DC {P : Program} {t el : TypeId} {len : Nat} {parts : List (Nat × Value)} {K : Value → World → Prop} {c : Array Value} (hu : P.underlying t = some (.slice el))
    (hc : dx P el len parts = some c) (hs : c.size = len * es) (hK : ∀ w' s, Own w' es el [w.heap.size] s len c.toList → Stp [] [w.heap.size] w w' → K s w') : aB P t len parts w K := by
  simp only [aB, hu, hc]
  refine hK _ _ (.blk (heap_alloc_new _ _) (Nat.le_refl _) (by omega) ?_) ⟨Fr.alloc _ _ _, fun b hb => .inr (by simp at hb; omega)⟩
  rw [← hs, List.drop_zero, List.take_of_length_le (by simp)]
end
inductive Bd (d : Nat) : Option Value → Nat → Prop
  | none : Bd d none d
  | some (j : IntKind) (i : Nat) : Bd d (some (.int j i)) i
inductive BdM (hi n : Nat) : Option Value → Option Value → Prop
  | none (h : Option Value) : BdM hi n h none
  | some (v : Value) (j : IntKind) (m : Nat) (h1 : hi ≤ m) (h2 : m ≤ n) : BdM hi n (some v) (some (.int j m))
theorem mX {es n cap lo hi : Nat} {a : Option Addr} {L H M : Option Value} (hL : Bd 0 L lo) (hH : Bd n H hi) (hM : BdM hi n H M) (h1 : lo ≤ hi) (h2 : hi ≤ n) (h3 : n ≤ cap) :
    ∃ m, hi ≤ m ∧ m ≤ cap ∧ dZ es (.slice a n cap) L H M = some (.slice (if m = lo then a else a.map (·.add (lo * es))) (hi - lo) (m - lo)) := by
  have bl : bnd L 0 hi = some lo := by cases hL <;> simp [bnd] <;> omega
  cases hM with
  | none =>
    refine ⟨cap, by omega, Nat.le_refl _, ?_⟩
    have bh : hiB none H n cap = some hi := by cases hH <;> simp [hiB, bnd]; omega
    simp [dZ, bnd, bh] at *
    simp [bl]
  | some v j m h1 h2 =>
    refine ⟨m, h1, by omega, ?_⟩
    have bm : bnd (some (.int j m)) cap cap = some m := by simp [bnd]; omega
    have bh : hiB (some (.int j m)) (some v) n m = some hi := by cases hH; simp [hiB, bnd]; omega
    simp only [dZ, bm, bh, bl]
theorem addr_add {b o k : Nat} : (⟨b, o, none⟩ : Addr).add k = ⟨b, o + k, none⟩ := by unfold Addr.add; split <;> simp_all
section
variable {w : World} {es n lo hi : Nat} {ty : TypeId} {fp : List Nat} {v : Value} {cs : List Value} {L H M : Option Value}
theorem Bt {a : List Value} {o : Nat} (h1 : lo ≤ hi) (h2 : hi ≤ n) : List.drop (lo * es) (List.take (hi * es) (List.take (n * es) (List.drop o a))) = List.take ((hi - lo) * es) (List.drop (o + lo * es) a) := by
  have e1 := Nat.mul_le_mul_right es h1
  have e2 := Nat.mul_le_mul_right es h2
  rw [List.take_take, Nat.min_eq_left e2, List.drop_take, List.drop_drop, Nat.sub_mul]
theorem Own.sub (h : Own w es ty fp v n cs) (hL : Bd 0 L lo) (hH : Bd n H hi) (hM : BdM hi n H M) (h1 : lo ≤ hi) (h2 : hi ≤ n) :
    ∃ v', dZ es v L H M = some v' ∧ Own w es ty fp v' (hi - lo) ((cs.take (hi * es)).drop (lo * es)) := by
  cases h with
  | nil =>
    obtain ⟨m, hm1, hm2, e⟩ := mX (es := es) (a := none) hL hH hM h1 h2 (Nat.le_refl _)
    refine ⟨_, e, ?_⟩
    have : m = 0 := by omega
    subst this
    have : hi = 0 := by omega
    subst this
    have : lo = 0 := by omega
    subst this
    simpa using Own.nil
  | blk hb hn ha hc =>
    rename_i b o cap a
    obtain ⟨m, hm1, hm2, e⟩ := mX (es := es) (a := some ⟨b, o, none⟩) hL hH hM h1 h2 hn
    refine ⟨_, e, ?_⟩
    have e3 := Nat.mul_le_mul_right es hm2
    subst hc
    rw [Bt h1 h2]
    by_cases hml : m = lo
    · have : hi - lo = 0 := by omega
      rw [if_pos hml, this]
      exact .blk hb (by omega) (by rw [hml, Nat.sub_self]; omega) (by simp)
    · rw [if_neg hml]
      simp only [Option.map_some, addr_add]
      refine .blk hb (by omega) ?_ rfl
      have e4 : lo * es ≤ m * es := Nat.mul_le_mul_right es (by omega)
      rw [Nat.sub_mul]; omega
theorem Rd.sub (h : Rd w es v n cs) (hL : Bd 0 L lo) (hH : Bd n H hi) (hM : BdM hi n H M) (h1 : lo ≤ hi) (h2 : hi ≤ n) :
    ∃ v', dZ es v L H M = some v' ∧ Rd w es v' (hi - lo) ((cs.take (hi * es)).drop (lo * es)) := by
  cases h with
  | emp a cap =>
    obtain ⟨m, hm1, hm2, e⟩ := mX (es := es) (a := a) hL hH hM h1 h2 (Nat.zero_le cap)
    refine ⟨_, e, ?_⟩
    have : hi = 0 := by omega
    subst this
    have : lo = 0 := by omega
    subst this
    simpa using Rd.emp _ _
  | blk hb hn ha hc =>
    rename_i b o cap a ty fz
    obtain ⟨m, hm1, hm2, e⟩ := mX (es := es) (a := some ⟨b, o, none⟩) hL hH hM h1 h2 hn
    refine ⟨_, e, ?_⟩
    have e3 := Nat.mul_le_mul_right es h2
    subst hc
    rw [Bt h1 h2]
    by_cases hml : m = lo
    · have : hi - lo = 0 := by omega
      rw [if_pos hml, this]
      exact .blk hb (by omega) (by omega) (by simp)
    · rw [if_neg hml]
      simp only [Option.map_some, addr_add]
      refine .blk hb (by omega) ?_ rfl
      have e4 : lo * es ≤ hi * es := Nat.mul_le_mul_right es (by omega)
      rw [Nat.sub_mul]; omega
end
end Go.Sx

/- Sz1 -/
namespace Go.Sx
def Yf (x y : Option Bool) : Option Bool := match x with | some true => y | some false => some false | none => none
@[simp] theorem PP (b c : Bool) : Yf (some b) (some c) = some (b && c) := by cases b <;> rfl
abbrev Hp := Nat → Option Obj
abbrev HP := Hp → Prop
def hOr (a b : Hp) : Hp := fun i => match a i with | some o => some o | none => b i
def kZ (a b : Hp) : Prop := ∀ i o, a i = some o → b i = none
def ib : List HP → Hp → Prop
  | [], _ => True
  | P :: L, h => ∃ a b, kZ a b ∧ h = hOr a b ∧ P a ∧ ib L b
structure Sat (w0 : World) (L : List HP) (w : World) : Prop where
  fr : Fr [] w0 w
  ex : ∃ h : Hp, ib L h ∧ ∀ i o, h i = some o → w0.heap.size ≤ i ∧ w.heap[i]? = some o
def Blk (b : Nat) (o : Obj) : HP := fun h => h b = some o
def Cl (b : Nat) (c : Array Value) (ty : TypeId) : HP := Blk b (.cells c ty (0, 0))
def HEx {α : Sort _} (f : α → HP) : HP := fun h => ∃ x, f x h
def HPr (p : Prop) (P : HP) : HP := fun h => p ∧ P h
def HSt (P Q : HP) : HP := fun h => ∃ a b, kZ a b ∧ h = hOr a b ∧ P a ∧ Q b
def HEm : HP := fun _ => True
def SlH (es : Nat) (ty : TypeId) (v : Value) (n : Nat) (cs : List Value) : HP := fun h =>
  (v = .slice none 0 0 ∧ n = 0 ∧ cs = []) ∨ ∃ b o cap a, v = .slice (some ⟨b, o, none⟩) n cap ∧ n ≤ cap ∧ o + cap * es ≤ a.size ∧ cs = (a.toList.drop o).take (n * es) ∧ h b = some (.cells a ty (0, 0))
theorem kZ.symm {a b : Hp} (h : kZ a b) : kZ b a := fun i o hb => by
  cases ha : a i with
  | none => rfl
  | some x => rw [h i x ha] at hb; cases hb
theorem Ht {a b : Hp} (h : kZ a b) : hOr a b = hOr b a := by
  funext i; unfold hOr
  cases ha : a i with
  | none => cases b i <;> rfl
  | some x => rw [h i x ha]
theorem pQ (a b c : Hp) : hOr (hOr a b) c = hOr a (hOr b c) := by
  funext i; unfold hOr; cases a i <;> rfl
theorem ow {a b : Hp} {i : Nat} {o : Obj} (h : a i = some o) : hOr a b i = some o := by simp [hOr, h]
theorem Hr {a b : Hp} {i : Nat} {o : Obj} (hd : kZ a b) (h : b i = some o) : hOr a b i = some o := by rw [Ht hd]; exact ow h
theorem mD {a b c : Hp} : kZ a (hOr b c) ↔ kZ a b ∧ kZ a c := by
  constructor
  · intro h
    refine ⟨fun i o ha => ?_, fun i o ha => ?_⟩
    all_goals
      have := h i o ha
      unfold hOr at this
      cases hb : b i with
      | none => first | rfl | simpa [hb] using this
      | some x => simp [hb] at this
  · rintro ⟨h1, h2⟩ i o ha
    simp [hOr, h1 i o ha, h2 i o ha]
theorem GD {a b c : Hp} : kZ (hOr a b) c ↔ kZ a c ∧ kZ b c := by
  constructor
  · intro h
    have := mD.1 h.symm
    exact ⟨this.1.symm, this.2.symm⟩
  · rintro ⟨h1, h2⟩
    exact (mD.2 ⟨h1.symm, h2.symm⟩).symm
section
variable {P Q : HP} {L L' : List HP} {h : Hp}
theorem ib.swap (hs : ib (P :: Q :: L) h) : ib (Q :: P :: L) h := by
  obtain ⟨a, _, hd, rfl, hP, b, c, hd2, rfl, hQ, hL⟩ := hs
  obtain ⟨h1, h2⟩ := mD.1 hd
  refine ⟨b, hOr a c, ?_, ?_, hQ, a, c, h2, rfl, hP, hL⟩
  · exact mD.2 ⟨h1.symm, hd2⟩
  · rw [← pQ, Ht h1, pQ]
theorem ib.tail (f : ∀ h, ib L h → ib L' h) (hs : ib (P :: L) h) : ib (P :: L') h := by
  obtain ⟨a, b, hd, rfl, hP, hL⟩ := hs
  exact ⟨a, b, hd, rfl, hP, f _ hL⟩
theorem ib.perm (p : L.Perm L') : ∀ {h : Hp}, ib L h → ib L' h := by
  induction p with
  | nil => exact fun h => h
  | cons x _ ih => exact fun h => h.tail fun _ => ih
  | swap x y l => exact fun h => h.swap
  | trans _ _ i1 i2 => exact fun h => i2 (i1 h)
theorem ib.star : ib (HSt P Q :: L) h ↔ ib (P :: Q :: L) h := by
  constructor
  · rintro ⟨_, c, hd, rfl, ⟨a, b, hd2, rfl, hP, hQ⟩, hL⟩
    obtain ⟨h1, h2⟩ := GD.1 hd
    exact ⟨a, hOr b c, mD.2 ⟨hd2, h1⟩, pQ _ _ _, hP, b, c, h2, rfl, hQ, hL⟩
  · rintro ⟨a, _, hd, rfl, hP, b, c, hd2, rfl, hQ, hL⟩
    obtain ⟨h1, h2⟩ := mD.1 hd
    exact ⟨hOr a b, c, GD.2 ⟨h2, hd2⟩, (pQ _ _ _).symm, ⟨a, b, h1, rfl, hP, hQ⟩, hL⟩
theorem ib.drop (hs : ib (P :: L) h) : ∃ b, ib L b ∧ ∀ i o, b i = some o → h i = some o := by
  obtain ⟨a, b, hd, rfl, hP, hL⟩ := hs
  exact ⟨b, hL, fun i o hb => Hr hd hb⟩
end
section
variable {w0 w w' : World} {P Q : HP} {L L' : List HP}
theorem Sat.perm (hs : Sat w0 L w) (p : L.Perm L') : Sat w0 L' w := by
  obtain ⟨h, h1, h2⟩ := hs.ex
  exact ⟨hs.fr, h, h1.perm p, h2⟩
theorem Sat.conv (hs : Sat w0 L w) (f : ∀ h, ib L h → ib L' h) : Sat w0 L' w := by
  obtain ⟨h, h1, h2⟩ := hs.ex
  exact ⟨hs.fr, h, f h h1, h2⟩
theorem Sat.start (w0 : World) : Sat w0 [] w0 := ⟨.refl _ _, fun _ => none, trivial, fun _ _ h => by cases h⟩
theorem Sat.drop (hs : Sat w0 (P :: L) w) : Sat w0 L w := by
  obtain ⟨h, h1, h2⟩ := hs.ex
  obtain ⟨b, hb, hb2⟩ := h1.drop
  exact ⟨hs.fr, b, hb, fun i o h => h2 i o (hb2 i o h)⟩
theorem Sat.mono (hs : Sat w0 (P :: L) w) (f : ∀ h, P h → Q h) : Sat w0 (Q :: L) w := hs.conv fun _ ⟨a, b, hd, e, hP, hL⟩ => ⟨a, b, hd, e, f a hP, hL⟩
theorem Sat.f1 {A B : HP} (h : Sat w0 (A :: B :: L) w) : Sat w0 (B :: A :: L) w := h.conv fun _ h => h.swap
theorem Sat.f2 {A B C : HP} (h : Sat w0 (A :: B :: C :: L) w) : Sat w0 (C :: A :: B :: L) w := h.conv fun _ h => (h.tail fun _ h => h.swap).swap
theorem Sat.f3 {A B C D : HP} (h : Sat w0 (A :: B :: C :: D :: L) w) : Sat w0 (D :: A :: B :: C :: L) w := h.conv fun _ h => (h.tail fun _ h => (h.tail fun _ h => h.swap).swap).swap
theorem Sat.f4 {A B C D E : HP} (h : Sat w0 (A :: B :: C :: D :: E :: L) w) : Sat w0 (E :: A :: B :: C :: D :: L) w := h.conv fun _ h => (h.tail fun _ h => (h.tail fun _ h => (h.tail fun _ h => h.swap).swap).swap).swap
theorem Sat.b2 {A B C : HP} (h : Sat w0 (A :: B :: C :: L) w) : Sat w0 (B :: C :: A :: L) w := h.conv fun _ h => h.swap.tail fun _ h => h.swap
theorem Sat.b3 {A B C D : HP} (h : Sat w0 (A :: B :: C :: D :: L) w) : Sat w0 (B :: C :: D :: A :: L) w := h.conv fun _ h => h.swap.tail fun _ h => h.swap.tail fun _ h => h.swap
@[simp] theorem Sat.star_iff : Sat w0 (HSt P Q :: L) w ↔ Sat w0 (P :: Q :: L) w := ⟨fun h => h.conv fun _ => ib.star.1, fun h => h.conv fun _ => ib.star.2⟩
@[simp] theorem Sat.ex_iff {α : Sort _} {f : α → HP} : Sat w0 (HEx f :: L) w ↔ ∃ x, Sat w0 (f x :: L) w := by
  constructor
  · rintro ⟨hf, h, ⟨a, b, hd, e, ⟨x, hx⟩, hL⟩, h2⟩
    exact ⟨x, hf, h, ⟨a, b, hd, e, hx, hL⟩, h2⟩
  · rintro ⟨x, h⟩
    exact h.mono fun a ha => ⟨x, ha⟩
@[simp] theorem Sat.pr_iff {p : Prop} : Sat w0 (HPr p P :: L) w ↔ p ∧ Sat w0 (P :: L) w := by
  constructor
  · rintro ⟨hf, h, ⟨a, b, hd, e, ⟨hp, hx⟩, hL⟩, h2⟩
    exact ⟨hp, hf, h, ⟨a, b, hd, e, hx, hL⟩, h2⟩
  · rintro ⟨x, h⟩
    exact h.mono fun a ha => ⟨x, ha⟩
@[simp] theorem Sat.em_iff : Sat w0 (HEm :: L) w ↔ Sat w0 L w := by
  refine ⟨Sat.drop, fun h => ?_⟩
  obtain ⟨hh, h1, h2⟩ := h.ex
  exact ⟨h.fr, hh, ⟨fun _ => none, hh, (fun _ _ h => by cases h), rfl, trivial, h1⟩, h2⟩
theorem Sat.os (h : Sat w0 L w) : w'.os = w.os → w'.os = w0.os := fun e => e.trans h.fr.os
theorem Sat.size (h : Sat w0 L w) : w0.heap.size ≤ w.heap.size := h.fr.size
theorem Sat.old (h : Sat w0 L w) {b : Nat} (hb : b < w0.heap.size) : w.heap[b]? = w0.heap[b]? := h.fr.blk b hb (by simp)
theorem Sat.drew (h : Sat w0 L w) : Sat w0 L w.drew := ⟨h.fr.trans (Fr.drew [] w) fun x hx => .inl hx, h.ex⟩
theorem Sat.same (h : Sat w0 L w) (e : w'.heap = w.heap) (e1 : w'.os = w.os) (e2 : w'.tape = w.tape) (e3 : w'.output = w.output) : Sat w0 L w' :=
  ⟨⟨e1.trans h.fr.os, e2.trans h.fr.tape, e3.trans h.fr.output, by rw [e]; exact h.fr.size, fun b hb hn => by rw [e]; exact h.fr.blk b hb hn⟩, by rw [e]; exact h.ex⟩
theorem Sat.blk {b : Nat} {o : Obj} (h : Sat w0 (Blk b o :: L) w) : w.heap[b]? = some o := by
  obtain ⟨_, hh, ⟨a, c, hd, rfl, hP, _⟩, h2⟩ := h
  exact (h2 b o (ow hP)).2
theorem Sat.blk_ge {b : Nat} {o : Obj} (h : Sat w0 (Blk b o :: L) w) : w0.heap.size ≤ b := by
  obtain ⟨_, hh, ⟨a, c, hd, rfl, hP, _⟩, h2⟩ := h
  exact (h2 b o (ow hP)).1
theorem Sat.cl {b : Nat} {c : Array Value} {ty : TypeId} (h : Sat w0 (Cl b c ty :: L) w) : w.heap[b]? = some (.cells c ty (0, 0)) := h.blk
theorem Sat.alloc (h : Sat w0 L w) (o : Obj) : Sat w0 (Blk w.heap.size o :: L) (w.alloc o) := by
  obtain ⟨hf, hh, h1, h2⟩ := h
  refine ⟨hf.trans (Fr.alloc [] w o) fun x hx => .inl hx, hOr (fun i => if i = w.heap.size then some o else none) hh, ⟨_, hh, ?_, rfl, by simp [Blk], h1⟩, ?_⟩
  · intro i o' hi
    by_cases e : i = w.heap.size
    · subst e
      cases hx : hh w.heap.size with
      | none => rfl
      | some x => have := dX (h2 _ _ hx).2; omega
    · simp [e] at hi
  · intro i o' hi
    by_cases e : i = w.heap.size
    · subst e; simp [hOr] at hi; subst hi
      exact ⟨hf.size, heap_alloc_new _ _⟩
    · simp [hOr, e] at hi
      obtain ⟨g1, g2⟩ := h2 i o' hi
      exact ⟨g1, by rw [qw _ _ (dX g2)]; exact g2⟩
theorem Sat.set {b : Nat} {o : Obj} (h : Sat w0 (Blk b o :: L) w) (o' : Obj) : Sat w0 (Blk b o' :: L) (dK w b o') := by
  have hb := h.blk
  have hge := h.blk_ge
  obtain ⟨hf, hh, ⟨a, c, hd, rfl, hP, hL⟩, h2⟩ := h
  refine ⟨⟨hf.os, hf.tape, hf.output, by simpa using hf.size, fun x hx hn => by rw [uD (by omega)]; exact hf.blk x hx hn⟩, hOr (fun i => if i = b then some o' else a i) c, ⟨_, c, ?_, rfl, by simp [Blk], hL⟩, ?_⟩
  · intro i x hi
    by_cases e : i = b
    · subst e; exact hd _ _ hP
    · simp [e] at hi; exact hd _ _ hi
  · intro i x hi
    by_cases e : i = b
    · subst e; simp [hOr] at hi; subst hi
      exact ⟨hge, nT hb⟩
    · have : hOr a c i = some x := by simpa [hOr, e] using hi
      obtain ⟨g1, g2⟩ := h2 i x this
      exact ⟨g1, by rw [uD (by omega)]; exact g2⟩
theorem Sat.own {es n : Nat} {ty : TypeId} {v : Value} {cs : List Value} (h : Sat w0 (SlH es ty v n cs :: L) w) :
    ∃ fp, Own w es ty fp v n cs ∧ ∀ (w' : World) (fp' : List Nat) (v' : Value) (n' : Nat) (cs' : List Value) (es' : Nat) (ty' : TypeId), Own w' es' ty' fp' v' n' cs' → Stp fp fp' w w' → Sat w0 (SlH es' ty' v' n' cs' :: L) w' := by
  obtain ⟨hf, hh, ⟨a, c, hd, rfl, hP, hL⟩, h2⟩ := h
  have key : ∀ fp : List Nat, (∀ b ∈ fp, ∃ o, a b = some o) → ∀ (w' : World) (fp' : List Nat) (v' : Value) (n' : Nat) (cs' : List Value) (es' : Nat) (ty' : TypeId), Own w' es' ty' fp' v' n' cs' → Stp fp fp' w w' → Sat w0 (SlH es' ty' v' n' cs' :: L) w' := by
    intro fp hfp w' fp' v' n' cs' es' ty' hO st
    have hge : ∀ b ∈ fp, w0.heap.size ≤ b := fun b hb => by obtain ⟨o, ho⟩ := hfp b hb; exact (h2 b o (ow ho)).1
    have hc : ∀ i o, c i = some o → i ∉ fp ∧ i < w.heap.size ∧ w0.heap.size ≤ i ∧ w.heap[i]? = some o := fun i o hi => by
      obtain ⟨g1, g2⟩ := h2 i o (Hr hd hi)
      refine ⟨fun hm => ?_, dX g2, g1, g2⟩
      obtain ⟨o', ho'⟩ := hfp i hm
      rw [hd i o' ho'] at hi; cases hi
    refine ⟨hf.trans st.fr fun x hx => .inr (hge x hx), hOr (fun i => if i ∈ fp' then w'.heap[i]? else none) c, ⟨_, c, ?_, rfl, ?_, hL⟩, ?_⟩
    · intro i o hi
      by_cases hm : i ∈ fp'
      · cases hci : c i with
        | none => rfl
        | some x =>
          obtain ⟨g1, g2, _, _⟩ := hc i x hci
          rcases st.ext i hm with h | h
          · exact absurd h g1
          · omega
      · simp [hm] at hi
    · cases hO with
      | nil => exact .inl ⟨rfl, rfl, rfl⟩
      | blk hb hn ha hc => exact .inr ⟨_, _, _, _, rfl, hn, ha, hc, by simpa using hb⟩
    · intro i o hi
      by_cases hm : i ∈ fp'
      · simp only [hOr, hm, if_true] at hi
        cases hw : w'.heap[i]? with
        | none => have := hO.lt i hm; simp [Array.getElem?_eq_none_iff] at hw; omega
        | some x =>
          rw [hw] at hi; simp at hi; subst hi
          refine ⟨?_, rfl⟩
          rcases st.ext i hm with h | h
          · exact hge i h
          · exact Nat.le_trans hf.size h
      · simp [hOr, hm] at hi
        obtain ⟨g1, g2, g3, g4⟩ := hc i o hi
        exact ⟨g3, (st.keep g2 g1).trans g4⟩
  rcases hP with ⟨rfl, rfl, rfl⟩ | ⟨b, o, cap, arr, rfl, hn, ha, hc, hb⟩
  · exact ⟨[], .nil, key [] (by simp)⟩
  · exact ⟨[b], .blk (h2 b _ (ow hb)).2 hn ha hc, key [b] (by simpa using ⟨_, hb⟩)⟩
theorem Sat.rd {es n : Nat} {ty : TypeId} {v : Value} {cs : List Value} (h : Sat w0 (SlH es ty v n cs :: L) w) : Rd w es v n cs := by
  obtain ⟨fp, hO, _⟩ := h.own
  exact hO.rd
theorem Sat.ofOwn {es n : Nat} {ty : TypeId} {v : Value} {cs : List Value} {fp : List Nat} (h : Sat w0 L w) (hO : Own w' es ty fp v n cs) (st : Stp [] fp w w') : Sat w0 (SlH es ty v n cs :: L) w' := by
  have h0 : Sat w0 (SlH es ty (.slice none 0 0) 0 [] :: L) w := by
    have := Sat.em_iff.2 h
    exact this.mono fun _ _ => .inl ⟨rfl, rfl, rfl⟩
  obtain ⟨fp0, hO0, k⟩ := h0.own
  cases hO0
  exact k _ _ _ _ _ _ _ hO st
theorem Sat.nilsl {es : Nat} {ty : TypeId} (h : Sat w0 L w) : Sat w0 (SlH es ty (.slice none 0 0) 0 [] :: L) w := h.ofOwn .nil (.refl _ _)
theorem Rd.keepF {es n : Nat} {v : Value} {cs : List Value} (h : Rd w es v n cs) (hk : ∀ b, b < w.heap.size → w'.heap[b]? = w.heap[b]?) : Rd w' es v n cs := by
  cases h with
  | emp a cap => exact .emp a cap
  | blk hb hn ha hc => exact .blk (by rw [hk _ (dX hb)]; exact hb) hn ha hc
theorem Rd.sat {es n : Nat} {v : Value} {cs : List Value} (h : Rd w0 es v n cs) (hs : Sat w0 L w) : Rd w es v n cs := h.keepF fun _ hb => hs.old hb
theorem Rd.heap {es n : Nat} {v : Value} {cs : List Value} (h : Rd w es v n cs) (e : w'.heap = w.heap) : Rd w' es v n cs := h.keepF fun _ _ => by rw [e]
theorem Sat.cellOld (h : Sat w0 L w) {a : Addr} {v : Value} (hv : w0.cell? a = some v) : w.cell? a = some v := by
  unfold World.cell? at *
  cases hb : w0.heap[a.block]? with
  | none => simp [hb] at hv
  | some o => rw [h.old (dX hb), hb]; rwa [hb] at hv
theorem gB {t : TypeId} {v : Value} {K : Value → World → Prop} (h : Sat w0 L w) (hK : ∀ p w', Sat w0 (Cl p v.cells t :: L) w' → K (ptr p) w') : bT t v w K := hK _ _ (h.alloc _)
theorem nz {Pg : Program} {t : TypeId} {z : Value} {K : Value → World → Prop} (h : Sat w0 L w) (hz : bO Pg t = some z) (hK : ∀ p w', Sat w0 (Cl p z.cells t :: L) w' → K (ptr p) w') : aY Pg t w K := by
  unfold aY; rw [hz]; exact hK _ _ (h.alloc _)
theorem gy {Pg : Program} {t el : TypeId} {es len : Nat} {parts : List (Nat × Value)} {K : Value → World → Prop} {c : Array Value} (h : Sat w0 L w) (hu : Pg.underlying t = some (.slice el))
    (hc : dx Pg el len parts = some c) (hs : c.size = len * es) (hK : ∀ s w', Sat w0 (SlH es el s len c.toList :: L) w' → K s w') : aB Pg t len parts w K :=
  DC hu hc hs fun w' s hO st => hK _ _ (h.ofOwn hO st)
theorem Ir {Pg : Program} {t xt el : TypeId} {es bytes n m : Nat} {s x : Value} {cs ds : List Value} {K : Value → World → Prop} (h : Sat w0 (SlH es el s n cs :: L) w) (T : SlT Pg t el es bytes) (hxt : nN Pg xt = true)
    (hR : Rd w es x m ds) (hd : ds.all (·.oneCell') = true) (hb : (n + m) * bytes ≤ 140737488355328)
    (hK : ∀ s' w', Sat w0 (SlH es el s' (n + m) (cs ++ ds) :: L) w' → K s' w') : aJ Pg t xt s x w K := by
  obtain ⟨fp, hO, k⟩ := h.own
  exact Iu T hxt hO hR hd hb fun w' fp' s' hO' st => hK _ _ (k _ _ _ _ _ _ _ hO' st)
theorem Sat.setc {b : Nat} {c : Array Value} {ty : TypeId} (h : Sat w0 (Cl b c ty :: L) w) (c' : Array Value) : Sat w0 (Cl b c' ty :: L) (dK w b (.cells c' ty (0, 0))) := h.set _
theorem rR {b o n : Nat} {c : Array Value} {ty : TypeId} (h : w.heap[b]? = some (.cells c ty (0, 0))) {x : Value} (hn : x.cells.size = n) (hv : x.cells.toList.all (·.oneCell') = true) (ho : o + n ≤ c.size) :
    st n (.pointer (some ⟨b, o, none⟩)) x w = some (dK w b (.cells (wr c o x.cells.toList) ty (0, 0))) := by
  simp only [st]
  rw [if_pos hn, mK h (by simp [hn, ho]) hv]
theorem lX {b o n : Nat} {c : Array Value} {ty : TypeId} {fz : Nat × Nat} (h : w.heap[b]? = some (.cells c ty fz)) (ho : o + n ≤ c.size) : ldN n (.pointer (some ⟨b, o, none⟩)) w = some (.agg (c.extract o (o + n))) := by
  simp [ldN, h, ho]
end
end Go.Sx

/- Sz2 -/
namespace Go.Sx
@[simp] theorem bW (a b : ByteArray) : (a == b) = decide (a = b) := by
  rcases a with ⟨a⟩; rcases b with ⟨b⟩
  show (a == b) = _
  rw [Bool.eq_iff_iff]; simp
@[simp] theorem one_int (k : IntKind) (n : Int) : (Value.int k n).oneCell' = true := rfl
@[simp] theorem one_str (s : ByteArray) : (Value.string s).oneCell' = true := rfl
@[simp] theorem one_bool (b : Bool) : (Value.bool b).oneCell' = true := rfl
@[simp] theorem one_ptr (a : Option Addr) : (Value.pointer a).oneCell' = true := rfl
@[simp] theorem one_sl (a : Option Addr) (n c : Nat) : (Value.slice a n c).oneCell' = true := rfl
@[simp] theorem one_map (a : Option Nat) : (Value.map a).oneCell' = true := rfl
@[simp] theorem kE (a : Array Value) : (Value.agg a).cells = a := rfl
section
variable {w0 w : World} {L : List HP}
theorem Sat.drops {M : List HP} (h : Sat w0 (M ++ L) w) : Sat w0 L w := by
  induction M with
  | nil => exact h
  | cons a r ih => exact ih h.drop
theorem Sat.pick (h : Sat w0 L w) (idx rest : List Nat) (n : Nat) (hi : (rest ++ idx).Perm (List.range n)) (hn : n ≤ L.length) : Sat w0 (idx.map (fun i => L.getD i HEm) ++ L.drop n) w := by
  have p : (L.take n).Perm (rest.map (fun i => L.getD i HEm) ++ idx.map (fun i => L.getD i HEm)) := by
    have := (hi.map fun i => L.getD i HEm).symm
    rw [List.map_append] at this
    refine List.Perm.trans (List.Perm.of_eq ?_) this
    apply List.ext_getElem
    · simp; omega
    · intro i h1 h2; simp at h1 h2 ⊢
      rw [List.getElem?_eq_getElem (by omega)]; rfl
  refine Sat.drops (M := rest.map fun i => L.getD i HEm) (h.perm ?_)
  have := p.append_right (L.drop n)
  rw [List.take_append_drop, List.append_assoc] at this
  exact this
theorem PL {b o n : Nat} {c : Array Value} {ty : TypeId} {x : Value} {k : World → Prop} (h : Sat w0 (Cl b c ty :: L) w) (hn : x.cells.size = n) (hv : x.cells.toList.all (·.oneCell') = true) (ho : o + n ≤ c.size)
    (hk : ∀ w', Sat w0 (Cl b (wr c o x.cells.toList) ty :: L) w' → k w') : bF (st n (.pointer (some ⟨b, o, none⟩)) x w) k := by
  rw [rR h.cl hn hv ho]; exact hk _ (h.setc _)
structure Same (w w' : World) : Prop where
  heap : w'.heap = w.heap
  os : w'.os = w.os
  tape : w'.tape = w.tape
  output : w'.output = w.output
theorem Same.refl (w : World) : Same w w := ⟨rfl, rfl, rfl, rfl⟩
theorem Same.drew (w : World) : Same w w.drew := ⟨rfl, rfl, rfl, rfl⟩
theorem Same.trans {a b c : World} (h : Same a b) (h' : Same b c) : Same a c := ⟨h'.heap.trans h.heap, h'.os.trans h.os, h'.tape.trans h.tape, h'.output.trans h.output⟩
theorem Sat.to {w' : World} (h : Sat w0 L w) (e : Same w w') : Sat w0 L w' := h.same e.heap e.os e.tape e.output
theorem Rd.to {w' : World} {es n : Nat} {v : Value} {cs : List Value} (h : Rd w es v n cs) (e : Same w w') : Rd w' es v n cs := h.heap e.heap
theorem Same.cell {w' : World} (e : Same w w') (a : Addr) : w'.cell? a = w.cell? a := by simp [World.cell?, e.heap]
theorem Rd.sub' {es n lo hi : Nat} {v v' : Value} {cs : List Value} {L H M : Option Value} (h : Rd w es v n cs) (hs : dZ es v L H M = some v') (hL : Bd 0 L lo) (hH : Bd n H hi) (hM : BdM hi n H M) (h1 : lo ≤ hi) (h2 : hi ≤ n) :
    Rd w es v' (hi - lo) ((cs.take (hi * es)).drop (lo * es)) := by
  obtain ⟨v2, e, hr⟩ := h.sub hL hH hM h1 h2
  rw [e] at hs; cases hs; exact hr
end
end Go.Sx

/- Sz3 -/
namespace Go.Sx
open Go.ChangeShapes Go.WideShapes Go.RowKit
section
variable {H : Type} {enc : TypeId × Value → H} {P : Program}
theorem AJ (hl : laidOutB P = true) {W W' : World} {sp' : Nat → Bool} {base : Nat} : ∀ {ts : List TypeId} {vs : List Value} {ds : List (DataW H)} {ps : List MemPlace}, (∀ t ∈ ts, P.readableRec t = true ∧ t < P.types.size) →
    DataW.TrodAll enc P W base (fun _ => true) true ts vs ds ps → (∀ p ∈ ps, W.sameAt W' p) → (∀ p ∈ ps, sp' p.block = true) → DataW.TrodAll enc P W' base sp' true ts vs ds ps := by
  intro ts
  induction ts with
  | nil => intro vs ds ps _ h _ _; obtain ⟨rfl, rfl, rfl⟩ := trodAll_nil h; exact trodAll_mk0
  | cons t ts ih =>
    intro vs ds ps hr h h1 h2
    cases vs with
    | nil => exact h.elim
    | cons v vs =>
      cases ds with
      | nil => exact h.elim
      | cons d ds =>
        obtain ⟨p, q, hp, hq, rfl⟩ := h
        have := hr t (by simp)
        exact ⟨p, q, WideElems.Trod_stays hl this.1 this.2 hp (fun x hx => h1 x (by simp [hx])) (fun x hx => h2 x (by simp [hx])), ih (fun t ht => hr t (by simp [ht])) hq (fun x hx => h1 x (by simp [hx])) (fun x hx => h2 x (by simp [hx])), rfl⟩
theorem Rq (hl : laidOutB P = true) {f : Func} {s : ChangeSpec} {apart fresh handsOn again : Bool} {W W' : World} {args : Array Value} {ds gs : List (DataW H)} {before : List MemPlace} {tb : TypeId}
    (hp : f.params.toList.all (fun t => P.readableRec t && decide (t < P.types.size)) = true) (hW : DataW.Whole enc P f.params.toList s.vars apart W args.toList ds gs before) (hv : s.vars = [])
    (hs : s.fn H ds = { results := [.lit (.bool true)], args := ds }) (hr : f.resultTypes = #[tb]) (hb : P.underlying tb = some .bool) (hf : Fr [] W W') : s.post enc P f apart fresh handsOn again W args (.bool true) W' := by
  have hlt := hW.lt
  have hW0 := hW
  obtain ⟨p, q, hA, hV, rfl, hfz, hnd⟩ := hW
  rw [hv] at hV
  obtain ⟨rfl, rfl⟩ := trodVars_none hV
  simp only [List.append_nil] at *
  have hB := hf.below
  have hpar : ∀ t ∈ f.params.toList, P.readableRec t = true ∧ t < P.types.size := fun t ht => by
    have := List.all_eq_true.1 hp t ht
    simpa using this
  have hsame : ∀ x ∈ p, W.sameAt W' x := fun x hx => hB.same (hlt x hx)
  have hargs : ∀ sp : Nat → Bool, (∀ x ∈ p, sp x.block = true) → DataW.TrodAll enc P W' 0 sp true f.params.toList args.toList ds p := fun sp hsp => AJ hl hpar hA hsame hsp
  have hres : ∀ (b : Nat) (sp : Nat → Bool) (hd : Bool), DataW.TrodAll enc P W' b sp hd f.resultTypes.toList ((Value.bool true).resultList f.resultTypes.size) [.lit (.bool true)] [] := by
    intro b sp hd
    rw [hr]
    exact trodAll_mk1 (shut_bool hb true)
  have hfn : s.fn H (ds ++ []) = { results := [.lit (.bool true)], args := ds } := by rw [List.append_nil]; exact hs
  refine ⟨ds, [], p, [], p, [], hW0, by rw [hfn]; exact hres _ _ _, by rw [hfn]; exact hargs _ fun x hx => by simpa using hlt x hx, by rw [hfn, hv]; rfl, hB.frame _, fun _ => ⟨?_, [.lit (.bool true)] ++ ds, [], p, ⟨p, [], ?_, by rw [hv]; rfl, by simp, ?_, ?_⟩, ?_⟩⟩
  · exact ok_one hr rfl (by simp [Value.okWide, hb, Cell.okWide, Cell.ok])
  · have := trodAll_append (hargs (fun _ => true) fun _ _ => rfl) (hres 0 (fun _ => true) true)
    simpa using this
  · intro b off hx
    rw [hB.frozen (p := ⟨b, off, none⟩) (hlt _ hx)]
    exact hfz b off hx
  · exact hnd
  · exact fun x hx _ => hx
theorem OZ {i : Nat} {G : FnT} (ok : OkF P i G) (hc : ∀ args w, (callFunc i args).run P w = .ok (.enter i args) w) {args : List Value} {W : World} (h : ai G args W fun v w' => v = .bool true ∧ Sat W [] w') :
    Calls P i args.toArray W fun e w' => e = .returned (.bool true) ∧ Fr [] W w' := by
  obtain ⟨k0, h0, hk⟩ := h
  rcases (ok _ _ _ h0) with ⟨_, hC⟩ | ⟨v, w', hr, _⟩
  · exact hC.mono fun e w' ⟨v, he, hv⟩ => ⟨by rw [he, (hk _ _ hv).1], (hk _ _ hv).2.fr⟩
  · rw [hc] at hr; cases hr
end
end Go.Sx

/- Sz4 -/
namespace Go.Sx
open Go.ChangeShapes Go.WideShapes Go.RowKit
inductive CK where
  | int (k : IntKind)
  | str
  | bool
def Fit (c : CK) (v : Value) : Prop := match c with
  | .int k => ∃ n, v = .int k n ∧ (Lit.int k n).wf = true
  | .str => ∃ s, v = .string s ∧ s.size ≤ maxLen
  | .bool => ∃ b, v = .bool b
def FitL : List CK → List Value → Prop
  | [], [] => True
  | c :: cs, v :: vs => Fit c v ∧ FitL cs vs
  | _, _ => False
theorem FitL.length : ∀ {a : List CK} {x : List Value}, FitL a x → x.length = a.length
  | [], [], _ => rfl
  | _ :: _, _ :: _, h => by simp [h.2.length]
  | [], _ :: _, h => h.elim
  | _ :: _, [], h => h.elim
section
variable {H : Type} {enc : TypeId × Value → H} {P : Program} {w : World} {base : Nat} {sp : Nat → Bool} {held : Bool}
theorem add_add (a : Addr) (x y : Nat) : (a.add x).add y = a.add (x + y) := by
  unfold Addr.add
  by_cases hx : x = 0 <;> by_cases hy : y = 0 <;> simp [hx, hy]
  omega
theorem xh {α : Type} {f : α → List Value} {es : Nat} (hf : ∀ x, (f x).length = es) : ∀ (l : List α) (i : Nat) (hi : i < l.length), ((l.flatMap f).drop (i * es)).take es = f l[i]
  | x :: l, 0, _ => by
    rw [List.flatMap_cons, Nat.zero_mul, List.drop_zero, List.take_left' (hf x)]; rfl
  | x :: l, i + 1, hi => by
    rw [List.flatMap_cons, Nat.add_mul, Nat.one_mul, Nat.add_comm, ← List.drop_drop, List.drop_left' (hf x)]
    exact xh hf l i (by simpa using hi)
theorem Rd.elem {α : Type} {f : α → List Value} {es n i : Nat} {v : Value} {l : List α} {j : IntKind} (h : Rd w es v n (l.flatMap f)) (hf : ∀ x, (f x).length = es) (hn : n = l.length) (hi : i < l.length) :
    ∃ b o, bq es v (.int j i) = some (.pointer (some ⟨b, o, none⟩)) ∧ ldN es (.pointer (some ⟨b, o, none⟩)) w = some (.agg (f l[i]).toArray) ∧ ∀ k, w.cell? ⟨b, o + k, none⟩ = (f l[i])[k]? ∨ es ≤ k := by
  have hc2 := xh hf l i hi
  generalize l.flatMap f = cs at h hc2
  cases h with
  | emp => omega
  | blk hb hn ha hc =>
    rename_i b o cap a ty fz
    have e1 : i * es + es ≤ n * es := by
      have := Nat.mul_le_mul_right es (show i + 1 ≤ n by omega)
      rw [Nat.add_mul] at this; omega
    have e2 : f l[i] = (a.toList.drop (o + i * es)).take es := by
      rw [← hc2, hc, List.drop_take, List.take_take, List.drop_drop, Nat.min_eq_left (by omega)]
    refine ⟨b, o + i * es, ?_, ?_, fun k => ?_⟩
    · simp only [bq]; rw [if_pos ⟨by omega, by omega⟩]; simp
    · rw [lX hb (by omega), e2]
      congr 2
      apply Array.ext'
      simp only [Array.toList_extract, List.extract_eq_take_drop]
      rw [show o + i * es + es - (o + i * es) = es by omega]
    · rcases Nat.lt_or_ge k es with hk | hk
      · left
        rw [cell_of hb, e2, List.getElem?_take_of_lt hk, List.getElem?_drop, Array.getElem?_toList]
      · exact .inr hk
end
end Go.Sx
