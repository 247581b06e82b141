/- What each operation of the model's code answers, told as plain partial functions on values and worlds, and that the model's own run comes to just this. No condition. -/
import Derived.WalkKit
import Derived.KernelRfl
set_option linter.all false
namespace Go.Sx

abbrev Env := Nat → Value
def Env.set (e : Env) (d : Nat) (v : Value) : Env := fun t => match Nat.beq t d with | true => v | false => e t
def put (nt : Nat) (e : Env) (dst : Option Tmp) (v : Value) : Env :=
  match dst with
  | none => e
  | some d => match Nat.ble nt d with | true => e | false => e.set d v
def ev (e : Env) : Operand → Value
  | .tmp t => e t
  | .const v => v
  | .global g => .pointer (some ⟨g, 0, none⟩)
  | .func f => .func (.func f) #[] #[]

/-! values -/
def pPick (c a b : Value) : Option Value := match c with | .bool true => some a | .bool false => some b | _ => none
def pNil (v : Value) : Option Value := match v with
  | .pointer (some a) => some (.pointer (some a))
  | .func (.func f) x y => some (.func (.func f) x y)
  | .iface t x => some (.iface t x)
  | _ => none
def ld1 (v : Value) (w : World) : Option Value := match v with
  | .pointer (some a) => w.cell? a
  | _ => none
def ldN (n : Nat) (v : Value) (w : World) : Option Value := match v with
  | .pointer (some ⟨b, o, none⟩) => match w.heap[b]? with
    | some (.cells c _ _) => if o + n ≤ c.size then some (.agg (c.extract o (o + n))) else none
    | _ => none
  | _ => none
def pFieldAddr (off : Nat) (v : Value) : Option Value := match v with
  | .pointer (some ⟨b, o, none⟩) => some (.pointer (some ⟨b, o + off, none⟩))
  | _ => none
def partV (P : Program) (t : TypeId) (cs : Array Value) (off : Nat) : Option Value :=
  match P.underlying t with
  | some (.struct _) | some (.array _ _) => some (.agg (cs.extract off (off + P.cellsOf t)))
  | some _ => cs[off]?
  | none => none
def pIndexL (size : Nat) (v i : Value) : Option Value := match v, i with
  | .slice (some ⟨b, o, none⟩) len _, .int _ n => if 0 ≤ n ∧ n < len then some (.pointer (some ⟨b, o + n.toNat * size, none⟩)) else none
  | _, _ => none
def pIndexP (len size : Nat) (v i : Value) : Option Value := match v, i with
  | .pointer (some ⟨b, o, none⟩), .int _ n => if 0 ≤ n ∧ n < len then some (.pointer (some ⟨b, o + n.toNat * size, none⟩)) else none
  | _, _ => none
def pIndexS (v i : Value) : Option Value := match v, i with
  | .string s, .int _ n => if 0 ≤ n then (s[n.toNat]?).map fun b => .int .u8 b.toNat else none
  | _, _ => none
def pIndexA (P : Program) (len : Nat) (elem : TypeId) (v i : Value) : Option Value := match v, i with
  | .agg cs, .int _ n => if 0 ≤ n ∧ n < len then partV P elem cs (n.toNat * P.cellsOf elem) else none
  | _, _ => none
def bnd (v : Option Value) (dflt mx : Nat) : Option Nat := match v with
  | none => some dflt
  | some (.int _ i) => if 0 ≤ i ∧ i ≤ mx then some i.toNat else none
  | _ => none
def hiB (mx hi : Option Value) (len m : Nat) : Option Nat := match mx, hi with
  | some _, none => none
  | some _, some v => bnd (some v) len m
  | none, none => some len
  | none, some v => bnd (some v) len m
def pSliceS (v : Value) (lo hi : Option Value) : Option Value := match v with
  | .string s => match hiB none hi s.size s.size with
    | some h => match bnd lo 0 h with
      | some l => some (.string (s.extract l h))
      | none => none
    | none => none
  | _ => none
def pSliceL (size : Nat) (v : Value) (lo hi mx : Option Value) : Option Value := match v with
  | .slice a len cap => match bnd mx cap cap with
    | some m => match hiB mx hi len m with
      | some h => match bnd lo 0 h with
        | some l => some (.slice (if m = l then a else a.map (·.add (l * size))) (h - l) (m - l))
        | none => none
      | none => none
    | none => none
  | _ => none
def pSliceA (n size : Nat) (v : Value) (lo hi mx : Option Value) : Option Value := match v with
  | .pointer (some a) => match bnd mx n n with
    | some m => match hiB mx hi n m with
      | some h => match bnd lo 0 h with
        | some l => some (.slice (some (if m = l then a else a.add (l * size))) (h - l) (m - l))
        | none => none
      | none => none
    | none => none
  | _ => none
def pCap (v : Value) : Option Value := match v with
  | .slice _ _ n => some (.int .i64 n)
  | _ => none
def pMin (x y : Value) : Option Value := match x, y with
  | .int k a, .int _ b => some (.int k (if b < a then b else a))
  | _, _ => none
def pMax (x y : Value) : Option Value := match x, y with
  | .int k a, .int _ b => some (.int k (if b > a then b else a))
  | _, _ => none

/-! binary operators -/
def bAdd (x y : Value) : Option Value := match x, y with
  | .int k a, .int k' b => if k = k' then some (.int k (k.wrap (a + b))) else none
  | .string a, .string b => if ((a.size + b.size : Nat) : Int) > IntKind.i64.max then none else some (.string (a ++ b))
  | _, _ => none
def bSub (x y : Value) : Option Value := match x, y with
  | .int k a, .int k' b => if k = k' then some (.int k (k.wrap (a - b))) else none
  | _, _ => none
def bMul (x y : Value) : Option Value := match x, y with
  | .int k a, .int k' b => if k = k' then some (.int k (k.wrap (a * b))) else none
  | _, _ => none
def bQuo (x y : Value) : Option Value := match x, y with
  | .int k a, .int k' b => if k = k' ∧ b ≠ 0 then some (.int k (k.wrap (a.tdiv b))) else none
  | _, _ => none
def bRem (x y : Value) : Option Value := match x, y with
  | .int k a, .int k' b => if k = k' ∧ b ≠ 0 then some (.int k (a.tmod b)) else none
  | _, _ => none
def bBits (op : BinOp) (k : IntKind) (x y : Int) : Option Int :=
  let a := BitVec.ofInt k.bits x
  let b := BitVec.ofInt k.bits y
  match op with
  | .and => some (k.wrap (a &&& b).toNat)
  | .or => some (k.wrap (a ||| b).toNat)
  | .xor => some (k.wrap (a ^^^ b).toNat)
  | .andNot => some (k.wrap (a &&& ~~~b).toNat)
  | _ => none
def bBit (op : BinOp) (x y : Value) : Option Value := match x, y with
  | .int k a, .int k' b => if k = k' then (bBits op k a b).map (.int k) else none
  | _, _ => none
def bShl (x y : Value) : Option Value := match x, y with
  | .int k a, .int _ b => if b < 0 then none else some (.int k (k.wrap (a * 2 ^ min b.toNat k.bits)))
  | _, _ => none
def bShr (x y : Value) : Option Value := match x, y with
  | .int k a, .int _ b => if b < 0 then none else some (.int k (a.fdiv (2 ^ min b.toNat k.bits)))
  | _, _ => none
def sLess (a b : ByteArray) : Bool := Op.bytesLess a.toList b.toList
def sEq (a b : ByteArray) : Bool := a.toList == b.toList
def bLt (x y : Value) : Option Value := match x, y with
  | .int k a, .int k' b => if k = k' then some (.bool (a < b)) else none
  | .string a, .string b => some (.bool (sLess a b))
  | _, _ => none
def bLe (x y : Value) : Option Value := match x, y with
  | .int k a, .int k' b => if k = k' then some (.bool (a ≤ b)) else none
  | .string a, .string b => some (.bool (sLess a b || sEq a b))
  | _, _ => none
def bGt (x y : Value) : Option Value := match x, y with
  | .int k a, .int k' b => if k = k' then some (.bool (a > b)) else none
  | .string a, .string b => some (.bool (!(sLess a b || sEq a b)))
  | _, _ => none
def bGe (x y : Value) : Option Value := match x, y with
  | .int k a, .int k' b => if k = k' then some (.bool (a ≥ b)) else none
  | .string a, .string b => some (.bool (!sLess a b))
  | _, _ => none

def eqFields (P : Program) (f : TypeId → Value → Value → Option Bool) (xs ys : Array Value) : List Field → Option Bool
  | [] => some true
  | fd :: r =>
    if fd.name = "_" then eqFields P f xs ys r else
    match partV P fd.type xs fd.offset, partV P fd.type ys fd.offset with
    | some x, some y => match f fd.type x y with
      | some true => eqFields P f xs ys r
      | some false => some false
      | none => none
    | _, _ => none
def eqElems (P : Program) (f : TypeId → Value → Value → Option Bool) (elem n : Nat) (xs ys : Array Value) : Nat → Nat → Option Bool
  | 0, _ => some true
  | k + 1, i =>
    match partV P elem xs (i * n), partV P elem ys (i * n) with
    | some x, some y => match f elem x y with
      | some true => eqElems P f elem n xs ys k (i + 1)
      | some false => some false
      | none => none
    | _, _ => none
/-- '==' of values of a type, without a look into memory. -/
def eqv (P : Program) : Nat → TypeId → Value → Value → Option Bool
  | 0, _, _, _ => none
  | d + 1, t, x, y => match P.underlying t, x, y with
    | some .bool, .bool a, .bool b => some (a == b)
    | some (.int _), .int k a, .int k' b => if k = k' then some (a == b) else none
    | some .string, .string a, .string b => some (sEq a b)
    | some (.pointer _), .pointer none, .pointer b => some b.isNone
    | some (.pointer _), .pointer (some _), .pointer none => some false
    | some (.pointer e), .pointer (some a), .pointer (some b) => if P.cellsOf e ≠ 0 ∧ a.block = b.block then some (a == b) else none
    | some (.interface _), .nilIface, .nilIface => some true
    | some (.interface _), .nilIface, .iface _ _ => some false
    | some (.interface _), .iface _ _, .nilIface => some false
    | some (.slice _), .slice none _ _, .slice b _ _ => some b.isNone
    | some (.slice _), .slice (some _) _ _, .slice none _ _ => some false
    | some (.map _ _), .map none, .map b => some b.isNone
    | some (.map _ _), .map (some _), .map none => some false
    | some (.func _ _ _), .nilFunc, .nilFunc => some true
    | some (.func _ _ _), .nilFunc, .func _ _ _ => some false
    | some (.func _ _ _), .func _ _ _, .nilFunc => some false
    | some (.struct fields), .agg xs, .agg ys => if P.stoodInHeld t then none else eqFields P (eqv P d) xs ys fields.toList
    | some (.array len elem), .agg xs, .agg ys => match P.info? elem with | some i => eqElems P (eqv P d) elem i.size xs ys len 0 | none => none
    | _, _, _ => none
/-- no part of the type is an interface with methods (then 'eqGuard' lets everything by) -/
def eqPlain (P : Program) (t : TypeId) (x y : Operand) (a b : Value) : Bool := match a, b with
  | .nilIface, .nilIface => (match x with | .const _ => true | _ => false) || (match y with | .const _ => true | _ => false)
  | .agg _, .agg _ => !P.eqGuardType P.depth t
  | _, _ => true
def bEqv (P : Program) (t : TypeId) (x y : Operand) (a b : Value) : Option Bool := match a, b with
  | .int k n, .int k' m => if k = k' then some (n == m) else none
  | .string s, .string r => some (sEq s r)
  | .float _ _, _ => none
  | _, .float _ _ => none
  | .complex _ _ _, _ => none
  | _, .complex _ _ _ => none
  | a, b => if eqPlain P t x y a b then eqv P Op.maxDepth t a b else none
def bEq (P : Program) (t : TypeId) (x y : Operand) (a b : Value) : Option Value := (bEqv P t x y a b).map .bool
def bNe (P : Program) (t : TypeId) (x y : Operand) (a b : Value) : Option Value := (bEqv P t x y a b).map fun r => .bool (!r)
def fBin (P : Program) (op : BinOp) (t : TypeId) (x y : Operand) (a b : Value) : Option Value := match op with
  | .add => bAdd a b | .sub => bSub a b | .mul => bMul a b | .quo => bQuo a b | .rem => bRem a b
  | .and => bBit .and a b | .or => bBit .or a b | .xor => bBit .xor a b | .andNot => bBit .andNot a b
  | .shl => bShl a b | .shr => bShr a b
  | .eql => bEq P t x y a b | .neq => bNe P t x y a b
  | .lss => bLt a b | .leq => bLe a b | .gtr => bGt a b | .geq => bGe a b
def uNot (x : Value) : Option Value := match x with | .bool b => some (.bool !b) | _ => none
def uNeg (x : Value) : Option Value := match x with | .int k n => some (.int k (k.wrap (0 - n))) | _ => none
def uXor (x : Value) : Option Value := match x with | .int k n => (bBits .xor k (if k.signed then -1 else k.max) n).map (.int k) | _ => none
def fUn (op : UnOp) (x : Value) : Option Value := match op with
  | .not => uNot x | .neg => uNeg x | .xor => uXor x | _ => none
def cInt (k : IntKind) (x : Value) : Option Value := match x with | .int _ n => some (.int k (k.wrap n)) | _ => none
def cStr (x : Value) : Option Value := match x with | .string s => some (.string s) | _ => none
def bytesOf : List Value → Option (List UInt8)
  | [] => some []
  | .int .u8 n :: r => (bytesOf r).map (UInt8.ofNat n.toNat :: ·)
  | _ => none
def cBytes (x : Value) (w : World) : Option Value := match x with
  | .slice none _ _ => some (.string .empty)
  | .slice (some ⟨b, o, none⟩) len _ => match w.heap[b]? with
    | some (.cells c _ _) => if o + len ≤ c.size then (bytesOf (c.extract o (o + len)).toList).map fun l => .string ⟨l.toArray⟩ else none
    | _ => none
  | _ => none
def pTuple (x : Value) (i : Nat) : Option Value := match x with | .tuple vs => vs[i]? | _ => none

/-! maps -/
def mFind (eq : Value → Option Bool) : List MapEntry → Nat → Option (Option (Nat × Value))
  | [], _ => some none
  | e :: es, i => match eq e.key with
    | some true => some (some (i, e.val))
    | some false => mFind eq es (i + 1)
    | none => none
end Go.Sx
