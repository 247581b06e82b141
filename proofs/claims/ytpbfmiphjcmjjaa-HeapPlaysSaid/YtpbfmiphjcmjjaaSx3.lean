/- A part of the proofs: what stands below it, told in lemmas. No condition. -/
import Derived.Test.YtpbfmiphjcmjjaaSx2d
set_option linter.all false
namespace Go.Sx
variable {P : Program} {w : World}

/-! all operations that leave the world alone -/
def fMkI (P : Program) (t : TypeId) (x : Value) : Option Value := match P.underlying t with
  | some (.interface _) => none
  | some _ => some (.iface t x)
  | none => none
def fFieldAddr (P : Program) (s : TypeId) (x : Value) (f : Nat) : Option Value := match P.underlying s with
  | some (.struct fs) => match fs[f]? with
    | some fd => match P.info? fd.type with
      | some i => match Nat.beq i.size 0 with
        | true => none
        | false => pFieldAddr fd.offset x
      | none => none
    | none => none
  | _ => none
def fField (P : Program) (t : TypeId) (x : Value) (f : Nat) : Option Value := match P.underlying t with
  | some (.struct fs) => match fs[f]? with
    | some fd => match x with | .agg cs => partV P fd.type cs fd.offset | _ => none
    | none => none
  | _ => none
def fIndexAddr (P : Program) (t : TypeId) (x i : Value) : Option Value := match P.underlying t with
  | some (.slice el) => match P.info? el with | some n => pIndexL n.size x i | none => none
  | some (.array len el) => match P.info? el with | some n => pIndexP len n.size x i | none => none
  | _ => none
def fIndex (P : Program) (t : TypeId) (x i : Value) : Option Value := match P.underlying t with
  | some .string => pIndexS x i
  | some (.array len el) => match P.info? el with | some _ => pIndexA P len el x i | none => none
  | _ => none
def fLen' (P : Program) (t : TypeId) (x : Value) (w : World) : Option Value := match P.underlying t with
  | some (.array n _) => some (.int .i64 n)
  | some .string => match x with | .string s => some (.int .i64 s.size) | _ => none
  | some (.slice _) => match x with | .slice _ n _ => some (.int .i64 n) | _ => none
  | some (.map _ _) => match mapOf x w with | some es => some (.int .i64 es.size) | none => none
  | _ => none
def fCap (P : Program) (t : TypeId) (x : Value) : Option Value := match P.underlying t with
  | some (.slice _) => pCap x
  | _ => none
def fAssert (P : Program) (x : Value) (t : TypeId) (ok : Bool) : Option Value := match P.underlying t with
  | some (.interface _) => none
  | some _ => match x with
    | .iface u v => match Nat.beq u t with
      | true => some (if ok then .tuple #[v, .bool true] else v)
      | false => none
    | _ => none
  | none => none
def fEntry (it : Value) (w : World) : Option Value := match it with
  | .pointer (some ⟨r, 0, _⟩) => match w.heap[r]? with
    | some (.mapIter (some m) _ seen stepped) => match seen.back?, w.heap[m]? with
      | some stamp, some (.map es clock) => if clock = stepped then (es.find? (·.born == stamp)).map fun e => .tuple #[e.key, e.val] else none
      | _, _ => none
    | _ => none
  | _ => none
def fCall (P : Program) (e : Env) (c : Call) (w : World) : Option Value := match c.callee, c.args.toList, c.argTypes.toList with
  | .builtin .len, [x], [t] => fLen' P t (ev e x) w
  | .builtin .cap, [x], [t] => fCap P t (ev e x)
  | .builtin .min, [x, y], _ => pMin (ev e x) (ev e y)
  | .builtin .max, [x, y], _ => pMax (ev e x) (ev e y)
  | _, _, _ => none
def fop (P : Program) (e : Env) (o : Op) (w : World) : Option Value := match o with
  | .move x => some (ev e x)
  | .assign x => some (ev e x)
  | .pick c a b => pPick (ev e c) (ev e a) (ev e b)
  | .nilCheck x => pNil (ev e x)
  | .load t a => fLoad P t (ev e a) w
  | .binOp op t x y _ => fBin P op t x y (ev e x) (ev e y)
  | .unOp op _ x => fUn op (ev e x)
  | .convert s d x => fConv P s d (ev e x) w
  | .makeInterface t x => fMkI P t (ev e x)
  | .makeFunc fn f c => some (.func fn (f.toList.map (ev e)).toArray (c.toList.map (ev e)).toArray)
  | .fieldAddr s x f => fFieldAddr P s (ev e x) f
  | .field t x f => fField P t (ev e x) f
  | .indexAddr t x i => fIndexAddr P t (ev e x) (ev e i)
  | .index t x i => fIndex P t (ev e x) (ev e i)
  | .slice t x lo hi mx => fSlice P t (ev e x) (lo.map (ev e)) (hi.map (ev e)) (mx.map (ev e))
  | .lookup t x i ok => fLook P t (ev e x) (ev e i) ok w
  | .build t parts => fBuild P t (parts.toList.map fun p => (p.1, ev e p.2))
  | .extract x i => pTuple (ev e x) i
  | .typeAssert x _ t ok => fAssert P (ev e x) t ok
  | .entry it => fEntry (ev e it) w
  | .call c => fCall P e c w
  | _ => none

theorem run_nilCheck_ok {v r : Value} {o : Oper} {e : Env} {x : Operand} (ho : o.op = .nilCheck x) (hx : ev e x = v) (h : pNil v = some r) : (execOp (ev e) o).run P w = .ok (.value r) w := by
  unfold pNil at h
  split at h <;> simp at h <;> subst h <;> simp [execOp, ho, hx]
theorem fop_ok {e : Env} {o : Oper} {v : Value} (h : fop P e o.op w = some v) : (execOp (ev e) o).run P w = .ok (.value v) w := by
  obtain ⟨dst, op, ty, pos, aft, gd⟩ := o
  simp only at h
  cases op <;> simp only [fop] at h
  case move | assign => simp only [Option.some.injEq] at h; subst h; simp [execOp]
  case pick c a b =>
    unfold pPick at h
    split at h
    · rename_i hc; simp only [Option.some.injEq] at h; subst h; simp [execOp, hc, asBool]
    · rename_i hc; simp only [Option.some.injEq] at h; subst h; simp [execOp, hc, asBool]
    · simp at h
  case nilCheck x => exact run_nilCheck_ok rfl rfl h
  case load t a => simp [execOp, run_load_ok h]
  case binOp op t x y yt => simp only [execOp, Sem.run_bind, (run_bin_ok' (w := w) h).1, (run_bin_ok' (w := w) h).2, Result.andThen_ok, Sem.run_pure]
  case unOp op t x =>
    unfold fUn at h
    cases op <;> simp only at h
    case not => unfold uNot at h; split at h <;> simp at h; rename_i hx; subst h; simp [execOp, hx, Op.unary]
    case neg => unfold uNeg at h; split at h <;> simp at h; rename_i hx; subst h; simp [execOp, hx, Op.unary, Op.intArith]
    case xor =>
      unfold uXor at h; split at h
      · rename_i hx
        simp only [Option.map_eq_some_iff] at h
        obtain ⟨q, hq, rfl⟩ := h
        simp [execOp, hx, Op.unary, run_bits_ok hq]
      · simp at h
    all_goals simp at h
  case convert s d x => simp [execOp, run_conv_ok h]
  case makeInterface t x =>
    unfold fMkI at h
    split at h
    · simp at h
    · rename_i d hn hu
      simp only [Option.some.injEq] at h; subst h
      simp only [execOp, Instr.makeInterface, Sem.run_bind, run_underlying' hu, Result.andThen_ok]
      cases d <;> first | (exact absurd rfl (hn _)) | rfl
    · simp at h
  case makeFunc fn f c =>
    simp only [Option.some.injEq] at h; subst h
    have h1 : ∀ x : Array Operand, (x.toList.map (ev e)).toArray = x.map (ev e) := fun x => by apply Array.ext'; simp
    simp [execOp, Instr.makeFunc, h1]
  case fieldAddr s x f =>
    unfold fFieldAddr at h
    split at h
    · rename_i fs hu
      split at h
      · rename_i fd hf
        split at h
        · rename_i i hi
          split at h
          · simp at h
          · rename_i hz
            have hz' : P.cellsOf fd.type ≠ 0 := by simp only [Program.cellsOf, hi]; intro h0; simp at h0; rw [h0] at hz; simp at hz
            simp [execOp, run_fieldAddr_ok hu hf (by rw [hi]; simp) hz' h]
        · simp at h
      · simp at h
    · simp at h
  case field t x f =>
    unfold fField at h
    split at h
    · rename_i fs hu
      split at h
      · rename_i fd hf
        split at h
        · rename_i cs hx
          simp [execOp, Instr.field, run_underlying' hu, hf, hx, asAgg, run_part' h]
        · simp at h
      · simp at h
    · simp at h
  case indexAddr t x i =>
    unfold fIndexAddr at h
    split at h
    · rename_i el hu
      split at h
      · rename_i n hi
        unfold pIndexL at h
        split at h
        · rename_i hx hix
          split at h
          · rename_i hb
            simp only [Option.some.injEq] at h; subst h
            simp [execOp, Instr.indexAt, hx, hix, asIntOf, run_underlying' hu, hb, sizeOf, run_typeInfo' hi, Addr.add]
          · simp at h
        · simp at h
      · simp at h
    · rename_i len el hu
      split at h
      · rename_i n hi
        unfold pIndexP at h
        split at h
        · rename_i hx hix
          split at h
          · rename_i hb
            simp only [Option.some.injEq] at h; subst h
            simp [execOp, Instr.indexAt, Instr.sureAddr, hx, hix, asIntOf, run_underlying' hu, hb, sizeOf, run_typeInfo' hi, Addr.add]
          · simp at h
        · simp at h
      · simp at h
    · simp at h
  case index t x i =>
    unfold fIndex at h
    split at h
    · rename_i hu
      unfold pIndexS at h
      split at h
      · rename_i s k n hx hix
        split at h
        · rename_i h0
          simp only [Option.map_eq_some_iff] at h
          obtain ⟨b, hb, rfl⟩ := h
          simp [execOp, Instr.index, hx, hix, asIntOf, run_underlying' hu, h0, hb]
        · simp at h
      · simp at h
    · rename_i len el hu
      split at h
      · rename_i n hi
        unfold pIndexA at h
        split at h
        · rename_i cs k m hx hix
          split at h
          · rename_i h0
            have hc : P.cellsOf el = n.size := by simp [Program.cellsOf, hi]
            rw [hc] at h
            simp [execOp, Instr.index, hx, hix, asIntOf, run_underlying' hu, h0, sizeOf, run_typeInfo' hi, run_part' h]
          · simp at h
        · simp at h
      · simp at h
    · simp at h
  case slice t x lo hi mx => simp [execOp, run_slice_ok h]
  case lookup t x i ok => simp [execOp, run_lookup_ok h]
  case build t parts =>
    have : (parts.map fun p => (p.1, ev e p.2)).toList = parts.toList.map fun p => (p.1, ev e p.2) := by simp
    rw [← this] at h
    simp [execOp, run_build_ok h]
  case extract x i =>
    unfold pTuple at h
    split at h
    · rename_i hx; simp [execOp, hx, Instr.extract, h]
    · simp at h
  case typeAssert x xt t ok =>
    unfold fAssert at h
    split at h
    · simp at h
    · rename_i d hn hu
      split at h
      · rename_i u v' hx
        split at h
        · rename_i he
          have he : u = t := Nat.eq_of_beq_eq_true he
          subst he
          simp only [Option.some.injEq] at h; subst h
          cases d <;> first | (exact absurd rfl (hn _)) | (simp [execOp, Instr.typeAssert, hx, run_underlying' hu])
        · simp at h
      · simp at h
    · simp at h
  case entry it =>
    unfold fEntry at h
    split at h
    · rename_i hx
      split at h
      · rename_i hb
        split at h
        · rename_i hs hm
          split at h
          · rename_i hc
            simp only [Option.map_eq_some_iff] at h
            obtain ⟨en, hen, rfl⟩ := h
            simp [execOp, Instr.entry, hx, getObj, Sem.run, hb, hs, hm, hc, hen]
          · simp at h
        · simp at h
      · simp at h
    · simp at h
  case call c =>
    obtain ⟨cal, args, ats⟩ := c
    unfold fCall at h
    simp only at h
    split at h
    · rename_i x t ha ht
      obtain rfl : args = #[x] := Array.ext' ha
      obtain rfl : ats = #[t] := Array.ext' ht
      unfold fLen' at h
      split at h
      · rename_i hu
        simp only [Option.some.injEq] at h; subst h
        simp [execOp, resolve, invoke, builtin, Builtin.len_, run_underlying' hu, goInt]
      · rename_i hu
        split at h
        · rename_i hx; simp only [Option.some.injEq] at h; subst h
          simp [execOp, resolve, invoke, builtin, Builtin.len_, run_underlying' hu, goInt, hx]
        · simp at h
      · rename_i hu
        split at h
        · rename_i hx; simp only [Option.some.injEq] at h; subst h
          simp [execOp, resolve, invoke, builtin, Builtin.len_, run_underlying' hu, goInt, hx]
        · simp at h
      · rename_i hu
        split at h
        · rename_i es hes
          simp only [Option.some.injEq] at h; subst h
          unfold mapOf at hes
          split at hes
          · rename_i hx; simp only [Option.some.injEq] at hes; subst hes
            simp [execOp, resolve, invoke, builtin, Builtin.len_, run_underlying' hu, goInt, hx]
          · rename_i hx
            split at hes
            · rename_i hb; simp only [Option.some.injEq] at hes; subst hes
              simp [execOp, resolve, invoke, builtin, Builtin.len_, run_underlying' hu, goInt, hx, getObj, Sem.run, hb]
            · simp at hes
          · simp at hes
        · simp at h
      · simp at h
    · rename_i x t ha ht
      obtain rfl : args = #[x] := Array.ext' ha
      obtain rfl : ats = #[t] := Array.ext' ht
      unfold fCap at h
      split at h
      · rename_i hu
        unfold pCap at h
        split at h
        · rename_i hx; simp only [Option.some.injEq] at h; subst h
          simp [execOp, resolve, invoke, builtin, Builtin.cap_, run_underlying' hu, goInt, hx]
        · simp at h
      · simp at h
    · rename_i x y ha
      obtain rfl : args = #[x, y] := Array.ext' ha
      unfold pMin at h
      split at h
      · rename_i hx hy; simp only [Option.some.injEq] at h; subst h
        simp [execOp, resolve, invoke, builtin, Builtin.min_, hx, hy, Builtin.min2]
      · simp at h
    · rename_i x y ha
      obtain rfl : args = #[x, y] := Array.ext' ha
      unfold pMax at h
      split at h
      · rename_i hx hy; simp only [Option.some.injEq] at h; subst h
        simp [execOp, resolve, invoke, builtin, Builtin.max_, hx, hy, Builtin.max2]
      · simp at h
    · simp at h
  all_goals simp at h
end Go.Sx
