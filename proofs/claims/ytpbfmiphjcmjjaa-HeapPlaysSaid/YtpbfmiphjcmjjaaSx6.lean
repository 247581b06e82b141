/- A part of the proofs: what stands below it, told in lemmas. No condition. -/
import Derived.Test.YtpbfmiphjcmjjaaSx5
set_option linter.all false
namespace Go.Sx
variable {P : Program} {w : World}

/-! a statement of the text: operations in a row, or in whatever order their edges allow -/
def isEff (P : Program) : Op → Bool
  | .alloc _ | .box _ _ | .buildSlice _ _ _ | .store _ _ _ | .makeMap _ _ | .makeSlice _ _ _ | .mapUpdate _ _ _ _ | .insert _ _ _ _ | .range _ _ | .next _ _ => true
  | .convert s d _ => match P.underlying s, P.underlying d with
    | some .string, some (.slice _) => true
    | _, _ => false
  | .call c => match c.callee with
    | .builtin b => match b with
      | .append | .copy | .delete | .clear => true
      | _ => false
    | _ => true
  | _ => false
def isRd : Op → Bool
  | .load _ _ | .lookup _ _ _ _ | .convert _ _ _ | .entry _ | .call _ => true
  | _ => false
theorem fop_noRd {e : Env} {o : Op} (h : isRd o = false) (w w' : World) : fop P e o w = fop P e o w' := by
  cases o <;> simp [isRd] at h <;> rfl
def guardE (ops : Array Oper) (o : Oper) (e : Env) : Bool := match o.guard with
  | none => true
  | some (g, want) => match (ops[g]?).bind (·.dst) with
    | some t => match e t with | .bool b => b == want | _ => false
    | none => false
def bindP (o : Option Value) (k : Value → Prop) : Prop := match o with | some v => k v | none => False
def stepG (g : Bool) (o : Option Value) (k : Value → Prop) : Prop := match g with | true => bindP o k | false => k undef
def stepE (g : Bool) (E : (Value → World → Prop) → Prop) (w : World) (k : Value → World → Prop) : Prop := match g with | true => E k | false => k undef w
def stepM (g : Bool) (v : Value) (k : Value → Prop) : Prop := match g with | true => k v | false => k undef
def mvOf : Op → Option Operand
  | .move x => some x
  | .assign x => some x
  | _ => none
def flStep (P : Program) (ops : Array Oper) (nt : Nat) (o : Oper) (e : Env) (w : World) (K : Env → Prop) : Prop := match mvOf o.op with
  | some x => stepM (guardE ops o e) (ev e x) fun v => K (put nt e o.dst v)
  | none => stepG (guardE ops o e) (fop P e o.op w) fun v => K (put nt e o.dst v)
theorem flStep_eq {ops : Array Oper} {nt : Nat} {o : Oper} {e : Env} {K : Env → Prop} : flStep P ops nt o e w K = stepG (guardE ops o e) (fop P e o.op w) fun v => K (put nt e o.dst v) := by
  unfold flStep
  cases hm : mvOf o.op with
  | none => rfl
  | some x =>
    have : fop P e o.op w = some (ev e x) := by
      cases ho : o.op <;> rw [ho] at hm <;> simp [mvOf] at hm <;> subst hm <;> rfl
    rw [this]
    cases guardE ops o e <;> rfl
def efStep (P : Program) (call : CallT) (ops : Array Oper) (nt : Nat) (o : Oper) (e : Env) (w : World) (K : Env → World → Prop) : Prop :=
  stepE (guardE ops o e) (fun k => eop P call e o.op w k) w fun v w' => K (put nt e o.dst v) w'
/-- in the order of the text -/
def runS (P : Program) (call : CallT) (ops : Array Oper) (nt : Nat) : List Oper → Env → World → (Env → World → Prop) → Prop
  | [], e, w, k => k e w
  | o :: l, e, w, k => match isEff P o.op with
    | false => flStep P ops nt o e w fun e' => runS P call ops nt l e' w k
    | true => efStep P call ops nt o e w fun e' w' => runS P call ops nt l e' w' k

def allL {α : Type} (p : α → Prop) : List α → Prop
  | [] => True
  | [x] => p x
  | x :: y :: r => p x ∧ allL p (y :: r)
theorem allL_iff {α : Type} {p : α → Prop} : ∀ {l : List α}, allL p l ↔ ∀ x ∈ l, p x
  | [] => by simp [allL]
  | [x] => by simp [allL]
  | x :: y :: r => by simp only [allL, allL_iff (l := y :: r)]; simp

def readyAt (rem : List Nat) (o : Oper) : Bool := o.after.toList.all fun e => !Region.binds .any e || !rem.contains e.on
def maskOf (acc : List Nat) (o : Oper) : Nat := o.after.toList.foldl (fun s e => if Region.binds .any e then s ||| 2 ^ e.on ||| acc.getD e.on 0 else s) 0
def masksL : List Oper → List Nat → List Nat
  | [], acc => acc
  | o :: r, acc => masksL r (acc ++ [maskOf acc o])
def masks (ops : Array Oper) : List Nat := masksL ops.toList []
/-- operation j stands behind k in every order -/
def bef (ms : List Nat) (j k : Nat) : Bool := (ms.getD j 0).testBit k
def lateW (ops : Array Oper) (ms : List Nat) (j t : Nat) : Bool := (List.range ops.size).any fun k => (match ops[k]? with | some o => o.dst == some t | none => false) && bef ms k j
def envAt (ops : Array Oper) (ms : List Nat) (j : Nat) (e0 e : Env) : Env := fun t => match lateW ops ms j t with | true => e0 t | false => e t
def fok (g : Bool) (o : Option Value) (v : Value) : Prop := match g with | true => o = some v | false => v = undef
def floatOk (P : Program) (ops : Array Oper) (e : Env) (o : Oper) (w : World) : Prop := match o.dst with
  | some d => fok (guardE ops o e) (fop P e o.op w) (e d)
  | none => match guardE ops o e with
    | true => (fop P e o.op w).isSome = true
    | false => True
def gSweep (P : Program) (ops : Array Oper) (nt : Nat) : List Nat → List Nat → Env → World → (List Nat → Env → Prop) → Prop
  | [], acc, e, _, K => K acc e
  | i :: todo, acc, e, w, K => match ops[i]? with
    | none => False
    | some o => match !isEff P o.op && readyAt acc o with
      | true => flStep P ops nt o e w fun e' => gSweep P ops nt todo acc e' w K
      | false => gSweep P ops nt todo (acc ++ [i]) e w K
def rcs (P : Program) (ops : Array Oper) (ms : List Nat) (rem : List Nat) (i : Nat) : List Nat := (List.range ops.size).filter fun j =>
  !rem.contains j && (match ops[j]? with | some o => isRd o.op && !isEff P o.op | none => false) && !bef ms i j
def readyEff (P : Program) (ops : Array Oper) (rem : List Nat) : List Nat := rem.filter fun i => match ops[i]? with
  | some o => isEff P o.op && readyAt rem o
  | none => false
def gRun (P : Program) (call : CallT) (ops : Array Oper) (nt : Nat) (e0 : Env) (ms : List Nat) : Nat → List Nat → Env → World → (Env → World → Prop) → Prop
  | 0, _, _, _, _ => False
  | f + 1, rem, e, w, k => gSweep P ops nt rem [] e w fun rem' e' => match rem' with
    | [] => k e' w
    | _ :: _ => match readyEff P ops rem' with
      | [] => False
      | l => allL (fun i => match ops[i]? with
        | none => False
        | some o => efStep P call ops nt o e' w fun e2 w2 => match rcs P ops ms rem' i with
          | [] => gRun P call ops nt e0 ms f (rem'.erase i) e2 w2 k
          | c :: cs => allL (fun j => match ops[j]? with | some oj => floatOk P ops (envAt ops ms j e0 e2) oj w2 | none => True) (c :: cs) ∧ gRun P call ops nt e0 ms f (rem'.erase i) e2 w2 k) l

def depsOf (o : Oper) : List Nat := (o.after.toList.filter fun e => Region.binds .any e).map (·.on)
def okR (ops : Array Oper) (nt : Nat) (ms : List Nat) : Bool :=
  (List.range ops.size).all fun i => match ops[i]? with
    | none => false
    | some o =>
      (depsOf o).all (fun d => Nat.blt d i) &&
      (match o.guard with | none => true | some (g, _) => (depsOf o).contains g && (match ops[g]? with | some og => og.dst.isSome | none => false)) &&
      (match o.dst with | none => true | some d => Nat.blt d nt && !(o.looksAt ops).contains d) &&
      (List.range ops.size).all fun k => match ops[k]? with
        | none => false
        | some ok => match ok.dst with
          | none => true
          | some t => i == k || ((o.dst != some t) && (!(o.looksAt ops).contains t || bef ms i k || bef ms k i))

/-! why this says all that can befall -/
theorem fop_congr {e e' : Env} {o : Op} (h : ∀ x ∈ o.operands, ev e x = ev e' x) (w : World) : fop P e o w = fop P e' o w := by
  have pairs : ∀ ps : Array (Nat × Operand), (∀ x ∈ ps.map (·.2), ev e x = ev e' x) → (ps.toList.map fun p => (p.1, ev e p.2)) = (ps.toList.map fun p => (p.1, ev e' p.2)) := fun ps hp =>
    List.map_congr_left fun p hm => by
      simp only [hp p.2 (Array.mem_map.2 ⟨p, Array.mem_toList_iff.1 hm, rfl⟩)]
  cases o <;> simp only [Op.operands] at h <;> simp only [fop]
  case build t ps => rw [pairs ps fun x hx => h x (by simpa using hx)]
  case makeFunc fn first captured =>
    rw [List.map_congr_left (l := first.toList) fun x hx => h x (by simp [Array.mem_toList_iff.1 hx]), List.map_congr_left (l := captured.toList) fun x hx => h x (by simp [Array.mem_toList_iff.1 hx])]
  case call c =>
    obtain ⟨cal, args, ats⟩ := c
    have ha : ∀ x ∈ args.toList, ev e x = ev e' x := fun x hx => h x (by simp [Call.operands]; exact .inr (Array.mem_toList_iff.1 hx))
    unfold fCall
    simp only
    generalize args.toList = l at ha
    split
    · rw [ha _ (by simp)]
    · rw [ha _ (by simp)]
    · rw [ha _ (by simp), ha _ (by simp)]
    · rw [ha _ (by simp), ha _ (by simp)]
    · rfl
  case slice t x lo hi mx => cases lo <;> cases hi <;> cases mx <;> simp_all
  all_goals (first | rfl | (simp_all; done))

def val (a : Act) (t : Nat) : Value := a.tmps.getD t undef
theorem eval_of {a : Act} {e : Env} {x : Operand} (h : ∀ t, x = .tmp t → val a t = e t) : a.eval x = ev e x := by
  cases x with
  | tmp t => exact h t rfl
  | const v => rfl
  | global g => rfl
  | func f => rfl
theorem tmp_looks {ops : Array Oper} {o : Oper} {t : Nat} (h : Operand.tmp t ∈ o.op.operands) : t ∈ o.looksAt ops :=
  List.mem_append_left _ (List.mem_filterMap.2 ⟨.tmp t, by simpa using h, rfl⟩)
theorem guard_looks {ops : Array Oper} {o og : Oper} {g t : Nat} {b : Bool} (h : o.guard = some (g, b)) (hg : ops[g]? = some og) (hd : og.dst = some t) : t ∈ o.looksAt ops := by
  refine List.mem_append_right _ ?_
  simp [h, hg, hd]
theorem guardE_congr {ops : Array Oper} {o : Oper} {e e' : Env} (h : ∀ t ∈ o.looksAt ops, e t = e' t) : guardE ops o e = guardE ops o e' := by
  unfold guardE
  split
  · rfl
  · rename_i g want hg
    cases hog : ops[g]? with
    | none => rfl
    | some og =>
      cases hd : og.dst with
      | none => simp [hd]
      | some t => simp only [Option.bind_some, hd]; rw [h t (guard_looks hg hog hd)]
theorem wanted_of {ops : Array Oper} {o : Oper} {a : Act} {e : Env} (h : ∀ t ∈ o.looksAt ops, val a t = e t) : Region.wanted o (yielded ops a.tmps) = guardE ops o e := by
  unfold Region.wanted guardE
  cases hg : o.guard with
  | none => rfl
  | some p =>
    obtain ⟨g, want⟩ := p
    simp only [yielded]
    cases hog : ops[g]? with
    | none => simp
    | some og =>
      cases hd : og.dst with
      | none => simp [hd]
      | some t =>
        have := h t (guard_looks hg hog hd)
        simp only [Option.bind_some, hd, val, Array.getD_eq_getD_getElem?] at this ⊢
        rw [← this]
        cases a.tmps[t]? with
        | none => rfl
        | some v => cases v <;> first | rfl | (rename_i b; cases b <;> cases want <;> rfl)
theorem floatOk_congr {ops : Array Oper} {o : Oper} {e e' : Env} (h : ∀ t ∈ o.looksAt ops, e t = e' t) (hd : ∀ d, o.dst = some d → e d = e' d) : floatOk P ops e o w ↔ floatOk P ops e' o w := by
  unfold floatOk
  rw [guardE_congr h, fop_congr (e := e) (e' := e') (fun x hx => by
    cases x with
    | tmp t => exact h t (tmp_looks hx)
    | const v => rfl
    | global g => rfl
    | func f => rfl)]
  cases ho : o.dst with
  | none => rfl
  | some d => simp only [hd d ho]

inductive Reach (ops : Array Oper) : Nat → Nat → Prop
  | base {i d : Nat} {o : Oper} (ho : ops[i]? = some o) (hd : d ∈ depsOf o) : Reach ops i d
  | step {i d k : Nat} {o : Oper} (ho : ops[i]? = some o) (hd : d ∈ depsOf o) (h : Reach ops d k) : Reach ops i k
theorem maskOf_spec {ops : Array Oper} {acc : List Nat} {o : Oper} {i : Nat} (ho : ops[i]? = some o) (hacc : ∀ j k, (acc.getD j 0).testBit k = true → Reach ops j k) {k : Nat} (h : (maskOf acc o).testBit k = true) : Reach ops i k := by
  unfold maskOf at h
  have key : ∀ (l : List Edge) (s : Nat), (∀ e ∈ l, e ∈ o.after.toList) → (s.testBit k = true → Reach ops i k) →
      (l.foldl (fun s e => if Region.binds .any e then s ||| 2 ^ e.on ||| acc.getD e.on 0 else s) s).testBit k = true → Reach ops i k := by
    intro l
    induction l with
    | nil => intro s _ hs h; exact hs h
    | cons e l ih =>
      intro s hl hs h
      refine ih _ (fun e' he' => hl e' (List.mem_cons_of_mem _ he')) ?_ h
      by_cases hb : Region.binds .any e = true
      · simp only [if_pos hb]
        intro hb'
        have hdep : e.on ∈ depsOf o := List.mem_map.2 ⟨e, List.mem_filter.2 ⟨hl e (List.mem_cons_self ..), hb⟩, rfl⟩
        simp only [Nat.testBit_or, Bool.or_eq_true] at hb'
        rcases hb' with (hb' | hb') | hb'
        · exact hs hb'
        · have : e.on = k := by
            rw [Nat.testBit_two_pow] at hb'; simpa using hb'
          subst this
          exact .base ho hdep
        · exact .step ho hdep (hacc _ _ hb')
      · simp only [if_neg hb]; exact hs
  exact key _ 0 (fun _ h => h) (by simp) h
theorem masksL_spec {ops : Array Oper} : ∀ (l : List Oper) (acc : List Nat), (∀ j, (acc.length + j < ops.size → ops[acc.length + j]? = l[j]?)) → acc.length + l.length = ops.size →
    (∀ j k, (acc.getD j 0).testBit k = true → Reach ops j k) → ∀ j k, ((masksL l acc).getD j 0).testBit k = true → Reach ops j k := by
  intro l
  induction l with
  | nil => intro acc _ _ h; exact h
  | cons o l ih =>
    intro acc hl hlen hacc
    have ho : ops[acc.length]? = some o := by have := hl 0 (by simp at hlen; omega); simpa using this
    refine ih _ ?_ (by simp at hlen ⊢; omega) ?_
    · intro j hj
      have := hl (j + 1) (by simp at hj; omega)
      simp only [List.length_append, List.length_cons, List.length_nil, Nat.zero_add] at hj ⊢
      rw [show acc.length + 1 + j = acc.length + (j + 1) by omega, this]; simp
    · intro j k h
      by_cases hj : j < acc.length
      · refine hacc j k ?_
        simpa [List.getElem?_append_left hj] using h
      · by_cases hj' : j = acc.length
        · subst hj'
          simp at h
          exact maskOf_spec ho hacc h
        · have : (acc ++ [maskOf acc o]).getD j 0 = 0 := by
            simp only [List.getD_eq_getElem?_getD]
            rw [List.getElem?_eq_none (by simp; omega)]; rfl
          rw [this] at h; simp at h
theorem bef_spec {ops : Array Oper} {j k : Nat} (h : bef (masks ops) j k = true) : Reach ops j k :=
  masksL_spec ops.toList [] (fun j _ => by simp) (by simp) (fun j k h => by simp at h) j k h
end Go.Sx
