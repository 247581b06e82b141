/- A part of the proofs: what stands below it, told in lemmas. No condition. -/
import Derived.Test.YtpbfmiphjcmjjaaSx9
set_option linter.all false
namespace Go.Sx
variable {P : Program} {w : World}

def noE : Nat → Env → World → Prop := fun _ _ _ => False
def fuel : Nat := 4611686018427387904
def nthC (l : List Code) (j : Nat) : Code := l.getD j .skip
def bodyOf (f : Func) : Code := f.body.getD .skip
def blkB : Code → Code | .block _ b => b | c => c
def loopB : Code → Code | .loop b => b | c => c
def thenC : Code → Code | .cond _ a _ => a | c => c
def elseC : Code → Code | .cond _ _ b => b | c => c
section
variable {call : CallT} {nt n : Nat} {kn kr : Env → World → Prop} {ke : Nat → Env → World → Prop}
theorem seg {l : List Code} (j : Nat) {fy fr : Env → World → Prop} {fe : Nat → Env → World → Prop} {e : Env} (h : denL P call nt n (l.take j) e w fy fr fe)
    (hy : ∀ e w, fy e w → denL P call nt n (l.drop j) e w kn kr ke) (hr : ∀ e w, fr e w → kr e w) (he : ∀ i e w, fe i e w → ke i e w) : denL P call nt n l e w kn kr ke := by
  rw [← List.take_append_drop j l, denL_append]
  exact denL_mono _ hy hr he h
theorem seg_end {l : List Code} {fn fr : Env → World → Prop} {fe : Nat → Env → World → Prop} {e : Env} (h : denL P call nt n l e w fn fr fe)
    (hn : ∀ e w, fn e w → kn e w) (hr : ∀ e w, fr e w → kr e w) (he : ∀ i e w, fe i e w → ke i e w) : denL P call nt n l e w kn kr ke :=
  denL_mono _ hn hr he h
theorem blkK_mono {id : Nat} {fn : Env → World → Prop} {fe : Nat → Env → World → Prop} (hn : ∀ e w, fn e w → kn e w) (he : ∀ i e w, fe i e w → ke i e w) : ∀ i e w, blkK id fn fe i e w → blkK id kn ke i e w := by
  intro i e w h
  unfold blkK at *
  split at h
  · rename_i hb; (try rw [hb]); exact hn _ _ h
  · rename_i hb; (try rw [hb]); exact he _ _ _ h
theorem seg_loop {l l2 : List Code} {id : Nat} {body : Code} {e : Env} (hl : l = .block id (.loop body) :: l2)
    (h : loopD n (fun e w k => den P call nt n body e w k kr (blkK id (fun e w => denL P call nt n l2 e w kn kr ke) ke)) e w) : denL P call nt n l e w kn kr ke := by
  subst hl; exact h
theorem seg_block {l l2 : List Code} {id : Nat} {body : Code} {e : Env} (hl : l = .block id body :: l2)
    (h : denL P call nt n (flat body) e w (fun e w => denL P call nt n l2 e w kn kr ke) kr (blkK id (fun e w => denL P call nt n l2 e w kn kr ke) ke)) : denL P call nt n l e w kn kr ke := by
  subst hl; rw [denL_flat] at h; exact h
theorem seg_cond {l l2 : List Code} {c : Operand} {a b : Code} {e : Env} (hl : l = .cond c a b :: l2) {fa fb : Prop} (h : ifB (ev e c) fa fb)
    (ha : fa → denL P call nt n (flat a) e w (fun e w => denL P call nt n l2 e w kn kr ke) kr ke) (hb : fb → denL P call nt n (flat b) e w (fun e w => denL P call nt n l2 e w kn kr ke) kr ke) : denL P call nt n l e w kn kr ke := by
  subst hl
  rw [denL_flat] at ha hb
  simp only [denL, den, ifB] at *
  split at h
  · exact ha h
  · exact hb h
  · exact h.elim
theorem loop_ok {body : Code} {fr : Env → World → Prop} {fe : Nat → Env → World → Prop} {FL : Nat → Env → World → Prop} (h0 : ∀ e w, ¬ FL 0 e w)
    (hs : ∀ m e w, FL (m + 1) e w → denL P call nt n (flat body) e w (FL m) fr fe) (hr : ∀ e w, fr e w → kr e w) (he : ∀ i e w, fe i e w → ke i e w) :
    ∀ m e w, FL m e w → loopD m (fun e w k => den P call nt n body e w k kr ke) e w := by
  intro m
  induction m with
  | zero => intro e w h; exact (h0 e w h).elim
  | succ m ih =>
    intro e w h
    have := hs m e w h
    rw [denL_flat] at this
    exact den_mono body (fun e w h => ih e w h) hr he this
end
theorem fnD_list {call : CallT} {n : Nat} {fn : Func} {c : Code} (hb : fn.body = some c) {args : List Value} (hle : Nat.ble args.length fn.ntmps = true) {K : Value → World → Prop}
    (h : denL P call fn.ntmps n (flat c) (initE args) w (endD P fn.results.toList K) (endD P fn.results.toList K) noE) : fnD P call n fn args w K := by
  unfold fnD
  rw [hb]
  simp only [hle]
  rw [denL_flat] at h
  exact h

def on0 (p : Prop) : List Value → Prop | [] => p | _ => False
def on1 (p : Value → Prop) : List Value → Prop | [a] => p a | _ => False
def on2 (p : Value → Value → Prop) : List Value → Prop | [a, b] => p a b | _ => False
def on3 (p : Value → Value → Value → Prop) : List Value → Prop | [a, b, c] => p a b c | _ => False
def on4 (p : Value → Value → Value → Value → Prop) : List Value → Prop | [a, b, c, d] => p a b c d | _ => False
def on5 (p : Value → Value → Value → Value → Value → Prop) : List Value → Prop | [a, b, c, d, e] => p a b c d e | _ => False
def on6 (p : Value → Value → Value → Value → Value → Value → Prop) : List Value → Prop | [a, b, c, d, e, f] => p a b c d e f | _ => False
def on7 (p : Value → Value → Value → Value → Value → Value → Value → Prop) : List Value → Prop | [a, b, c, d, e, f, g] => p a b c d e f g | _ => False
theorem of_on0 {p : Prop} {l : List Value} (h : on0 p l) : l = [] ∧ p := by unfold on0 at h; split at h; exact ⟨rfl, h⟩; exact h.elim
theorem of_on1 {p : Value → Prop} {l : List Value} (h : on1 p l) : ∃ a, l = [a] ∧ p a := by unfold on1 at h; split at h; exact ⟨_, rfl, h⟩; exact h.elim
theorem of_on2 {p : Value → Value → Prop} {l : List Value} (h : on2 p l) : ∃ a b, l = [a, b] ∧ p a b := by unfold on2 at h; split at h; exact ⟨_, _, rfl, h⟩; exact h.elim
theorem of_on3 {p : Value → Value → Value → Prop} {l : List Value} (h : on3 p l) : ∃ a b c, l = [a, b, c] ∧ p a b c := by unfold on3 at h; split at h; exact ⟨_, _, _, rfl, h⟩; exact h.elim
theorem of_on4 {p : Value → Value → Value → Value → Prop} {l : List Value} (h : on4 p l) : ∃ a b c d, l = [a, b, c, d] ∧ p a b c d := by unfold on4 at h; split at h; exact ⟨_, _, _, _, rfl, h⟩; exact h.elim
theorem of_on5 {p : Value → Value → Value → Value → Value → Prop} {l : List Value} (h : on5 p l) : ∃ a b c d e, l = [a, b, c, d, e] ∧ p a b c d e := by unfold on5 at h; split at h; exact ⟨_, _, _, _, _, rfl, h⟩; exact h.elim
theorem of_on6 {p : Value → Value → Value → Value → Value → Value → Prop} {l : List Value} (h : on6 p l) : ∃ a b c d e f, l = [a, b, c, d, e, f] ∧ p a b c d e f := by unfold on6 at h; split at h; exact ⟨_, _, _, _, _, _, rfl, h⟩; exact h.elim
theorem of_on7 {p : Value → Value → Value → Value → Value → Value → Value → Prop} {l : List Value} (h : on7 p l) : ∃ a b c d e f g, l = [a, b, c, d, e, f, g] ∧ p a b c d e f g := by unfold on7 at h; split at h; exact ⟨_, _, _, _, _, _, _, rfl, h⟩; exact h.elim

/-! the words in which a function's text is told -/
def gd (want : Bool) (v : Value) : Bool := match v with | .bool b => b == want | _ => false
def st (n : Nat) (a x : Value) (w : World) : Option World := match a with
  | .pointer (some ⟨b, o, none⟩) => if x.cells.size = n then stCells w b o x.cells.toList else none
  | _ => none
def lenS (x : Value) : Option Value := match x with | .string s => some (.int .i64 s.size) | _ => none
def lenL (x : Value) : Option Value := match x with | .slice _ n _ => some (.int .i64 n) | _ => none
def lenM (x : Value) (w : World) : Option Value := match mapOf x w with | some es => some (.int .i64 es.size) | none => none
end Go.Sx
