/- A part of the proofs: what stands below it, told in lemmas. No condition. -/
import Derived.Test.YtpbfmiphjcmjjaaSx8
set_option linter.all false
namespace Go.Sx
variable {P : Program} {w : World}

def ifB (c : Value) (a b : Prop) : Prop := match c with
  | .bool true => a
  | .bool false => b
  | _ => False
def loopD : Nat → (Env → World → (Env → World → Prop) → Prop) → Env → World → Prop
  | 0, _, _, _ => False
  | n + 1, body, e, w => body e w fun e' w' => loopD n body e' w'
def regD (P : Program) (call : CallT) (nt : Nat) (ops : Array Oper) (draw : Bool) (e : Env) (w : World) (k : Env → World → Prop) : Prop := match draw with
  | false => runS P call ops nt ops.toList e w k
  | true => match okR ops nt (masks ops) with
    | true => gRun P call ops nt e (masks ops) (ops.size + 1) (List.range ops.size) e w.drew k
    | false => False
def blkK (id : Nat) (kn : Env → World → Prop) (ke : Nat → Env → World → Prop) : Nat → Env → World → Prop := fun id' e w => match Nat.beq id' id with | true => kn e w | false => ke id' e w
def den (P : Program) (call : CallT) (nt n : Nat) : Code → Env → World → (Env → World → Prop) → (Env → World → Prop) → (Nat → Env → World → Prop) → Prop
  | .skip, e, w, kn, _, _ => kn e w
  | .region _ ops draw, e, w, kn, _, _ => regD P call nt ops draw e w kn
  | .seq a b, e, w, kn, kr, ke => den P call nt n a e w (fun e w => den P call nt n b e w kn kr ke) kr ke
  | .cond c a b, e, w, kn, kr, ke => ifB (ev e c) (den P call nt n a e w kn kr ke) (den P call nt n b e w kn kr ke)
  | .block id body, e, w, kn, kr, ke => den P call nt n body e w kn kr (blkK id kn ke)
  | .loop body, e, w, _, kr, ke => loopD n (fun e w k => den P call nt n body e w k kr ke) e w
  | .exit id, e, w, _, _, ke => ke id e w
  | .ret, e, w, _, kr, _ => kr e w
  | _, _, _, _, _, _ => False

structure Rel (nt : Nat) (e : Env) (a : Act) : Prop where
  sz : a.tmps.size = nt
  df : a.defers = []
  v : ∀ t, val a t = e t
theorem Rel.put {nt : Nat} {e : Env} {a : Act} (h : Rel nt e a) (d : Option Tmp) (v : Value) : Rel nt (Sx.put nt e d v) (a.put d v) := by
  refine ⟨by rw [size_put, h.sz], by rw [dfr_put, h.df], fun t => ?_⟩
  by_cases hd : d = some t
  · subst hd
    by_cases hlt : t < nt
    · rw [put_eq hlt, val_put (by rw [h.sz]; exact hlt)]
    · have h1 : Sx.put nt e (some t) v = e := by
        have : Nat.ble nt t = true := Nat.ble_eq_true_of_le (by omega)
        simp only [Sx.put, this]
      have h2 : a.put (some t) v = a := by
        simp only [Act.put]
        rw [Array.setIfInBounds, dif_neg (by rw [h.sz]; exact hlt)]
      rw [h1, h2, h.v]
  · rw [put_ne hd, val_put_ne hd, h.v]

theorem runS_ok {call : CallT} (hc : SoundC P call) {ops : Array Oper} {nt : Nat} {k : Env → World → Prop} {Q : Exit → Act → World → Prop}
    (hQ : ∀ e' w' a', Rel nt e' a' → k e' w' → Q .normal a' w') : ∀ (l : List Oper) (e : Env) (w : World) (a : Act), Rel nt e a → runS P call ops nt l e w k → wpList P ops Q l a w := by
  intro l
  induction l with
  | nil => intro e w a hr h; exact hQ e w a hr h
  | cons o l ih =>
    intro e w a hr h
    unfold runS at h
    have hag : ∀ t ∈ o.looksAt ops, val a t = e t := fun t _ => hr.v t
    unfold wpList
    split at h
    · rw [flStep_eq] at h
      unfold stepG at h
      rw [wanted_of hag]
      split at h
      · rename_i hg
        unfold bindP at h
        split at h
        · rename_i v hf
          rw [if_pos hg]
          refine .inl (wp_of_runs (k := fun v' w' => v' = v ∧ w' = w) ?_ ?_)
          · rw [execOp_agree hag (not_select_of_fop hf)]
            exact .inl ⟨v, w, fop_ok hf, rfl, rfl⟩
          · rintro v' w' ⟨rfl, rfl⟩
            exact ih _ _ _ (hr.put _ _) h
        · exact h.elim
      · rename_i hg
        rw [if_neg (by rw [hg]; decide)]
        exact ih _ _ _ (hr.put _ _) h
    · exact efStep_ok hc hag h fun v w' hk => ih _ _ _ (hr.put _ _) hk

theorem Inv.start {ops : Array Oper} {nt : Nat} {ms : List Nat} {e : Env} {a : Act} (hr : Rel nt e a) : Inv P ops nt ms e (Array.replicate ops.size false) (List.range ops.size) e w a := by
  have hL : ∀ i, ¬ L (Array.replicate ops.size false) i := by
    intro i
    unfold L
    by_cases h : i < ops.size <;> simp [h]
  refine ⟨by simp, hr.sz, hr.df, fun i h => (hL i h).elim, fun i h => List.mem_range.1 h, List.pairwise_lt_range, fun i o _ h => (hL i h).elim, ?_, ?_, fun i o t _ _ h => (hL i h).elim, fun t _ => hr.v t, fun t _ => rfl, ?_⟩
  · intro i o ho hi
    exact (hi (List.mem_range.2 (lt_of_op ho))).elim
  · intro i o ho _ hi
    exact (hi (List.mem_range.2 (lt_of_op ho))).elim
  · intro i o ho hi
    exact (hi (List.mem_range.2 (lt_of_op ho))).elim
theorem regD_ok {call : CallT} (hc : SoundC P call) (hm : P.follows .mixedOrders = true) {id : Nat} {ops : Array Oper} {draw : Bool} {nt : Nat} {k : Env → World → Prop} {Q : Exit → Act → World → Prop}
    (hQ : ∀ e' w' a', Rel nt e' a' → k e' w' → Q .normal a' w') {e : Env} {a : Act} (hr : Rel nt e a)
    (h : regD P call nt ops draw e w k) : (Code.region id ops draw).wp P Q a w := by
  unfold regD at h
  split at h
  · exact wp_region_list (runS_ok hc hQ _ _ _ _ hr h)
  · split at h
    · rename_i hok
      have F := fits_of hok
      refine wp_region_any hm ?_
      have I : Inv P ops nt (masks ops) e (Array.replicate ops.size false) (List.range ops.size) e w.drew a := Inv.start hr
      obtain ⟨f', rem', e', hS, I', hno⟩ := settle F I h
      refine game_ok hc F (k := k) (fun e' w' a' h1 h2 h3 h4 => hQ e' w' a' ⟨h1, h2, h3⟩ h4) ops.size (List.range ops.size) _ f' rem' e' _ a (by simp) List.nodup_range ?_ I' hno hS
      intro i
      have : ¬ L (Array.replicate ops.size false) i := by
        unfold L
        by_cases h : i < ops.size <;> simp [h]
      simp [this]
    · exact h.elim

theorem least {p : Nat → Prop} (h : ∃ n, p n) : ∃ m, p m ∧ ∀ k, p k → m ≤ k := by
  obtain ⟨n, hn⟩ := h
  induction n using Nat.strongRecOn with
  | _ n ih =>
    by_cases hk : ∃ k, k < n ∧ p k
    · obtain ⟨k, hlt, hk⟩ := hk; exact ih k hlt hk
    · exact ⟨n, hn, fun k hpk => Nat.le_of_not_lt fun hlt => hk ⟨k, hlt, hpk⟩⟩
theorem loopD_ok {body : Code} {B : Env → World → (Env → World → Prop) → Prop} {nt : Nat} {Q : Exit → Act → World → Prop}
    (hB : ∀ (K : Env → World → Prop) (K' : Act → World → Prop) e w a, Rel nt e a → (∀ e' w' a', Rel nt e' a' → K e' w' → K' a' w') → B e w K → body.wp P (Exit.then K' Q) a w)
    {n : Nat} {e : Env} {a : Act} (hr : Rel nt e a) (h : loopD n B e w) : (Code.loop body).wp P Q a w := by
  classical
  have hex : ∃ m, ∃ e, Rel nt e a ∧ loopD m B e w := ⟨n, e, hr, h⟩
  let μ : Act → World → Nat := fun a w => if hx : ∃ m, ∃ e, Rel nt e a ∧ loopD m B e w then Classical.choose (least hx) else 0
  refine wp_loop (fun a w => ∃ m, ∃ e, Rel nt e a ∧ loopD m B e w) μ hex ?_
  intro a w hx
  have hμ : μ a w = Classical.choose (least hx) := dif_pos hx
  obtain ⟨⟨e, hr, h⟩, _⟩ := Classical.choose_spec (least hx)
  cases hm : Classical.choose (least hx) with
  | zero => rw [hm] at h; exact h.elim
  | succ m =>
    rw [hm] at h
    refine hB _ _ e w a hr ?_ h
    intro e' w' a' hr' h'
    refine ⟨⟨m, e', hr', h'⟩, ?_⟩
    have hx' : ∃ m, ∃ e, Rel nt e a' ∧ loopD m B e w' := ⟨m, e', hr', h'⟩
    have : μ a' w' = Classical.choose (least hx') := dif_pos hx'
    rw [this, hμ, hm]
    exact Nat.lt_succ_of_le ((Classical.choose_spec (least hx')).2 m ⟨e', hr', h'⟩)

theorem den_ok {call : CallT} (hc : SoundC P call) (hm : P.follows .mixedOrders = true) {nt n : Nat} (c : Code) : ∀ {e : Env} {w : World} {kn kr : Env → World → Prop} {ke : Nat → Env → World → Prop} {a : Act} {Q : Exit → Act → World → Prop},
    Rel nt e a → den P call nt n c e w kn kr ke → (∀ e' w' a', Rel nt e' a' → kn e' w' → Q .normal a' w') → (∀ e' w' a', Rel nt e' a' → kr e' w' → Q .ret a' w') →
    (∀ id e' w' a', Rel nt e' a' → ke id e' w' → Q (.exit id) a' w') → c.wp P Q a w := by
  induction c with
  | skip => intro e w kn kr ke a Q hr h hn _ _; exact wp_skip (hn e w a hr h)
  | region id ops draw => intro e w kn kr ke a Q hr h hn _ _; exact regD_ok hc hm hn hr h
  | seq x y ihx ihy =>
    intro e w kn kr ke a Q hr h hn hR hE
    refine wp_seq (ihx hr h ?_ ?_ ?_)
    · intro e' w' a' hr' h'; exact ihy hr' h' hn hR hE
    · exact hR
    · exact hE
  | cond c x y ihx ihy =>
    intro e w kn kr ke a Q hr h hn hR hE
    simp only [den, ifB] at h
    have hev : a.eval c = ev e c := eval_of fun t _ => hr.v t
    split at h
    · rename_i hb; exact wp_cond_true (hev.trans hb) (ihx hr h hn hR hE)
    · rename_i hb; exact wp_cond_false (hev.trans hb) (ihy hr h hn hR hE)
    · exact h.elim
  | block id body ih =>
    intro e w kn kr ke a Q hr h hn hR hE
    refine wp_block (ih hr h ?_ ?_ ?_)
    · exact hn
    · exact hR
    · intro id' e' w' a' hr' h'
      simp only [Exit.inBlock]
      unfold blkK at h'
      split at h'
      · rename_i hb
        rw [if_pos (Nat.eq_of_beq_eq_true hb)]; exact hn _ _ _ hr' h'
      · rename_i hb
        rw [if_neg (fun he => by subst he; simp at hb)]; exact hE _ _ _ _ hr' h'
  | loop body ih =>
    intro e w kn kr ke a Q hr h hn hR hE
    refine loopD_ok (B := fun e w k => den P call nt n body e w k kr ke) ?_ hr h
    intro K K' e w a hr' hK h'
    exact ih hr' h' hK hR hE
  | exit id => intro e w kn kr ke a Q hr h hn hR hE; exact wp_exit (hE _ _ _ _ hr h)
  | ret => intro e w kn kr ke a Q hr h hn hR hE; exact wp_ret (hR _ _ _ hr h)
  | rangeFunc f params assign body ih1 ih2 => intro e w kn kr ke a Q hr h; exact h.elim
  | scope body ih => intro e w kn kr ke a Q hr h; exact h.elim
  | label l => intro e w kn kr ke a Q hr h; exact h.elim
  | goto l => intro e w kn kr ke a Q hr h; exact h.elim
  | refuse why => intro e w kn kr ke a Q hr h; exact h.elim

def oneOf (l : List Value) : Value := match l with
  | [v] => v
  | l => .tuple l.toArray
def endC (P : Program) (K : Value → World → Prop) (e : Env) (w : World) : List ResultVar → List Value → Prop
  | [], acc => K (oneOf acc) w
  | .tmp t :: l, acc => endC P K e w l (acc ++ [e t])
  | .cell a t :: l, acc => bindP (fLoad P t (e a) w) fun v => endC P K e w l (acc ++ [v])
def endD (P : Program) (rs : List ResultVar) (K : Value → World → Prop) (e : Env) (w : World) : Prop := endC P K e w rs []
def initE (args : List Value) : Env := fun t => args.getD t undef
def fnD (P : Program) (call : CallT) (n : Nat) (fn : Func) (args : List Value) (w : World) (K : Value → World → Prop) : Prop := match fn.body with
  | some c => match Nat.ble args.length fn.ntmps with
    | true => den P call fn.ntmps n c (initE args) w (endD P fn.results.toList K) (endD P fn.results.toList K) fun _ _ _ => False
    | false => False
  | none => False

theorem fLoad_ptr {t : TypeId} {v r : Value} (h : fLoad P t v w = some r) : ∃ a, v = .pointer (some a) := by
  unfold fLoad at h
  split at h
  all_goals first
    | (unfold ldN at h; split at h <;> first | exact ⟨_, rfl⟩ | (simp at h))
    | (unfold ld1 at h; split at h <;> first | exact ⟨_, rfl⟩ | (simp at h))
    | simp at h
theorem run_endC {e : Env} {a : Act} {K : Value → World → Prop} (hr : ∀ t, val a t = e t) : ∀ (rs : List ResultVar) (acc : List Value), endC P K e w rs acc →
    ∃ l, (rs.mapM (m := Sem) fun | .tmp t => pure (a.tmps.getD t undef) | .cell ad t => do loadVar t (← asAddr (a.tmps.getD ad undef))).run P w = .ok l w ∧ K (oneOf (acc ++ l)) w := by
  intro rs
  induction rs with
  | nil => intro acc h; exact ⟨[], by simp, by simpa [endC] using h⟩
  | cons r rs ih =>
    intro acc h
    cases r with
    | tmp t =>
      obtain ⟨l, h1, h2⟩ := ih _ h
      have : a.tmps.getD t undef = e t := hr t
      exact ⟨e t :: l, by simp only [List.mapM_cons, Sem.run_bind, Sem.run_pure, Result.andThen_ok, h1, this], by simpa using h2⟩
    | cell ad t =>
      unfold endC bindP at h
      split at h
      · rename_i v hv
        obtain ⟨l, h1, h2⟩ := ih _ h
        obtain ⟨p, hp⟩ := fLoad_ptr hv
        have hv' := run_load_ok (P := P) hv
        have : a.tmps.getD ad undef = .pointer (some p) := (hr ad).trans hp
        rw [hp] at hv'
        simp only [Instr.loadAt, Instr.sureAddr, Sem.run_bind, Sem.run_pure, Result.andThen_ok] at hv'
        have hasA : (asAddr (.pointer (some p))).run P w = .ok p w := rfl
        exact ⟨v :: l, by simp only [List.mapM_cons, Sem.run_bind, Sem.run_pure, Result.andThen_ok, h1, this, hasA, hv'], by simpa using h2⟩
      · exact h.elim
theorem run_results {fn : Func} {e : Env} {a : Act} {K : Value → World → Prop} (hr : ∀ t, val a t = e t) (h : endD P fn.results.toList K e w) : ∃ v, (results fn a.tmps).run P w = .ok v w ∧ K v w := by
  obtain ⟨l, key, hK⟩ := run_endC hr _ _ h
  refine ⟨oneOf l, ?_, by simpa using hK⟩
  have key2 : (fn.results.mapM (m := Sem) fun | .tmp t => pure (a.tmps.getD t undef) | .cell ad t => do loadVar t (← asAddr (a.tmps.getD ad undef))).run P w = .ok l.toArray w := by
    rw [Array.mapM_eq_mapM_toList]
    simp only [Sem.run_map]
    exact (congrArg (fun z => Result.andThen z fun (a : List Value) w' => Result.ok a.toArray w') key).trans rfl
  unfold results
  simp only [Sem.run_bind]
  refine (congrArg (fun z => Result.andThen z fun (vs : Array Value) w' => (pure (if h : vs.size = 1 then vs[0] else .tuple vs) : Sem Value).run P w') key2).trans ?_
  simp only [Result.andThen_ok]
  cases l with
  | nil => rfl
  | cons v l => cases l <;> rfl

/-- A function of the program, by its code. -/
theorem fn_ok {call : CallT} (hc : SoundC P call) (hm : P.follows .mixedOrders = true) {n i : Nat} {fn : Func} (hf : P.funcs[i]? = some fn) (hcall : ∀ args w, (callFunc i args).run P w = .ok (.enter i args) w)
    {args : Array Value} {K : Value → World → Prop} (h : fnD P call n fn args.toList w K) : CallOk P i args w K := by
  refine .inl ⟨hcall _ _, ?_⟩
  unfold fnD at h
  split at h
  · rename_i c hb
    split at h
    · rename_i hle
      have hle : args.size ≤ fn.ntmps := by simpa using Nat.le_of_ble_eq_true hle
      refine calls_of_wp hf hb ?_
      have hr : Rel fn.ntmps (initE args.toList) { tmps := args ++ Array.replicate (fn.ntmps - args.size) undef, defers := [] } := by
        refine ⟨by simp; omega, rfl, fun t => ?_⟩
        simp only [val, initE, Array.getD_eq_getD_getElem?, List.getD_eq_getElem?_getD, Array.getElem?_toList]
        by_cases ht : t < args.size
        · rw [Array.getElem?_append_left ht]
        · rw [Array.getElem?_append_right (by omega), Array.getElem?_eq_none (xs := args) (by omega)]
          by_cases ht2 : t - args.size < fn.ntmps - args.size
          · simp [ht2]
          · simp [ht2]
      have hend : ∀ e' w' a', Rel fn.ntmps e' a' → endD P fn.results.toList K e' w' → a'.defers = [] ∧ ∃ v, (results fn a'.tmps).run P w' = .ok v w' ∧ ∃ v', Ending.returned v = .returned v' ∧ K v' w' := by
        intro e' w' a' hr' h'
        obtain ⟨v, h1, h2⟩ := run_results hr'.v h'
        exact ⟨hr'.df, v, h1, v, rfl, h2⟩
      exact den_ok hc hm c hr h (fun e' w' a' hr' h' => hend e' w' a' hr' h') (fun e' w' a' hr' h' => hend e' w' a' hr' h') (fun _ _ _ _ _ h' => h'.elim)
    · exact h.elim
  · exact h.elim

/-! tables of calls -/
def OkF (P : Program) (i : Nat) (F : FnT) : Prop := ∀ args w K, F args w K → CallOk P i args.toArray w K
def tabOf : List (Nat × FnT) → CallT
  | [], _, _, _, _ => False
  | (i, F) :: l, f, args, w, K => match Nat.beq f i with
    | true => F args w K
    | false => tabOf l f args w K
def TabOk (P : Program) : List (Nat × FnT) → Prop
  | [] => True
  | (i, F) :: l => OkF P i F ∧ TabOk P l
theorem tab_ok : ∀ {l : List (Nat × FnT)}, TabOk P l → SoundC P (tabOf l)
  | [], _ => fun _ _ _ _ h => h.elim
  | (i, F) :: l, ⟨h1, h2⟩ => fun f args w K h => by
    unfold tabOf at h
    split at h
    · rename_i hb
      have := h1 _ _ _ h
      rw [Nat.eq_of_beq_eq_true hb]
      exact this
    · exact tab_ok h2 f args w K h
theorem okF_of {call : CallT} (hc : SoundC P call) (hm : P.follows .mixedOrders = true) {n i : Nat} {fn : Func} (hf : P.funcs[i]? = some fn) (hcall : ∀ args w, (callFunc i args).run P w = .ok (.enter i args) w)
    {F : FnT} (h : ∀ args w K, F args w K → fnD P call n fn args w K) : OkF P i F := fun args w K hF => fn_ok hc hm hf hcall (by simpa using h _ _ _ hF)

/-! pieces of code -/
def flat : Code → List Code
  | .seq a b => flat a ++ flat b
  | c => [c]
def denL (P : Program) (call : CallT) (nt n : Nat) : List Code → Env → World → (Env → World → Prop) → (Env → World → Prop) → (Nat → Env → World → Prop) → Prop
  | [], e, w, kn, _, _ => kn e w
  | c :: l, e, w, kn, kr, ke => den P call nt n c e w (fun e w => denL P call nt n l e w kn kr ke) kr ke
section
variable {call : CallT} {nt n : Nat}
theorem denL_append (l l' : List Code) : ∀ {e : Env} {w : World} {kn kr : Env → World → Prop} {ke : Nat → Env → World → Prop},
    denL P call nt n (l ++ l') e w kn kr ke = denL P call nt n l e w (fun e w => denL P call nt n l' e w kn kr ke) kr ke := by
  induction l with
  | nil => intros; rfl
  | cons c l ih =>
    intro e w kn kr ke
    simp only [List.cons_append, denL, ih]
theorem denL_flat (c : Code) : ∀ {e : Env} {w : World} {kn kr : Env → World → Prop} {ke : Nat → Env → World → Prop}, denL P call nt n (flat c) e w kn kr ke = den P call nt n c e w kn kr ke := by
  induction c with
  | seq a b iha ihb =>
    intro e w kn kr ke
    simp only [flat, denL_append, iha, ihb, den]
  | _ => intros; rfl

theorem bindP_mono {o : Option Value} {k k' : Value → Prop} (hk : ∀ v, k v → k' v) (h : bindP o k) : bindP o k' := by
  unfold bindP at *; split <;> simp_all
theorem allL_mono {α : Type} {p q : α → Prop} {l : List α} (hpq : ∀ x, p x → q x) (h : allL p l) : allL q l := allL_iff.2 fun x hx => hpq x (allL_iff.1 h x hx)
end

section
variable {k k' : Value → World → Prop} (hk : ∀ v w, k v w → k' v w)
include hk
theorem eAlloc_mono {t : TypeId} (h : eAlloc P t w k) : eAlloc P t w k' := by
  unfold eAlloc at *; split at h
  · rename_i hz; (try rw [hz]); exact hk _ _ h
  · exact h.elim
theorem eBuildSl_mono {t : TypeId} {len : Nat} {ps : List (Nat × Value)} (h : eBuildSl P t len ps w k) : eBuildSl P t len ps w k' := by
  unfold eBuildSl at *; split at h
  · rename_i hz; (try rw [hz]); split at h
    · rename_i hc; (try simp only [hc]); exact hk _ _ h
    · exact h.elim
  · exact h.elim
theorem bindW_mono {o : Option World} {v : Value} (h : bindW o fun w => k v w) : bindW o fun w => k' v w := by
  unfold bindW at *; split at h
  · exact hk _ _ h
  · exact h.elim
theorem eMakeMap_mono {r : Option Value} (h : eMakeMap r w k) : eMakeMap r w k' := by
  unfold eMakeMap at *; split at h
  · exact hk _ _ h
  · exact h.elim
theorem eMakeSl_mono {t : TypeId} {l c : Value} (h : eMakeSl P t l c w k) : eMakeSl P t l c w k' := by
  unfold eMakeSl at *; split at h
  · rename_i hz; (try rw [hz]); split at h
    · rename_i hi; (try simp only [hi])
      obtain ⟨h1, h2, h3, h4, h5⟩ := h
      refine ⟨h1, h2, h3, h4, ?_⟩
      split at h5
      · rename_i hc; (try simp only [hc]); exact hk _ _ h5
      · exact h5.elim
    · exact h.elim
  · exact h.elim
theorem eMapSet_mono {t : TypeId} {m key v : Value} (h : eMapSet P t m key v w k) : eMapSet P t m key v w k' := by
  unfold eMapSet at *; split at h
  · rename_i hz; (try rw [hz]); split at h
    · split at h
      · rename_i hb; (try simp only [hb])
        refine ⟨h.1, ?_⟩
        have h := h.2
        split at h
        · rename_i hf; (try simp only [hf]); exact ⟨h.1, hk _ _ h.2⟩
        · rename_i hf; (try simp only [hf]); exact hk _ _ h
        · exact h.elim
      · exact h.elim
    · exact h.elim
  · exact h.elim
theorem eDelete_mono {t : TypeId} {m key : Value} (h : eDelete P t m key w k) : eDelete P t m key w k' := by
  unfold eDelete at *; split at h
  · rename_i hz; (try rw [hz]); split at h
    · split at h
      · rename_i hb; (try simp only [hb])
        refine ⟨h.1, ?_⟩
        have h := h.2
        split at h
        · rename_i hf; (try simp only [hf]); exact hk _ _ h
        · rename_i hf; (try simp only [hf]); exact hk _ _ h
        · exact h.elim
      · exact h.elim
    · exact h.elim
  · exact h.elim
theorem eClear_mono {t : TypeId} {m : Value} (h : eClear P t m w k) : eClear P t m w k' := by
  unfold eClear at *; split at h
  · rename_i hz; (try rw [hz]); split at h
    · exact hk _ _ h
    · split at h
      · rename_i hb; (try simp only [hb]); exact hk _ _ h
      · exact h.elim
    · exact h.elim
  · exact h.elim
theorem eRange_mono {t : TypeId} {x : Value} (h : eRange P t x w k) : eRange P t x w k' := by
  unfold eRange at *; split at h
  · rename_i hz; (try rw [hz]); split at h
    · exact hk _ _ h
    · exact h.elim
  · rename_i hz; (try rw [hz]); split at h
    · exact hk _ _ h
    · split at h
      · rename_i hb; (try simp only [hb]); exact hk _ _ h
      · exact h.elim
    · exact h.elim
  · exact h.elim
theorem eNext_mono {it : Value} {b : Bool} (h : eNext it b w k) : eNext it b w k' := by
  unfold eNext at *; split at h
  · split at h
    · rename_i hb; (try simp only [hb]); split at h
      · rename_i hlt; (try rw [if_pos hlt]); exact hk _ _ h
      · rename_i hlt; (try rw [if_neg hlt]); exact hk _ _ h
    · rename_i hb; (try simp only [hb]); exact hk _ _ h
    · rename_i hb; (try simp only [hb]); split at h
      · rename_i hm; (try simp only [hm])
        refine ⟨h.1, fun j w1 hw1 hj => ?_⟩
        have h := h.2 j w1 hw1 hj
        split at h
        · rename_i he; (try simp only [he]); exact hk _ _ h
        · rename_i he; (try simp only [he]); exact hk _ _ h
        · exact h.elim
      · exact h.elim
    · exact h.elim
  · exact h.elim
theorem eToBytes_mono {s d : TypeId} {x : Value} (h : eToBytes P s d x w k) : eToBytes P s d x w k' := by
  unfold eToBytes at *; split at h
  · rename_i h1 h2; (try simp only [h1, h2]); split at h
    · rename_i h3; (try simp only [h3]); exact fun cap hc => hk _ _ (h cap hc)
    · exact h.elim
  · exact h.elim
theorem eCallV_mono {call : CallT} {f : Value} {args : List Value} (h : eCallV call f args w k) : eCallV call f args w k' := by
  unfold eCallV at *; split at h
  · obtain ⟨k0, h1, h2⟩ := h
    exact ⟨k0, h1, fun v w' h => hk _ _ (h2 v w' h)⟩
  · exact h.elim
theorem eAppend_mono {t xt : TypeId} {s x : Value} (h : eAppend P t xt s x w k) : eAppend P t xt s x w k' := by
  unfold eAppend at *; split at h
  · rename_i hz; (try rw [hz]); split at h
    · rename_i hi hs hl; (try simp only [hi, hs, hl]); split at h
      · rename_i hn; (try simp only [hn])
        refine ⟨fun hcap => ?_, fun hcap => ?_⟩
        · have h := h.1 hcap
          split at h
          · rename_i hst; (try simp only [hst]); exact hk _ _ h
          · exact h.elim
        · obtain ⟨h1, h2, h3⟩ := h.2 hcap
          refine ⟨h1, h2, ?_⟩
          split at h3
          · rename_i ho hz; (try simp only [ho, hz]); exact fun cap hc => hk _ _ (h3 cap hc)
          · exact h3.elim
      · exact h.elim
    · exact h.elim
  · exact h.elim
theorem eCopy_mono {t : TypeId} {d x : Value} (h : eCopy P t d x w k) : eCopy P t d x w k' := by
  unfold eCopy at *; split at h
  · rename_i hz; (try rw [hz]); split at h
    · rename_i hi hl; (try simp only [hi, hl]); split at h
      · rename_i hn; (try simp only [hn]); split at h
        · rename_i hst; (try simp only [hst]); exact hk _ _ h
        · exact h.elim
      · exact h.elim
    · exact h.elim
  · exact h.elim
theorem eop_mono {call : CallT} {e : Env} {o : Op} (h : eop P call e o w k) : eop P call e o w k' := by
  cases o <;> simp only [eop] at h ⊢
  case alloc t => exact eAlloc_mono hk h
  case box t x => exact hk _ _ h
  case buildSlice t len parts => exact eBuildSl_mono hk h
  case store t a x => exact bindW_mono hk h
  case makeMap t r => exact eMakeMap_mono hk h
  case makeSlice t l c => exact eMakeSl_mono hk h
  case mapUpdate t m key v => exact eMapSet_mono hk h
  case insert t m key v => exact eMapSet_mono hk h
  case range t x => exact eRange_mono hk h
  case next it s => exact eNext_mono hk h
  case convert s d x => exact eToBytes_mono hk h
  case call c =>
    unfold eCall at *
    split at h
    · rename_i hc; (try simp only [hc]); exact eCallV_mono hk h
    · rename_i hc; (try simp only [hc]); split at h
      · rename_i h1 h2; (try simp only [h1, h2]); exact eAppend_mono hk h
      · rename_i h1 h2; (try simp only [h1, h2]); exact eCopy_mono hk h
      · rename_i h1 h2; (try simp only [h1, h2]); exact eDelete_mono hk h
      · rename_i h1 h2; (try simp only [h1, h2]); exact eClear_mono hk h
      · exact h.elim
    · exact h.elim
end
section
variable {call : CallT} {nt n : Nat}
theorem flStep_mono {ops : Array Oper} {o : Oper} {e : Env} {K K' : Env → Prop} (hk : ∀ e, K e → K' e) (h : flStep P ops nt o e w K) : flStep P ops nt o e w K' := by
  rw [flStep_eq] at *
  unfold stepG at *; split at h
  · exact bindP_mono (fun v hv => hk _ hv) h
  · exact hk _ h
theorem efStep_mono {ops : Array Oper} {o : Oper} {e : Env} {K K' : Env → World → Prop} (hk : ∀ e w, K e w → K' e w) (h : efStep P call ops nt o e w K) : efStep P call ops nt o e w K' := by
  unfold efStep stepE at *; split at h
  · exact eop_mono (fun v w hv => hk _ _ hv) h
  · exact hk _ _ h
theorem runS_mono {ops : Array Oper} {k k' : Env → World → Prop} (hk : ∀ e w, k e w → k' e w) : ∀ (l : List Oper) {e : Env} {w : World}, runS P call ops nt l e w k → runS P call ops nt l e w k' := by
  intro l
  induction l with
  | nil => intro e w h; exact hk _ _ h
  | cons o l ih =>
    intro e w h
    unfold runS at h ⊢
    split at h
    · rename_i he; (try rw [he]); exact flStep_mono (K := fun e' => runS P call ops nt l e' w k) (K' := fun e' => runS P call ops nt l e' w k') (fun e h => ih h) h
    · rename_i he; (try rw [he]); exact efStep_mono (K := fun e' w' => runS P call ops nt l e' w' k) (K' := fun e' w' => runS P call ops nt l e' w' k') (fun e w h => ih h) h
theorem gSweep_mono {ops : Array Oper} {K K' : List Nat → Env → Prop} (hk : ∀ r e, K r e → K' r e) : ∀ (todo acc : List Nat) {e : Env}, gSweep P ops nt todo acc e w K → gSweep P ops nt todo acc e w K' := by
  intro todo
  induction todo with
  | nil => intro acc e h; exact hk _ _ h
  | cons i todo ih =>
    intro acc e h
    unfold gSweep at h ⊢
    split at h
    · exact h.elim
    · rename_i o ho; (try simp only [ho]); split at h
      · rename_i he; (try rw [he]); exact flStep_mono (fun e h => ih _ h) h
      · rename_i he; (try rw [he]); exact ih _ h
theorem gRun_mono {ops : Array Oper} {ms : List Nat} {e0 : Env} {k k' : Env → World → Prop} (hk : ∀ e w, k e w → k' e w) : ∀ (f : Nat) {rem : List Nat} {e : Env} {w : World}, gRun P call ops nt e0 ms f rem e w k → gRun P call ops nt e0 ms f rem e w k' := by
  intro f
  induction f with
  | zero => intro rem e w h; exact h
  | succ f ih =>
    intro rem e w h
    unfold gRun at h ⊢
    refine gSweep_mono (fun r e h => ?_) _ _ h
    split at h
    · exact hk _ _ h
    · split at h
      · exact h.elim
      · refine allL_mono (fun i h => ?_) h
        split at h
        · exact h.elim
        · refine efStep_mono (fun e w h => ?_) h
          split at h
          · exact ih h
          · exact ⟨h.1, ih h.2⟩
theorem den_mono (c : Code) : ∀ {kn kn' kr kr' : Env → World → Prop} {ke ke' : Nat → Env → World → Prop}, (∀ e w, kn e w → kn' e w) → (∀ e w, kr e w → kr' e w) → (∀ i e w, ke i e w → ke' i e w) →
    ∀ {e : Env} {w : World}, den P call nt n c e w kn kr ke → den P call nt n c e w kn' kr' ke' := by
  induction c with
  | skip => intro kn kn' kr kr' ke ke' hn hr he e w h; exact hn _ _ h
  | region id ops draw =>
    intro kn kn' kr kr' ke ke' hn hr he e w h
    simp only [den, regD] at *
    split at h
    · exact runS_mono hn _ h
    · split at h
      · rename_i hok; (try rw [hok]); exact gRun_mono hn _ h
      · exact h.elim
  | seq a b iha ihb => intro kn kn' kr kr' ke ke' hn hr he e w h; exact iha (fun e w h => ihb hn hr he h) hr he h
  | cond c a b iha ihb =>
    intro kn kn' kr kr' ke ke' hn hr he e w h
    simp only [den, ifB] at *
    split at h
    · exact iha hn hr he h
    · exact ihb hn hr he h
    · exact h.elim
  | block id body ih =>
    intro kn kn' kr kr' ke ke' hn hr he e w h
    refine ih hn hr (fun i e w h => ?_) h
    unfold blkK at *
    split at h
    · rename_i hb; (try rw [hb]); exact hn _ _ h
    · rename_i hb; (try rw [hb]); exact he _ _ _ h
  | loop body ih =>
    intro kn kn' kr kr' ke ke' hn hr he e w h
    have : ∀ m e w, loopD m (fun e w k => den P call nt n body e w k kr ke) e w → loopD m (fun e w k => den P call nt n body e w k kr' ke') e w := by
      intro m
      induction m with
      | zero => intro e w h; exact h
      | succ m ihm => intro e w h; exact ih (fun e w h => ihm e w h) hr he h
    exact this _ _ _ h
  | exit id => intro kn kn' kr kr' ke ke' hn hr he e w h; exact he _ _ _ h
  | ret => intro kn kn' kr kr' ke ke' hn hr he e w h; exact hr _ _ h
  | rangeFunc f params assign body ih1 ih2 => intro kn kn' kr kr' ke ke' hn hr he e w h; exact h
  | scope body ih => intro kn kn' kr kr' ke ke' hn hr he e w h; exact h
  | label l => intro kn kn' kr kr' ke ke' hn hr he e w h; exact h
  | goto l => intro kn kn' kr kr' ke ke' hn hr he e w h; exact h
  | refuse why => intro kn kn' kr kr' ke ke' hn hr he e w h; exact h
theorem denL_mono : ∀ (l : List Code) {kn kn' kr kr' : Env → World → Prop} {ke ke' : Nat → Env → World → Prop}, (∀ e w, kn e w → kn' e w) → (∀ e w, kr e w → kr' e w) → (∀ i e w, ke i e w → ke' i e w) →
    ∀ {e : Env} {w : World}, denL P call nt n l e w kn kr ke → denL P call nt n l e w kn' kr' ke'
  | [], _, _, _, _, _, _, hn, _, _, _, _, h => hn _ _ h
  | c :: l, _, _, _, _, _, _, hn, hr, he, _, _, h => den_mono c (fun _ _ h => denL_mono l hn hr he h) hr he h
end
end Go.Sx
