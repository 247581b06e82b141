/- A part of the proofs: what stands below it, told in lemmas. No condition. -/
import Derived.Test.YtpbfmiphjcmjjaaSz5
set_option linter.all false
namespace Go.Sx
/-! slices of things: each member x is the cells f x -/
structure Cod {α : Type} (f : α → List Value) (es : Nat) : Prop where
  len : ∀ x, (f x).length = es
  one : ∀ x, (f x).all (·.oneCell') = true
  pos : 0 < es
def LsH {α : Type} (f : α → List Value) (es : Nat) (ty : TypeId) (v : Value) (l : List α) : HP := SlH es ty v l.length (l.flatMap f)
/-- where a member lies -/
def elP (es : Nat) (v : Value) (i : Int) : Value := (pIndexL es v (.int .i64 i)).getD undef
section
variable {α : Type} {f : α → List Value} {es : Nat} {ty : TypeId} {v : Value} {l : List α} {w0 w : World} {L : List HP}
theorem flat_len (C : Cod f es) (l : List α) : (l.flatMap f).length = l.length * es := by
  induction l with
  | nil => simp
  | cons x l ih => simp [ih, C.len, Nat.add_mul, Nat.add_comm]
theorem flat_one (C : Cod f es) (l : List α) : (l.flatMap f).all (·.oneCell') = true := by
  induction l with
  | nil => simp
  | cons x l ih => rw [List.flatMap_cons, List.all_append, C.one, ih]; rfl
theorem flat_take (C : Cod f es) : ∀ (l : List α) (i : Nat), (l.flatMap f).take (i * es) = (l.take i).flatMap f
  | [], i => by simp
  | x :: l, 0 => by simp
  | x :: l, i + 1 => by
    rw [List.flatMap_cons, Nat.add_mul, Nat.one_mul, Nat.add_comm, List.take_append_add_of_len (C.len x), flat_take C l i, List.take_succ_cons, List.flatMap_cons]
theorem flat_drop (C : Cod f es) : ∀ (l : List α) (i : Nat), (l.flatMap f).drop (i * es) = (l.drop i).flatMap f
  | [], i => by simp
  | x :: l, 0 => by simp
  | x :: l, i + 1 => by
    rw [List.flatMap_cons, Nat.add_mul, Nat.one_mul, Nat.add_comm, ← List.drop_drop, List.drop_left' (C.len x), flat_drop C l i, List.drop_succ_cons]
theorem flat_set (C : Cod f es) (l : List α) (i : Nat) (x : α) (hi : i < l.length) : (l.flatMap f).take (i * es) ++ f x ++ (l.flatMap f).drop (i * es + es) = (l.set i x).flatMap f := by
  rw [flat_take C, show i * es + es = (i + 1) * es by rw [Nat.add_mul]; omega, flat_drop C, List.set_eq_take_append_cons_drop, if_pos hi]
  simp
theorem ls_rd (h : Sat w0 (LsH f es ty v l :: L) w) : Rd w es v l.length (l.flatMap f) := Sat.rd h
theorem ls_one (h : Sat w0 (LsH f es ty v l :: L) w) : OneV v := (ls_rd h).one
theorem ls_len (h : Sat w0 (LsH f es ty v l :: L) w) : lenL v = some (.int .i64 l.length) := (ls_rd h).len
theorem rd_ix {n : Nat} {cs : List Value} (h : Rd w es v n cs) {i : Nat} (hi : i < n) : ∃ b o, pIndexL es v (.int .i64 i) = some (.pointer (some ⟨b, o, none⟩)) ∧ elP es v i = .pointer (some ⟨b, o, none⟩) := by
  cases h with
  | emp => omega
  | blk hb hn ha hc =>
    rename_i b o cap a ty fz
    have e : pIndexL es (.slice (some ⟨b, o, none⟩) n cap) (.int .i64 i) = some (.pointer (some ⟨b, o + i * es, none⟩)) := by
      simp only [pIndexL]; rw [if_pos ⟨by omega, by omega⟩]; simp
    exact ⟨b, o + i * es, e, by simp [elP, e]⟩
theorem ix_el {n : Nat} {cs : List Value} (h : Rd w es v n cs) {i : Nat} (hi : i < n) : pIndexL es v (.int .i64 i) = some (elP es v i) := by
  obtain ⟨b, o, h1, h2⟩ := rd_ix h hi
  rw [h1, h2]
theorem ls_ix (h : Sat w0 (LsH f es ty v l :: L) w) {i : Nat} (hi : i < l.length) : pIndexL es v (.int .i64 i) = some (elP es v i) := ix_el (ls_rd h) hi
theorem rd_ld (C : Cod f es) (h : Rd w es v l.length (l.flatMap f)) {i : Nat} (hi : i < l.length) : ldN es (elP es v i) w = some (.agg (f l[i]).toArray) := by
  obtain ⟨b, o, h1, h2, _⟩ := h.elem C.len rfl hi (j := .i64)
  have : elP es v i = .pointer (some ⟨b, o, none⟩) := by simp [elP, h1]
  rw [this, h2]
theorem ls_ld (C : Cod f es) (h : Sat w0 (LsH f es ty v l :: L) w) {i : Nat} (hi : i < l.length) : ldN es (elP es v i) w = some (.agg (f l[i]).toArray) := rd_ld C (ls_rd h) hi
theorem rd_ld1 {g : α → Value} (h : Rd w 1 v l.length (l.flatMap fun x => [g x])) {i : Nat} (hi : i < l.length) : ld1 (elP 1 v i) w = some (g l[i]) := by
  obtain ⟨b, o, h1, _, h3⟩ := h.elem (fun _ => rfl) rfl hi (j := .i64)
  have : elP 1 v i = .pointer (some ⟨b, o, none⟩) := by simp [elP, h1]
  rw [this]
  have := h3 0
  simpa using this
theorem ls_ld1 {g : α → Value} (h : Sat w0 (LsH (fun x => [g x]) 1 ty v l :: L) w) {i : Nat} (hi : i < l.length) : ld1 (elP 1 v i) w = some (g l[i]) := rd_ld1 (ls_rd h) hi
/-- one cell of a member -/
theorem rd_fld (C : Cod f es) (h : Rd w es v l.length (l.flatMap f)) {i k : Nat} (hi : i < l.length) (hk : k < es) : ∃ a, pFieldAddr k (elP es v i) = some (.pointer (some a)) ∧ w.cell? a = (f l[i])[k]? := by
  obtain ⟨b, o, h1, _, h3⟩ := h.elem C.len rfl hi (j := .i64)
  have : elP es v i = .pointer (some ⟨b, o, none⟩) := by simp [elP, h1]
  rw [this]
  refine ⟨⟨b, o + k, none⟩, rfl, ?_⟩
  rcases h3 k with h | h
  · exact h
  · omega
theorem ls_st (C : Cod f es) (h : Sat w0 (LsH f es ty v l :: L) w) {i : Nat} (hi : i < l.length) (x : α) {y : Value} (hy : y.cells = (f x).toArray) {k : World → Prop} (hk : ∀ w', Sat w0 (LsH f es ty v (l.set i x) :: L) w' → k w') :
    bindW (st es (elP es v i) y w) k := by
  obtain ⟨fp, hO, kk⟩ := Sat.own h
  generalize hcs : l.flatMap f = cs at hO kk
  generalize hn' : l.length = n at hO kk
  cases hO with
  | nil => omega
  | blk hb hn ha hc =>
    rename_i b q cap a
    have e : elP es (.slice (some ⟨b, q, none⟩) n cap) i = .pointer (some ⟨b, q + i * es, none⟩) := by
      simp only [elP, pIndexL]; rw [if_pos ⟨by omega, by omega⟩]; simp
    have h1 : i * es + es ≤ n * es := by
      have := Nat.mul_le_mul_right es (show i + 1 ≤ n by omega)
      rw [Nat.add_mul] at this; omega
    have h2 := Nat.mul_le_mul_right es hn
    have hlx : (f x).length = es := C.len x
    rw [e, st_cells hb (by rw [hy]; simpa using hlx) (by rw [hy]; exact C.one x) (by omega)]
    refine hk _ ?_
    unfold LsH
    rw [List.length_set, hn']
    refine kk _ [b] _ _ _ _ _ (.blk (setBlk_same hb) hn ?_ ?_) (.set _ _ (by simp))
    · have : ∀ (vs : List Value) (c : Array Value) (o : Nat), (wr c o vs).size = c.size := by
        intro vs; induction vs with
        | nil => intro c o; rfl
        | cons v vs ih => intro c o; simp [wr, ih]
      rw [this]; exact ha
    · rw [hy, wr_toList _ _ _ (by simp [hlx]; omega), ← flat_set C l i x (by omega), hcs, hc]
      have e1 : List.take (q + i * es) a.toList = List.take q a.toList ++ List.take (i * es) (List.drop q a.toList) := by rw [List.take_add]
      have e2 : (List.take q a.toList).length = q := by simp; omega
      rw [e1]
      simp only [List.append_assoc]
      rw [List.drop_left' e2, List.take_take, Nat.min_eq_left (by omega)]
      rw [show n * es = i * es + (es + (n * es - i * es - es)) by omega, List.take_append_add_of_len (by simp; omega), List.take_append_add_of_len hlx]
      congr 2
      rw [List.drop_take, List.drop_drop]
      congr 1
      · omega
      · congr 1; simp [hlx]; omega
theorem ls_nil (h : Sat w0 L w) : Sat w0 (LsH f es ty (.slice none 0 0) [] :: L) w := h.nilsl
theorem ls_app {P : Program} {t xt : TypeId} {bytes : Nat} {s x : Value} {m : List α} {K : Value → World → Prop} (C : Cod f es) (h : Sat w0 (LsH f es ty s l :: L) w) (T : SlT P t ty es bytes) (hxt : isSS P xt = true)
    (hR : Rd w es x m.length (m.flatMap f)) (hb : (l.length + m.length) * bytes ≤ 140737488355328) (hK : ∀ s' w', Sat w0 (LsH f es ty s' (l ++ m) :: L) w' → K s' w') : eAppend P t xt s x w K := by
  refine eAppend_sat h T hxt hR (flat_one C m) hb fun s' w' h' => hK s' w' ?_
  unfold LsH
  rw [List.length_append, List.flatMap_append]; exact h'
theorem ls_lit {P : Program} {t : TypeId} {m : List α} {parts : List (Nat × Value)} {K : Value → World → Prop} {c : Array Value} (C : Cod f es) (h : Sat w0 L w) (hu : P.underlying t = some (.slice ty)) (hc : fBuildSl P ty m.length parts = some c) (hm : c.toList = m.flatMap f)
    (hK : ∀ s w', Sat w0 (LsH f es ty s m :: L) w' → K s w') : eBuildSl P t m.length parts w K := by
  refine eBuildSl_sat (es := es) h hu hc ?_ fun s w' h' => hK s w' ?_
  · have := congrArg List.length hm
    rw [flat_len C] at this; simpa using this
  · unfold LsH; rw [← hm]; exact h'
theorem ls_sub {lo hi : Nat} {A H M : Option Value} (C : Cod f es) (h : Sat w0 (LsH f es ty v l :: L) w) (hL : Bd 0 A lo) (hH : Bd l.length H hi) (hM : BdM hi l.length H M) (h1 : lo ≤ hi) (h2 : hi ≤ l.length) :
    ∃ v', pSliceL es v A H M = some v' ∧ Sat w0 (LsH f es ty v' ((l.take hi).drop lo) :: L) w := by
  obtain ⟨fp, hO, k⟩ := Sat.own h
  obtain ⟨v', e, hO'⟩ := hO.sub hL hH hM h1 h2
  refine ⟨v', e, ?_⟩
  have := k _ _ _ _ _ _ _ hO' (.refl _ _)
  unfold LsH
  rw [flat_take C, flat_drop C] at this
  have e : ((l.take hi).drop lo).length = hi - lo := by simp; omega
  rw [e]; exact this
theorem rd_sub {lo hi : Nat} {A H M : Option Value} {v' : Value} (C : Cod f es) (h : Rd w es v l.length (l.flatMap f)) (hs : pSliceL es v A H M = some v') (hL : Bd 0 A lo) (hH : Bd l.length H hi) (hM : BdM hi l.length H M) (h1 : lo ≤ hi) (h2 : hi ≤ l.length) :
    Rd w es v' ((l.take hi).drop lo).length (((l.take hi).drop lo).flatMap f) := by
  have := h.sub' hs hL hH hM h1 h2
  rw [flat_take C, flat_drop C] at this
  have e : ((l.take hi).drop lo).length = hi - lo := by simp; omega
  rw [e]; exact this
end
theorem Cod.one1 {α : Type} {g : α → Value} (h : ∀ x, (g x).oneCell' = true) : Cod (fun x => [g x]) 1 := ⟨fun _ => rfl, fun x => by simp [h], by omega⟩
def cI (n : Int) : List Value := [.int .i64 n]
def cS (s : ByteArray) : List Value := [.string s]
theorem CI : Cod cI 1 := ⟨fun _ => rfl, fun _ => rfl, by omega⟩
theorem CS : Cod cS 1 := ⟨fun _ => rfl, fun _ => rfl, by omega⟩
end Go.Sx
