/- A part of the proofs: what stands below it, told in lemmas. No condition. -/
import Derived.Test.YtpbfmiphjcmjjaaSz10
set_option linter.all false
namespace Go.Sx
/-! steps of a walk: each takes the parts by looking for them -/
inductive Rep (A B : HP) : List HP → List HP → Prop
  | here {L : List HP} : Rep A B (A :: L) (B :: L)
  | there {X : HP} {L L' : List HP} : Rep A B L L' → Rep A B (X :: L) (X :: L')
inductive Fnt (A : HP) : List HP → List HP → Prop
  | here {L : List HP} : Fnt A (A :: L) L
  | there {X : HP} {L M : List HP} : Fnt A L M → Fnt A (X :: L) (X :: M)
/-- L' is got from L: parts are picked, others dropped -/
inductive Get : List HP → List HP → Prop
  | done {L : List HP} : Get L L
  | skip {X : HP} {L L' : List HP} : Get L L' → Get (X :: L) L'
  | pick {A : HP} {L M L' : List HP} : Fnt A L M → Get M L' → Get L (A :: L')
theorem Fnt.perm {A : HP} {L M : List HP} (f : Fnt A L M) : L.Perm (A :: M) := by
  induction f with
  | here => exact .refl _
  | there _ ih => exact (ih.cons _).trans (.swap _ _ _)
theorem Rep.split {A B : HP} {L L' : List HP} (r : Rep A B L L') : ∃ M, L.Perm (A :: M) ∧ (B :: M).Perm L' := by
  induction r with
  | here => exact ⟨_, .refl _, .refl _⟩
  | there _ ih => obtain ⟨M, h1, h2⟩ := ih; exact ⟨_ :: M, (h1.cons _).trans (.swap _ _ _), (List.Perm.swap _ _ _).trans (h2.cons _)⟩
/-! cells by their places -/
class Nth (l : List Value) (i : Nat) (v : outParam Value) : Prop where
  get : l[i]? = some v
instance {a : Value} {l : List Value} : Nth (a :: l) 0 a := ⟨rfl⟩
instance {a b : Value} {l : List Value} {n : Nat} [h : Nth l n a] : Nth (b :: l) (n + 1) a := ⟨by simpa using h.get⟩
class Upd (l : List Value) (i : Nat) (y : Value) (l' : outParam (List Value)) : Prop where
  lt : i < l.length
  eq : l.set i y = l'
instance {a y : Value} {l : List Value} : Upd (a :: l) 0 y (y :: l) := ⟨by simp, rfl⟩
instance {y b : Value} {l l' : List Value} {n : Nat} [h : Upd l n y l'] : Upd (b :: l) (n + 1) y (b :: l') := ⟨by simpa using h.lt, by simp [h.eq]⟩
class Part (l : List Value) (o n : Nat) (l' : outParam (List Value)) : Prop where
  le : o + n ≤ l.length
  eq : (l.drop o).take n = l'
instance {l : List Value} : Part l 0 0 [] := ⟨by simp, by simp⟩
instance {a : Value} {l l' : List Value} {n : Nat} [h : Part l 0 n l'] : Part (a :: l) 0 (n + 1) (a :: l') := ⟨by have := h.le; simp; omega, by simpa using h.eq⟩
instance {a : Value} {l l' : List Value} {o n : Nat} [h : Part l o n l'] : Part (a :: l) (o + 1) n l' := ⟨by have := h.le; simp; omega, by simpa using h.eq⟩
theorem Part.all (l : List Value) : Part l 0 l.length l := ⟨by simp, by simp⟩
class Ups (l : List Value) (o : Nat) (ys : List Value) (l' : outParam (List Value)) : Prop where
  le : o + ys.length ≤ l.length
  eq : l.take o ++ (ys ++ l.drop (o + ys.length)) = l'
instance {l : List Value} : Ups l 0 [] l := ⟨by simp, by simp⟩
instance {a y : Value} {l ys l' : List Value} [h : Ups l 0 ys l'] : Ups (a :: l) 0 (y :: ys) (y :: l') := ⟨by have := h.le; simp at *; omega, by simpa using h.eq⟩
instance {a : Value} {l ys l' : List Value} {o : Nat} [h : Ups l o ys l'] : Ups (a :: l) (o + 1) ys (a :: l') := ⟨by have := h.le; simp; omega, by rw [Nat.add_right_comm]; simpa using h.eq⟩
theorem Ups.all {l ys : List Value} (h : l.length = ys.length) : Ups l 0 ys ys := ⟨by omega, by simp; omega⟩
/-- a box among the parts -/
class CellIn (p : Nat) (l : outParam (List Value)) (ty : outParam TypeId) (L : List HP) : Prop where
  mem : Cl p l.toArray ty ∈ L
instance {p : Nat} {l : List Value} {ty : TypeId} {L : List HP} : CellIn p l ty (Cl p l.toArray ty :: L) := ⟨.head _⟩
instance (priority := low) {p : Nat} {l : List Value} {ty : TypeId} {X : HP} {L : List HP} [h : CellIn p l ty L] : CellIn p l ty (X :: L) := ⟨.tail _ h.mem⟩
class Rp (p : Nat) (l' : List Value) (l : outParam (List Value)) (ty : outParam TypeId) (L : List HP) (L' : outParam (List HP)) : Prop where
  rep : Rep (Cl p l.toArray ty) (Cl p l'.toArray ty) L L'
instance {p : Nat} {l l' : List Value} {ty : TypeId} {L : List HP} : Rp p l' l ty (Cl p l.toArray ty :: L) (Cl p l'.toArray ty :: L) := ⟨.here⟩
instance (priority := low) {p : Nat} {l l' : List Value} {ty : TypeId} {X : HP} {L L' : List HP} [h : Rp p l' l ty L L'] : Rp p l' l ty (X :: L) (X :: L') := ⟨.there h.rep⟩
/-- a slice among the parts -/
class LsIn (v : Value) (L : List HP) (α : outParam Type) (f : outParam (α → List Value)) (es : outParam Nat) (ty : outParam TypeId) (l : outParam (List α)) : Prop where
  fnt : ∃ M, Fnt (LsH f es ty v l) L M
instance {v : Value} {L : List HP} {α : Type} {f : α → List Value} {es : Nat} {ty : TypeId} {l : List α} : LsIn v (LsH f es ty v l :: L) α f es ty l := ⟨_, .here⟩
instance (priority := low) {v : Value} {X : HP} {L : List HP} {α : Type} {f : α → List Value} {es : Nat} {ty : TypeId} {l : List α} [h : LsIn v L α f es ty l] : LsIn v (X :: L) α f es ty l := ⟨h.fnt.elim fun M h => ⟨X :: M, .there h⟩⟩
class CodC {α : Type} (f : α → List Value) (es : outParam Nat) : Prop where
  cod : Cod f es
class SameC (w w' : World) : Prop where
  same : Same w w'
instance {w : World} : SameC w w := ⟨.refl _⟩
instance {w w' : World} [h : SameC w w'] : SameC w w'.drew := ⟨h.same.trans (.drew _)⟩
/-- where a field of a member lies -/
def elF (es : Nat) (v : Value) (i : Int) (k : Nat) : Value := (pFieldAddr k (elP es v i)).getD undef
section
variable {w0 w : World} {L L' M : List HP} {A B : HP} {k : Value → Prop} {K : Value → World → Prop}
theorem Sat.front (h : Sat w0 L w) (f : Fnt A L M) : Sat w0 (A :: M) w := h.perm f.perm
theorem Sat.get (h : Sat w0 L w) (g : Get L L') : Sat w0 L' w := by
  obtain ⟨hf, hh, h1, h2⟩ := h
  have key : ∀ {L L' : List HP}, Get L L' → ∀ {a : Hp}, SepL L a → ∃ b, SepL L' b ∧ ∀ i o, b i = some o → a i = some o := by
    intro L L' g
    induction g with
    | done => exact fun h => ⟨_, h, fun _ _ h => h⟩
    | skip _ ih =>
      intro a h
      obtain ⟨b, hb, h3⟩ := h.drop
      obtain ⟨c, hc, h4⟩ := ih hb
      exact ⟨c, hc, fun i o h => h3 i o (h4 i o h)⟩
    | pick f _ ih =>
      intro a h
      obtain ⟨x, y, hd, rfl, hP, hL⟩ := h.perm f.perm
      obtain ⟨c, hc, h4⟩ := ih hL
      refine ⟨hOr x c, ⟨x, c, fun i o hx => ?_, rfl, hP, hc⟩, fun i o h => ?_⟩
      · cases hci : c i with
        | none => rfl
        | some z => have h6 := h4 i z hci; rw [hd i o hx] at h6; cases h6
      · unfold hOr at h
        cases hx : x i with
        | some z => rw [hx] at h; simp at h; subst h; exact hOr_l hx
        | none => rw [hx] at h; simp at h; exact hOr_r hd (h4 i o h)
  obtain ⟨b, hb, h3⟩ := key g h1
  exact ⟨hf, b, hb, fun i o h => h2 i o (h3 i o h)⟩
theorem Sat.mem {b : Nat} {o : Obj} (h : Sat w0 L w) (hm : Blk b o ∈ L) : w.heap[b]? = some o := by
  obtain ⟨X, Y, rfl⟩ := List.append_of_mem hm
  exact (h.perm List.perm_middle).blk
theorem Sat.memc {b : Nat} {c : Array Value} {ty : TypeId} (h : Sat w0 L w) (hm : Cl b c ty ∈ L) : w.heap[b]? = some (.cells c ty (0, 0)) := h.mem hm
theorem Sat.rep {w' : World} (h : Sat w0 L w) (r : Rep A B L L') (f : ∀ M, Sat w0 (A :: M) w → Sat w0 (B :: M) w') : Sat w0 L' w' := by
  obtain ⟨M, h1, h2⟩ := r.split
  exact (f M (h.perm h1)).perm h2
/-! loads, stores, boxes -/
theorem go_cell {p i : Nat} {c : Array Value} {ty : TypeId} {v : Value} (h : Sat w0 L w) (hm : Cl p c ty ∈ L) (hc : c[i]? = some v) : w.cell? ⟨p, i, none⟩ = some v := by
  rw [cell_of (h.memc hm), hc]
theorem ld1_cells {p i : Nat} {l : List Value} {ty : TypeId} {v : Value} {w1 : World} (h : Sat w0 L w) [e : SameC w w1] [hm : CellIn p l ty L] [hc : Nth l i v] : ld1 (.pointer (some ⟨p, i, none⟩)) w1 = some v := by
  rw [ld1_ptr]; exact go_cell (h.to e.same) hm.mem (by rw [List.getElem?_toArray]; exact hc.get)
theorem ld_part {p o n : Nat} {l l' : List Value} {ty : TypeId} {w1 : World} (h : Sat w0 L w) (e : Same w w1) (hm : Cl p l.toArray ty ∈ L) (hc : Part l o n l') : ldN n (.pointer (some ⟨p, o, none⟩)) w1 = some (.agg l'.toArray) := by
  rw [ldN_of ((h.to e).memc hm) (by simpa using hc.le)]
  congr 2
  apply Array.ext'
  rw [Array.toList_extract, List.extract_eq_take_drop]
  simpa using hc.eq
theorem go_some {o : Option Value} {v : Value} (h : o = some v) (hk : k v) : bindP o k := by rw [h, bindP_some]; exact hk
theorem go_ld1 {p i : Nat} {l : List Value} {ty : TypeId} {v : Value} {w1 : World} (h : Sat w0 L w) [SameC w w1] [CellIn p l ty L] [Nth l i v] (hk : k v) : bindP (ld1 (.pointer (some ⟨p, i, none⟩)) w1) k :=
  go_some (ld1_cells h) hk
theorem go_ldN {p o n : Nat} {l l' : List Value} {ty : TypeId} {w1 : World} (h : Sat w0 L w) [e : SameC w w1] [hm : CellIn p l ty L] [hc : Part l o n l'] (hk : k (.agg l'.toArray)) : bindP (ldN n (.pointer (some ⟨p, o, none⟩)) w1) k :=
  go_some (ld_part h e.same hm.mem hc) hk
theorem go_ldA {p n : Nat} {l : List Value} {ty : TypeId} {w1 : World} (h : Sat w0 L w) [e : SameC w w1] [hm : CellIn p l ty L] (hc : l.length = n) (hk : k (.agg l.toArray)) : bindP (ldN n (.pointer (some ⟨p, 0, none⟩)) w1) k :=
  go_some (ld_part h e.same hm.mem (hc ▸ Part.all l)) hk
theorem go_st {p i : Nat} {l l' m : List Value} {ty ty' : TypeId} {y : Value} [OneV y] {k : World → Prop} {w1 : World} (h : Sat w0 L w) [e : SameC w w1] [hm : CellIn p l ty L] [hc : Upd l i y l'] [r : Rp p l' m ty' L L']
    (hk : ∀ w', Sat w0 L' w' → k w') : bindW (st 1 (.pointer (some ⟨p, i, none⟩)) y w1) k := by
  have h := h.to e.same
  have hb := h.memc hm.mem
  rw [st_at hb y (by simpa using hc.lt)]
  rw [bindW_some]
  refine hk _ (h.rep r.rep fun M h => ?_)
  have h2 := h.cl
  rw [hb] at h2
  simp only [Option.some.injEq, Obj.cells.injEq, and_true] at h2
  obtain ⟨e1, rfl⟩ := h2
  obtain rfl : l = m := by simpa using congrArg Array.toList e1
  rw [List.setIfInBounds_toArray, hc.eq]; exact h.setc _
theorem go_stW {p o n : Nat} {l ys l' m : List Value} {ty ty' : TypeId} {k : World → Prop} {w1 : World} (h : Sat w0 L w) (e : Same w w1) (hm : Cl p l.toArray ty ∈ L) (hn : ys.length = n) (h1 : ys.all (·.oneCell') = true) (hc : Ups l o ys l') (r : Rep (Cl p m.toArray ty') (Cl p l'.toArray ty') L L')
    (hk : ∀ w', Sat w0 L' w' → k w') : bindW (st n (.pointer (some ⟨p, o, none⟩)) (.agg ys.toArray) w1) k := by
  have h := h.to e
  have hb := h.memc hm
  have hle := hc.le
  rw [st_cells hb (by simpa using hn) (by simpa using h1) (by simp; omega), bindW_some]
  refine hk _ (h.rep r fun M h => ?_)
  have h2 := h.cl
  rw [hb] at h2
  simp only [Option.some.injEq, Obj.cells.injEq, and_true] at h2
  obtain ⟨e1, rfl⟩ := h2
  obtain rfl : l = m := by simpa using congrArg Array.toList e1
  have e : wr l.toArray o (Value.agg ys.toArray).cells.toList = l'.toArray := by
    apply Array.ext'
    rw [wr_toList _ _ _ (by simp; omega)]
    simpa using hc.eq
  rw [e]; exact h.setc _
theorem go_stN {p o n : Nat} {l ys l' m : List Value} {ty ty' : TypeId} {k : World → Prop} {w1 : World} (h : Sat w0 L w) [e : SameC w w1] [hm : CellIn p l ty L] [hc : Ups l o ys l'] [r : Rp p l' m ty' L L'] (hn : ys.length = n) (h1 : ys.all (·.oneCell') = true)
    (hk : ∀ w', Sat w0 L' w' → k w') : bindW (st n (.pointer (some ⟨p, o, none⟩)) (.agg ys.toArray) w1) k :=
  go_stW h e.same hm.mem hn h1 hc r.rep hk
theorem go_stA {p n : Nat} {l ys m : List Value} {ty ty' : TypeId} {k : World → Prop} {w1 : World} (h : Sat w0 L w) [e : SameC w w1] [hm : CellIn p l ty L] [r : Rp p ys m ty' L L'] (hl : l.length = n) (hn : ys.length = n) (h1 : ys.all (·.oneCell') = true)
    (hk : ∀ w', Sat w0 L' w' → k w') : bindW (st n (.pointer (some ⟨p, 0, none⟩)) (.agg ys.toArray) w1) k :=
  go_stW h e.same hm.mem hn h1 (Ups.all (by omega)) r.rep hk
theorem go_box {t : TypeId} {v : Value} {l : List Value} {w1 : World} (h : Sat w0 L w) [e : SameC w w1] (hc : v.cells = l.toArray) (hK : ∀ p w', Sat w0 (Cl p l.toArray t :: L) w' → K (.pointer (some ⟨p, 0, none⟩)) w') : eBox t v w1 K := by
  refine eBox_sat (h.to e.same) fun p w' h' => hK p w' ?_
  rw [← hc]; exact h'
theorem go_alloc {Pg : Program} {t : TypeId} {z : Value} {l : List Value} {w1 : World} (h : Sat w0 L w) [e : SameC w w1] (hz : fZero Pg t = some z) (hc : z.cells = l.toArray) (hK : ∀ p w', Sat w0 (Cl p l.toArray t :: L) w' → K (.pointer (some ⟨p, 0, none⟩)) w') : eAlloc Pg t w1 K := by
  refine eAlloc_sat (h.to e.same) hz fun p w' h' => hK p w' ?_
  rw [← hc]; exact h'
theorem go_rd {p i : Nat} {l : List Value} {ty : TypeId} {v v' : Value} {X : Prop} {w1 : World} (h : Sat w0 L w) [e : SameC w w1] [hm : CellIn p l ty L] [hc : Nth l i v] (hv : v = v') (hX : X) : fok true (ld1 (.pointer (some ⟨p, i, none⟩)) w1) v' ∧ X := by
  subst hv
  exact ⟨by rw [fok_true]; exact ld1_cells h, hX⟩
theorem go_rdN {p o n : Nat} {l l' : List Value} {ty : TypeId} {v' : Value} {X : Prop} {w1 : World} (h : Sat w0 L w) [e : SameC w w1] [hm : CellIn p l ty L] [hc : Part l o n l'] (hv : .agg l'.toArray = v') (hX : X) : fok true (ldN n (.pointer (some ⟨p, o, none⟩)) w1) v' ∧ X := by
  subst hv
  exact ⟨by rw [fok_true]; exact ld_part h e.same hm.mem hc, hX⟩
theorem go_look1 {Pg : Program} {κ ν : Type} [DecidableEq κ] {ek : κ → Value} {ev : ν → Value} {v : Value} {m : List (κ × ν)} {kt t et : TypeId} {z : Value} {w1 : World} (h : Sat w0 L w) [e : SameC w w1] (hm : Fnt (MapH ek ev v m) L M) (T : KeyT Pg kt ek)
    (hu : Pg.underlying t = some (.map kt et)) (hz : fZero Pg et = some z) (q : κ) (hk : k ((aGet q m).elim z ev)) : bindP (fLook Pg t v (ek q) false w1) k :=
  go_some (look1 ((h.to e.same).front hm) T hu hz q) hk
theorem go_look2 {Pg : Program} {κ ν : Type} [DecidableEq κ] {ek : κ → Value} {ev : ν → Value} {v : Value} {m : List (κ × ν)} {kt t et : TypeId} {z : Value} {w1 : World} (h : Sat w0 L w) [e : SameC w w1] (hm : Fnt (MapH ek ev v m) L M) (T : KeyT Pg kt ek)
    (hu : Pg.underlying t = some (.map kt et)) (hz : fZero Pg et = some z) (q : κ) (hk : k (.tuple #[(aGet q m).elim z ev, .bool (aGet q m).isSome])) : bindP (fLook Pg t v (ek q) true w1) k :=
  go_some (look2 ((h.to e.same).front hm) T hu hz q) hk
theorem go_lenM {κ ν : Type} [DecidableEq κ] {ek : κ → Value} {ev : ν → Value} {v : Value} {m : List (κ × ν)} {w1 : World} (h : Sat w0 L w) [e : SameC w w1] (hm : Fnt (MapH ek ev v m) L M) (hk : k (.int .i64 m.length)) : bindP (lenM v w1) k :=
  go_some (lenM_map ((h.to e.same).front hm)) hk
theorem go_if {b : Bool} {X Y : Prop} (h1 : b = true → X) (h2 : b = false → Y) : ifB (.bool b) X Y := by
  cases b
  · rw [ifB_false]; exact h2 rfl
  · rw [ifB_true]; exact h1 rfl
theorem go_fok {o : Option Value} {v : Value} {X : Prop} (ho : o = some v) (hX : X) : fok true o v ∧ X := ⟨by rw [fok_true]; exact ho, hX⟩
/-! slices of things -/
theorem ls_of {α : Type} {f : α → List Value} {es : Nat} {ty : TypeId} {v : Value} {l : List α} {w1 : World} (h : Sat w0 L w) (e : Same w w1) (m : LsIn v L α f es ty l) : Rd w1 es v l.length (l.flatMap f) := by
  obtain ⟨M, hm⟩ := m.fnt
  exact ls_rd ((h.to e).front hm)
theorem rd_fa {α : Type} {f : α → List Value} {es i j : Nat} {v : Value} {l : List α} (C : Cod f es) (h : Rd w es v l.length (l.flatMap f)) (hi : i < l.length) (hj : j < es) : pFieldAddr j (elP es v i) = some (elF es v i j) := by
  obtain ⟨a, h1, _⟩ := rd_fld C h hi hj
  unfold elF; rw [h1]; rfl
theorem rd_f1 {α : Type} {f : α → List Value} {es i j : Nat} {v x : Value} {l : List α} (C : Cod f es) (h : Rd w es v l.length (l.flatMap f)) (hi : i < l.length) (hx : Nth (f l[i]) j x) : ld1 (elF es v i j) w = some x := by
  have hj : j < es := by
    have := (List.getElem?_eq_some_iff.1 hx.get).1
    rwa [C.len] at this
  obtain ⟨a, h1, h2⟩ := rd_fld C h hi hj
  have : elF es v i j = .pointer (some a) := by unfold elF; rw [h1]; rfl
  rw [this, ld1_ptr, h2, hx.get]
theorem go_lenL {α : Type} {f : α → List Value} {es : Nat} {ty : TypeId} {v : Value} {l : List α} (h : Sat w0 L w) [m : LsIn v L α f es ty l] (hk : k (.int .i64 l.length)) : bindP (lenL v) k :=
  go_some (ls_of h (.refl _) m).len hk
theorem go_ix {α : Type} {f : α → List Value} {es i : Nat} {ty : TypeId} {v : Value} {l : List α} (h : Sat w0 L w) [m : LsIn v L α f es ty l] (hi : i < l.length) (hk : k (elP es v i)) : bindP (pIndexL es v (.int .i64 i)) k :=
  go_some (ix_el (ls_of h (.refl _) m) hi) hk
theorem go_elN {α : Type} {f : α → List Value} {es i : Nat} {ty : TypeId} {v : Value} {l : List α} {w1 : World} (h : Sat w0 L w) [e : SameC w w1] [m : LsIn v L α f es ty l] [C : CodC f es] (hi : i < l.length) (hk : k (.agg (f l[i]).toArray)) : bindP (ldN es (elP es v i) w1) k :=
  go_some (rd_ld C.cod (ls_of h e.same m) hi) hk
theorem go_fa {α : Type} {f : α → List Value} {es i j : Nat} {ty : TypeId} {v : Value} {l : List α} (h : Sat w0 L w) [m : LsIn v L α f es ty l] [C : CodC f es] (hi : i < l.length) (hj : j < es) (hk : k (elF es v i j)) : bindP (pFieldAddr j (elP es v i)) k :=
  go_some (rd_fa C.cod (ls_of h (.refl _) m) hi hj) hk
theorem go_f1 {α : Type} {f : α → List Value} {es i j : Nat} {ty : TypeId} {v x : Value} {l : List α} {w1 : World} (h : Sat w0 L w) [e : SameC w w1] [m : LsIn v L α f es ty l] [C : CodC f es] (hi : i < l.length) (hx : Nth (f l[i]) j x) (hk : k x) : bindP (ld1 (elF es v i j) w1) k :=
  go_some (rd_f1 C.cod (ls_of h e.same m) hi hx) hk
theorem go_rf1 {α : Type} {f : α → List Value} {es i j : Nat} {ty : TypeId} {v x x' : Value} {l : List α} {X : Prop} {w1 : World} (h : Sat w0 L w) [e : SameC w w1] [m : LsIn v L α f es ty l] [C : CodC f es] (hi : i < l.length) (hx : Nth (f l[i]) j x) (hv : x = x') (hX : X) : fok true (ld1 (elF es v i j) w1) x' ∧ X := by
  subst hv
  exact ⟨by rw [fok_true]; exact rd_f1 C.cod (ls_of h e.same m) hi hx, hX⟩
theorem go_rel {α : Type} {f : α → List Value} {es i : Nat} {ty : TypeId} {v x' : Value} {l : List α} {X : Prop} {w1 : World} (h : Sat w0 L w) [e : SameC w w1] [m : LsIn v L α f es ty l] [C : CodC f es] (hi : i < l.length) (hv : .agg (f l[i]).toArray = x') (hX : X) : fok true (ldN es (elP es v i) w1) x' ∧ X := by
  subst hv
  exact ⟨by rw [fok_true]; exact rd_ld C.cod (ls_of h e.same m) hi, hX⟩
theorem go_rlen {α : Type} {f : α → List Value} {es : Nat} {ty : TypeId} {v x' : Value} {l : List α} {X : Prop} (h : Sat w0 L w) [m : LsIn v L α f es ty l] (hv : .int .i64 l.length = x') (hX : X) : fok true (lenL v) x' ∧ X := by
  subst hv
  exact ⟨by rw [fok_true]; exact (ls_of h (.refl _) m).len, hX⟩
theorem bAdd_i64 {a b : Int} (h : -9223372036854775808 ≤ a + b ∧ a + b ≤ 9223372036854775807) : bAdd (.int .i64 a) (.int .i64 b) = some (.int .i64 (a + b)) := by rw [bAdd_int, wrap_id h]
theorem bSub_i64 {a b : Int} (h : -9223372036854775808 ≤ a - b ∧ a - b ≤ 9223372036854775807) : bSub (.int .i64 a) (.int .i64 b) = some (.int .i64 (a - b)) := by rw [bSub_int, wrap_id h]
theorem pMin_int {j : IntKind} {a b : Int} : pMin (.int j a) (.int j b) = some (.int j (min a b)) := by
  simp only [pMin]; congr 2; rw [Int.min_def]; split <;> split <;> omega
theorem pMax_int {j : IntKind} {a b : Int} : pMax (.int j a) (.int j b) = some (.int j (max a b)) := by
  simp only [pMax]; congr 2; rw [Int.max_def]; split <;> split <;> omega
end
/-- the simple steps, in one -/
theorem evA : (∀ (v : Value) (k : Value → Prop), bindP (some v) k = k v) ∧ (∀ (o : Option Value) (k : Value → Prop), Sx.stepG true o k = bindP o k) ∧ (∀ (o : Option Value) (k : Value → Prop), Sx.stepG false o k = k undef) ∧
    (∀ (v : Value) (k : Value → Prop), stepM true v k = k v) ∧ (∀ (v : Value) (k : Value → Prop), stepM false v k = k undef) ∧
    (∀ (E : (Value → World → Prop) → Prop) (w : World) (K : Value → World → Prop), stepE true E w K = E K) ∧ (∀ (E : (Value → World → Prop) → Prop) (w : World) (K : Value → World → Prop), stepE false E w K = K undef w) ∧
    (∀ (w : World) (q : World → Prop), bindW (some w) q = q w) ∧ (∀ a b : Prop, ifB (.bool true) a b = a) ∧ (∀ a b : Prop, ifB (.bool false) a b = b) ∧ (∀ b : Bool, gd true (.bool b) = b) ∧ (∀ b : Bool, gd false (.bool b) = !b) ∧
    (∀ a b : Value, pPick (.bool true) a b = some a) ∧ (∀ a b : Value, pPick (.bool false) a b = some b) ∧ (∀ a : Addr, pNil (.pointer (some a)) = some (.pointer (some a))) ∧ (∀ off b o : Nat, pFieldAddr off (.pointer (some ⟨b, o, none⟩)) = some (.pointer (some ⟨b, o + off, none⟩))) ∧
    (∀ b : Bool, uNot (.bool b) = some (.bool !b)) :=
  ⟨fun _ _ => bindP_some _, fun _ _ => stepG_true _, fun _ _ => stepG_false _, fun _ _ => stepM_true _, fun _ _ => stepM_false _, fun _ _ _ => stepE_true _, fun _ _ _ => stepE_false _, fun _ _ => bindW_some _, fun _ _ => ifB_true, fun _ _ => ifB_false, gd_true, gd_false, pPick_true, pPick_false, pNil_ptr, pFieldAddr_ptr, uNot_bool⟩
theorem evB : (∀ j (a b : Int), bLt (.int j a) (.int j b) = some (.bool (a < b))) ∧ (∀ j (a b : Int), bLe (.int j a) (.int j b) = some (.bool (a ≤ b))) ∧ (∀ j (a b : Int), bGt (.int j a) (.int j b) = some (.bool (a > b))) ∧ (∀ j (a b : Int), bGe (.int j a) (.int j b) = some (.bool (a ≥ b))) ∧
    (∀ P t x y j (a b : Int), bEq P t x y (.int j a) (.int j b) = some (.bool (decide (a = b)))) ∧ (∀ P t x y j (a b : Int), bNe P t x y (.int j a) (.int j b) = some (.bool (!decide (a = b)))) ∧
    (∀ P t x y (a b : ByteArray), bEq P t x y (.string a) (.string b) = some (.bool (decide (a = b)))) ∧ (∀ P t x y (a b : ByteArray), bNe P t x y (.string a) (.string b) = some (.bool (!decide (a = b)))) ∧
    (∀ (l : List Value) i, pTuple (.tuple l.toArray) i = l[i]?) ∧ (∀ (a : Value) (l : List Value), (a :: l)[0]? = some a) ∧ (∀ (a : Value) (l : List Value) i, (a :: l)[i + 1]? = l[i]?) ∧
    (∀ a n c, lenL (.slice a n c) = some (.int .i64 (n : Nat))) ∧ (∀ s : ByteArray, lenS (.string s) = some (.int .i64 s.size)) ∧ (∀ l : List UInt8, (bs l).size = l.length) ∧ (∀ j (a b : Int), pMin (.int j a) (.int j b) = some (.int j (min a b))) ∧ (∀ j (a b : Int), pMax (.int j a) (.int j b) = some (.int j (max a b))) ∧
    (∀ l : List UInt8, ByteArray.mk l.toArray = bs l) ∧ (∀ a b : List UInt8, (bs a = bs b) = (a = b)) ∧
    (∀ v w, ld1 v w.drew = ld1 v w) ∧ (∀ n v w, ldN n v w.drew = ldN n v w) ∧ (∀ v w, lenM v w.drew = lenM v w) ∧ (∀ v w, cBytes v w.drew = cBytes v w) ∧ (∀ P t m k b w, fLook P t m k b w.drew = fLook P t m k b w) ∧ (∀ v, fok true (some v) v = True) :=
  ⟨bLt_int, bLe_int, bGt_int, bGe_int, fun _ _ _ _ => bEq_int, fun _ _ _ _ => bNe_int, fun _ _ _ _ _ _ => by rw [bEq_str, bs_beq], fun _ _ _ _ _ _ => by rw [bNe_str, bs_beq], pTuple_mk, fun _ _ => List.getElem?_cons_zero, fun _ _ _ => List.getElem?_cons_succ, lenL_mk, lenS_mk, bs_size, fun _ _ _ => pMin_int, fun _ _ _ => pMax_int, mk_bs, fun _ _ => by rw [bs_inj], fun _ _ => rfl, fun _ _ _ => rfl, fun _ _ => rfl, fun _ _ => rfl, fun _ _ _ _ _ _ => rfl, fun _ => by rw [fok_true]; simp⟩
end Go.Sx
