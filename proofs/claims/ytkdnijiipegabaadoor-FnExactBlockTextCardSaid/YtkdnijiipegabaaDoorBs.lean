/- The program logic: slices and what they hold. -/
import Derived.Test.YtkdnijiipegabaaDoorBr
namespace Go.Proofs.YtkdnijiipegabaaDoor.B
open Go.RowKit
set_option linter.unusedVariables false
set_option linter.unusedSimpArgs false

/-- A slice holds these rows. -/
def Rows (esz : Nat) (H : Hp) (v : AV) (rows : List (List AV)) : Prop :=
  (v = .nils ∧ rows = []) ∨ (v = .sz ∧ rows = []) ∨
    ∃ o i ob, v = .sl o i rows.length ∧ H.at o = some ob ∧ ob.esz = esz ∧ i + rows.length ≤ ob.rows.length ∧ (ob.rows.drop i).take rows.length = rows

theorem Rows.le {esz : Nat} {H H' : Hp} {v : AV} {rows : List (List AV)} (h : Rows esz H v rows) (hle : HLe H H') : Rows esz H' v rows := by
  rcases h with h | h | ⟨o, i, ob, h1, h2, h3⟩
  · exact .inl h
  · exact .inr (.inl h)
  · exact .inr (.inr ⟨o, i, ob, h1, hle.2 _ _ h2, h3⟩)

theorem Rows.len {esz : Nat} {H : Hp} {v : AV} {rows : List (List AV)} (h : Rows esz H v rows) : lenV v = .int .i64 rows.length := by
  rcases h with ⟨rfl, rfl⟩ | ⟨rfl, rfl⟩ | ⟨o, i, ob, rfl, _⟩ <;> rfl
theorem Rows.slc {esz : Nat} {H : Hp} {v : AV} {rows : List (List AV)} (h : Rows esz H v rows) : slC v := by
  rcases h with ⟨rfl, rfl⟩ | ⟨rfl, rfl⟩ | ⟨o, i, ob, rfl, _⟩ <;> trivial

theorem Rows.cells {esz : Nat} {H : Hp} {v : AV} {rows : List (List AV)} (h : Rows esz H v rows) : v.cells = [v] := by
  rcases h with ⟨rfl, rfl⟩ | ⟨rfl, rfl⟩ | ⟨o, i, ob, rfl, _⟩ <;> rfl
theorem Rows.cells1 {esz : Nat} {H : Hp} {v : AV} {rows : List (List AV)} (h : Rows esz H v rows) : cells1 v = true := by
  rcases h with ⟨rfl, rfl⟩ | ⟨rfl, rfl⟩ | ⟨o, i, ob, rfl, _⟩ <;> rfl
theorem Rows.one {esz : Nat} {H : Hp} {v : AV} {rows : List (List AV)} (h : Rows esz H v rows) : one v = true := by
  rcases h with ⟨rfl, rfl⟩ | ⟨rfl, rfl⟩ | ⟨o, i, ob, rfl, _⟩ <;> rfl

theorem Rows.get {esz : Nat} {H : Hp} {v : AV} {rows : List (List AV)} (h : Rows esz H v rows) {j : Nat} (hj : j < rows.length) :
    ∃ o i ob, v = .sl o i rows.length ∧ H.at o = some ob ∧ ob.esz = esz ∧ ob.rows[i + j]? = some rows[j] := by
  rcases h with ⟨rfl, rfl⟩ | ⟨rfl, rfl⟩ | ⟨o, i, ob, rfl, h2, h3, h4, h5⟩
  · simp at hj
  · simp at hj
  · refine ⟨o, i, ob, rfl, h2, h3, ?_⟩
    have : ((ob.rows.drop i).take rows.length)[j]? = rows[j]? := by rw [h5]
    rw [List.getElem?_take, if_pos hj, List.getElem?_drop, List.getElem?_eq_getElem hj] at this
    exact this

/-- An object of rows, whole. -/
theorem Rows.whole {H : Hp} {o : Nat} {ob : Ob} (h : H.at o = some ob) : Rows ob.esz H (.sl o 0 ob.rows.length) ob.rows :=
  .inr (.inr ⟨o, 0, ob, rfl, h, rfl, by omega, by simp⟩)

/-- Strings. -/
def Strs (H : Hp) (v : AV) (xs : List ByteArray) : Prop := Rows 1 H v (xs.map fun s => [.str s])
theorem Strs.le {H H' : Hp} {v : AV} {xs : List ByteArray} (h : Strs H v xs) (hle : HLe H H') : Strs H' v xs := Rows.le h hle
theorem Strs.len {H : Hp} {v : AV} {xs : List ByteArray} (h : Strs H v xs) : lenV v = .int .i64 xs.length := by simpa using Rows.len h
theorem Strs.slc {H : Hp} {v : AV} {xs : List ByteArray} (h : Strs H v xs) : slC v := Rows.slc h
theorem Strs.get {H : Hp} {v : AV} {xs : List ByteArray} (h : Strs H v xs) {j : Nat} (hj : j < xs.length) :
    ∃ o i ob, v = .sl o i xs.length ∧ H.at o = some ob ∧ ob.esz = 1 ∧ ob.rows[i + j]? = some [.str xs[j]] := by
  obtain ⟨o, i, ob, h1, h2, h3, h4⟩ := Rows.get h (j := j) (by simpa using hj)
  exact ⟨o, i, ob, by simpa using h1, h2, h3, by simpa using h4⟩

def strRow (s : ByteArray) : List AV := [.str s]

/-- A row of rows that is filled from its head on. -/
def fillR {α : Type} (f : α → List AV) (z : List AV) (xs : List α) (i : Nat) : List (List AV) := (xs.take i).map f ++ List.replicate (xs.length - i) z
theorem fillR_0 {α : Type} (f : α → List AV) (z : List AV) (xs : List α) : fillR f z xs 0 = List.replicate xs.length z := by simp [fillR]
theorem fillR_n {α : Type} (f : α → List AV) (z : List AV) (xs : List α) : fillR f z xs xs.length = xs.map f := by simp [fillR]
theorem fillR_get {α : Type} {f : α → List AV} {z : List AV} {xs : List α} {i : Nat} (h : i < xs.length) : (fillR f z xs i)[i]? = some z := by
  unfold fillR
  have hl : ((xs.take i).map f).length = i := by rw [List.length_map, List.length_take]; omega
  rw [List.getElem?_append_right (by omega), hl, Nat.sub_self, List.getElem?_replicate, if_pos (by omega)]
theorem fillR_set {α : Type} {f : α → List AV} {z : List AV} {xs : List α} {i : Nat} (h : i < xs.length) : (fillR f z xs i).set i (f xs[i]) = fillR f z xs (i + 1) := by
  unfold fillR
  have hl : ((xs.take i).map f).length = i := by rw [List.length_map, List.length_take]; omega
  rw [List.set_append_right _ _ (by omega), hl, Nat.sub_self, show xs.length - i = (xs.length - (i + 1)) + 1 by omega, List.replicate_succ, List.set_cons_zero, List.take_succ_eq_append_getElem h]
  simp only [List.map_append, List.map_cons, List.map_nil, List.append_assoc, List.singleton_append]

/-- A row of rows that is written over from its head on. -/
def overR (f : Nat → List AV) (R : List (List AV)) (i : Nat) : List (List AV) := (List.range i).map f ++ R.drop i
theorem overR_0 (f : Nat → List AV) (R : List (List AV)) : overR f R 0 = R := by simp [overR]
theorem overR_n (f : Nat → List AV) (R : List (List AV)) : overR f R R.length = (List.range R.length).map f := by simp [overR]
theorem overR_get {f : Nat → List AV} {R : List (List AV)} {i : Nat} (h : i < R.length) : (overR f R i)[i]? = some R[i] := by
  unfold overR
  have hl : ((List.range i).map f).length = i := by simp
  rw [List.getElem?_append_right (by omega), hl, Nat.sub_self, List.getElem?_drop, Nat.add_zero, List.getElem?_eq_getElem h]
theorem overR_set {f : Nat → List AV} {R : List (List AV)} {i : Nat} (h : i < R.length) : (overR f R i).set i (f i) = overR f R (i + 1) := by
  unfold overR
  have hl : ((List.range i).map f).length = i := by simp
  rw [List.set_append_right _ _ (by omega), hl, Nat.sub_self, List.drop_eq_getElem_cons h, List.set_cons_zero, List.range_succ, List.map_append]
  simp only [List.map_cons, List.map_nil, List.append_assoc, List.singleton_append]
theorem Hp.at_set {H : Hp} {o : Nat} (x : Option Ob) (h : o < H.length) : Hp.at (List.set H o x) o = x := by simp [Hp.at, h]
theorem Hp.set_self {H : Hp} {o : Nat} {ob : Ob} (h : H.at o = some ob) : List.set H o (some ob) = H := by
  apply List.ext_getElem?
  intro j
  rw [List.getElem?_set]
  split
  · rename_i e
    subst e
    rw [if_pos (Hp.at_lt h), Hp.at_some h]
  · rfl

/-- What a slice holds stays where another object is written. -/
theorem Rows.set_ne {esz : Nat} {H : Hp} {o i n : Nat} {rows : List (List AV)} (h : Rows esz H (.sl o i n) rows) {o' : Nat} (x : Option Ob) (hne : o' ≠ o) : Rows esz (List.set H o' x) (.sl o i n) rows := by
  rcases h with ⟨h, _⟩ | ⟨h, _⟩ | ⟨o1, i1, ob, h1, h2, h3⟩
  · cases h
  · cases h
  · cases h1
    exact .inr (.inr ⟨o, i, ob, rfl, by rw [Hp.at_set_ne hne]; exact h2, h3⟩)
theorem Rows.nil {esz : Nat} {H : Hp} : Rows esz H .nils [] := .inl ⟨rfl, rfl⟩

/-- A slice of one's own: nothing, or all of an object. -/
def OwnR (esz e : Nat) (H : Hp) (v : AV) (R : List (List AV)) : Prop := (v = .nils ∧ R = []) ∨ ∃ o, v = .sl o 0 R.length ∧ H.at o = some ⟨R, esz, e, false⟩
/-- Is it of this object. -/
def AV.of : AV → Nat → Prop
  | .sl o _ _, o' => o = o'
  | _, _ => False
/-- Memory is as it was but for what a slice holds. -/
def But (v : AV) (H H' : Hp) : Prop := H'.length = H.length ∧ ∀ o, ¬ v.of o → H'.at o = H.at o
theorem But.refl (v : AV) (H : Hp) : But v H H := ⟨rfl, fun _ _ => rfl⟩
theorem But.le {v : AV} {H0 H H' : Hp} (h : But v H H') (hle : HLe H0 H) (hv : ∀ o, v.of o → H0.length ≤ o) : HLe H0 H' := ⟨by rw [h.1]; exact hle.1, fun o ob ho => by
  rw [h.2 o (fun hh => by have := hv o hh; have := Hp.at_lt ho; omega)]
  exact hle.2 o ob ho⟩
theorem But.set (o i n : Nat) (H : Hp) (x : Option Ob) : But (.sl o i n) H (List.set H o x) := ⟨by simp, fun o' h => Hp.at_set_ne (fun e => h e)⟩
theorem OwnR.rows {esz e : Nat} {H : Hp} {v : AV} {R : List (List AV)} (h : OwnR esz e H v R) : Rows esz H v R := by
  rcases h with ⟨rfl, rfl⟩ | ⟨o, rfl, h⟩
  · exact Rows.nil
  · exact Rows.whole h
theorem OwnR.but {esz e : Nat} {H H' : Hp} {u v : AV} {R : List (List AV)} (h : OwnR esz e H v R) (hb : But u H H') (hn : ∀ o, u.of o → ¬ v.of o) : OwnR esz e H' v R := by
  rcases h with ⟨rfl, rfl⟩ | ⟨o, rfl, h⟩
  · exact .inl ⟨rfl, rfl⟩
  · exact .inr ⟨o, rfl, by rw [hb.2 o (fun hh => hn o hh rfl)]; exact h⟩
theorem OwnR.le {esz e : Nat} {H H' : Hp} {v : AV} {R : List (List AV)} (h : OwnR esz e H v R) (hle : HLe H H') : OwnR esz e H' v R := by
  rcases h with ⟨rfl, rfl⟩ | ⟨o, rfl, h⟩
  · exact .inl ⟨rfl, rfl⟩
  · exact .inr ⟨o, rfl, hle.2 _ _ h⟩
theorem Rows.but {esz : Nat} {H H' : Hp} {u v : AV} {R : List (List AV)} (h : Rows esz H v R) (hb : But u H H') (hn : ∀ o, u.of o → ¬ v.of o) : Rows esz H' v R := by
  rcases h with h | h | ⟨o, i, ob, rfl, h2, h3⟩
  · exact .inl h
  · exact .inr (.inl h)
  · exact .inr (.inr ⟨o, i, ob, rfl, by rw [hb.2 o (fun hh => hn o hh rfl)]; exact h2, h3⟩)

/-- What a call has made. -/
def Fresh (H : Hp) (ob : Ob) (v : AV) (H' : Hp) : Prop := HLe H H' ∧ ∃ o, v = .sl o 0 ob.rows.length ∧ H.length ≤ o ∧ H'.at o = some ob

end Go.Proofs.YtkdnijiipegabaaDoor.B
