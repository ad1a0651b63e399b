/- Strings, entries and runs, in plain Lean. -/
import Derived.Test.YtkdnijiipegabaaDoorBv
import Derived.Lib.ItoaNum
namespace Go.Proofs.YtkdnijiipegabaaDoor.B
open Go.RowKit
set_option linter.unusedVariables false
set_option linter.unusedSimpArgs false

/-- A number in decimals. -/
def dec (n : Int) : ByteArray := ⟨(Lib.itoa n).toArray⟩

/-- A key: letters a to d, five at most. -/
def keyOk (k : ByteArray) : Bool := decide ((∀ i : Nat, i < k.size → 97 ≤ bt k i ∧ bt k i ≤ 100) ∧ k.size ≤ 5)
def keysOk (ks : List ByteArray) : Bool := decide ((∀ i : Nat, ∀ h : i < ks.length, keyOk ks[i] = true ∧ ∀ h0 : 0 < i, sless ks[i - 1] ks[i] = true) ∧ ks.length ≤ 24)

structure Ent where
  key : ByteArray
  val : Int
  gone : Bool
  time : Int
deriving DecidableEq, Inhabited

def entRow (e : Ent) : List AV := [.str e.key, .int .i64 e.val, .bool e.gone, .int .i64 e.time]
def entOk (e : Ent) : Bool := keyOk e.key && decide (0 ≤ e.val ∧ e.val ≤ 99) && (!e.gone || decide (e.val = 0)) && decide (1 ≤ e.time ∧ e.time ≤ 999)
/-- One entry stands ahead of another one. -/
def ahead (a b : Ent) : Bool := sless a.key b.key || decide (a.key = b.key) && decide (b.time < a.time)
def runOk (r : List Ent) : Bool := decide ((∀ i : Nat, ∀ h : i < r.length, entOk r[i] = true ∧ ∀ h0 : 0 < i, ahead r[i - 1] r[i] = true) ∧ r.length ≤ 40)

/-- Entries in a slice; their keys are not too long for any machine. -/
def Ents (H : Hp) (v : AV) (es : List Ent) : Prop := Rows 4 H v (es.map entRow)
theorem Ents.len {H : Hp} {v : AV} {es : List Ent} (h : Ents H v es) : lenV v = .int .i64 es.length := by simpa using Rows.len h
theorem Ents.slc {H : Hp} {v : AV} {es : List Ent} (h : Ents H v es) : slC v := Rows.slc h
theorem Ents.le {H H' : Hp} {v : AV} {es : List Ent} (h : Ents H v es) (hle : HLe H H') : Ents H' v es := Rows.le h hle
theorem Ents.get {H : Hp} {v : AV} {es : List Ent} (h : Ents H v es) {j : Nat} (hj : j < es.length) :
    ∃ o i ob, v = .sl o i es.length ∧ H.at o = some ob ∧ ob.esz = 4 ∧ ob.rows[i + j]? = some [.str es[j].key, .int .i64 es[j].val, .bool es[j].gone, .int .i64 es[j].time] := by
  obtain ⟨o, i, ob, h1, h2, h3, h4⟩ := Rows.get h (j := j) (by simpa using hj)
  exact ⟨o, i, ob, by simpa using h1, h2, h3, by simpa [entRow] using h4⟩
/-- The keys of entries are not too long. -/
def Short (es : List Ent) : Prop := ∀ e ∈ es, e.key.size < 4611686018427387904
theorem Short.get {es : List Ent} (h : Short es) {j : Nat} (hj : j < es.length) : es[j].key.size < 4611686018427387904 := h _ (List.getElem_mem hj)

/-- Is one of these behind a key. -/
def putD (k : ByteArray) (ks : List ByteArray) : Bool := ks.any (fun x => sless k x)
/-- The first of some keys, a key among them, if one of these is behind it. -/
def putP (k : ByteArray) (ks : List ByteArray) : List ByteArray := ks.takeWhile (fun x => !sless k x) ++ (if putD k ks = true then k :: ks.dropWhile (fun x => !sless k x) else [])
/-- A key is put among others, if it is not there. -/
def putK (k : ByteArray) (ks : List ByteArray) : List ByteArray := if ks.any (fun x => decide (x = k)) = true then ks else putP k ks ++ (if putD k ks = true then [] else [k])
theorem putD_app (k x : ByteArray) (ks : List ByteArray) : putD k (ks ++ [x]) = (putD k ks || sless k x) := by simp [putD]
theorem putP_none {k : ByteArray} {ks : List ByteArray} (h : putD k ks = false) : putP k ks = ks := by
  have hl : ∀ ys : List ByteArray, (∀ x ∈ ys, sless k x = false) → ys.takeWhile (fun x => !sless k x) = ys := by
    intro ys hy
    induction ys with
    | nil => rfl
    | cons y ys ih => rw [List.takeWhile_cons, hy y (by simp), ih (fun x hx => hy x (List.mem_cons_of_mem _ hx))]; rfl
  have h2 : ∀ x ∈ ks, sless k x = false := by
    intro x hx
    simp only [putD, List.any_eq_false] at h
    simpa using h x hx
  simp [putP, h, hl ks h2]
theorem tw_app {p : ByteArray → Bool} {ks : List ByteArray} (x : ByteArray) (h : ∃ y ∈ ks, p y = false) : (ks ++ [x]).takeWhile p = ks.takeWhile p ∧ (ks ++ [x]).dropWhile p = ks.dropWhile p ++ [x] := by
  induction ks with
  | nil => simp at h
  | cons y ys ih =>
    simp only [List.cons_append, List.takeWhile_cons, List.dropWhile_cons]
    cases hy : p y with
    | false => simp
    | true =>
      have : ∃ y ∈ ys, p y = false := by
        obtain ⟨z, hz, hp⟩ := h
        rcases List.mem_cons.1 hz with rfl | hz
        · rw [hy] at hp; cases hp
        · exact ⟨z, hz, hp⟩
      simp [ih this]
theorem putP_app (k x : ByteArray) (ks : List ByteArray) : putP k (ks ++ [x]) = putP k ks ++ (if (!putD k ks && sless k x) = true then [k, x] else [x]) := by
  cases hd : putD k ks with
  | true =>
    have hex : ∃ y ∈ ks, (fun x => !sless k x) y = false := by
      simp only [putD, List.any_eq_true] at hd
      obtain ⟨y, hy, hp⟩ := hd
      exact ⟨y, hy, by simp [hp]⟩
    obtain ⟨h1, h2⟩ := tw_app (p := fun x => !sless k x) x hex
    simp only [putP, h1, h2, putD_app, hd]
    simp
  | false =>
    cases hx : sless k x with
    | false =>
      have : putD k (ks ++ [x]) = false := by rw [putD_app, hd, hx]; rfl
      rw [putP_none this, putP_none hd]
      simp
    | true =>
      have h2 : putD k (ks ++ [x]) = true := by rw [putD_app, hx, Bool.or_true]
      have h3 := putP_none hd
      have e : ∀ ys : List ByteArray, (∀ z ∈ ys, sless k z = false) → (ys ++ [x]).takeWhile (fun x => !sless k x) = ys ∧ (ys ++ [x]).dropWhile (fun x => !sless k x) = [x] := by
        intro ys hy
        induction ys with
        | nil => simp [hx]
        | cons y ys ih =>
          obtain ⟨i1, i2⟩ := ih (fun z hz => hy z (List.mem_cons_of_mem _ hz))
          simp [hy y (by simp), i1, i2]
      obtain ⟨e1, e2⟩ := e ks (by
        intro z hz
        simp only [putD, List.any_eq_false] at hd
        simpa using hd z hz)
      rw [h3]
      simp only [putP, h2, e1, e2]
      simp
theorem putP_len (k : ByteArray) (ks : List ByteArray) : (putP k ks).length ≤ ks.length + 1 := by
  have : ks.takeWhile (fun x => !sless k x) ++ ks.dropWhile (fun x => !sless k x) = ks := List.takeWhile_append_dropWhile
  have := congrArg List.length this
  simp only [List.length_append] at this
  unfold putP
  split <;> simp <;> omega
theorem putK_in {k : ByteArray} {ks : List ByteArray} (h : k ∈ ks) : putK k ks = ks := if_pos (List.any_eq_true.2 ⟨k, h, by simp⟩)
theorem putK_out {k : ByteArray} {ks : List ByteArray} (h : k ∉ ks) : putK k ks = putP k ks ++ (if putD k ks = true then [] else [k]) := if_neg (fun hh => by
  obtain ⟨x, hx, he⟩ := List.any_eq_true.1 hh
  simp at he
  exact h (he ▸ hx))
theorem putK_len (k : ByteArray) (ks : List ByteArray) : (putK k ks).length ≤ ks.length + 1 := by
  unfold putK
  split
  · omega
  · cases h : putD k ks
    · rw [putP_none h]; simp
    · have := putP_len k ks; simpa using this

/-- Two runs avs one. -/
def joinL : List Ent → List Ent → List Ent
  | avs, [] => avs
  | avs, b :: bs => avs.takeWhile (fun a => ahead a b) ++ b :: joinL (avs.dropWhile (fun a => ahead a b)) bs

def sumB (s : ByteArray) : Int := s.data.toList.foldl (fun n b => (n * 31 + b.toNat + 1) % 9973) 7

def lit1 (c : UInt8) : ByteArray := ⟨#[c]⟩
def entText (e : Ent) : ByteArray :=
  if e.gone = true then e.key ++ lit1 45 ++ dec e.time ++ lit1 59 else e.key ++ lit1 61 ++ dec e.val ++ lit1 45 ++ dec e.time ++ lit1 59
def runText (r : List Ent) : ByteArray := r.foldl (fun s e => s ++ entText e) ByteArray.empty

end Go.Proofs.YtkdnijiipegabaaDoor.B
