/- The program logic: abstract operations, and what each does. -/
import Derived.Test.YtkdnijiipegabaaDoorBc
import Derived.Laws.Slices
import Derived.Laws.Tables
import Derived.Laws.OwnMore
import Derived.Laws.StructEq
import Derived.Laws.Strings3
namespace Go.Proofs.YtkdnijiipegabaaDoor.B
open Go.RowKit
set_option linter.unusedVariables false

inductive Od where
  | t (d : Nat)
  | c (v : AV)
deriving Inhabited

def Od.ev (t : Nat → AV) : Od → AV
  | .t d => t d
  | .c v => v

def AV.cells : AV → List AV
  | .ag cs => cs
  | v => [v]

def cells1 : AV → Bool
  | .ag cs => cs.all one
  | v => one v

def bt (s : ByteArray) (i : Int) : Int := ((s[i.toNat]?).map (fun b => (b.toNat : Int))).getD 0

inductive AOp where
  | mv (x : Od)
  | pick (c a b : Od)
  | alloc (ety : Nat) (zs : List AV)
  | box (ety esz : Nat) (x : Od)
  | build (zs : List AV) (ps : List (Nat × Nat × Od))
  | lit (ety esz n : Nat) (zs : List AV) (ps : List (Nat × Nat × Od))
  | ld (x : Od)
  | lda (n : Nat) (x : Od)
  | st (n : Nat) (x y : Od)
  | nck (x : Od)
  | bin (b : BinOp) (x y : Od)
  | eqb (ne : Bool) (x y : Od)
  | eqn (k : Nat) (ne : Bool) (x y : Od)
  | eqs (ne : Bool) (ks : List Nat) (x y : Od)
  | not (x : Od)
  | neg (x : Od)
  | cv (k : IntKind) (x : Od)
  | cvs (x : Od)
  | mk (ety esz bytes : Nat) (zs : List AV) (x : Od)
  | cut (esz : Nat) (x : Od) (lo hi : Option Od)
  | cuts (x : Od) (lo hi : Option Od)
  | fa (off : Nat) (x : Od)
  | fd (off n : Nat) (x : Od)
  | ia (esz : Nat) (x y : Od)
  | ix (x y : Od)
  | ext (i : Nat) (x : Od)
  | len (x : Od)
  | lns (x : Od)
  | mx (x y : Od)
  | mn (x y : Od)
  | fn (f : Nat) (xs : List Od)
  | app (ety esz bytes : Nat) (x y : Od)
  | call (f : Nat) (xs : List Od)
  | calv (x : Od) (xs : List Od)

def binI (b : BinOp) (k : IntKind) (x y : Int) : Option AV :=
  match b with
  | .add => some (.int k (k.wrap (x + y)))
  | .sub => some (.int k (k.wrap (x - y)))
  | .mul => some (.int k (k.wrap (x * y)))
  | .quo => if y = 0 then none else some (.int k (k.wrap (x.tdiv y)))
  | .rem => if y = 0 then none else some (.int k (x.tmod y))
  | .xor => some (.int k (k.wrap ((BitVec.ofInt k.bits x ^^^ BitVec.ofInt k.bits y).toNat)))
  | .eql => some (.bool (x == y))
  | .neq => some (.bool (x != y))
  | .lss => some (.bool (decide (x < y)))
  | .leq => some (.bool (decide (x ≤ y)))
  | .gtr => some (.bool (decide (x > y)))
  | .geq => some (.bool (decide (x ≥ y)))
  | _ => none

def binS (b : BinOp) (x y : ByteArray) : Option AV :=
  match b with
  | .add => if x.size + y.size ≤ 9223372036854775807 then some (.str (x ++ y)) else none
  | .eql => some (.bool (x.toList == y.toList))
  | .neq => some (.bool (!(x.toList == y.toList)))
  | .lss => some (.bool (Op.bytesLess x.toList y.toList))
  | .leq => some (.bool (Op.bytesLess x.toList y.toList || x.toList == y.toList))
  | .gtr => some (.bool (!(Op.bytesLess x.toList y.toList || x.toList == y.toList)))
  | .geq => some (.bool (!(Op.bytesLess x.toList y.toList)))
  | _ => none

def binA (b : BinOp) : AV → AV → Option AV
  | .int k x, .int k' y => if k = k' then binI b k x y else none
  | .str x, .str y => binS b x y
  | _, _ => none

/-- Are two cells equal (0: numbers, 1: truth values, 2: strings). -/
def eqc : Nat → AV → AV → Option Bool
  | 0, .int k x, .int k' y => if k = k' then some (x == y) else none
  | 1, .bool x, .bool y => some (x == y)
  | 2, .str x, .str y => some (x.toList == y.toList)
  | _, _, _ => none
def eqcs : List Nat → List AV → List AV → Option Bool
  | [], [], [] => some true
  | k :: ks, a :: as, b :: bs => (eqc k a b).bind fun r => (eqcs ks as bs).map fun s => r && s
  | _, _, _ => none

/-- Is it nil (0: slices, 1: interfaces). -/
def eqnA : Nat → AV → AV → Option Bool
  | 0, .nils, .nils => some true
  | 0, .sl _ _ _, .nils => some false
  | 0, .sz, .nils => some false
  | 1, .nili, .nili => some true
  | 1, .er _, .nili => some false
  | _, _, _ => none

def fillA (t : Nat → AV) : List AV → List (Nat × Nat × Od) → Option (List AV)
  | zs, [] => some zs
  | zs, (off, n, x) :: ps => if (x.ev t).cells.length = n ∧ off + n ≤ zs.length ∧ cells1 (x.ev t) = true then fillA t (putAt zs off (x.ev t).cells) ps else none

def chunk (esz : Nat) : Nat → List AV → List (List AV)
  | 0, _ => []
  | n + 1, l => l.take esz :: chunk esz n (l.drop esz)

/-- Bytes, and the string of bytes. -/
def u8s : List (List AV) → Option (List Int)
  | [] => some []
  | [.int .u8 z] :: rs => (u8s rs).map (z :: ·)
  | _ => none
def strOf (ns : List Int) : ByteArray := ns.foldl (fun r n => r.push (UInt8.ofNat n.toNat)) ByteArray.empty

def Hp.at (H : Hp) (o : Nat) : Option Ob := (H[o]?).bind id

def intA : AV → Option Int
  | .int _ n => some n
  | _ => none

def optI (t : Nat → AV) (d : Int) : Option Od → Option Int
  | none => some d
  | some x => intA (x.ev t)

def stepA (t : Nat → AV) (H : Hp) : AOp → Option (AV × Hp)
  | .mv x => some (x.ev t, H)
  | .pick c a b => match c.ev t with
    | .bool q => some (if q then a.ev t else b.ev t, H)
    | _ => none
  | .alloc ety zs => some (.pt H.length 0 0, H ++ [some ⟨[zs], zs.length, ety, false⟩])
  | .box ety esz x => if (x.ev t).cells.length = esz ∧ cells1 (x.ev t) = true then some (.pt H.length 0 0, H ++ [some ⟨[(x.ev t).cells], esz, ety, false⟩]) else none
  | .build zs ps => (fillA t zs ps).map fun cs => (.ag cs, H)
  | .lit ety esz n zs ps => (fillA t zs ps).map fun cs => (.sl H.length 0 n, H ++ [some ⟨chunk esz n cs, esz, ety, false⟩])
  | .ld x => match x.ev t with
    | .pt o i f => (H.at o).bind fun ob => (ob.rows[i]?).bind fun r => (r[f]?).map fun v => (v, H)
    | _ => none
  | .lda n x => match x.ev t with
    | .pt o i f => (H.at o).bind fun ob => (ob.rows[i]?).bind fun r => if f + n ≤ r.length then some (.ag ((r.drop f).take n), H) else none
    | _ => none
  | .st n x y => match x.ev t with
    | .pt o i f => (H.at o).bind fun ob => (ob.rows[i]?).bind fun r =>
        if ob.ro = false ∧ (y.ev t).cells.length = n ∧ f + n ≤ r.length ∧ cells1 (y.ev t) = true then some (.un, H.set o (some { ob with rows := ob.rows.set i (putAt r f (y.ev t).cells) })) else none
    | _ => none
  | .nck x => match x.ev t with
    | .pt o i f => some (.pt o i f, H)
    | .fn f cs => some (.fn f cs, H)
    | _ => none
  | .bin b x y => (binA b (x.ev t) (y.ev t)).map (·, H)
  | .eqb ne x y => match x.ev t, y.ev t with
    | .bool p, .bool q => some (.bool ((p == q) != ne), H)
    | _, _ => none
  | .eqn k ne x y => (eqnA k (x.ev t) (y.ev t)).map fun r => (.bool (r != ne), H)
  | .eqs ne ks x y => match x.ev t, y.ev t with
    | .ag p, .ag q => (eqcs ks p q).map fun r => (.bool (r != ne), H)
    | _, _ => none
  | .not x => match x.ev t with
    | .bool q => some (.bool (!q), H)
    | _ => none
  | .neg x => match x.ev t with
    | .int k n => some (.int k (k.wrap (0 - n)), H)
    | _ => none
  | .cv k x => match x.ev t with
    | .int _ n => some (.int k (k.wrap n), H)
    | _ => none
  | .cvs x => match x.ev t with
    | .sl o i n => (H.at o).bind fun ob => if ob.esz = 1 ∧ i + n ≤ ob.rows.length then (u8s ((ob.rows.drop i).take n)).map fun ns => (.str (strOf ns), H) else none
    | _ => none
  | .mk ety esz bytes zs x => match x.ev t with
    | .int .i64 n => if 0 ≤ n ∧ n * bytes ≤ 140737488355328 then some (.sl H.length 0 n.toNat, H ++ [some ⟨List.replicate n.toNat zs, esz, ety, false⟩]) else none
    | _ => none
  | .cut esz x lo hi => match x.ev t with
    | .sl o i n => (H.at o).bind fun ob => if ob.esz = esz then (optI t 0 lo).bind fun l => (optI t n hi).bind fun h =>
        if 0 ≤ l ∧ l ≤ h ∧ h ≤ n then some (.sl o (i + l.toNat) (h.toNat - l.toNat), H) else none else none
    | .nils => (optI t 0 lo).bind fun l => (optI t 0 hi).bind fun h => if l = 0 ∧ h = 0 then some (.nils, H) else none
    | .sz => (optI t 0 lo).bind fun l => (optI t 0 hi).bind fun h => if l = 0 ∧ h = 0 then some (.sz, H) else none
    | _ => none
  | .cuts x lo hi => match x.ev t with
    | .str s => (optI t 0 lo).bind fun l => (optI t s.size hi).bind fun h => if 0 ≤ l ∧ l ≤ h ∧ h ≤ s.size then some (.str (s.extract l.toNat h.toNat), H) else none
    | _ => none
  | .fa off x => match x.ev t with
    | .pt o i f => some (.pt o i (f + off), H)
    | _ => none
  | .fd off n x => match x.ev t with
    | .ag cs => if n = 0 then (cs[off]?).map (·, H) else some (.ag ((cs.drop off).take n), H)
    | _ => none
  | .ia esz x y => match x.ev t, y.ev t with
    | .sl o i n, .int _ j => (H.at o).bind fun ob => if ob.esz = esz ∧ 0 ≤ j ∧ j < n then some (.pt o (i + j.toNat) 0, H) else none
    | _, _ => none
  | .ix x y => match x.ev t, y.ev t with
    | .str s, .int _ j => if 0 ≤ j ∧ j < s.size then some (.int .u8 (bt s j), H) else none
    | _, _ => none
  | .ext i x => match x.ev t with
    | .tu vs => (vs[i]?).map (·, H)
    | _ => none
  | .lns x => match x.ev t with
    | .str s => some (.int .i64 s.size, H)
    | _ => none
  | .len x => match x.ev t with
    | .sl _ _ n => some (.int .i64 n, H)
    | .nils => some (.int .i64 0, H)
    | .sz => some (.int .i64 0, H)
    | _ => none
  | .mx x y => match x.ev t, y.ev t with
    | .int k a, .int _ b => some (.int k (if b > a then b else a), H)
    | _, _ => none
  | .mn x y => match x.ev t, y.ev t with
    | .int k a, .int _ b => some (.int k (if b < a then b else a), H)
    | _, _ => none
  | .fn f xs => some (.fn f (xs.map (·.ev t)), H)
  | .app ety esz bytes x y => match y.ev t with
    | .nils => match x.ev t with
      | .nils => some (.nils, H)
      | .sz => some (.sz, H)
      | .sl o i n => some (.sl o i n, H)
      | _ => none
    | .sz => match x.ev t with
      | .nils => some (.nils, H)
      | .sz => some (.sz, H)
      | .sl o i n => some (.sl o i n, H)
      | _ => none
    | .sl o2 i2 m => (H.at o2).bind fun ob2 => if ob2.esz = esz ∧ m * bytes ≤ 140737488355328 ∧ i2 + m ≤ ob2.rows.length then match x.ev t with
      | .nils => some (if m = 0 then (.nils, H) else (.sl H.length 0 m, H ++ [some ⟨(ob2.rows.drop i2).take m, esz, ety, false⟩]))
      | .sz => some (if m = 0 then (.sz, H) else (.sl H.length 0 m, H ++ [some ⟨(ob2.rows.drop i2).take m, esz, ety, false⟩]))
      | .sl o 0 n => (H.at o).bind fun ob =>
        if ob.ro = false ∧ ob.esz = esz ∧ ob.ety = ety ∧ (n + m) * bytes ≤ 140737488355328 ∧ n ≤ ob.rows.length then
          some (.sl H.length 0 (n + m), (H.set o none) ++ [some ⟨ob.rows.take n ++ (ob2.rows.drop i2).take m, esz, ety, false⟩]) else none
      | _ => none else none
    | _ => none
  | .call _ _ => none
  | .calv _ _ => none

/-- The temporaries of a frame. -/
structure TR (φ : Phi) (t : Nat → AV) (n : Nat) (a : Act) : Prop where
  size : a.tmps.size = n
  vals : ∀ d, VR φ (t d) (a.tmps.getD d undef)
  defers : a.defers = []

def upd (t : Nat → AV) (d : Nat) (v : AV) : Nat → AV := fun x => if x = d then v else t x

theorem TR.mono {φ φ' : Phi} {t : Nat → AV} {n : Nat} {a : Act} (h : TR φ t n a) (hp : PLe φ φ') : TR φ' t n a := ⟨h.size, fun d => VR.mono hp _ _ (h.vals d), h.defers⟩
theorem TR.put {φ : Phi} {t : Nat → AV} {n : Nat} {a : Act} (h : TR φ t n a) {d : Nat} (hd : d < n) {v : AV} {u : Value} (hv : VR φ v u) : TR φ (upd t d v) n (a.put (some d) u) := by
  refine ⟨by simp [Act.put, h.size], fun x => ?_, h.defers⟩
  unfold upd
  simp only [Act.put, Array.getD_eq_getD_getElem?, Array.getElem?_setIfInBounds]
  by_cases e : x = d
  · subst e
    rw [if_pos rfl, if_pos rfl, if_pos (by rw [h.size]; exact hd)]
    exact hv
  · rw [if_neg e, if_neg (fun k => e k.symm), ← Array.getD_eq_getD_getElem?]
    exact h.vals x

def cVal : Value → Option AV
  | .int k n => some (.int k n)
  | .bool b => some (.bool b)
  | .string s => some (.str s)
  | .pointer none => some .nilp
  | .slice none 0 0 => some .nils
  | .nilFunc => some .nilf
  | .nilIface => some .nili
  | _ => none

theorem cVal_sound {v : Value} {a : AV} (h : cVal v = some a) (φ : Phi) : VR φ a v := by
  unfold cVal at h
  split at h <;> first | (cases h; rfl) | cases h

def cOd : Operand → Option Od
  | .tmp d => some (.t d)
  | .const v => (cVal v).map .c
  | .func f => some (.c (.fn f []))
  | .global _ => none

theorem TR.ev {φ : Phi} {t : Nat → AV} {n : Nat} {a : Act} (h : TR φ t n a) {x : Operand} {y : Od} (hx : cOd x = some y) : VR φ (y.ev t) (a.eval x) := by
  unfold cOd at hx
  split at hx
  · cases hx
    exact h.vals _
  · simp only [Option.map_eq_some_iff] at hx
    obtain ⟨v, hv, rfl⟩ := hx
    exact cVal_sound hv φ
  · cases hx
    exact ⟨[], rfl, rfl⟩
  · cases hx

end Go.Proofs.YtkdnijiipegabaaDoor.B
