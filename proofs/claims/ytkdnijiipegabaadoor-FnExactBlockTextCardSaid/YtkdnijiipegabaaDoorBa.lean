/- The program logic's base: abstract values and objects, and how they lie in the machine's memory. -/
import Derived.Below
import Derived.Orders
namespace Go.Proofs.YtkdnijiipegabaaDoor.B
open Go.RowKit
set_option linter.unusedVariables false

/-- Abstract values. -/
inductive AV where
  | int (k : IntKind) (n : Int)
  | bool (b : Bool)
  | str (s : ByteArray)
  | nilp | nils | sz | nilf | nili | un | any
  | sl (o i n : Nat)
  | pt (o i f : Nat)
  | ag (cs : List AV)
  | tu (vs : List AV)
  | fn (f : FuncId) (caps : List AV)
  | er (c : Nat)
deriving Inhabited

/-- An object: its rows (elements), the cells of a row, the element's type, is it read alone. -/
structure Ob where
  rows : List (List AV)
  esz : Nat
  ety : Nat
  ro : Bool
deriving Inhabited

abbrev Hp := List (Option Ob)

/-- Where an object lies: its block, its first cell, the cells of a row, the block's size. -/
structure Pl where
  b : Nat
  base : Nat
  esz : Nat
  sz : Nat
  ro : Bool

abbrev Phi := Nat → Option Pl

mutual
def VR (φ : Phi) : AV → Value → Prop
  | .int k n, v => v = .int k n
  | .bool b, v => v = .bool b
  | .str s, v => v = .string s
  | .nilp, v => v = .pointer none
  | .nils, v => v = .slice none 0 0
  | .sz, v => ∃ a, v = .slice (some a) 0 0
  | .nilf, v => v = .nilFunc
  | .nili, v => v = .nilIface
  | .un, v => v = undef
  | .any, _ => True
  | .sl o i n, v => ∃ p a c, φ o = some p ∧ v = .slice (some a) n c ∧ n ≤ c ∧
      (c = 0 ∨ (a = ⟨p.b, p.base + i * p.esz, none⟩ ∧ (p.ro = true ∨ (i + c) * p.esz = p.sz)))
  | .pt o i f, v => ∃ p, φ o = some p ∧ v = .pointer (some ⟨p.b, p.base + i * p.esz + f, none⟩)
  | .ag cs, v => ∃ l, v = .agg l.toArray ∧ VRs φ cs l
  | .tu cs, v => ∃ l, v = .tuple l.toArray ∧ VRs φ cs l
  | .fn f cs, v => ∃ l, v = .func (.func f) #[] l.toArray ∧ VRs φ cs l
  | .er _, v => ∃ t x, v = .iface t x
def VRs (φ : Phi) : List AV → List Value → Prop
  | [], l => l = []
  | a :: as, l => ∃ v vs, l = v :: vs ∧ VR φ a v ∧ VRs φ as vs
end

/-- More objects are placed, those that were stay. -/
def PLe (φ φ' : Phi) : Prop := ∀ o p, φ o = some p → φ' o = some p
theorem PLe.refl (φ : Phi) : PLe φ φ := fun _ _ h => h
theorem PLe.trans {a b c : Phi} (h : PLe a b) (k : PLe b c) : PLe a c := fun o p hp => k o p (h o p hp)

mutual
theorem VR.mono {φ φ' : Phi} (h : PLe φ φ') : ∀ (a : AV) (v : Value), VR φ a v → VR φ' a v
  | .int _ _, _, r => r
  | .bool _, _, r => r
  | .str _, _, r => r
  | .nilp, _, r => r
  | .nils, _, r => r
  | .sz, _, r => r
  | .nilf, _, r => r
  | .nili, _, r => r
  | .un, _, r => r
  | .any, _, _ => trivial
  | .sl o i n, v, r => by
    obtain ⟨p, a, c, h1, h2⟩ := r
    exact ⟨p, a, c, h _ _ h1, h2⟩
  | .pt o i f, v, r => by
    obtain ⟨p, h1, h2⟩ := r
    exact ⟨p, h _ _ h1, h2⟩
  | .ag cs, v, r => by
    obtain ⟨l, h1, h2⟩ := r
    exact ⟨l, h1, VRs.mono h cs l h2⟩
  | .tu cs, v, r => by
    obtain ⟨l, h1, h2⟩ := r
    exact ⟨l, h1, VRs.mono h cs l h2⟩
  | .fn f cs, v, r => by
    obtain ⟨l, h1, h2⟩ := r
    exact ⟨l, h1, VRs.mono h cs l h2⟩
  | .er _, _, r => r
theorem VRs.mono {φ φ' : Phi} (h : PLe φ φ') : ∀ (as : List AV) (l : List Value), VRs φ as l → VRs φ' as l
  | [], _, r => r
  | a :: as, _, r => by
    obtain ⟨v, vs, h1, h2, h3⟩ := r
    exact ⟨v, vs, h1, VR.mono h a v h2, VRs.mono h as vs h3⟩
end

theorem VRs.length {φ : Phi} : ∀ {as : List AV} {l : List Value}, VRs φ as l → l.length = as.length
  | [], _, h => by rw [h]; rfl
  | _ :: _, _, ⟨_, _, h1, _, h3⟩ => by rw [h1, List.length_cons, VRs.length h3, List.length_cons]

theorem VRs.get {φ : Phi} : ∀ {as : List AV} {l : List Value}, VRs φ as l → ∀ (i : Nat) (a : AV), as[i]? = some a → ∃ v, l[i]? = some v ∧ VR φ a v
  | [], _, _, i, a, h => by simp at h
  | x :: as, _, ⟨v, vs, h1, h2, h3⟩, i, a, h => by
    subst h1
    cases i with
    | zero =>
      have : x = a := by simpa using h
      subst this
      exact ⟨v, by simp, h2⟩
    | succ i =>
      obtain ⟨u, hu, hr⟩ := VRs.get h3 i a (by simpa using h)
      exact ⟨u, by simpa using hu, hr⟩

theorem VRs.of_get {φ : Phi} : ∀ {as : List AV} {l : List Value}, l.length = as.length → (∀ (i : Nat) (a : AV), as[i]? = some a → ∃ v, l[i]? = some v ∧ VR φ a v) → VRs φ as l
  | [], l, hl, _ => by
    cases l with
    | nil => rfl
    | cons _ _ => simp at hl
  | a :: as, l, hl, h => by
    cases l with
    | nil => simp at hl
    | cons v vs =>
      obtain ⟨u, hu, hr⟩ := h 0 a (by simp)
      have : v = u := by simpa using hu
      subst this
      exact ⟨v, vs, rfl, hr, VRs.of_get (by simpa using hl) (fun i x hx => by simpa using h (i + 1) x (by simpa using hx))⟩

theorem VRs.append {φ : Phi} : ∀ {as bs : List AV} {l m : List Value}, VRs φ as l → VRs φ bs m → VRs φ (as ++ bs) (l ++ m)
  | [], _, _, _, h, k => by rw [show _ = ([] : List Value) from h]; exact k
  | _ :: _, _, _, _, ⟨v, vs, h1, h2, h3⟩, k => by
    subst h1
    exact ⟨v, vs ++ _, rfl, h2, VRs.append h3 k⟩

theorem VRs.drop {φ : Phi} {as : List AV} {l : List Value} (h : VRs φ as l) (n : Nat) : VRs φ (as.drop n) (l.drop n) := by
  refine VRs.of_get (by simp [h.length]) (fun i a ha => ?_)
  rw [List.getElem?_drop] at ha ⊢
  exact h.get _ _ ha
theorem VRs.take {φ : Phi} {as : List AV} {l : List Value} (h : VRs φ as l) (n : Nat) : VRs φ (as.take n) (l.take n) := by
  refine VRs.of_get (by simp [h.length]) (fun i a ha => ?_)
  rw [List.getElem?_take] at ha ⊢
  split at ha
  · rename_i hi
    rw [if_pos hi]
    exact h.get _ _ ha
  · simp at ha
theorem VRs.set {φ : Phi} {as : List AV} {l : List Value} (h : VRs φ as l) (i : Nat) {a : AV} {v : Value} (hr : VR φ a v) : VRs φ (as.set i a) (l.set i v) := by
  refine VRs.of_get (by simp [h.length]) (fun j x hx => ?_)
  rw [List.getElem?_set] at hx ⊢
  split at hx
  · rename_i e
    subst e
    rw [if_pos rfl]
    split at hx
    · rename_i hlt
      have : a = x := by simpa using hx
      subst this
      rw [if_pos (by rw [h.length]; exact hlt)]
      exact ⟨v, rfl, hr⟩
    · simp at hx
  · rename_i e
    rw [if_neg e]
    exact h.get _ _ hx

/-- A value of one cell. -/
def one : AV → Bool
  | .ag _ => false
  | .tu _ => false
  | .un => false
  | .any => false
  | _ => true

/-- An object in its place. -/
structure OB (B0 : Nat) (φ : Phi) (ob : Ob) (p : Pl) (w : World) : Prop where
  ro : p.ro = ob.ro
  esz : p.esz = ob.esz
  blk : ∃ cells e fr, w.heap[p.b]? = some (.cells cells e fr) ∧ (ob.ro = false → fr = (0, 0) ∧ e = ob.ety ∧ p.sz = cells.size ∧ p.base = 0 ∧ B0 ≤ p.b) ∧
    ∀ (i : Nat) (row : List AV), ob.rows[i]? = some row → row.length = ob.esz ∧ ∀ (f : Nat) (a : AV), row[f]? = some a → one a = true ∧ ∃ v, cells[p.base + i * ob.esz + f]? = some v ∧ VR φ a v

/-- What stays of the world all along. -/
structure Env where
  B0 : Nat
  G : World → Prop
  st : ∀ w w', Below B0 w w' → G w → G w'

structure HR (E : Env) (φ : Phi) (H : Hp) (w : World) : Prop where
  obj : ∀ (o : Nat) (ob : Ob), H[o]? = some (some ob) → ∀ p, φ o = some p → OB E.B0 φ ob p w
  inj : ∀ (o o' : Nat) (ob ob' : Ob), H[o]? = some (some ob) → H[o']? = some (some ob') → ∀ p p', φ o = some p → φ o' = some p' → ob.ro = false → o ≠ o' → p.b ≠ p'.b
  dom : ∀ o p, φ o = some p → o < H.length
  blk : ∀ o p, φ o = some p → p.b < w.heap.size
  base : E.B0 ≤ w.heap.size
  glob : E.G w

end Go.Proofs.YtkdnijiipegabaaDoor.B
