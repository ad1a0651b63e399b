/- The program logic: what becomes of the objects in the machine's memory when a block is made, written, or grown. -/
import Derived.Test.YtkdnijiipegabaaDoorBa
namespace Go.Proofs.YtkdnijiipegabaaDoor.B
open Go.RowKit
set_option linter.unusedVariables false

theorem one_cell {φ : Phi} {a : AV} {v : Value} (h1 : one a = true) (h : VR φ a v) : v.oneCell' = true := by
  cases a <;> simp [one] at h1
  case int => rw [show v = _ from h]; rfl
  case bool => rw [show v = _ from h]; rfl
  case str => rw [show v = _ from h]; rfl
  case nilp => rw [show v = _ from h]; rfl
  case nils => rw [show v = _ from h]; rfl
  case sz => obtain ⟨a, h2⟩ := h; rw [h2]; rfl
  case nilf => rw [show v = _ from h]; rfl
  case nili => rw [show v = _ from h]; rfl
  case sl => obtain ⟨p, a, c, _, h2, _⟩ := h; rw [h2]; rfl
  case pt => obtain ⟨p, _, h2⟩ := h; rw [h2]; rfl
  case fn => obtain ⟨l, h2, _⟩ := h; rw [h2]; rfl
  case er => obtain ⟨t, x, h2⟩ := h; rw [h2]; rfl

/-- A cell of an object. -/
theorem HR.cell {E : Env} {φ : Phi} {H : Hp} {w : World} (h : HR E φ H w) {o : Nat} {ob : Ob} (ho : H[o]? = some (some ob)) {p : Pl} (hp : φ o = some p)
    {i : Nat} {row : List AV} (hr : ob.rows[i]? = some row) {f : Nat} {a : AV} (ha : row[f]? = some a) :
    ∃ v, w.cell? ⟨p.b, p.base + i * p.esz + f, none⟩ = some v ∧ VR φ a v ∧ one a = true := by
  obtain ⟨hro, hes, cells, e, fr, hb, _, hc⟩ := h.obj o ob ho p hp
  obtain ⟨hl, hc⟩ := hc i row hr
  obtain ⟨h1, v, hv, hR⟩ := hc f a ha
  refine ⟨v, ?_, hR, h1⟩
  rw [← hes] at hv
  simp [World.cell?, hb, hv]

/-- The objects stay where the blocks that hold them stay. -/
theorem HR.keep {E : Env} {φ : Phi} {H : Hp} {w w' : World} (h : HR E φ H w) (hb : Below E.B0 w w') (hk : ∀ o ob p, H[o]? = some (some ob) → φ o = some p → w'.heap[p.b]? = w.heap[p.b]?) : HR E φ H w' where
  obj := fun o ob ho p hp => by
    obtain ⟨hro, hes, cells, e, fr, hb', h1, hc⟩ := h.obj o ob ho p hp
    exact ⟨hro, hes, cells, e, fr, by rw [hk o ob p ho hp]; exact hb', h1, hc⟩
  inj := h.inj
  dom := h.dom
  blk := fun o p hp => Nat.lt_of_lt_of_le (h.blk o p hp) hb.size
  base := Nat.le_trans h.base hb.size
  glob := E.st w w' hb h.glob

theorem HR.drew {E : Env} {φ : Phi} {H : Hp} {w : World} (h : HR E φ H w) : HR E φ H { w with drawn := w.drawn + 1 } :=
  h.keep ⟨rfl, rfl, rfl, Nat.le_refl _, fun _ _ => rfl⟩ (fun _ _ _ _ _ => rfl)

/-- An object is told no more. -/
theorem HR.kill {E : Env} {φ : Phi} {H : Hp} {w : World} (h : HR E φ H w) (o : Nat) : HR E φ (H.set o none) w where
  obj := fun o' ob ho p hp => by
    rw [List.getElem?_set] at ho
    split at ho
    · split at ho <;> simp at ho
    · exact h.obj o' ob ho p hp
  inj := fun o1 o2 ob1 ob2 h1 h2 p p' hp hp' hro hne => by
    rw [List.getElem?_set] at h1 h2
    split at h1
    · split at h1 <;> simp at h1
    · split at h2
      · split at h2 <;> simp at h2
      · exact h.inj o1 o2 ob1 ob2 h1 h2 p p' hp hp' hro hne
  dom := fun o' p hp => by rw [List.length_set]; exact h.dom o' p hp
  blk := h.blk
  base := h.base
  glob := h.glob

def Phi.put (φ : Phi) (o : Nat) (p : Pl) : Phi := fun x => if x = o then some p else φ x
theorem Phi.put_le {φ : Phi} {o : Nat} {p : Pl} (h : φ o = none) : PLe φ (φ.put o p) := fun x q hq => by
  unfold Phi.put
  split
  · rename_i e
    subst e
    rw [h] at hq
    cases hq
  · exact hq
theorem HR.none_at {E : Env} {φ : Phi} {H : Hp} {w : World} (h : HR E φ H w) : φ H.length = none := by
  cases hφ : φ H.length with
  | none => rfl
  | some p => exact absurd (h.dom _ p hφ) (Nat.lt_irrefl _)

/-- A new object in a block of its own: either a new block, or one that no object holds any more. -/
theorem HR.add {E : Env} {φ : Phi} {H : Hp} {w : World} (h : HR E φ H w) (ob : Ob) (p : Pl) (hro : p.ro = ob.ro)
    (hfree : ob.ro = false → ∀ o' ob' p', H[o']? = some (some ob') → φ o' = some p' → p'.b ≠ p.b)
    (hrw : ∀ o' ob' p', H[o']? = some (some ob') → φ o' = some p' → ob'.ro = false → p'.b ≠ p.b)
    (hob : OB E.B0 (φ.put H.length p) ob p w) (hlt : p.b < w.heap.size) : HR E (φ.put H.length p) (H ++ [some ob]) w where
  obj := fun o' ob' ho p' hp => by
    rcases Nat.lt_or_ge o' H.length with hl | hl
    · rw [List.getElem?_append_left hl] at ho
      have hp' : φ o' = some p' := by
        unfold Phi.put at hp
        rw [if_neg (by omega)] at hp
        exact hp
      obtain ⟨a1, a2, cells, e, fr, hb', h1, hc⟩ := h.obj o' ob' ho p' hp'
      refine ⟨a1, a2, cells, e, fr, hb', h1, fun i row hr => ⟨(hc i row hr).1, fun f a ha => ?_⟩⟩
      obtain ⟨k1, v, hv, hR⟩ := (hc i row hr).2 f a ha
      exact ⟨k1, v, hv, VR.mono (Phi.put_le h.none_at) _ _ hR⟩
    · rw [List.getElem?_append_right hl] at ho
      have e : o' = H.length := by
        rcases Nat.eq_or_lt_of_le hl with e | e
        · exact e.symm
        · rw [show o' - H.length = (o' - H.length - 1) + 1 by omega] at ho
          simp at ho
      subst e
      have e2 : ob = ob' := by simpa using ho
      have e3 : p = p' := by simpa [Phi.put] using hp
      subst e2 e3
      exact hob
  inj := fun o1 o2 ob1 ob2 h1 h2 p1 p2 hp1 hp2 hro1 hne => by
    have key : ∀ o' ob' p', (H ++ [some ob])[o']? = some (some ob') → (φ.put H.length p) o' = some p' → (H[o']? = some (some ob') ∧ φ o' = some p') ∨ (o' = H.length ∧ ob' = ob ∧ p' = p) := by
      intro o' ob' p' ho hp
      rcases Nat.lt_or_ge o' H.length with hl | hl
      · rw [List.getElem?_append_left hl] at ho
        unfold Phi.put at hp
        rw [if_neg (by omega)] at hp
        exact .inl ⟨ho, hp⟩
      · rw [List.getElem?_append_right hl] at ho
        have e : o' = H.length := by
          rcases Nat.eq_or_lt_of_le hl with e | e
          · exact e.symm
          · rw [show o' - H.length = (o' - H.length - 1) + 1 by omega] at ho
            simp at ho
        subst e
        exact .inr ⟨rfl, by have : ob = ob' := by simpa using ho
                            exact this.symm, by have : p = p' := by simpa [Phi.put] using hp
                                                exact this.symm⟩
    rcases key o1 ob1 p1 h1 hp1 with ⟨a1, a2⟩ | ⟨a1, a2, a3⟩ <;> rcases key o2 ob2 p2 h2 hp2 with ⟨b1, b2⟩ | ⟨b1, b2, b3⟩
    · exact h.inj o1 o2 ob1 ob2 a1 b1 p1 p2 a2 b2 hro1 hne
    · subst b3
      exact hrw o1 ob1 p1 a1 a2 hro1
    · subst a3 a2
      exact fun e => hfree hro1 o2 ob2 p2 b1 b2 e.symm
    · exact absurd (a1.trans b1.symm) hne
  dom := fun o' p' hp => by
    rw [List.length_append, List.length_singleton]
    unfold Phi.put at hp
    split at hp
    · omega
    · have := h.dom o' p' hp
      omega
  blk := fun o' p' hp => by
    unfold Phi.put at hp
    split at hp
    · have : p = p' := by simpa using hp
      subst this
      exact hlt
    · exact h.blk o' p' hp
  base := h.base
  glob := h.glob

end Go.Proofs.YtkdnijiipegabaaDoor.B
