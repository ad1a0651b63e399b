/- The program logic: a new block, a cell written, several cells written. -/
import Derived.Test.YtkdnijiipegabaaDoorBb
namespace Go.Proofs.YtkdnijiipegabaaDoor.B
open Go.RowKit
set_option linter.unusedVariables false

theorem flatten_get {α : Type} (n : Nat) : ∀ (rows : List (List α)), (∀ r ∈ rows, r.length = n) → ∀ (i f : Nat) (row : List α), rows[i]? = some row → f < n → rows.flatten[i * n + f]? = row[f]?
  | [], _, i, f, row, h, _ => by simp at h
  | r :: rs, hl, i, f, row, h, hf => by
    have hr := hl r (by simp)
    rw [List.flatten_cons]
    cases i with
    | zero =>
      have : r = row := by simpa using h
      subst this
      rw [Nat.zero_mul, Nat.zero_add, List.getElem?_append_left (by omega)]
    | succ i =>
      rw [List.getElem?_append_right (by rw [hr, Nat.succ_mul]; omega), hr, show (i + 1) * n + f - n = i * n + f by rw [Nat.succ_mul]; omega]
      exact flatten_get n rs (fun x hx => hl x (by simp [hx])) i f row (by simpa using h) hf

theorem HR.new {E : Env} {φ : Phi} {H : Hp} {w : World} (h : HR E φ H w) (rows : List (List AV)) (esz ety : Nat) (cells : List Value) (hv : VRs φ rows.flatten cells)
    (hl : ∀ r ∈ rows, r.length = esz) (h1 : ∀ a ∈ rows.flatten, one a = true) :
    HR E (φ.put H.length ⟨w.heap.size, 0, esz, cells.length, false⟩) (H ++ [some ⟨rows, esz, ety, false⟩]) (w.alloc (.cells cells.toArray ety)) := by
  have hb : Below E.B0 w (w.alloc (.cells cells.toArray ety)) := (Below.refl _ _).alloc h.base _
  have hk : HR E φ H (w.alloc (.cells cells.toArray ety)) := h.keep hb (fun o ob p _ hp => Below.heap_alloc _ _ _ (h.blk o p hp))
  refine hk.add _ _ rfl (fun _ o' ob' p' _ hp' e => ?_) (fun o' ob' p' _ hp' _ e => ?_) ⟨rfl, rfl, cells.toArray, ety, (0, 0), ?_, fun _ => ⟨rfl, rfl, by simp, rfl, h.base⟩, fun i row hr => ?_⟩ (by show w.heap.size < _; simp)
  · have := h.blk o' p' hp'
    simp only at e
    omega
  · have := h.blk o' p' hp'
    simp only at e
    omega
  · exact heap_alloc_new w _
  · have hrl := hl row (List.mem_of_getElem? hr)
    refine ⟨hrl, fun f a ha => ?_⟩
    have hf : f < esz := by rw [← hrl]; exact (List.getElem?_eq_some_iff.1 ha).1
    have hg : rows.flatten[i * esz + f]? = some a := by rw [flatten_get esz rows hl i f row hr hf]; exact ha
    obtain ⟨v, hv', hR⟩ := hv.get _ _ hg
    exact ⟨h1 a (List.mem_of_getElem? hg), v, by simpa using hv', VR.mono (Phi.put_le hk.none_at) _ _ hR⟩

theorem HR.set1 {E : Env} {φ : Phi} {H : Hp} {w : World} (h : HR E φ H w) {o : Nat} {ob : Ob} (ho : H[o]? = some (some ob)) (hrw : ob.ro = false) {p : Pl} (hp : φ o = some p)
    {i : Nat} {row : List AV} (hr : ob.rows[i]? = some row) {f : Nat} (hf : f < row.length) {a : AV} {v : Value} (h1 : one a = true) (hv : VR φ a v) :
    (∃ u, w.cell? ⟨p.b, p.base + i * p.esz + f, none⟩ = some u) ∧ w.frozen? ⟨p.b, p.base + i * p.esz + f, none⟩ = false ∧
    Below E.B0 w (w.setCell ⟨p.b, p.base + i * p.esz + f, none⟩ v) ∧
    HR E φ (H.set o (some { ob with rows := ob.rows.set i (row.set f a) })) (w.setCell ⟨p.b, p.base + i * p.esz + f, none⟩ v) := by
  obtain ⟨u, hu, _, _⟩ := h.cell ho hp hr (List.getElem?_eq_getElem hf)
  obtain ⟨hro, hes, cells, e, fr, hblk, hw, hc⟩ := h.obj o ob ho p hp
  obtain ⟨rfl, rfl, hsz, hb0, hB⟩ := hw hrw
  have hbel : Below E.B0 w (w.setCell ⟨p.b, p.base + i * p.esz + f, none⟩ v) := (Below.refl _ _).setCell (p := ⟨p.b, p.base + i * p.esz + f, none⟩) hB v
  have hnew : (w.setCell ⟨p.b, p.base + i * p.esz + f, none⟩ v).heap[p.b]? = some (.cells (cells.setIfInBounds (p.base + i * p.esz + f) v) ob.ety (0, 0)) := by
    simp [World.setCell, Array.getElem?_modify, hblk]
  have hlt : p.base + i * p.esz + f < cells.size := by
    simp [World.cell?, hblk] at hu
    exact (Array.getElem?_eq_some_iff.1 hu).1
  refine ⟨⟨u, hu⟩, by simp [World.frozen?, hblk], hbel, ?_⟩
  have hol : o < H.length := (List.getElem?_eq_some_iff.1 ho).1
  refine { obj := fun o' ob' ho' p' hp' => ?_, inj := fun o1 o2 ob1 ob2 k1 k2 p1 p2 q1 q2 hro1 hne => ?_, dom := fun o' p' hp' => by rw [List.length_set]; exact h.dom o' p' hp', blk := fun o' p' hp' => Nat.lt_of_lt_of_le (h.blk o' p' hp') hbel.size, base := Nat.le_trans h.base hbel.size, glob := E.st _ _ hbel h.glob }
  · rw [List.getElem?_set] at ho'
    by_cases e : o = o'
    · subst e
      rw [if_pos rfl, if_pos hol] at ho'
      have e1 : { ob with rows := ob.rows.set i (row.set f a) } = ob' := by simpa using ho'
      subst e1
      rw [hp] at hp'
      have e2 : p = p' := by simpa using hp'
      subst e2
      refine ⟨hro, hes, _, _, _, hnew, fun _ => ⟨rfl, rfl, by simpa using hsz, hb0, hB⟩, fun j row' hr' => ?_⟩
      simp only at hr'
      rw [List.getElem?_set] at hr'
      by_cases ej : i = j
      · subst ej
        have hil : i < ob.rows.length := (List.getElem?_eq_some_iff.1 hr).1
        rw [if_pos rfl, if_pos hil] at hr'
        have e3 : row.set f a = row' := by simpa using hr'
        subst e3
        refine ⟨by rw [List.length_set]; exact (hc i row hr).1, fun g b hg => ?_⟩
        rw [List.getElem?_set] at hg
        by_cases eg : f = g
        · subst eg
          rw [if_pos rfl, if_pos hf] at hg
          have e4 : a = b := by simpa using hg
          subst e4
          refine ⟨h1, v, ?_, hv⟩
          dsimp only
          rw [← hes, Array.getElem?_setIfInBounds, if_pos rfl, if_pos hlt]
        · rw [if_neg eg] at hg
          obtain ⟨g1, x, hx, hX⟩ := (hc i row hr).2 g b hg
          refine ⟨g1, x, ?_, hX⟩
          dsimp only
          rw [Array.getElem?_setIfInBounds, if_neg (by rw [hes]; omega)]
          exact hx
      · rw [if_neg ej] at hr'
        obtain ⟨g0, g⟩ := hc j row' hr'
        refine ⟨g0, fun k b hb => ?_⟩
        obtain ⟨g1, x, hx, hX⟩ := g k b hb
        refine ⟨g1, x, ?_, hX⟩
        dsimp only
        have hk : k < ob.esz := by rw [← g0]; exact (List.getElem?_eq_some_iff.1 hb).1
        have hfe : f < ob.esz := by rw [← (hc i row hr).1]; exact hf
        rw [Array.getElem?_setIfInBounds, if_neg ?_]
        · exact hx
        · rw [hes]
          intro e5
          rcases Nat.lt_or_gt_of_ne ej with hij | hij
          · have := Nat.mul_le_mul_right ob.esz (show i + 1 ≤ j from hij)
            rw [Nat.succ_mul] at this
            omega
          · have := Nat.mul_le_mul_right ob.esz (show j + 1 ≤ i from hij)
            rw [Nat.succ_mul] at this
            omega
    · rw [if_neg e] at ho'
      obtain ⟨a1, a2, cells', e', fr', hb', hw', hc'⟩ := h.obj o' ob' ho' p' hp'
      refine ⟨a1, a2, cells', e', fr', ?_, hw', hc'⟩
      rw [Below.heap_setCell _ _ _ _ (h.inj o o' ob ob' ho ho' p p' hp hp' hrw e).symm]
      exact hb'
  · have key : ∀ (x : Nat) (obx : Ob), (H.set o (some { ob with rows := ob.rows.set i (row.set f a) }))[x]? = some (some obx) → ∃ oby : Ob, H[x]? = some (some oby) ∧ oby.ro = obx.ro := by
      intro x obx hx
      rw [List.getElem?_set] at hx
      by_cases e : o = x
      · subst e
        rw [if_pos rfl, if_pos hol] at hx
        have e1 : { ob with rows := ob.rows.set i (row.set f a) } = obx := by simpa using hx
        subst e1
        exact ⟨ob, ho, rfl⟩
      · rw [if_neg e] at hx
        exact ⟨obx, hx, rfl⟩
    obtain ⟨y1, j1, j2⟩ := key o1 ob1 k1
    obtain ⟨y2, j3, j4⟩ := key o2 ob2 k2
    exact h.inj o1 o2 y1 y2 j1 j3 p1 p2 q1 q2 (j2.trans hro1) hne

/-- cs written into a row from place f on. -/
def putAt : List AV → Nat → List AV → List AV
  | row, _, [] => row
  | row, f, c :: cs => putAt (row.set f c) (f + 1) cs
theorem putAt_length : ∀ (cs : List AV) (row : List AV) (f : Nat), (putAt row f cs).length = row.length
  | [], _, _ => rfl
  | c :: cs, row, f => by rw [putAt, putAt_length cs, List.length_set]

theorem Addr_add (b o n : Nat) : (⟨b, o, none⟩ : Addr).add n = ⟨b, o + n, none⟩ := by
  unfold Addr.add
  split
  · rename_i e
    rw [e, Nat.add_zero]
  · rfl

/-- Several cells of one row are written. -/
theorem HR.setN {E : Env} {φ : Phi} {P : Program} : ∀ (cs : List AV) (vs : List Value) (k : Nat) {H : Hp} {w : World} (h : HR E φ H w) {o : Nat} {ob : Ob} (ho : H[o]? = some (some ob)) (hrw : ob.ro = false) {p : Pl} (hp : φ o = some p)
    {i : Nat} {row : List AV} (hr : ob.rows[i]? = some row) {f : Nat} (hf : f + k + cs.length ≤ row.length) (h1 : ∀ a ∈ cs, one a = true) (hv : VRs φ cs vs),
    ∃ w', (storeCells ⟨p.b, p.base + i * p.esz + f, none⟩ vs k).run P w = .ok () w' ∧ Below E.B0 w w' ∧
      HR E φ (H.set o (some { ob with rows := ob.rows.set i (putAt row (f + k) cs) })) w'
  | [], vs, k, H, w, h, o, ob, ho, hrw, p, hp, i, row, hr, f, hf, h1, hv => by
    have e : vs = [] := hv
    subst e
    refine ⟨w, rfl, Below.refl _ _, ?_⟩
    have e1 : ob.rows.set i row = ob.rows := by
      apply List.ext_getElem?
      intro j
      rw [List.getElem?_set]
      split
      · rename_i e; subst e; rw [hr]; simp [(List.getElem?_eq_some_iff.1 hr).1]
      · rfl
    have e2 : H.set o (some ob) = H := by
      apply List.ext_getElem?
      intro j
      rw [List.getElem?_set]
      split
      · rename_i e; subst e; rw [ho]; simp [(List.getElem?_eq_some_iff.1 ho).1]
      · rfl
    rw [putAt, e1, show ({ ob with rows := ob.rows } : Ob) = ob from rfl, e2]
    exact h
  | c :: cs, vs, k, H, w, h, o, ob, ho, hrw, p, hp, i, row, hr, f, hf, h1, hv => by
    obtain ⟨v, vs', rfl, hvc, hvs⟩ := hv
    obtain ⟨⟨u, hu⟩, hfz, hbel, hH⟩ := h.set1 ho hrw hp hr (f := f + k) (by simp at hf; omega) (h1 c (by simp)) hvc
    have hol : o < H.length := (List.getElem?_eq_some_iff.1 ho).1
    have hil : i < ob.rows.length := (List.getElem?_eq_some_iff.1 hr).1
    obtain ⟨w', hrun, hb', hH'⟩ := HR.setN (P := P) cs vs' (k + 1) hH (o := o) (ob := { ob with rows := ob.rows.set i (row.set (f + k) c) }) (by rw [List.getElem?_set, if_pos rfl, if_pos hol]) hrw hp (i := i) (row := row.set (f + k) c)
      (by simp only; rw [List.getElem?_set, if_pos rfl, if_pos hil]) (f := f) (by simp at hf ⊢; omega) (fun a ha => h1 a (by simp [ha])) hvs
    refine ⟨w', ?_, hbel.trans hb', ?_⟩
    · have hone := one_cell (h1 c (by simp)) hvc
      rw [storeCells, Addr_add]
      have : p.base + i * p.esz + f + k = p.base + i * p.esz + (f + k) := by omega
      rw [this]
      have hs : (store ⟨p.b, p.base + i * p.esz + (f + k), none⟩ v : Sem Unit).run P w = .ok () (w.setCell ⟨p.b, p.base + i * p.esz + (f + k), none⟩ v) := by
        cases v <;> simp [Value.oneCell'] at hone <;> simp [store, Sem.run, hu, hfz]
      rw [Sem.run_bind, hs]
      exact hrun
    · have e1 : (H.set o (some { ob with rows := ob.rows.set i (row.set (f + k) c) })).set o (some { ob with rows := (ob.rows.set i (row.set (f + k) c)).set i (putAt (row.set (f + k) c) (f + (k + 1)) cs) }) =
          H.set o (some { ob with rows := ob.rows.set i (putAt row (f + k) (c :: cs)) }) := by
        rw [List.set_set, List.set_set]
        rfl
      rw [← e1]
      exact hH'

end Go.Proofs.YtkdnijiipegabaaDoor.B
