/- The program logic: append. -/
import Derived.Test.YtkdnijiipegabaaDoorBh
import Derived.Laws.BytesString
namespace Go.Proofs.YtkdnijiipegabaaDoor.B
open Go.RowKit
set_option linter.unusedVariables false
set_option linter.unusedSimpArgs false
variable {P : Program} {E : Env} {o : Oper}

theorem HR.ones {φ : Phi} {H : Hp} {w : World} (h : HR E φ H w) {x : Nat} {ob : Ob} (ho : H[x]? = some (some ob)) {p : Pl} (hp : φ x = some p) {i : Nat} {row : List AV} (hr : ob.rows[i]? = some row) : ∀ a ∈ row, one a = true := by
  intro a ha
  obtain ⟨f, hf⟩ := List.getElem?_of_mem ha
  obtain ⟨_, _, _, h1⟩ := h.cell ho hp hr hf
  exact h1

theorem HR.rowsCells {φ : Phi} {H : Hp} {w : World} (h : HR E φ H w) {x : Nat} {ob : Ob} (ho : H[x]? = some (some ob)) {p : Pl} (hp : φ x = some p) (i m : Nat) (hm : i + m ≤ ob.rows.length) :
    ∃ l : List Value, VRs φ ((ob.rows.drop i).take m).flatten l ∧ l.length = m * p.esz ∧ (∀ (j : Nat) (v : Value), l[j]? = some v → w.cell? ((⟨p.b, p.base + i * p.esz, none⟩ : Addr).add j) = some v) ∧
      (∀ a ∈ ((ob.rows.drop i).take m).flatten, one a = true) ∧ ∀ r ∈ (ob.rows.drop i).take m, r.length = p.esz := by
  induction m with
  | zero => exact ⟨[], by simp [VRs], by simp, fun j v hv => by simp at hv, by simp, by simp⟩
  | succ m ih =>
    obtain ⟨l, h1, h2, h3, h4, h5⟩ := ih (by omega)
    have hlt : i + m < ob.rows.length := by omega
    have hrow := List.getElem?_eq_getElem hlt
    have hrl := h.rowlen ho hp hrow
    obtain ⟨l2, k1, k2, k3⟩ := h.cells ho hp hrow 0 (ob.rows[i + m]).length (by omega)
    have e : (ob.rows.drop i).take (m + 1) = (ob.rows.drop i).take m ++ [ob.rows[i + m]] := by
      rw [List.take_succ_eq_append_getElem (by simp; omega)]
      simp
    refine ⟨l ++ l2, ?_, ?_, fun j v hv => ?_, ?_, ?_⟩
    · rw [e, List.flatten_append]
      exact h1.append (by simpa using k1)
    · rw [List.length_append, h2, k2, hrl, Nat.add_mul, Nat.one_mul]
    · rcases Nat.lt_or_ge j l.length with hj | hj
      · rw [List.getElem?_append_left hj] at hv
        exact h3 j v hv
      · rw [List.getElem?_append_right hj] at hv
        have := k3 _ v hv
        rw [Addr_add] at this ⊢
        rw [h2] at this hj
        rw [← this]
        congr 2
        rw [Nat.add_mul]
        omega
    · rw [e, List.flatten_append]
      intro a ha
      rcases List.mem_append.1 ha with ha | ha
      · exact h4 a ha
      · exact h.ones ho hp hrow a (by simpa using ha)
    · rw [e]
      intro r hr
      rcases List.mem_append.1 hr with hr | hr
      · exact h5 r hr
      · rw [List.mem_singleton.1 hr]; exact hrl

theorem VRs.oneCell {φ : Phi} : ∀ {as : List AV} {l : List Value}, VRs φ as l → (∀ a ∈ as, one a = true) → ∀ u ∈ l, u.oneCell' = true
  | [], l, h, _, u, hu => by rw [show l = [] from h] at hu; simp at hu
  | a :: as, l, h, h1, u, hu => by
    obtain ⟨v, vs, rfl, k1, k2⟩ := h
    rcases List.mem_cons.1 hu with rfl | hu
    · exact one_cell (h1 a (List.mem_cons_self ..)) k1
    · exact k2.oneCell (fun x hx => h1 x (List.mem_cons_of_mem _ hx)) u hu

/-- An object's rows out of its flat cells. -/
theorem OB_flat {φ : Phi} {rows : List (List AV)} {esz : Nat} {xs : List Value} {cells : Array Value} (hv : VRs φ rows.flatten xs) (hl : ∀ r ∈ rows, r.length = esz) (h1 : ∀ a ∈ rows.flatten, one a = true)
    (hc : ∀ (j : Nat) (v : Value), xs[j]? = some v → cells[j]? = some v) :
    ∀ (i : Nat) (row : List AV), rows[i]? = some row → row.length = esz ∧ ∀ (f : Nat) (a : AV), row[f]? = some a → one a = true ∧ ∃ v, cells[0 + i * esz + f]? = some v ∧ VR φ a v := by
  intro i row hr
  have hrl := hl row (List.mem_of_getElem? hr)
  refine ⟨hrl, fun f a ha => ?_⟩
  have hf : f < esz := by rw [← hrl]; exact (List.getElem?_eq_some_iff.1 ha).1
  have hg : rows.flatten[i * esz + f]? = some a := by rw [flatten_get esz rows hl i f row hr hf]; exact ha
  obtain ⟨v, hv', hR⟩ := hv.get _ _ hg
  exact ⟨h1 a (List.mem_of_getElem? hg), v, by rw [Nat.zero_add]; exact hc _ _ hv', hR⟩

theorem Phi.put_self {φ : Phi} {o : Nat} {p : Pl} : (φ.put o p) o = some p := if_pos rfl
def killO (H : Hp) : Option Nat → Hp
  | some y => H.set y none
  | none => H

/-- An object is turned into another one, which lies where it lay, or in a new block. -/
theorem HR.moved {φ : Phi} {H : Hp} {w w' : World} (h : HR E φ H w) (x : Option Nat) {rows : List (List AV)} {esz ety b : Nat} {xs : List Value} {cells : Array Value}
    (hb : Below E.B0 w w') (hB : E.B0 ≤ b) (hcell : w'.heap[b]? = some (.cells cells ety (0, 0)))
    (hblk : ∀ k, k < w.heap.size → k ≠ b → w'.heap[k]? = w.heap[k]?)
    (hfree : (w.heap.size ≤ b) ∨ ∃ y ob p, x = some y ∧ H[y]? = some (some ob) ∧ φ y = some p ∧ ob.ro = false ∧ p.b = b)
    (hv : VRs φ rows.flatten xs) (hl : ∀ r ∈ rows, r.length = esz) (h1 : ∀ a ∈ rows.flatten, one a = true) (hc : ∀ (j : Nat) (v : Value), xs[j]? = some v → cells[j]? = some v) :
    PLe φ (φ.put H.length ⟨b, 0, esz, cells.size, false⟩) ∧
    HR E (φ.put H.length ⟨b, 0, esz, cells.size, false⟩) ((killO H x) ++ [some ⟨rows, esz, ety, false⟩]) w' := by
  have hle := Phi.put_le (p := ⟨b, 0, esz, cells.size, false⟩) h.none_at
  refine ⟨hle, ?_⟩
  have hlen : (killO H x).length = H.length := by cases x <;> simp [killO]
  have hk : HR E φ (killO H x) w := by
    cases x
    · exact h
    · exact h.kill _
  have hsub : ∀ (o' : Nat) (ob' : Ob), (killO H x)[o']? = some (some ob') → H[o']? = some (some ob') ∧ x ≠ some o' := by
    intro o' ob' ho'
    cases x with
    | none => exact ⟨ho', by simp⟩
    | some y =>
      simp only [killO] at ho'
      rw [List.getElem?_set] at ho'
      split at ho'
      · split at ho' <;> simp at ho'
      · rename_i hne
        exact ⟨ho', fun e => hne (by simpa using e)⟩
  have hne : ∀ (o' : Nat) (ob' : Ob) (p' : Pl), (killO H x)[o']? = some (some ob') → φ o' = some p' → p'.b ≠ b := by
    intro o' ob' p' ho' hp'
    obtain ⟨h1, h2⟩ := hsub o' ob' ho'
    rcases hfree with hf | ⟨y, ob, p, rfl, hy, hpy, hro, rfl⟩
    · have := h.blk o' p' hp'
      omega
    · exact fun e => h.inj y o' ob ob' hy h1 p p' hpy hp' hro (fun e => h2 (by rw [e])) e.symm
  have hkeep : HR E φ (killO H x) w' := hk.keep hb (fun o' ob' p' ho' hp' => hblk p'.b (h.blk o' p' hp') (hne o' ob' p' ho' hp'))
  have hlt : b < w'.heap.size := by
    rcases Nat.lt_or_ge b w'.heap.size with e | e
    · exact e
    · rw [Array.getElem?_eq_none e] at hcell; cases hcell
  have := hkeep.add ⟨rows, esz, ety, false⟩ ⟨b, 0, esz, cells.size, false⟩ rfl (fun _ o' ob' p' ho' hp' => hne o' ob' p' ho' hp') (fun o' ob' p' ho' hp' _ => hne o' ob' p' ho' hp')
    ⟨rfl, rfl, cells, ety, (0, 0), hcell, fun _ => ⟨rfl, rfl, rfl, rfl, hB⟩, by
      rw [hlen]
      exact OB_flat (VRs.mono hle _ _ hv) hl h1 hc⟩ hlt
  rw [hlen] at this
  exact this

theorem setRow_below {w : World} {g : Nat} {cs : Array Value} {B : Nat} (hB : B ≤ g) : Below B w (w.setRow g cs) :=
  ⟨rfl, rfl, rfl, by simp [World.setRow], fun k hk => setRow_other w g k cs (by omega)⟩

theorem run_app0 {t ty e : TypeId} {i : TypeInfo} (ht : P.underlying t = some (.slice e)) (hi : P.info? e = some i) (w : World) (A : Option Addr) (n cap : Nat) (hn : n ≤ cap) (x : Value) (hx : x = .slice none 0 0 ∨ ∃ a c, x = .slice (some a) 0 c) :
    (Builtin.append_ #[t, t] ty #[.slice A n cap, x]).run P w = .ok (.slice A n cap) w := by
  rcases hx with rfl | ⟨a, c, rfl⟩
  · cases A <;> simp [Builtin.append_, run_underlying ht, sizeOf, typeInfo, hi, Builtin.lenOf, Builtin.firstCells, hn, storeCells]
  · have hf := run_firstCells_some (P := P) w i.size 0 a 0 c [] (by simp) (fun j v hv => by simp at hv)
    cases A <;> simp [Builtin.append_, run_underlying ht, sizeOf, typeInfo, hi, Builtin.lenOf, hf, hn, storeCells]

theorem k_app {t0 e ty : TypeId} {x y : Operand} {x' y' : Od} {i : TypeInfo} {z : Value} (ho : o.op = .call { callee := .builtin .append, args := #[x, y], argTypes := #[t0, t0] }) (hT0 : P.underlying t0 = some (.slice e))
    (hi : P.info? e = some i) (hz : i.zero = some z) (hzs : z.cells.size = i.size) (hs0 : 0 < i.size) (hb0 : 0 < i.bytes) (hx : cOd x = some x') (hy : cOd y = some y') : OpOK P E o (.app e i.size i.bytes x' y') := by
  intro t H v H' hs φ nn a w hT hH
  have h1 := hT.ev hx
  have h2 := hT.ev hy
  have hexec : ∀ u w', (Builtin.append_ #[t0, t0] o.type #[a.eval x, a.eval y]).run P w = .ok u w' → (execOp a.eval o).run P w = .ok (.value u) w' := by
    intro u w' h
    simp [execOp, ho, resolve, invoke, builtin, h]
  simp only [stepA] at hs
  split at hs
  · rename_i e2
    rw [e2] at h2
    have h2' : a.eval y = .slice none 0 0 := h2
    split at hs
    · rename_i e1
      rw [e1] at h1
      have h1' : a.eval x = .slice none 0 0 := h1
      cases hs
      refine pure_ok (u := .slice none 0 0) (hexec _ _ ?_) rfl hH
      rw [h1', h2']
      exact run_app0 hT0 hi w none 0 0 (Nat.le_refl _) _ (.inl rfl)
    · rename_i e1
      rw [e1] at h1
      obtain ⟨ad, h1'⟩ := h1
      cases hs
      refine pure_ok (u := .slice (some ad) 0 0) (hexec _ _ ?_) ⟨ad, rfl⟩ hH
      rw [h1', h2']
      exact run_app0 hT0 hi w (some ad) 0 0 (Nat.le_refl _) _ (.inl rfl)
    · rename_i oo k n e1
      rw [e1] at h1
      cases hs
      have h1c := h1
      obtain ⟨p, ad, c, hp, h1', hmc, hc⟩ := h1
      refine pure_ok (u := a.eval x) (hexec _ _ ?_) h1c hH
      rw [h1', h2']
      exact run_app0 hT0 hi w (some ad) n c hmc _ (.inl rfl)
    · cases hs
  · rename_i e2
    rw [e2] at h2
    obtain ⟨ad2, h2'⟩ := h2
    split at hs
    · rename_i e1
      rw [e1] at h1
      have h1' : a.eval x = .slice none 0 0 := h1
      cases hs
      refine pure_ok (u := .slice none 0 0) (hexec _ _ ?_) rfl hH
      rw [h1', h2']
      exact run_app0 hT0 hi w none 0 0 (Nat.le_refl _) _ (.inr ⟨_, _, rfl⟩)
    · rename_i e1
      rw [e1] at h1
      obtain ⟨ad, h1'⟩ := h1
      cases hs
      refine pure_ok (u := .slice (some ad) 0 0) (hexec _ _ ?_) ⟨ad, rfl⟩ hH
      rw [h1', h2']
      exact run_app0 hT0 hi w (some ad) 0 0 (Nat.le_refl _) _ (.inr ⟨_, _, rfl⟩)
    · rename_i oo k n e1
      rw [e1] at h1
      cases hs
      have h1c := h1
      obtain ⟨p, ad, c, hp, h1', hmc, hc⟩ := h1
      refine pure_ok (u := a.eval x) (hexec _ _ ?_) h1c hH
      rw [h1', h2']
      exact run_app0 hT0 hi w (some ad) n c hmc _ (.inr ⟨_, _, rfl⟩)
    · cases hs
  · rename_i o2 i2 m e2
    rw [e2] at h2
    obtain ⟨p2, a2, c2, hp2, h2', hmc2, hc2⟩ := h2
    simp only [Option.bind_eq_some_iff] at hs
    obtain ⟨ob2, hob2, hs⟩ := hs
    split at hs
    case isFalse => cases hs
    rename_i hcond
    obtain ⟨hes2, hmb, hlen2⟩ := hcond
    have hob2' := Hp.at_some hob2
    have hpe2 : p2.esz = i.size := by rw [(hH.obj _ _ hob2' p2 hp2).esz, hes2]
    obtain ⟨news, n1, n2, n3, n4, n5⟩ := hH.rowsCells hob2' hp2 i2 m hlen2
    rw [hpe2] at n2 n3 n5
    have hnews : ∀ (j : Nat) (u : Value), news[j]? = some u → w.cell? (a2.add j) = some u := by
      intro j u hu
      rcases hc2 with hc2 | ⟨rfl, _⟩
      · have : news.length = 0 := by rw [n2, show m = 0 by omega, Nat.zero_mul]
        have : news = [] := List.length_eq_zero_iff.1 this
        rw [this] at hu
        simp at hu
      · rw [hpe2]
        exact n3 j u hu
    have hnone := n1.oneCell n4
    split at hs
    · rename_i e1
      rw [e1] at h1
      have h1' : a.eval x = .slice none 0 0 := h1
      by_cases hm : m = 0
      · subst hm
        simp only [if_true, Option.some.injEq, Prod.mk.injEq] at hs
        obtain ⟨rfl, rfl⟩ := hs
        refine pure_ok (u := .slice none 0 0) (hexec _ _ ?_) rfl hH
        rw [h1', h2']
        exact run_app0 hT0 hi w none 0 0 (Nat.le_refl _) _ (.inr ⟨_, _, rfl⟩)
      · rw [if_neg hm] at hs
        cases hs
        have hm63 : (m : Int) ≤ 9223372036854775807 := by
          have : m ≤ m * i.bytes := Nat.le_mul_of_pos_right m hb0
          omega
        have hr := run_append_nil (P := P) w t0 o.type e i z hT0 hi hz a2 m c2 news n2 hnews (by omega) hm63 (by omega)
        have hcap := grownCap_ge w m 0 e
        have hcsz : (news.toArray ++ Builtin.zeroCells z.cells (grownCap w m 0 e - m)).size = grownCap w m 0 e * i.size := by
          rw [Array.size_append, List.size_toArray, size_zeroCells, hzs, n2, ← Nat.add_mul, Nat.add_sub_cancel' hcap]
        have hbel : Below E.B0 w (w.drew.alloc (.cells (news.toArray ++ Builtin.zeroCells z.cells (grownCap w m 0 e - m)) e)) := (Below.refl E.B0 w).drew.alloc hH.base _
        obtain ⟨g1, g2⟩ := hH.moved (w' := w.drew.alloc (.cells (news.toArray ++ Builtin.zeroCells z.cells (grownCap w m 0 e - m)) e)) none (rows := (ob2.rows.drop i2).take m) (esz := i.size) (ety := e) (b := w.heap.size) (xs := news) (cells := news.toArray ++ Builtin.zeroCells z.cells (grownCap w m 0 e - m)) hbel hH.base (heap_alloc_new w.drew _)
          (fun k hk _ => heap_alloc_old w.drew _ k hk) (.inl (Nat.le_refl _)) n1 n5 n4 (fun j v hv => by
            have hj := (List.getElem?_eq_some_iff.1 hv).1
            rw [Array.getElem?_append_left (by simpa using hj)]
            simpa using hv)
        refine ⟨_, _, _, .inl (hexec _ _ (by rw [h1', h2']; exact hr)), ⟨_, _, _, Phi.put_self, rfl, hcap, .inr ⟨by simp, .inr (by simp only [Nat.zero_add]; exact hcsz.symm)⟩⟩, g1, g2, hbel⟩
    · rename_i e1
      rw [e1] at h1
      obtain ⟨ad, h1'⟩ := h1
      by_cases hm : m = 0
      · subst hm
        simp only [if_true, Option.some.injEq, Prod.mk.injEq] at hs
        obtain ⟨rfl, rfl⟩ := hs
        refine pure_ok (u := .slice (some ad) 0 0) (hexec _ _ ?_) ⟨ad, rfl⟩ hH
        rw [h1', h2']
        exact run_app0 hT0 hi w (some ad) 0 0 (Nat.le_refl _) _ (.inr ⟨_, _, rfl⟩)
      · rw [if_neg hm] at hs
        cases hs
        have h63 : 0 + m ≤ maxLen := by
          have : m ≤ m * i.bytes := Nat.le_mul_of_pos_right m hb0
          simp only [maxLen]
          omega
        obtain ⟨v', w', hr, hown, hgr⟩ := run_append_arg_grows (P := P) (w := w) t0 o.type e i z i.size i.bytes hT0 hi hz rfl rfl hzs hs0 ad 0 0 [] (by simp) (fun j u hu => by simp at hu) a2 m c2 news n2 hnews (by omega) h63 (by rw [Nat.zero_add]; exact hmb)
        rcases hown.2 with ⟨_, h0⟩ | ⟨g, cap, cur, rfl, hbg, hgc, hnc, _, hcs, htake⟩
        · omega
        · have hbel : Below E.B0 w w' := (Below.refl E.B0 w).grown hgr hH.base (fun k hk => by cases hk)
          obtain ⟨g1, g2⟩ := hH.moved (w' := w') none (rows := (ob2.rows.drop i2).take m) (esz := i.size) (ety := e) (b := g) (xs := news) (cells := cur) hbel (Nat.le_trans hH.base hbg) hgc
            (fun k hk _ => hgr.block k hk (by simp)) (.inl hbg) n1 n5 n4 (fun j u hu => by
              rw [List.nil_append] at htake
              rw [← htake] at hu
              rw [List.getElem?_take] at hu
              split at hu
              · simpa using hu
              · cases hu)
          refine ⟨_, _, _, .inl (hexec _ _ (by rw [h1', h2']; exact hr)), ⟨_, _, _, Phi.put_self, by rw [Nat.zero_add], by omega, .inr ⟨by simp, .inr (by simp only [Nat.zero_add]; exact hcs.symm)⟩⟩, g1, g2, hbel⟩
    · rename_i oo n e1
      rw [e1] at h1
      obtain ⟨p, ad, c, hp, h1', hmc, hc⟩ := h1
      simp only [Option.bind_eq_some_iff] at hs
      obtain ⟨ob, hob, hs⟩ := hs
      split at hs
      case isFalse => cases hs
      rename_i hcond
      obtain ⟨hro, hes, hety, hbytes, hlen⟩ := hcond
      cases hs
      have hob' := Hp.at_some hob
      obtain ⟨q1, q2, cells, ee, fr, hblk, hrw, hrows⟩ := hH.obj _ _ hob' p hp
      obtain ⟨rfl, rfl, hsz, hbase, hB⟩ := hrw hro
      have hpe : p.esz = i.size := by rw [q2, hes]
      have hpro : p.ro = false := by rw [q1, hro]
      obtain ⟨olds, l1, l2, l3, l4, l5⟩ := hH.rowsCells hob' hp 0 n (by omega)
      rw [hpe] at l2 l3 l5
      rw [List.drop_zero] at l1 l4 l5
      simp only [hbase, Nat.zero_add, Nat.zero_mul] at l3
      have hv : VRs φ (ob.rows.take n ++ (ob2.rows.drop i2).take m).flatten (olds ++ news) := by rw [List.flatten_append]; exact l1.append n1
      have hl : ∀ r ∈ ob.rows.take n ++ (ob2.rows.drop i2).take m, r.length = i.size := fun r hr => (List.mem_append.1 hr).elim (l5 r) (n5 r)
      have hone : ∀ a ∈ (ob.rows.take n ++ (ob2.rows.drop i2).take m).flatten, one a = true := by
        rw [List.flatten_append]
        exact fun a ha => (List.mem_append.1 ha).elim (l4 a) (n4 a)
      have holen : (olds ++ news).length = (n + m) * i.size := by rw [List.length_append, l2, n2, Nat.add_mul]
      have hgetc : ∀ (j : Nat) (u : Value), olds[j]? = some u → cells[j]? = some u := by
        intro j u hu
        have := l3 j u hu
        rw [Addr_add] at this
        simpa [World.cell?, hblk] using this
      rcases Nat.lt_or_ge c (n + m) with hg | hroom
      · have holds : ∀ (j : Nat) (u : Value), olds[j]? = some u → w.cell? (ad.add j) = some u := by
          intro j u hu
          rcases hc with hc | ⟨rfl, _⟩
          · have : olds.length = 0 := by rw [l2, show n = 0 by omega, Nat.zero_mul]
            have : olds = [] := List.length_eq_zero_iff.1 this
            rw [this] at hu
            simp at hu
          · have := l3 j u hu
            simpa [hbase] using this
        have h63 : n + m ≤ maxLen := by
          have : n + m ≤ (n + m) * i.bytes := Nat.le_mul_of_pos_right _ hb0
          simp only [maxLen]
          omega
        obtain ⟨v', w', hr, hown, hgr⟩ := run_append_arg_grows (P := P) (w := w) t0 o.type e i z i.size i.bytes hT0 hi hz rfl rfl hzs hs0 ad n c olds l2 holds a2 m c2 news n2 hnews hg h63 hbytes
        have hpos : 0 < n + m := by omega
        rcases hown.2 with ⟨_, h0⟩ | ⟨g, cap, cur, rfl, hbg, hgc, hnc, _, hcs, htake⟩
        · omega
        · have hbel : Below E.B0 w w' := (Below.refl E.B0 w).grown hgr hH.base (fun k hk => by cases hk)
          obtain ⟨g1, g2⟩ := hH.moved (w' := w') (some oo) (rows := ob.rows.take n ++ (ob2.rows.drop i2).take m) (esz := i.size) (ety := e) (b := g) (xs := olds ++ news) (cells := cur) hbel (Nat.le_trans hH.base hbg) hgc
            (fun k hk _ => hgr.block k hk (by simp)) (.inl hbg) hv hl hone (fun j u hu => by
              rw [← htake] at hu
              rw [List.getElem?_take] at hu
              split at hu
              · simpa using hu
              · cases hu)
          exact ⟨_, _, _, .inl (hexec _ _ (by rw [h1', h2']; exact hr)), ⟨_, _, _, Phi.put_self, rfl, hnc, .inr ⟨by simp, .inr (by simp only [Nat.zero_add]; exact hcs.symm)⟩⟩, g1, g2, hbel⟩
      · by_cases hm : m = 0
        · subst hm
          have hr := run_app0 (ty := o.type) hT0 hi w (some ad) n c hmc (.slice (some a2) 0 c2) (.inr ⟨_, _, rfl⟩)
          have hbel : Below E.B0 w w := Below.refl _ _
          obtain ⟨g1, g2⟩ := hH.moved (w' := w) (some oo) (rows := ob.rows.take n ++ (ob2.rows.drop i2).take 0) (esz := i.size) (ety := ob.ety) (b := p.b) (xs := olds ++ news) (cells := cells) hbel hB hblk
            (fun k hk _ => rfl) (.inr ⟨oo, ob, p, rfl, hob', hp, hro, rfl⟩) hv hl hone (fun j u hu => by
              have : news = [] := List.length_eq_zero_iff.1 (by rw [n2, Nat.zero_mul])
              rw [this, List.append_nil] at hu
              exact hgetc j u hu)
          refine ⟨_, _, _, .inl (hexec _ _ (by rw [h1', h2']; exact hr)), ⟨_, _, _, Phi.put_self, rfl, hmc, ?_⟩, g1, by rw [← hety]; exact g2, hbel⟩
          rcases hc with hc | ⟨rfl, hc⟩
          · exact .inl hc
          · rcases hc with hc | hc
            · rw [hpro] at hc; cases hc
            · exact .inr ⟨by simp [hbase], .inr (by rw [← hsz, ← hc, hpe])⟩
        · rcases hc with hc | ⟨rfl, hc⟩
          · omega
          · rcases hc with hc | hc
            · rw [hpro] at hc; cases hc
            · have ead : (⟨p.b, p.base + 0 * p.esz, none⟩ : Addr) = ⟨p.b, 0, none⟩ := by simp [hbase]
              rw [Nat.zero_add, hpe] at hc
              have hnl : n * i.size + news.length ≤ cells.size := by
                rw [n2, ← Nat.add_mul, ← hsz, ← hc]
                exact Nat.mul_le_mul_right _ hroom
              have hr := run_append_room (P := P) w t0 o.type e i hT0 hi p.b n c cells (hety ▸ hblk) a2 m c2 news n2 hnews hnone hroom hnl
              have hbel : Below E.B0 w (w.setRow p.b (cells.toList.take (n * i.size) ++ news ++ cells.toList.drop (n * i.size + news.length)).toArray) := setRow_below hB
              have hcsz : (cells.toList.take (n * i.size) ++ news ++ cells.toList.drop (n * i.size + news.length)).toArray.size = cells.size := by
                simp only [List.size_toArray, List.length_append, List.length_take, List.length_drop, Array.length_toList]
                omega
              obtain ⟨g1, g2⟩ := hH.moved (some oo) (rows := ob.rows.take n ++ (ob2.rows.drop i2).take m) (esz := i.size) (ety := e) (b := p.b) (xs := olds ++ news) hbel hB (setRow_heap w p.b cells _ e (0, 0) (hety ▸ hblk))
                (fun k hk hne => setRow_other w p.b k _ hne) (.inr ⟨oo, ob, p, rfl, hob', hp, hro, rfl⟩) hv hl hone (fun j u hu => by
                  have hj := (List.getElem?_eq_some_iff.1 hu).1
                  rw [holen] at hj
                  have htl : (cells.toList.take (n * i.size)).length = n * i.size := by rw [List.length_take, Array.length_toList]; omega
                  simp only [List.getElem?_toArray]
                  rw [List.getElem?_append_left (by rw [List.length_append, htl, n2, ← Nat.add_mul]; exact hj)]
                  rcases Nat.lt_or_ge j olds.length with hjo | hjo
                  · rw [List.getElem?_append_left hjo] at hu
                    rw [List.getElem?_append_left (by omega), List.getElem?_take, if_pos (by omega)]
                    simpa using hgetc j u hu
                  · rw [List.getElem?_append_right hjo] at hu
                    rw [List.getElem?_append_right (by omega), htl, ← l2]
                    exact hu)
              refine ⟨_, _, _, .inl (hexec _ _ (by rw [h1', h2', ead]; exact hr)), ⟨_, _, _, Phi.put_self, rfl, hroom, .inr ⟨by simp, .inr ?_⟩⟩, g1, g2, hbel⟩
              show (0 + c) * i.size = _
              rw [hcsz, Nat.zero_add, hc, hsz]
    · cases hs
  · cases hs

theorem u8s_VRs {φ : Phi} : ∀ {rows : List (List AV)} {ns : List Int} {l : List Value}, u8s rows = some ns → VRs φ rows.flatten l → l = ns.map (Value.int .u8)
  | [], ns, l, h, hv => by
    simp only [u8s, Option.some.injEq] at h
    subst h
    exact hv
  | r :: rows, ns, l, h, hv => by
    unfold u8s at h
    split at h
    · rename_i e; cases e
    · rename_i z rs e
      cases e
      simp only [Option.map_eq_some_iff] at h
      obtain ⟨ns', h1, rfl⟩ := h
      obtain ⟨v, vs, rfl, h2, h3⟩ := hv
      rw [show v = _ from h2, u8s_VRs h1 h3]
      rfl
    · cases h

theorem k_cvs {S T e : TypeId} {x : Operand} {x' : Od} (ho : o.op = .convert S T x) (hS : P.underlying S = some (.slice e)) (he : P.underlying e = some (.int .u8)) (hTy : P.underlying T = some .string) (hx : cOd x = some x') : OpOK P E o (.cvs x') := by
  intro t H v H' hs φ nn a w hT hH
  have h1 := hT.ev hx
  simp only [stepA] at hs
  split at hs
  · rename_i oo i n e1
    rw [e1] at h1
    obtain ⟨p, ad, c, hp, h1', hmc, hc⟩ := h1
    simp only [Option.bind_eq_some_iff] at hs
    obtain ⟨ob, hob, hs⟩ := hs
    split at hs
    · rename_i hcond
      simp only [Option.map_eq_some_iff] at hs
      obtain ⟨ns, hns, hs⟩ := hs
      cases hs
      have hob' := Hp.at_some hob
      have hpe : p.esz = 1 := by rw [(hH.obj _ _ hob' p hp).esz, hcond.1]
      obtain ⟨l, l1, l2, l3, _, _⟩ := hH.rowsCells hob' hp i n hcond.2
      have hl := u8s_VRs hns l1
      have hcells : ∀ (j : Nat) (u : Value), l[j]? = some u → w.cell? (ad.add j) = some u := by
        intro j u hu
        rcases hc with hc | ⟨rfl, _⟩
        · have : l.length = 0 := by rw [l2, show n = 0 by omega, Nat.zero_mul]
          have : l = [] := List.length_eq_zero_iff.1 this
          rw [this] at hu
          simp at hu
        · exact l3 j u hu
      have hrun := run_loadCells_list (P := P) (w := w) ad l hcells
      rw [l2, hpe, Nat.mul_one, hl] at hrun
      have hb := run_bytesToString (P := P) w ad n c ns hrun
      refine pure_ok (u := .string (strOf ns)) ?_ rfl hH
      simp only [execOp, ho, h1']
      simp [run_convert_bytes_string w S T e (some ad) n c hS he hTy, hb, strOf]
    · cases hs
  · cases hs

end Go.Proofs.YtkdnijiipegabaaDoor.B
