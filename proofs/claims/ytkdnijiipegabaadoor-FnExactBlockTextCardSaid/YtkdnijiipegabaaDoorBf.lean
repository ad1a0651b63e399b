/- The program logic: the operations that read, make and write memory. -/
import Derived.Test.YtkdnijiipegabaaDoorBe
namespace Go.Proofs.YtkdnijiipegabaaDoor.B
open Go.RowKit
set_option linter.unusedVariables false
set_option linter.unusedSimpArgs false

variable {P : Program} {E : Env} {o : Oper}

def aggB : TypeDesc → Bool
  | .struct _ => true
  | .array _ _ => true
  | _ => false

theorem run_isAgg {T : TypeId} {d : TypeDesc} (h : P.underlying T = some d) (w : World) : (isAgg T).run P w = .ok (aggB d) w := by
  simp only [isAgg, Sem.run_bind, run_underlying h, Result.andThen_ok]
  cases d <;> rfl
theorem run_sizeOf {T : TypeId} {i : TypeInfo} (h : P.info? T = some i) (w : World) : (sizeOf T).run P w = .ok i.size w := by
  simp [sizeOf, typeInfo, h]

theorem Hp.at_some {H : Hp} {x : Nat} {ob : Ob} (h : H.at x = some ob) : H[x]? = some (some ob) := by
  simp only [Hp.at, Option.bind_eq_some_iff] at h
  obtain ⟨y, hy, e⟩ := h
  have : y = some ob := e
  rw [hy, this]

theorem k_fa {T : TypeId} {x : Operand} {x' : Od} {k : Nat} {fs : Array Field} {fd : Field} {i : TypeInfo} (ho : o.op = .fieldAddr T x k) (hT0 : P.underlying T = some (.struct fs)) (hf : fs[k]? = some fd) (hi : P.info? fd.type = some i) (hz : i.size ≠ 0) (hx : cOd x = some x') : OpOK P E o (.fa fd.offset x') := by
  intro t H v H' hs φ n a w hT hH
  have h1 := hT.ev hx
  simp only [stepA] at hs
  split at hs
  · rename_i oo j f e
    rw [e] at h1
    obtain ⟨p, hp, h1'⟩ := h1
    cases hs
    refine pure_ok (u := .pointer (some ⟨p.b, p.base + j * p.esz + (f + fd.offset), none⟩)) ?_ ⟨p, hp, rfl⟩ hH
    simp [execOp, ho, h1', Instr.fieldAt, Instr.sureAddr, run_underlying hT0, hf, fieldPlace, run_sizeOf hi, hz, Addr_add, Nat.add_assoc]
  · cases hs

theorem k_ld {T : TypeId} {x : Operand} {x' : Od} {d : TypeDesc} (ho : o.op = .load T x) (hT0 : P.underlying T = some d) (hd : aggB d = false) (hx : cOd x = some x') : OpOK P E o (.ld x') := by
  intro t H v H' hs φ n a w hT hH
  have h1 := hT.ev hx
  simp only [stepA] at hs
  split at hs
  · rename_i oo i f e
    rw [e] at h1
    obtain ⟨p, hp, h1'⟩ := h1
    simp only [Option.bind_eq_some_iff, Option.map_eq_some_iff] at hs
    obtain ⟨ob, hob, r, hr, v', hv', hs⟩ := hs
    cases hs
    obtain ⟨u, hu, hR, _⟩ := hH.cell (Hp.at_some hob) hp hr hv'
    refine pure_ok (u := u) ?_ hR hH
    simp [execOp, ho, h1', Instr.loadAt, Instr.sureAddr, loadVar, run_isAgg hT0, hd, hu]
  · cases hs

theorem HR.rowlen {φ : Phi} {H : Hp} {w : World} (h : HR E φ H w) {x : Nat} {ob : Ob} (ho : H[x]? = some (some ob)) {p : Pl} (hp : φ x = some p) {i : Nat} {row : List AV} (hr : ob.rows[i]? = some row) : row.length = p.esz := by
  obtain ⟨_, he, cells, e, fr, _, _, hc⟩ := h.obj x ob ho p hp
  rw [he]
  exact (hc i row hr).1

theorem HR.cells {φ : Phi} {H : Hp} {w : World} (h : HR E φ H w) {x : Nat} {ob : Ob} (ho : H[x]? = some (some ob)) {p : Pl} (hp : φ x = some p) {i : Nat} {row : List AV} (hr : ob.rows[i]? = some row) (f m : Nat) (hm : f + m ≤ row.length) :
    ∃ l : List Value, VRs φ ((row.drop f).take m) l ∧ l.length = m ∧ ∀ (j : Nat) (v : Value), l[j]? = some v → w.cell? ((⟨p.b, p.base + i * p.esz + f, none⟩ : Addr).add j) = some v := by
  induction m with
  | zero => exact ⟨[], by simp [VRs], rfl, fun j v hv => by simp at hv⟩
  | succ m ih =>
    obtain ⟨l, h1, h2, h3⟩ := ih (by omega)
    have hlt : f + m < row.length := by omega
    obtain ⟨u, hu, hR, _⟩ := h.cell ho hp hr (List.getElem?_eq_getElem hlt)
    refine ⟨l ++ [u], ?_, by simp [h2], fun j v hv => ?_⟩
    · have e : (row.drop f).take (m + 1) = (row.drop f).take m ++ [row[f + m]] := by
        rw [List.take_succ_eq_append_getElem (by simp; omega)]
        simp
      rw [e]
      exact h1.append ⟨u, [], rfl, hR, rfl⟩
    · rcases Nat.lt_or_ge j l.length with hj | hj
      · rw [List.getElem?_append_left hj] at hv
        exact h3 j v hv
      · rw [List.getElem?_append_right hj] at hv
        have ej : j = m := by
          rcases Nat.eq_or_lt_of_le hj with e | e
          · omega
          · rw [show j - l.length = (j - l.length - 1) + 1 by omega] at hv
            simp at hv
        subst ej
        have : u = v := by simpa [h2] using hv
        subst this
        rw [Addr_add, Nat.add_assoc]
        exact hu

theorem k_lda {T : TypeId} {x : Operand} {x' : Od} {d : TypeDesc} {i : TypeInfo} (ho : o.op = .load T x) (hT0 : P.underlying T = some d) (hd : aggB d = true) (hi : P.info? T = some i) (hx : cOd x = some x') : OpOK P E o (.lda i.size x') := by
  intro t H v H' hs φ n a w hT hH
  have h1 := hT.ev hx
  simp only [stepA] at hs
  split at hs
  · rename_i oo j f e
    rw [e] at h1
    obtain ⟨p, hp, h1'⟩ := h1
    simp only [Option.bind_eq_some_iff] at hs
    obtain ⟨ob, hob, r, hr, hs⟩ := hs
    split at hs
    · rename_i hle
      cases hs
      obtain ⟨l, hl, hl2, hl3⟩ := hH.cells (Hp.at_some hob) hp hr f i.size hle
      refine pure_ok (u := .agg l.toArray) ?_ ⟨l, rfl, hl⟩ hH
      have hrun := run_loadCells_list (P := P) (w := w) _ l hl3
      rw [hl2] at hrun
      simp [execOp, ho, h1', Instr.loadAt, Instr.sureAddr, loadVar, run_isAgg hT0, hd, run_sizeOf hi, hrun]
    · cases hs
  · cases hs

theorem cells1_one {x : AV} (h : cells1 x = true) (hx : ∀ cs, x ≠ .ag cs) : one x = true := by
  cases x <;> first | exact h | exact absurd rfl (hx _)

theorem cells_VR {φ : Phi} {x : AV} {v : Value} (h1 : cells1 x = true) (h : VR φ x v) : VRs φ x.cells v.cells.toList ∧ ∀ a ∈ x.cells, one a = true := by
  cases x
  case ag cs =>
    obtain ⟨l, rfl, hl⟩ := h
    exact ⟨by simpa [AV.cells, Value.cells] using hl, fun a ha => by simp only [cells1, List.all_eq_true] at h1; exact h1 a ha⟩
  case tu cs => simp [cells1, one] at h1
  case un => simp [cells1, one] at h1
  case any => simp [cells1, one] at h1
  all_goals
    have h1' := cells1_one h1 (fun cs e => by cases e)
    refine ⟨?_, fun a ha => by rw [List.mem_singleton.1 ha]; exact h1'⟩
    have hone := one_cell h1' h
    refine ⟨v, [], ?_, h, rfl⟩
    cases v <;> simp [Value.oneCell'] at hone <;> rfl

theorem k_st {T : TypeId} {x y : Operand} {x' y' : Od} {i : TypeInfo} (ho : o.op = .store T x y) (hi : P.info? T = some i) (hx : cOd x = some x') (hy : cOd y = some y') : OpOK P E o (.st i.size x' y') := by
  intro t H v H' hs φ n a w hT hH
  have h1 := hT.ev hx
  have h2 := hT.ev hy
  simp only [stepA] at hs
  split at hs
  · rename_i oo j f e
    rw [e] at h1
    obtain ⟨p, hp, h1'⟩ := h1
    simp only [Option.bind_eq_some_iff] at hs
    obtain ⟨ob, hob, r, hr, hs⟩ := hs
    split at hs
    · rename_i hc
      obtain ⟨hro, hlen, hle, hc1⟩ := hc
      cases hs
      obtain ⟨hv, hone⟩ := cells_VR hc1 h2
      obtain ⟨w', hrun, hb, hH'⟩ := HR.setN (P := P) _ _ 0 hH (Hp.at_some hob) hro hp hr (f := f) (by omega) hone hv
      refine ⟨φ, undef, w', .inr ⟨?_, rfl⟩, rfl, PLe.refl _, hH', hb⟩
      have hsz : (a.eval y).cells.size = i.size := by
        have := hv.length
        rw [Array.length_toList] at this
        omega
      simp [execOp, ho, h1', Instr.storeAt, Instr.sureAddr, storeVar, run_sizeOf hi, hsz, hrun]
    · cases hs
  · cases hs

/-- A new block: what is made of it. -/
theorem new_ok {φ : Phi} {H : Hp} {w : World} (hH : HR E φ H w) {rows : List (List AV)} {esz ety : Nat} {cells : List Value} (hv : VRs φ rows.flatten cells) (hl : ∀ r ∈ rows, r.length = esz) (h1 : ∀ a ∈ rows.flatten, one a = true) :
    PLe φ (φ.put H.length ⟨w.heap.size, 0, esz, cells.length, false⟩) ∧ HR E (φ.put H.length ⟨w.heap.size, 0, esz, cells.length, false⟩) (H ++ [some ⟨rows, esz, ety, false⟩]) (w.alloc (.cells cells.toArray ety)) ∧
    Below E.B0 w (w.alloc (.cells cells.toArray ety)) ∧ (φ.put H.length ⟨w.heap.size, 0, esz, cells.length, false⟩) H.length = some ⟨w.heap.size, 0, esz, cells.length, false⟩ :=
  ⟨Phi.put_le hH.none_at, hH.new rows esz ety cells hv hl h1, (Below.refl _ _).alloc hH.base _, by simp [Phi.put]⟩

theorem k_alloc {T : TypeId} {i : TypeInfo} {z : Value} {zs : List AV} (ho : o.op = .alloc T) (hi : P.info? T = some i) (hz : i.zero = some z) (hzs : z.cells.toList.mapM cVal = some zs) : OpOK P E o (.alloc T zs) := by
  intro t H v H' hs φ n a w hT hH
  simp only [stepA, Option.some.injEq, Prod.mk.injEq] at hs
  obtain ⟨rfl, rfl⟩ := hs
  have key : ∀ (l : List Value) (l' : List AV), l.mapM cVal = some l' → VRs φ l' l ∧ ∀ x ∈ l', one x = true := by
    intro l
    induction l with
    | nil => intro l' h; simp at h; subst h; exact ⟨rfl, by simp⟩
    | cons y l ih =>
      intro l' h
      simp only [List.mapM_cons, Option.bind_eq_bind, Option.pure_def, Option.bind_eq_some_iff, Option.some.injEq] at h
      obtain ⟨y', hy, r, hr, rfl⟩ := h
      obtain ⟨i1, i2⟩ := ih r hr
      refine ⟨⟨_, _, rfl, cVal_sound hy φ, i1⟩, fun x hx => ?_⟩
      rcases List.mem_cons.1 hx with rfl | hx
      · unfold cVal at hy
        split at hy <;> first | (cases hy; rfl) | cases hy
      · exact i2 x hx
  obtain ⟨k1, k2⟩ := key _ _ hzs
  obtain ⟨g1, g2, g3, g4⟩ := new_ok hH (rows := [zs]) (esz := zs.length) (ety := T) (cells := z.cells.toList) (by simpa using k1) (by simp) (by simpa using k2)
  refine ⟨_, .pointer (some ⟨w.heap.size, 0, none⟩), _, .inl ?_, ⟨_, g4, by simp⟩, g1, g2, g3⟩
  simp [execOp, ho, Instr.alloc, zeroValue, typeInfo, hi, hz, newVar, newRow]

theorem k_box {T : TypeId} {x : Operand} {x' : Od} {esz : Nat} (ho : o.op = .box T x) (hx : cOd x = some x') : OpOK P E o (.box T esz x') := by
  intro t H v H' hs φ n a w hT hH
  have h1 := hT.ev hx
  simp only [stepA] at hs
  split at hs
  · rename_i hc
    cases hs
    obtain ⟨hv, hone⟩ := cells_VR hc.2 h1
    obtain ⟨g1, g2, g3, g4⟩ := new_ok hH (rows := [(x'.ev t).cells]) (esz := esz) (ety := T) (cells := (a.eval x).cells.toList) (by simpa using hv) (by simpa using hc.1) (by simpa using hone)
    refine ⟨_, .pointer (some ⟨w.heap.size, 0, none⟩), _, .inl ?_, ⟨_, g4, by simp⟩, g1, g2, g3⟩
    simp [execOp, ho, Instr.box, newVar, newRow]
  · cases hs

theorem k_fd {T : TypeId} {x : Operand} {x' : Od} {k : Nat} {fs : Array Field} {fd : Field} {d : TypeDesc} (ho : o.op = .field T x k) (hT0 : P.underlying T = some (.struct fs)) (hf : fs[k]? = some fd) (hd : P.underlying fd.type = some d) (hagg : aggB d = false) (hx : cOd x = some x') : OpOK P E o (.fd fd.offset 0 x') := by
  intro t H v H' hs φ n a w hT hH
  have h1 := hT.ev hx
  simp only [stepA] at hs
  split at hs
  · rename_i cs e
    rw [e] at h1
    obtain ⟨l, h1', hl⟩ := h1
    simp only [if_true, Option.map_eq_some_iff] at hs
    obtain ⟨v', hv', hs⟩ := hs
    cases hs
    obtain ⟨u, hu, hr⟩ := hl.get _ _ hv'
    refine pure_ok (u := u) ?_ hr hH
    simp [execOp, ho, h1', Instr.field, run_underlying hT0, hf, asAgg, part, run_isAgg hd, hagg, hu]
  · cases hs

theorem k_ia {T e0 : TypeId} {x y : Operand} {x' y' : Od} {i : TypeInfo} (ho : o.op = .indexAddr T x y) (hT0 : P.underlying T = some (.slice e0)) (hi : P.info? e0 = some i) (hx : cOd x = some x') (hy : cOd y = some y') : OpOK P E o (.ia i.size x' y') := by
  intro t H v H' hs φ n a w hT hH
  have h1 := hT.ev hx
  have h2 := hT.ev hy
  simp only [stepA] at hs
  split at hs
  · rename_i oo k m kk j e1 e2
    rw [e1] at h1
    rw [e2] at h2
    obtain ⟨p, ad, c, hp, h1', hmc, hc⟩ := h1
    have h2' : a.eval y = .int kk j := h2
    simp only [Option.bind_eq_some_iff] at hs
    obtain ⟨ob, hob, hs⟩ := hs
    split at hs
    · rename_i hb
      cases hs
      have hes : p.esz = i.size := by rw [(hH.obj _ _ (Hp.at_some hob) p hp).esz, hb.1]
      rcases hc with rfl | ⟨rfl, _⟩
      · omega
      · refine pure_ok (u := .pointer (some ⟨p.b, p.base + (k + j.toNat) * p.esz + 0, none⟩)) ?_ ⟨p, hp, rfl⟩ hH
        simp [execOp, ho, h1', h2', Instr.indexAt, asIntOf, run_underlying hT0, hb.2.1, hb.2.2, run_sizeOf hi, Addr_add, ← hes, Nat.add_mul, Nat.add_assoc]
    · cases hs
  · cases hs

theorem sliced_ok {φ : Phi} {p : Pl} {oo k m c l h : Nat} {ad : Addr} (hp : φ oo = some p) (hmc : m ≤ c) (hc : c = 0 ∨ (ad = ⟨p.b, p.base + k * p.esz, none⟩ ∧ (p.ro = true ∨ (k + c) * p.esz = p.sz))) (hl : l ≤ h) (hh : h ≤ m) :
    VR φ (.sl oo (k + l) (h - l)) (sliced (some ad) l h c p.esz) := by
  unfold sliced
  refine ⟨p, if c = l then ad else ad.add (l * p.esz), c - l, hp, ?_, by omega, ?_⟩
  · split <;> simp_all
  · rcases hc with rfl | ⟨rfl, hs⟩
    · exact .inl (by omega)
    · by_cases e : c = l
      · exact .inl (by omega)
      · refine .inr ⟨?_, ?_⟩
        · rw [if_neg e, Addr_add, Nat.add_mul, Nat.add_assoc]
        · rcases hs with hs | hs
          · exact .inl hs
          · exact .inr (by rw [show k + l + (c - l) = k + c by omega]; exact hs)

theorem k_cut {T e0 : TypeId} {x : Operand} {x' : Od} {lo hi : Option Operand} {lo' hi' : Option Od} {i : TypeInfo} (ho : o.op = .slice T x lo hi none) (hT0 : P.underlying T = some (.slice e0)) (hi0 : P.info? e0 = some i) (hx : cOd x = some x')
    (hlo : cOO lo = some lo') (hhi : cOO hi = some hi') : OpOK P E o (.cut i.size x' lo' hi') := by
  intro t H v H' hs φ n a w hT hH
  have h1 := hT.ev hx
  have hel : P.elem T = e0 := by simp [Program.elem, hT0]
  have hu : P.underlying T = some (.slice (P.elem T)) := by rw [hel]; exact hT0
  have hsz : ∀ w, (sizeOf (P.elem T)).run P w = .ok i.size w := by rw [hel]; exact run_sizeOf hi0
  simp only [stepA] at hs
  split at hs
  · rename_i oo k m e
    rw [e] at h1
    obtain ⟨p, ad, c, hp, h1', hmc, hc⟩ := h1
    simp only [Option.bind_eq_some_iff] at hs
    obtain ⟨ob, hob, hs⟩ := hs
    split at hs
    · rename_i hes0
      simp only [Option.bind_eq_some_iff] at hs
      obtain ⟨l, hl, h, hh, hs⟩ := hs
      split at hs
      · rename_i hb
        cases hs
        have hes : p.esz = i.size := by rw [(hH.obj _ _ (Hp.at_some hob) p hp).esz, hes0]
        refine pure_ok (u := sliced (some ad) l.toNat h.toNat c i.size) ?_ (by rw [← hes]; exact sliced_ok hp hmc hc (by omega) (by omega)) hH
        rcases optI_ok hT hlo hl with ⟨rfl, rfl⟩ | ⟨xl, kl, rfl, el⟩ <;> rcases optI_ok hT hhi hh with ⟨rfl, rfl⟩ | ⟨xh, kh, rfl, eh2⟩
        · simp [execOp, ho, h1', run_sliceAt_slice w T _ _ _ _ hu, run_slice_all w T (some ad) m c hu, hsz]
        · simp [execOp, ho, h1', run_sliceAt_slice w T _ _ _ _ hu, run_slice_h w T (some ad) m c hu kh h (by omega) (by omega), hsz, eh2]
        · simp [execOp, ho, h1', run_sliceAt_slice w T _ _ _ _ hu, run_slice_l w T (some ad) m c hu kl l (by omega) (by omega), hsz, el]
        · simp [execOp, ho, h1', run_sliceAt_slice w T _ _ _ _ hu, run_slice_lh w T (some ad) m c hu kl kh l h (by omega) (by omega) (by omega), hsz, el, eh2]
      · cases hs
    · cases hs
  · rename_i e
    rw [e] at h1
    have h1' : a.eval x = .slice none 0 0 := h1
    simp only [Option.bind_eq_some_iff] at hs
    obtain ⟨l, hl, h, hh, hs⟩ := hs
    split at hs
    · rename_i hb
      obtain ⟨rfl, rfl⟩ := hb
      cases hs
      refine pure_ok (u := .slice none 0 0) ?_ rfl hH
      rcases optI_ok hT hlo hl with ⟨rfl, _⟩ | ⟨xl, kl, rfl, el⟩ <;> rcases optI_ok hT hhi hh with ⟨rfl, _⟩ | ⟨xh, kh, rfl, eh2⟩
      · simp [execOp, ho, h1', run_sliceAt_slice w T _ _ _ _ hu, run_slice_all w T none 0 0 hu, hsz, sliced]
      · simp [execOp, ho, h1', run_sliceAt_slice w T _ _ _ _ hu, run_slice_h w T none 0 0 hu kh 0 (by omega) (by omega), hsz, sliced, eh2]
      · simp [execOp, ho, h1', run_sliceAt_slice w T _ _ _ _ hu, run_slice_l w T none 0 0 hu kl 0 (by omega) (by omega), hsz, sliced, el]
      · simp [execOp, ho, h1', run_sliceAt_slice w T _ _ _ _ hu, run_slice_lh w T none 0 0 hu kl kh 0 0 (by omega) (by omega) (by omega), hsz, sliced, el, eh2]
    · cases hs
  · rename_i e
    rw [e] at h1
    obtain ⟨ad, h1'⟩ := h1
    simp only [Option.bind_eq_some_iff] at hs
    obtain ⟨l, hl, h, hh, hs⟩ := hs
    split at hs
    · rename_i hb
      obtain ⟨rfl, rfl⟩ := hb
      cases hs
      refine pure_ok (u := .slice (some ad) 0 0) ?_ ⟨ad, rfl⟩ hH
      rcases optI_ok hT hlo hl with ⟨rfl, _⟩ | ⟨xl, kl, rfl, el⟩ <;> rcases optI_ok hT hhi hh with ⟨rfl, _⟩ | ⟨xh, kh, rfl, eh2⟩
      · simp [execOp, ho, h1', run_sliceAt_slice w T _ _ _ _ hu, run_slice_all w T (some ad) 0 0 hu, hsz, sliced]
      · simp [execOp, ho, h1', run_sliceAt_slice w T _ _ _ _ hu, run_slice_h w T (some ad) 0 0 hu kh 0 (by omega) (by omega), hsz, sliced, eh2]
      · simp [execOp, ho, h1', run_sliceAt_slice w T _ _ _ _ hu, run_slice_l w T (some ad) 0 0 hu kl 0 (by omega) (by omega), hsz, sliced, el]
      · simp [execOp, ho, h1', run_sliceAt_slice w T _ _ _ _ hu, run_slice_lh w T (some ad) 0 0 hu kl kh 0 0 (by omega) (by omega) (by omega), hsz, sliced, el, eh2]
    · cases hs
  · cases hs

end Go.Proofs.YtkdnijiipegabaaDoor.B
