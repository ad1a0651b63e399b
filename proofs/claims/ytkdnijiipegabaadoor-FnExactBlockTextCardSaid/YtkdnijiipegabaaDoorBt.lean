/- The program logic: the arguments of a law, as objects that are read alone. -/
import Derived.Test.YtkdnijiipegabaaDoorBs
import Derived.SizedLaws
import Derived.ChangeArms
import Derived.WideShapes
namespace Go.Proofs.YtkdnijiipegabaaDoor.B
open Go.RowKit
set_option linter.unusedVariables false
set_option linter.unusedSimpArgs false

/-- The shape of a cell. -/
inductive Sh where
  | ki (k : IntKind)
  | kb
  | ks
  | kl (e : List Sh)

mutual
def Ty (H : Hp) : Sh → AV → Prop
  | .ki k, v => ∃ n, v = .int k n ∧ (Lit.int k n).wf = true
  | .kb, v => ∃ q, v = .bool q
  | .ks, v => ∃ s, v = .str s ∧ s.size ≤ reachBytes
  | .kl e, v => ∃ rows, Rows e.length H v rows ∧ rows.length ≤ reachBytes ∧ ∀ r ∈ rows, Tys H e r
def Tys (H : Hp) : List Sh → List AV → Prop
  | [], vs => vs = []
  | s :: ss, vs => ∃ v us, vs = v :: us ∧ Ty H s v ∧ Tys H ss us
end

mutual
theorem Ty.le {H H' : Hp} (hle : HLe H H') : ∀ (s : Sh) (v : AV), Ty H s v → Ty H' s v
  | .ki k, v, h => h
  | .kb, v, h => h
  | .ks, v, h => h
  | .kl e, v, h => by
    obtain ⟨rows, h1, h2, h3⟩ := h
    exact ⟨rows, h1.le hle, h2, fun r hr => Tys.le hle e r (h3 r hr)⟩
theorem Tys.le {H H' : Hp} (hle : HLe H H') : ∀ (s : List Sh) (v : List AV), Tys H s v → Tys H' s v
  | [], v, h => h
  | s :: ss, v, h => by
    obtain ⟨v, us, h1, h2, h3⟩ := h
    exact ⟨v, us, h1, Ty.le hle s v h2, Tys.le hle ss us h3⟩
end
theorem Tys.length {H : Hp} : ∀ {s : List Sh} {v : List AV}, Tys H s v → v.length = s.length
  | [], _, h => by rw [show _ = _ from h]; rfl
  | _ :: _, _, ⟨_, _, h1, _, h3⟩ => by rw [h1, List.length_cons, Tys.length h3, List.length_cons]
theorem Tys.append {H : Hp} : ∀ {s s2 : List Sh} {v v2 : List AV}, Tys H s v → Tys H s2 v2 → Tys H (s ++ s2) (v ++ v2)
  | [], _, _, _, h, k => by rw [show _ = ([] : List AV) from h]; exact k
  | _ :: _, _, _, _, ⟨v, vs, h1, h2, h3⟩, k => by
    subst h1
    exact ⟨v, vs ++ _, rfl, h2, Tys.append h3 k⟩
theorem Ty.one {H : Hp} : ∀ {s : Sh} {v : AV}, Ty H s v → one v = true
  | .ki _, _, ⟨_, h, _⟩ => by rw [h]; rfl
  | .kb, _, ⟨_, h⟩ => by rw [h]; rfl
  | .ks, _, ⟨_, h, _⟩ => by rw [h]; rfl
  | .kl _, _, ⟨_, h, _⟩ => by rcases h with ⟨h, _⟩ | ⟨h, _⟩ | ⟨_, _, _, h, _⟩ <;> rw [h] <;> rfl
theorem Tys.ones {H : Hp} : ∀ {s : List Sh} {v : List AV}, Tys H s v → ∀ a ∈ v, B.one a = true
  | [], _, h, a, ha => by rw [show _ = _ from h] at ha; simp at ha
  | _ :: _, _, ⟨v, us, h1, h2, h3⟩, a, ha => by
    subst h1
    rcases List.mem_cons.1 ha with rfl | ha
    · exact Ty.one h2
    · exact Tys.ones h3 a ha

def shF (P : Program) (g : TypeId → Option (List Sh)) : List Field → Nat → Option (List Sh)
  | [], _ => some []
  | f :: fs, off => if f.offset = off then (g f.type).bind fun l => if P.cellsOf f.type = l.length then (shF P g fs (off + l.length)).map (l ++ ·) else none else none
/-- The shapes of a type's cells. -/
def shT (P : Program) : Nat → TypeId → Option (List Sh)
  | 0, _ => none
  | n + 1, t => match P.underlying t with
    | some .bool => some [.kb]
    | some (.int k) => some [.ki k]
    | some .string => some [.ks]
    | some (.slice e) => (shT P n e).bind fun l => if P.cellsOf e = l.length ∧ 0 < l.length ∧ 0 < P.bytesOf e then some [.kl l] else none
    | some (.struct fs) => (shF P (shT P n) fs.toList 0).bind fun l => if P.cellsOf t = l.length then some l else none
    | _ => none

section
variable {HH : Type} {enc : TypeId × Value → HH} {P : Program} {w : World} {E : Env}

def AllRo (H : Hp) : Prop := ∀ (o : Nat) (ob : Ob), H[o]? = some (some ob) → ob.ro = true
theorem AllRo.app {H : Hp} (h : AllRo H) {ob : Ob} (hr : ob.ro = true) : AllRo (H ++ [some ob]) := by
  intro o ob' ho
  rcases Nat.lt_or_ge o H.length with hl | hl
  · rw [List.getElem?_append_left hl] at ho
    exact h o ob' ho
  · rw [List.getElem?_append_right hl] at ho
    cases hk : o - H.length with
    | zero =>
      rw [hk] at ho
      have : ob = ob' := by simpa using ho
      rw [← this]
      exact hr
    | succ k => rw [hk] at ho; simp at ho

/-- What is read is in memory, abstractly. -/
def Got (P : Program) (E : Env) (w : World) (φ : Phi) (H : Hp) (sh : List Sh) (cs : List Value) : Prop :=
  ∃ φ' K avs, PLe φ φ' ∧ HR E φ' (H ++ K) w ∧ AllRo (H ++ K) ∧ VRs φ' avs cs ∧ Tys (H ++ K) sh avs

theorem mapM_get {α β : Type} {f : α → Option β} : ∀ {l : List α} {r : List β}, l.mapM f = some r → r.length = l.length ∧ ∀ (i : Nat) (a : α), l[i]? = some a → f a = r[i]?
  | [], r, h => by
    simp at h
    subst h
    simp
  | a :: l, r, h => by
    simp only [List.mapM_cons, Option.bind_eq_bind, Option.pure_def, Option.bind_eq_some_iff, Option.some.injEq] at h
    obtain ⟨b, hb, rs, hrs, rfl⟩ := h
    obtain ⟨h1, h2⟩ := mapM_get hrs
    refine ⟨by simp [h1], fun i x hx => ?_⟩
    cases i with
    | zero =>
      have : a = x := by simpa using hx
      subst this
      simpa using hb
    | succ i => simpa using h2 i x (by simpa using hx)

theorem cells_get {a : Addr} {n : Nat} {cs : List Value} {base : Nat} (h : w.cells? base a n = some cs) : cs.length = n ∧ ∀ i, i < n → w.cell? (a.add i) = cs[i]? := by
  unfold World.cells? at h
  split at h
  · obtain ⟨h1, h2⟩ := mapM_get h
    exact ⟨by simpa using h1, fun i hi => h2 i i (by simp [hi])⟩
  · cases h

/-- Rows one behind the other. -/
theorem got_rows {c : Nat} {sh : List Sh} {cs : Nat → List Value} {m : Nat} (each : ∀ i, i < m → ∀ φ H, HR E φ H w → AllRo H → Got P E w φ H sh (cs i)) :
    ∀ φ H, HR E φ H w → AllRo H → ∃ φ' K, ∃ rows : List (List AV), PLe φ φ' ∧ HR E φ' (H ++ K) w ∧ AllRo (H ++ K) ∧ rows.length = m ∧ ∀ (i : Nat) (r : List AV), rows[i]? = some r → VRs φ' r (cs i) ∧ Tys (H ++ K) sh r := by
  induction m with
  | zero =>
    intro φ H hH hro
    exact ⟨φ, [], [], PLe.refl _, by simpa using hH, by simpa using hro, rfl, by simp⟩
  | succ m ih =>
    intro φ H hH hro
    obtain ⟨φ1, K1, rows, p1, h1, r1, l1, g1⟩ := ih (fun i hi => each i (by omega)) φ H hH hro
    obtain ⟨φ2, K2, avs, p2, h2, r2, v2, t2⟩ := each m (by omega) φ1 (H ++ K1) h1 r1
    refine ⟨φ2, K1 ++ K2, rows ++ [avs], p1.trans p2, by rw [← List.append_assoc]; exact h2, by rw [← List.append_assoc]; exact r2, by simp [l1], fun i r hr => ?_⟩
    rw [← List.append_assoc]
    rcases Nat.lt_or_ge i rows.length with hl | hl
    · rw [List.getElem?_append_left hl] at hr
      obtain ⟨a1, a2⟩ := g1 i r hr
      exact ⟨VRs.mono p2 _ _ a1, Tys.le (HLe.self _ _) _ _ a2⟩
    · rw [List.getElem?_append_right hl] at hr
      cases hk : i - rows.length with
      | zero =>
        rw [hk] at hr
        have : avs = r := by simpa using hr
        subst this
        have : i = m := by omega
        subst this
        exact ⟨v2, t2⟩
      | succ k => rw [hk] at hr; simp at hr

theorem add_spot {a : Addr} {k : Nat} {v : Value} (h : w.cell? (a.add k) = some v) (h0 : k = 0 → True) : ∃ cells e fr, w.heap[a.block]? = some (.cells cells e fr) ∧ cells[a.off + k]? = some v ∧ (k = 0 → a.spot = none) := by
  unfold World.cell? at h
  have hb : (a.add k).block = a.block := by unfold Addr.add; split <;> rfl
  have ho : (a.add k).off = a.off + k := by unfold Addr.add; split <;> simp_all
  rw [hb] at h
  split at h
  · rename_i c e fr hc
    split at h
    · cases h
    · rename_i hs
      rw [ho] at h
      refine ⟨c, e, fr, hc, h, fun hk => ?_⟩
      subst hk
      simpa [Addr.add] using hs
  · cases h

theorem got_fields {n : Nat} {g : TypeId → Option (List Sh)} {W : TypeId → DataW HH → Prop} {cs : List Value}
    (each : ∀ t sh, g t = some sh → ∀ cs x, DataW.trod enc P w 0 (fun _ => true) true n t cs = some x → W t x.1 → ∀ φ H, HR E φ H w → AllRo H → Got P E w φ H sh cs) :
    ∀ (fs : List Field) (off : Nat) (sh : List Sh) (xs : List (DataW HH × List MemPlace)), shF P g fs off = some sh → xs.length = fs.length → cs.length = off + sh.length →
      (∀ (i : Nat) (f : Field), fs[i]? = some f → DataW.trod enc P w 0 (fun _ => true) true n f.type ((cs.drop f.offset).take (P.cellsOf f.type)) = xs[i]?) →
      (∀ (i : Nat) (f : Field) x, fs[i]? = some f → xs[i]? = some x → W f.type x.1) → ∀ φ H, HR E φ H w → AllRo H → Got P E w φ H sh (cs.drop off)
  | [], off, sh, xs, hs, hl, hc, hx, hw, φ, H, hH, hro => by
    simp only [shF, Option.some.injEq] at hs
    subst hs
    simp at hc
    refine ⟨φ, [], [], PLe.refl _, by simpa using hH, by simpa using hro, ?_, rfl⟩
    rw [List.drop_of_length_le (by omega)]
    rfl
  | f :: fs, off, sh, xs, hs, hl, hc, hx, hw, φ, H, hH, hro => by
    simp only [shF] at hs
    split at hs
    · rename_i ho
      simp only [Option.bind_eq_some_iff] at hs
      obtain ⟨l, hl1, hs⟩ := hs
      split at hs
      · rename_i hcl
        simp only [Option.map_eq_some_iff] at hs
        obtain ⟨l2, hl2, rfl⟩ := hs
        cases xs with
        | nil => simp at hl
        | cons x xs =>
          have h0 := hx 0 f rfl
          simp only [List.getElem?_cons_zero] at h0
          rw [ho, hcl] at h0
          obtain ⟨φ1, K1, avs, p1, h1, r1, v1, t1⟩ := each f.type l hl1 _ _ h0 (hw 0 f x rfl rfl) φ H hH hro
          simp only [List.length_append] at hc
          obtain ⟨φ2, K2, bs, p2, h2, r2, v2, t2⟩ := got_fields each fs (off + l.length) l2 xs hl2 (by simpa using hl) (by rw [hc, Nat.add_assoc]) (fun i f' hf => by simpa using hx (i + 1) f' (by simpa using hf)) (fun i f' x' hf hx' => hw (i + 1) f' x' (by simpa using hf) (by simpa using hx')) φ1 (H ++ K1) h1 r1
          refine ⟨φ2, K1 ++ K2, avs ++ bs, p1.trans p2, by rw [← List.append_assoc]; exact h2, by rw [← List.append_assoc]; exact r2, ?_, ?_⟩
          · have e : cs.drop off = (cs.drop off).take l.length ++ cs.drop (off + l.length) := by
              rw [← List.drop_drop, List.take_append_drop]
            rw [e]
            exact (VRs.mono p2 _ _ v1).append v2
          · rw [← List.append_assoc]
            exact (Tys.le (HLe.self _ _) _ _ t1).append t2
      · cases hs
    · cases hs

theorem weights_all_mem {e : TypeId} : ∀ {ds : List (DataW HH)} {d : DataW HH}, d ∈ ds → ∀ n ∈ d.weights P e, n ∈ DataW.weightsAll P e ds
  | d0 :: ds, d, hd, n, hn => by
    simp only [DataW.weightsAll, List.mem_append]
    rcases List.mem_cons.1 hd with rfl | hd
    · exact .inl hn
    · exact .inr (weights_all_mem hd n hn)
  | [], _, hd, _, _ => by simp at hd

theorem got : ∀ (k : Nat) (t : TypeId) (sh : List Sh), shT P k t = some sh → ∀ (n : Nat) (cs : List Value) (x : DataW HH × List MemPlace), DataW.trod enc P w 0 (fun _ => true) true n t cs = some x →
    (∀ m ∈ x.1.weights P t, m ≤ reachBytes) → ∀ φ H, HR E φ H w → AllRo H → Got P E w φ H sh cs
  | 0, t, sh, hs, n, cs, x, hx, hw, φ, H, hH, hro => by cases hs
  | k + 1, t, sh, hs, n, cs, x, hx, hw, φ, H, hH, hro => by
    simp only [shT] at hs
    split at hs
    · rename_i hu
      cases hs
      obtain ⟨b, rfl, _⟩ := DataW.trod_bool hu hx
      exact ⟨φ, [], [.bool b], PLe.refl _, by simpa using hH, by simpa using hro, ⟨_, _, rfl, rfl, rfl⟩, ⟨_, _, rfl, ⟨b, rfl⟩, rfl⟩⟩
    · rename_i q hu
      cases hs
      obtain ⟨m, rfl, _, hwf⟩ := DataW.trod_int hu hx
      exact ⟨φ, [], [.int q m], PLe.refl _, by simpa using hH, by simpa using hro, ⟨_, _, rfl, rfl, rfl⟩, ⟨_, _, rfl, ⟨m, rfl, hwf⟩, rfl⟩⟩
    · rename_i hu
      cases hs
      obtain ⟨s, rfl, rfl, hsz⟩ := DataW.trod_string hu hx
      have : s.size ≤ reachBytes := hw s.size (by simp [DataW.weights])
      exact ⟨φ, [], [.str s], PLe.refl _, by simpa using hH, by simpa using hro, ⟨_, _, rfl, rfl, rfl⟩, ⟨_, _, rfl, ⟨s, rfl, this⟩, rfl⟩⟩
    · rename_i e hu
      simp only [Option.bind_eq_some_iff] at hs
      obtain ⟨l, hl, hs⟩ := hs
      split at hs
      · rename_i hc
        obtain ⟨hc1, hc2, hc3⟩ := hc
        cases hs
        rcases DataW.trod_slice hu hx with ⟨rfl, rfl⟩ | ⟨a, len, cap, elems, rest, n', rfl, rfl, rfl, hb, hlc, hm, hlen, hel, hsp, _⟩
        · exact ⟨φ, [], [.nils], PLe.refl _, by simpa using hH, by simpa using hro, ⟨_, _, rfl, rfl, rfl⟩, ⟨_, _, rfl, ⟨[], Rows.nil, by simp, by simp⟩, rfl⟩⟩
        · obtain ⟨hrl, hre⟩ := hsp rfl
          have hwt : (elems.length + rest.length) * P.bytesOf e ≤ reachBytes := hw _ (by simp [DataW.weights, hu])
          have hlenr : len ≤ reachBytes := by
            have : elems.length + rest.length ≤ (elems.length + rest.length) * P.bytesOf e := Nat.le_mul_of_pos_right _ hc3
            omega
          have all : ∀ i, i < cap → ∃ cs' y, w.cells? 0 (a.add (i * P.cellsOf e)) (P.cellsOf e) = some cs' ∧ DataW.trod enc P w 0 (fun _ => true) true n' e cs' = some y ∧ (∀ m ∈ y.1.weights P e, m ≤ reachBytes) := by
            intro i hi
            have key : ∀ y, y ∈ elems ∨ y ∈ rest → ∀ m ∈ y.1.weights P e, m ≤ reachBytes := by
              intro y hy m hm
              refine hw m ?_
              simp only [DataW.weights, hu, List.mem_cons, List.mem_append]
              rcases hy with hy | hy
              · exact .inr (.inl (weights_all_mem (List.mem_map_of_mem hy) m hm))
              · exact .inr (.inr (weights_all_mem (List.mem_map_of_mem hy) m hm))
            rcases Nat.lt_or_ge i len with hil | hil
            · have h1 := hel i hil
              rw [List.getElem?_eq_getElem (by omega)] at h1
              simp only [Option.bind_eq_some_iff] at h1
              obtain ⟨cs', h1, h2⟩ := h1
              exact ⟨cs', _, h1, h2, key _ (.inl (List.getElem_mem _))⟩
            · have h1 := hre (i - len) (by omega)
              rw [List.getElem?_eq_getElem (by omega), show len + (i - len) = i by omega] at h1
              simp only [Option.bind_eq_some_iff] at h1
              obtain ⟨cs', h1, h2⟩ := h1
              exact ⟨cs', _, h1, h2, key _ (.inr (List.getElem_mem _))⟩
          rcases Nat.eq_zero_or_pos cap with hc0 | hcp
          · subst hc0
            obtain rfl : len = 0 := by omega
            exact ⟨φ, [], [.sz], PLe.refl _, by simpa using hH, by simpa using hro, ⟨_, _, rfl, ⟨a, rfl⟩, rfl⟩, ⟨_, _, rfl, ⟨[], .inr (.inl ⟨rfl, rfl⟩), by simp, by simp⟩, rfl⟩⟩
          · have hch : ∃ cs' : Nat → List Value, ∀ i, i < cap → ∃ y, w.cells? 0 (a.add (i * P.cellsOf e)) (P.cellsOf e) = some (cs' i) ∧ DataW.trod enc P w 0 (fun _ => true) true n' e (cs' i) = some y ∧ (∀ m ∈ y.1.weights P e, m ≤ reachBytes) := by
              classical
              refine ⟨fun i => if h : i < cap then (all i h).choose else [], fun i hi => ?_⟩
              simp only [dif_pos hi]
              exact (all i hi).choose_spec
            obtain ⟨cs', hcs⟩ := hch
            obtain ⟨φ1, K, rows, p1, h1, r1, l1, g1⟩ := got_rows (c := l.length) (sh := l) (cs := cs') (m := cap) (fun i hi φ H hH hro => by
              obtain ⟨y, _, h2, h3⟩ := hcs i hi
              exact got k e l hl n' (cs' i) y h2 h3 φ H hH hro) φ H hH hro
            have hcell : ∀ i f, i < cap → f < l.length → ∃ cells ee fr, w.heap[a.block]? = some (.cells cells ee fr) ∧ cells[a.off + i * l.length + f]? = (cs' i)[f]? := by
              intro i f hi hf
              obtain ⟨y, h2, _, _⟩ := hcs i hi
              obtain ⟨e1, e2⟩ := cells_get h2
              have h3 := e2 f (by omega)
              rw [List.getElem?_eq_getElem (by omega)] at h3
              have hadd : ((a.add (i * P.cellsOf e)).add f) = (a.add (i * P.cellsOf e)).add f := rfl
              obtain ⟨cells, ee, fr, b1, b2, _⟩ := add_spot h3 (fun _ => trivial)
              have hb' : (a.add (i * P.cellsOf e)).block = a.block := by unfold Addr.add; split <;> rfl
              have ho' : (a.add (i * P.cellsOf e)).off = a.off + i * P.cellsOf e := by unfold Addr.add; split <;> simp_all
              rw [hb'] at b1
              rw [ho', hc1] at b2
              exact ⟨cells, ee, fr, b1, by rw [b2, List.getElem?_eq_getElem (by omega)]⟩
            obtain ⟨c0, e0, fr0, hblk, _⟩ := hcell 0 0 hcp hc2
            have hspot : a.spot = none := by
              obtain ⟨y, h2, _, _⟩ := hcs 0 hcp
              obtain ⟨e1, e2⟩ := cells_get h2
              have h3 := e2 0 (by omega)
              rw [List.getElem?_eq_getElem (by omega)] at h3
              obtain ⟨_, _, _, _, _, b3⟩ := add_spot h3 (fun _ => trivial)
              have := b3 rfl
              simpa [Addr.add] using this
            have hcell2 : ∀ i f, i < cap → f < l.length → c0[a.off + i * l.length + f]? = (cs' i)[f]? := by
              intro i f hi hf
              obtain ⟨c1, e1, fr1, hb1, hc⟩ := hcell i f hi hf
              rw [hblk] at hb1
              cases hb1
              exact hc
            have hlt : a.block < w.heap.size := (Array.getElem?_eq_some_iff.1 hblk).1
            let p : Pl := ⟨a.block, a.off, l.length, 0, true⟩
            let ob : Ob := ⟨rows, l.length, 0, true⟩
            have hlen2 : rows.length = cap := l1
            have hnone : φ1 (H ++ K).length = none := h1.none_at
            have hadd := HR.add h1 ob p rfl (fun h => by cases h) (fun o' ob' p' ho' _ hro' => by
                have := r1 o' ob' ho'
                rw [hro'] at this
                cases this) ⟨rfl, rfl, c0, e0, fr0, hblk, (fun h => by cases h), fun i row hr => by
                  obtain ⟨g2, g3⟩ := g1 i row hr
                  have hi : i < cap := by
                    have h9 : i < rows.length := (List.getElem?_eq_some_iff.1 hr).1
                    omega
                  refine ⟨g3.length, fun f v hv => ⟨Tys.ones g3 v (List.mem_of_getElem? hv), ?_⟩⟩
                  have hf : f < l.length := by have := (List.getElem?_eq_some_iff.1 hv).1; rw [g3.length] at this; exact this
                  obtain ⟨u, hu1, hu2⟩ := g2.get f v hv
                  exact ⟨u, by show c0[a.off + i * l.length + f]? = _; rw [hcell2 i f hi hf]; exact hu1, VR.mono (Phi.put_le hnone) _ _ hu2⟩⟩ hlt
            refine ⟨φ1.put (H ++ K).length p, K ++ [some ob], [.sl (H ++ K).length 0 len], p1.trans (Phi.put_le hnone), by rw [← List.append_assoc]; exact hadd, by rw [← List.append_assoc]; exact r1.app rfl, ⟨_, _, rfl, ?_, rfl⟩, ⟨_, _, rfl, ⟨rows.take len, .inr (.inr ⟨(H ++ K).length, 0, ob, ?_, ?_, rfl, ?_, ?_⟩), ?_, ?_⟩, rfl⟩⟩
            · refine ⟨p, a, cap, by simp [Phi.put], rfl, hlc, .inr ⟨?_, .inl rfl⟩⟩
              obtain ⟨b, o, sp⟩ := a
              simp only at hspot
              subst hspot
              simp [p]
            · simp [hlen2, Nat.min_eq_left hlc]
            · rw [← List.append_assoc, Hp.at_app_0]
              rfl
            · simp [ob, hlen2, Nat.min_eq_left hlc]
              omega
            · simp [ob, hlen2, Nat.min_eq_left hlc]
            · simp [hlen2, Nat.min_eq_left hlc]
              omega
            · intro r hr
              obtain ⟨i, hi⟩ := List.getElem?_of_mem (List.mem_of_mem_take hr)
              rw [← List.append_assoc]
              exact Tys.le (HLe.self _ _) _ _ (g1 i r hi).2
      · cases hs
    · rename_i fs hu
      simp only [Option.bind_eq_some_iff] at hs
      obtain ⟨l, hl, hs⟩ := hs
      split at hs
      · rename_i hc
        cases hs
        obtain ⟨xs, n', rfl, rfl, hcl, hxl, hxs⟩ := DataW.trod_struct hu hx
        have := got_fields (enc := enc) (P := P) (w := w) (E := E) (n := n') (g := shT P k) (W := fun t d => ∀ m ∈ d.weights P t, m ≤ reachBytes) (cs := cs)
          (fun t sh hs cs x hx hw φ H hH hro => got k t sh hs n' cs x hx hw φ H hH hro) fs.toList 0 sh xs hl (by simpa using hxl) (by rw [hcl, hc, Nat.zero_add]) (fun i f hf => hxs i f (by simpa using hf))
          (fun i f x hf hx m hm => hw m (by
            simp only [DataW.weights, hu]
            exact DataW.weights_mem_each (j := i) (by simp [hf]) (by simp [hx]) m hm)) φ H hH hro
        simpa using this
      · cases hs
    · cases hs

/-! ### The arguments -/

/-- An argument: its abstract value. -/
def ArgOf (H : Hp) (sh : List Sh) (agg : Bool) (v : AV) : Prop :=
  match agg with
  | true => ∃ avs, v = .ag avs ∧ Tys H sh avs
  | false => ∃ s, sh = [s] ∧ Ty H s v
def isAgg (P : Program) (t : TypeId) : Bool := match P.underlying t with | some (.struct _) => true | _ => false
def ArgsOf (P : Program) (H : Hp) : List TypeId → List AV → Prop
  | [], vs => vs = []
  | t :: ts, vs => ∃ v us sh, vs = v :: us ∧ shT P 6 t = some sh ∧ ArgOf H sh (isAgg P t) v ∧ ArgsOf P H ts us
theorem ArgsOf.le {H H' : Hp} (hle : HLe H H') : ∀ (ts : List TypeId) (vs : List AV), ArgsOf P H ts vs → ArgsOf P H' ts vs
  | [], _, h => h
  | t :: ts, _, ⟨v, us, sh, h1, h2, h3, h4⟩ => ⟨v, us, sh, h1, h2, by
      unfold ArgOf at h3 ⊢
      split at h3
      · obtain ⟨avs, a1, a2⟩ := h3
        exact ⟨avs, a1, a2.le hle⟩
      · obtain ⟨s, a1, a2⟩ := h3
        exact ⟨s, a1, a2.le hle⟩, ArgsOf.le hle ts us h4⟩

theorem got_args {base : Nat} : ∀ (ts : List TypeId) (vs : List Value) (ds : List (DataW HH)) (ps : List MemPlace), (ts.all fun t => (shT P 6 t).isSome) = true →
    DataW.TrodAll enc P w 0 (fun _ => true) true ts vs ds ps → (∀ (j : Nat) t v, ts[j]? = some t → vs[j]? = some v → Value.okWide P w .any base t v) →
    (DataW.weightsEach P ts ds).all (· ≤ reachBytes) = true → ∀ φ H, HR E φ H w → AllRo H →
    ∃ φ' K avs, PLe φ φ' ∧ HR E φ' (H ++ K) w ∧ AllRo (H ++ K) ∧ VRs φ' avs vs ∧ ArgsOf P (H ++ K) ts avs ∧ ds.length = ts.length
  | [], [], [], ps, _, _, _, _, φ, H, hH, hro => ⟨φ, [], [], PLe.refl _, by simpa using hH, by simpa using hro, rfl, rfl, rfl⟩
  | t :: ts, v :: vs, d :: ds, ps, hts, ⟨p, q, h0, hr, _⟩, hok, hw, φ, H, hH, hro => by
    simp only [List.all_cons, Bool.and_eq_true] at hts
    obtain ⟨hs, hts⟩ := hts
    obtain ⟨sh, hs⟩ := Option.isSome_iff_exists.1 hs
    obtain ⟨n, h0⟩ := h0
    simp only [DataW.weightsEach, List.all_append, Bool.and_eq_true] at hw
    obtain ⟨φ1, K1, avs, p1, h1, r1, v1, t1⟩ := got 6 t sh hs n _ _ h0 (fun m hm => by simpa using List.all_eq_true.1 hw.1 m hm) φ H hH hro
    obtain ⟨φ2, K2, bs, p2, h2, r2, v2, t2, l2⟩ := got_args ts vs ds q hts hr (fun j t v ht hv => hok (j + 1) t v (by simpa using ht) (by simpa using hv)) hw.2 φ1 (H ++ K1) h1 r1
    have hv := hok 0 t v rfl rfl
    have arg : ∃ a, ArgOf (H ++ K1) sh (isAgg P t) a ∧ VR φ1 a v := by
      have hs' := hs
      simp only [shT] at hs'
      have sing : ∀ s, sh = [s] → v.cells.toList = [v] → isAgg P t = false → ∃ a, ArgOf (H ++ K1) sh (isAgg P t) a ∧ VR φ1 a v := by
        intro s hsh hvc hag
        rw [hag]
        subst hsh
        obtain ⟨a, us, rfl, ta, tu⟩ := t1
        rw [hvc] at v1
        obtain ⟨v', vs', hvv, hR, _⟩ := v1
        cases hvv
        exact ⟨a, ⟨s, rfl, ta⟩, hR⟩
      split at hs'
      · rename_i hu
        cases hs'
        obtain ⟨b, rfl⟩ := Go.WideShapes.okWide_bool hu hv
        exact sing .kb rfl rfl (by simp [isAgg, hu])
      · rename_i k hu
        cases hs'
        obtain ⟨b, rfl⟩ := Go.WideShapes.okWide_int hu hv
        exact sing (.ki k) rfl rfl (by simp [isAgg, hu])
      · rename_i hu
        cases hs'
        obtain ⟨b, rfl⟩ := Go.WideShapes.okWide_string hu hv
        exact sing .ks rfl rfl (by simp [isAgg, hu])
      · rename_i e hu
        simp only [Option.bind_eq_some_iff] at hs'
        obtain ⟨l, hl, hs'⟩ := hs'
        split at hs'
        · cases hs'
          obtain ⟨a, b, c, rfl⟩ := Go.WideShapes.okWide_slice hu hv
          exact sing (.kl l) rfl rfl (by simp [isAgg, hu])
        · cases hs'
      · rename_i fs hu
        obtain ⟨cs, rfl, _⟩ := Go.WideShapes.okWide_struct hu hv
        refine ⟨.ag avs, ?_, cs.toList, by simp, v1⟩
        have : isAgg P t = true := by simp [isAgg, hu]
        rw [this]
        exact ⟨avs, rfl, t1⟩
      · cases hs'
    obtain ⟨a, ha, hR⟩ := arg
    refine ⟨φ2, K1 ++ K2, a :: bs, p1.trans p2, by rw [← List.append_assoc]; exact h2, by rw [← List.append_assoc]; exact r2, ⟨v, vs, rfl, VR.mono p2 _ _ hR, v2⟩, ?_, by simp [l2]⟩
    rw [← List.append_assoc]
    have ha' : ArgOf (H ++ K1 ++ K2) sh (isAgg P t) a := by
      unfold ArgOf at ha ⊢
      split at ha
      · obtain ⟨avs, a1, a2⟩ := ha
        exact ⟨avs, a1, a2.le (HLe.self _ _)⟩
      · obtain ⟨s, a1, a2⟩ := ha
        exact ⟨s, a1, a2.le (HLe.self _ _)⟩
    exact ⟨a, bs, sh, rfl, hs, ha', t2⟩
end

end Go.Proofs.YtkdnijiipegabaaDoor.B
