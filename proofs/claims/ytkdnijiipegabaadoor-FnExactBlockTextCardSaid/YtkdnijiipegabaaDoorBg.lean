/- The program logic: building, literals, equality, make. -/
import Derived.Test.YtkdnijiipegabaaDoorBf
import Derived.Great.BuildSlice
namespace Go.Proofs.YtkdnijiipegabaaDoor.B
open Go.RowKit
set_option linter.unusedVariables false
set_option linter.unusedSimpArgs false
variable {P : Program} {E : Env} {o : Oper}

theorem putv {φ : Phi} : ∀ (cs : List AV) (vs : List Value) (off k : Nat) (zs : List AV) (cells : Array Value), VRs φ zs cells.toList → VRs φ cs vs →
    VRs φ (putAt zs (off + k) cs) ((vs.zipIdx k).foldl (fun cs p => cs.setIfInBounds (off + p.2) p.1) cells).toList
  | [], vs, off, k, zs, cells, hz, hv => by
    rw [show vs = [] from hv]
    exact hz
  | c :: cs, vs, off, k, zs, cells, hz, hv => by
    obtain ⟨v, vs', rfl, h1, h2⟩ := hv
    rw [List.zipIdx_cons, List.foldl_cons, putAt]
    exact putv cs vs' off (k + 1) (zs.set (off + k) c) (cells.setIfInBounds (off + k) v) (by rw [Array.toList_setIfInBounds]; exact hz.set _ h1) h2

theorem putAt_one {zs cs : List AV} (hz : ∀ a ∈ zs, one a = true) (hc : ∀ a ∈ cs, one a = true) : ∀ (f : Nat), ∀ a ∈ putAt zs f cs, one a = true := by
  induction cs generalizing zs with
  | nil => intro f a ha; exact hz a ha
  | cons c cs ih =>
    intro f a ha
    rw [putAt] at ha
    refine ih ?_ (fun a ha => hc a (List.mem_cons_of_mem _ ha)) _ a ha
    intro a ha
    rcases List.mem_or_eq_of_mem_set ha with h | h
    · exact hz a h
    · rw [h]; exact hc c (List.mem_cons_self ..)

/-- The parts of a composite literal. -/
def PartsOK (place : Nat → Option (Nat × Nat)) : List (Nat × Operand) → List (Nat × Nat × Od) → Prop
  | [], [] => True
  | (i, x) :: xs, (off, n, y) :: ys => place i = some (off, n) ∧ cOd x = some y ∧ PartsOK place xs ys
  | _, _ => False

theorem fill_ok {φ : Phi} {t : Nat → AV} {n : Nat} {a : Act} (hT : TR φ t n a) (place : Nat → Option (Nat × Nat)) : ∀ (xs : List (Nat × Operand)) (ys : List (Nat × Nat × Od)) (zs cs : List AV) (cells : Array Value),
    PartsOK place xs ys → VRs φ zs cells.toList → (∀ a ∈ zs, one a = true) → fillA t zs ys = some cs →
    ∃ cells', Instr.fill place cells (xs.map fun p => (p.1, a.eval p.2)) = some cells' ∧ VRs φ cs cells'.toList ∧ (∀ a ∈ cs, one a = true) ∧ cs.length = zs.length
  | [], [], zs, cs, cells, _, hz, h1, hf => by
    simp only [fillA, Option.some.injEq] at hf
    subst hf
    exact ⟨cells, rfl, hz, h1, rfl⟩
  | [], _ :: _, _, _, _, hp, _, _, _ => hp.elim
  | _ :: _, [], _, _, _, hp, _, _, _ => by
    rename_i p ps _ _ _ _ _ _
    obtain ⟨_, _⟩ := p
    exact hp.elim
  | (i, x) :: xs, (off, m, y) :: ys, zs, cs, cells, hp, hz, h1, hf => by
    obtain ⟨hpl, hx, hp⟩ := hp
    simp only [fillA] at hf
    split at hf
    · rename_i hc
      obtain ⟨c1, c2, c3⟩ := hc
      have hv := hT.ev hx
      obtain ⟨hvc, hone⟩ := cells_VR c3 hv
      have hsz : (a.eval x).cells.size = m := by
        have := hvc.length
        rw [Array.length_toList] at this
        omega
      have hcs : cells.size = zs.length := by
        have := hz.length
        rwa [Array.length_toList] at this
      have hput := putv (y.ev t).cells (a.eval x).cells.toList off 0 zs cells hz hvc
      obtain ⟨cells', k1, k2, k3, k4⟩ := fill_ok hT place xs ys _ cs _ hp hput (putAt_one h1 hone _) hf
      refine ⟨cells', ?_, k2, k3, by rw [k4, putAt_length]⟩
      simp only [List.map_cons, Instr.fill, hpl]
      rw [if_neg (by simp [hsz, hcs]; omega)]
      rw [← k1]
      congr 1
      rw [← Array.foldl_toList, Array.toList_zipIdx]
    · cases hf

theorem cVals_ok (φ : Phi) : ∀ (l : List Value) (l' : List AV), l.mapM cVal = some l' → VRs φ l' l ∧ ∀ x ∈ l', one x = true := by
  intro l
  induction l with
  | nil => intro l' h; simp at h; subst h; exact ⟨rfl, by simp⟩
  | cons y l ih =>
    intro l' h
    simp only [List.mapM_cons, Option.bind_eq_bind, Option.pure_def, Option.bind_eq_some_iff, Option.some.injEq] at h
    obtain ⟨y', hy, r, hr, rfl⟩ := h
    obtain ⟨i1, i2⟩ := ih r hr
    refine ⟨⟨_, _, rfl, cVal_sound hy φ, i1⟩, fun x hx => ?_⟩
    rcases List.mem_cons.1 hx with rfl | hx
    · unfold cVal at hy
      split at hy <;> first | (cases hy; rfl) | cases hy
    · exact i2 x hx

theorem k_build {T : TypeId} {xs : Array (Nat × Operand)} {i : TypeInfo} {fs : Array Field} {z : Value} {zs : List AV} {places : List (Nat × Nat)} {ys : List (Nat × Nat × Od)} (ho : o.op = .build T xs)
    (hi : P.info? T = some i) (hz : i.zero = some z) (hT0 : P.underlying T = some (.struct fs)) (hpl : fs.toList.mapM (fun f => (P.info? f.type).map fun i => (f.offset, i.size)) = some places)
    (hzs : z.cells.toList.mapM cVal = some zs) (hp : PartsOK (places.toArray[·]?) xs.toList ys) : OpOK P E o (.build zs ys) := by
  intro t H v H' hs φ n a w hT hH
  simp only [stepA, Option.map_eq_some_iff] at hs
  obtain ⟨cs, hf, hs⟩ := hs
  cases hs
  obtain ⟨h1, h2⟩ := cVals_ok φ _ _ hzs
  obtain ⟨cells', k1, k2, _, _⟩ := fill_ok hT _ xs.toList ys zs cs z.cells hp h1 h2 hf
  refine pure_ok (u := .agg cells') ?_ ⟨cells'.toList, by simp, k2⟩ hH
  have hb : P.built T (xs.map fun p => (p.1, a.eval p.2)).toList = some cells' := by
    rw [Array.toList_map]
    unfold Program.built
    simp only [hi, hT0, hz, hpl]
    exact k1
  have hr := run_build (P := P) w T (xs.map fun p => (p.1, a.eval p.2)) cells' hb
  simp [execOp, ho, hr]

theorem chunk_flatten (esz : Nat) : ∀ (n : Nat) (l : List AV), l.length = n * esz → (chunk esz n l).flatten = l
  | 0, l, h => by
    have : l = [] := List.length_eq_zero_iff.1 (by omega)
    subst this
    rfl
  | n + 1, l, h => by
    rw [chunk, List.flatten_cons, chunk_flatten esz n _ (by rw [List.length_drop, h, Nat.add_mul]; omega), List.take_append_drop]
theorem chunk_len (esz : Nat) : ∀ (n : Nat) (l : List AV), l.length = n * esz → ∀ r ∈ chunk esz n l, r.length = esz
  | 0, l, h, r, hr => by simp [chunk] at hr
  | n + 1, l, h, r, hr => by
    rw [chunk] at hr
    rw [Nat.add_mul] at h
    rcases List.mem_cons.1 hr with rfl | hr
    · rw [List.length_take]; omega
    · exact chunk_len esz n _ (by rw [List.length_drop]; omega) r hr

theorem range0 (f : Nat → Value) : (Array.range 0).map f = #[] := by
  apply Array.eq_empty_of_size_eq_zero
  simp
theorem k_lit {T e : TypeId} {len : Nat} {xs : Array (Nat × Operand)} {i : TypeInfo} {z : Value} {zs : List AV} {ys : List (Nat × Nat × Od)} (ho : o.op = .buildSlice T len xs)
    (hT0 : P.underlying T = some (.slice e)) (hi : P.info? e = some i) (hz : i.zero = some z) (hsmall : len * i.size ≤ 16777216)
    (hzs : ((Array.range (len * i.size)).map (z.cells[· % z.cells.size]!)).toList.mapM cVal = some zs) (hp : PartsOK (fun k => some (k * i.size, i.size)) xs.toList ys) : OpOK P E o (.lit e i.size len zs ys) := by
  intro t H v H' hs φ n a w hT hH
  simp only [stepA, Option.map_eq_some_iff] at hs
  obtain ⟨cs, hf, hs⟩ := hs
  cases hs
  obtain ⟨h1, h2⟩ := cVals_ok φ _ _ hzs
  obtain ⟨cells', k1, k2, k3, k4⟩ := fill_ok hT _ xs.toList ys zs cs _ hp h1 h2 hf
  have hlen : cs.length = len * i.size := by
    rw [k4, ← h1.length]
    simp
  have hfl := chunk_flatten i.size len cs hlen
  obtain ⟨g1, g2, g3, g4⟩ := new_ok hH (rows := chunk i.size len cs) (esz := i.size) (ety := e) (cells := cells'.toList) (by rw [hfl]; exact k2) (chunk_len _ _ _ hlen) (by rw [hfl]; exact k3)
  have hcl : cells'.toList.length = len * i.size := by rw [k2.length, hlen]
  refine ⟨_, .slice (some ⟨w.heap.size, 0, none⟩) len len, _, .inl ?_, ⟨_, _, _, g4, rfl, Nat.le_refl _, .inr ⟨by simp, .inr (by simp only [Nat.zero_add]; exact hcl.symm)⟩⟩, g1, g2, g3⟩
  by_cases h0 : len * i.size = 0
  · have e1 : Instr.fill (fun k => some (k * i.size, i.size)) #[] (xs.map fun p => (p.1, a.eval p.2)).toList = some cells' := by
      rw [Array.toList_map, ← k1, h0, range0]
    simp only [execOp, ho]
    have hr : (Instr.buildSlice T len (xs.map fun p => (p.1, a.eval p.2))).run P w = .ok (.slice (some ⟨w.heap.size, 0, none⟩) len len) (w.alloc (.cells cells' e)) := by
      have e2 := e1
      rw [Array.toList_map] at e2
      simp only [Instr.buildSlice, Sem.run_bind, run_underlying hT0, run_sizeOf hi, h0, Result.andThen_ok]
      simp [h0, range0, newRow, e2]
    simp [hr]
  · have hr := run_buildSlice (P := P) w T e len (xs.map fun p => (p.1, a.eval p.2)) cells' i z hT0 hi hz (by simpa using hsmall) h0 (by rw [Array.toList_map]; exact k1)
    simp [execOp, ho, hr]

def flatT : Nat → Option TypeDesc → Bool
  | 0, some (.int _) => true
  | 1, some .bool => true
  | 2, some .string => true
  | _, _ => false
theorem flatT0 : ∀ {x : Option TypeDesc}, flatT 0 x = true → ∃ k, x = some (.int k)
  | some (.int k), _ => ⟨k, rfl⟩
theorem flatT1 : ∀ {x : Option TypeDesc}, flatT 1 x = true → x = some .bool
  | some .bool, _ => rfl
theorem flatT2 : ∀ {x : Option TypeDesc}, flatT 2 x = true → x = some .string
  | some .string, _ => rfl

/-- The fields of a struct, one cell each. -/
def flatF (P : Program) : List Field → Nat → List Nat → Bool
  | [], _, [] => true
  | f :: fs, k, s :: ss => f.name != "_" && f.offset == k && flatT s (P.underlying f.type) && flatF P fs (k + 1) ss
  | _, _, _ => false

theorem eqF_ok {φ : Phi} (d : Nat) (xs ys : Array Value) (w : World) : ∀ (fs : List Field) (k : Nat) (ss : List Nat) (as bs : List AV) (r : Bool), flatF P fs k ss = true →
    VRs φ as (xs.toList.drop k) → VRs φ bs (ys.toList.drop k) → eqcs ss as bs = some r → (Op.eqFields (d + 1) xs ys fs).run P w = .ok r w
  | [], k, [], as, bs, r, hf, ha, hb, he => by
    cases as <;> cases bs <;> simp only [eqcs, Option.some.injEq, reduceCtorEq] at he
    subst he
    simp [Op.eqFields]
  | [], k, _ :: _, as, bs, r, hf, ha, hb, he => by simp [flatF] at hf
  | f :: fs, k, [], as, bs, r, hf, ha, hb, he => by simp [flatF] at hf
  | f :: fs, k, s :: ss, as, bs, r, hf, ha, hb, he => by
    simp only [flatF, Bool.and_eq_true, bne_iff_ne, ne_eq, beq_iff_eq] at hf
    obtain ⟨⟨⟨hn, hoff⟩, hty⟩, hf⟩ := hf
    cases as with
    | nil => cases bs <;> simp [eqcs] at he
    | cons x as =>
      cases bs with
      | nil => simp [eqcs] at he
      | cons y bs =>
        simp only [eqcs, Option.bind_eq_some_iff, Option.map_eq_some_iff] at he
        obtain ⟨r1, h1, r2, h2, rfl⟩ := he
        obtain ⟨u, us, e1, hu, hus⟩ := ha
        obtain ⟨v, vs, e2, hv, hvs⟩ := hb
        have gx : xs[k]? = some u := by
          have : (xs.toList.drop k)[0]? = some u := by rw [e1]; rfl
          rw [List.getElem?_drop] at this
          simpa using this
        have gy : ys[k]? = some v := by
          have : (ys.toList.drop k)[0]? = some v := by rw [e2]; rfl
          rw [List.getElem?_drop] at this
          simpa using this
        have dx : us = xs.toList.drop (k + 1) := by rw [← List.drop_drop, e1]; rfl
        have dy : vs = ys.toList.drop (k + 1) := by rw [← List.drop_drop, e2]; rfl
        have rest := eqF_ok d xs ys w fs (k + 1) ss as bs r2 hf (dx ▸ hus) (dy ▸ hvs) h2
        have here : ∃ t0, P.underlying f.type = some t0 ∧ aggB t0 = false ∧ (Op.equalIn (d + 1) f.type u v).run P w = .ok r1 w := by
          unfold eqc at h1
          split at h1
          · rename_i k1 a1 k2 b1
            split at h1
            · rename_i ek
              subst ek
              cases h1
              obtain ⟨k0, ht0⟩ := flatT0 hty
              rw [show u = _ from hu, show v = _ from hv]
              exact ⟨_, ht0, rfl, run_equalIn_int w d _ _ _ _ _ ht0⟩
            · cases h1
          · cases h1
            have ht0 := flatT1 hty
            rw [show u = _ from hu, show v = _ from hv]
            exact ⟨_, ht0, rfl, run_equalIn_bool' w d _ _ _ ht0⟩
          · cases h1
            have ht0 := flatT2 hty
            rw [show u = _ from hu, show v = _ from hv]
            exact ⟨_, ht0, rfl, run_equalIn_string w d _ _ _ ht0⟩
          · cases h1
        obtain ⟨t0, ht0, hagg, hrun⟩ := here
        simp only [Op.eqFields, hn, ne_eq, not_false_eq_true, if_true, Sem.run_bind]
        have px : (part f.type xs f.offset).run P w = .ok u w := by simp [part, run_isAgg ht0, hagg, hoff, gx]
        have py : (part f.type ys f.offset).run P w = .ok v w := by simp [part, run_isAgg ht0, hagg, hoff, gy]
        simp only [px, py, hrun, Result.andThen_ok]
        cases r1
        · simp
        · simp [rest]

theorem k_eqs {b : BinOp} {ne : Bool} {T T2 : TypeId} {x y : Operand} {x' y' : Od} {ss : List Nat} (ho : o.op = .binOp b T x y T2) (hb : b = if ne then .neq else .eql)
    (hT0 : P.underlying T = some (.struct (P.fieldsOf T))) (hst : P.stoodInHeld T = false) (hg0 : P.eqGuardType P.depth T = false) (hfl : flatF P (P.fieldsOf T).toList 0 ss = true)
    (hx : cOd x = some x') (hy : cOd y = some y') : OpOK P E o (.eqs ne ss x' y') := by
  intro t H v H' hs φ n a w hT hH
  have h1 := hT.ev hx
  have h2 := hT.ev hy
  simp only [stepA] at hs
  split at hs
  · rename_i p q e1 e2
    rw [e1] at h1
    rw [e2] at h2
    obtain ⟨l1, h1', hl1⟩ := h1
    obtain ⟨l2, h2', hl2⟩ := h2
    simp only [Option.map_eq_some_iff] at hs
    obtain ⟨r, hr, hs⟩ := hs
    cases hs
    have hrun := eqF_ok (P := P) (φ := φ) 9998 l1.toArray l2.toArray w _ 0 ss p q r hfl (by simpa using hl1) (by simpa using hl2) hr
    have heq : (Op.equalIn 10000 T (.agg l1.toArray) (.agg l2.toArray)).run P w = .ok r w := by
      rw [show (10000 : Nat) = 9999 + 1 from rfl, run_equalIn_struct w 9999 T _ _ hT0 hst]
      exact hrun
    refine pure_ok (u := .bool (r != ne)) ?_ rfl hH
    subst hb
    cases ne
    · simp only [execOp, ho, h1', h2', Bool.false_eq_true, if_false]
      simp [run_eqGuard_agg w _ T x y _ _ hg0, run_eql_struct, heq]
    · simp only [execOp, ho, h1', h2', if_true]
      simp [run_eqGuard_agg w _ T x y _ _ hg0, run_neq_struct, heq]
  · cases hs

end Go.Proofs.YtkdnijiipegabaaDoor.B
