/- The program logic: each abstract operation is what the machine does (those that make and write no memory). -/
import Derived.Test.YtkdnijiipegabaaDoorBd
namespace Go.Proofs.YtkdnijiipegabaaDoor.B
open Go.RowKit
set_option linter.unusedVariables false
set_option linter.unusedSimpArgs false

def Does (P : Program) (o : Oper) (a : Act) (w : World) (u : Value) (w' : World) : Prop :=
  (execOp a.eval o).run P w = .ok (.value u) w' ∨ ((execOp a.eval o).run P w = .ok .skip w' ∧ u = undef)

theorem Does.wp {P : Program} {o : Oper} {a : Act} {w w' : World} {u : Value} {next : Act → World → Prop} {Q : Exit → Act → World → Prop} (h : Does P o a w u w') (k : next (a.put o.dst u) w') : o.wp P a w next Q := by
  unfold Oper.wp
  rcases h with h | ⟨h, rfl⟩
  · rw [h]; exact k
  · rw [h]; exact k

def OpOK (P : Program) (E : Env) (o : Oper) (ao : AOp) : Prop := ∀ (t : Nat → AV) (H : Hp) (v : AV) (H' : Hp), stepA t H ao = some (v, H') → ∀ (φ : Phi) (n : Nat) (a : Act) (w : World), TR φ t n a → HR E φ H w →
  ∃ φ' u w', Does P o a w u w' ∧ VR φ' v u ∧ PLe φ φ' ∧ HR E φ' H' w' ∧ Below E.B0 w w'

theorem pure_ok {P : Program} {E : Env} {o : Oper} {a : Act} {w : World} {φ : Phi} {H : Hp} {v : AV} {u : Value} (hd : (execOp a.eval o).run P w = .ok (.value u) w) (hv : VR φ v u) (hH : HR E φ H w) :
    ∃ φ' u w', Does P o a w u w' ∧ VR φ' v u ∧ PLe φ φ' ∧ HR E φ' H w' ∧ Below E.B0 w w' := ⟨φ, u, w, .inl hd, hv, PLe.refl _, hH, Below.refl _ _⟩

variable {P : Program} {E : Env} {o : Oper}

theorem k_mv {x : Operand} {y : Od} (ho : o.op = .move x ∨ o.op = .assign x) (hx : cOd x = some y) : OpOK P E o (.mv y) := by
  intro t H v H' hs φ n a w hT hH
  simp only [stepA, Option.some.injEq, Prod.mk.injEq] at hs
  obtain ⟨rfl, rfl⟩ := hs
  refine pure_ok ?_ (hT.ev hx) hH
  rcases ho with ho | ho <;> simp [execOp, ho]

theorem k_pick {c x y : Operand} {c' x' y' : Od} (ho : o.op = .pick c x y) (hc : cOd c = some c') (hx : cOd x = some x') (hy : cOd y = some y') : OpOK P E o (.pick c' x' y') := by
  intro t H v H' hs φ n a w hT hH
  have h1 := hT.ev hc
  simp only [stepA] at hs
  split at hs
  · rename_i q e
    rw [e] at h1
    have h1' : a.eval c = .bool q := h1
    simp only [Option.some.injEq, Prod.mk.injEq] at hs
    obtain ⟨rfl, rfl⟩ := hs
    refine pure_ok (u := if q then a.eval x else a.eval y) ?_ ?_ hH
    · simp [execOp, ho, h1', asBool]
    · cases q
      · exact hT.ev hy
      · exact hT.ev hx
  · cases hs

theorem binI_ok {b : BinOp} {k : IntKind} {x y : Int} {v : AV} (h : binI b k x y = some v) (T : TypeId) (w : World) : ∃ u, (binOp b T (.int k x) (.int k y)).run P w = .ok u w ∧ ∀ φ, VR φ v u := by
  cases b <;> simp only [binI] at h <;> first
    | (cases h; refine ⟨_, ?_, fun φ => rfl⟩; simp [binOp, Op.intArith, Op.intCmp, Op.intBits])
    | (split at h
       · cases h
       · rename_i h0
         cases h
         refine ⟨_, ?_, fun φ => rfl⟩
         simp [binOp, Op.intDiv, h0])
    | cases h

theorem binS_ok {b : BinOp} {x y : ByteArray} {v : AV} (h : binS b x y = some v) (T : TypeId) (w : World) : ∃ u, (binOp b T (.string x) (.string y)).run P w = .ok u w ∧ ∀ φ, VR φ v u := by
  cases b <;> simp only [binS] at h <;> first
    | (cases h; refine ⟨_, ?_, fun φ => rfl⟩; simp [binOp, Op.stringOp])
    | (split at h
       · rename_i h0
         cases h
         refine ⟨_, ?_, fun φ => rfl⟩
         have : ¬ (((x.size + y.size : Nat) : Int) > IntKind.i64.max) := by
           simp only [IntKind.max, IntKind.signed, IntKind.bits]
           omega
         simp only [binOp, Op.stringOp]
         rw [if_neg this]
         rfl
       · cases h)
    | cases h

theorem k_bin {b : BinOp} {T T2 : TypeId} {x y : Operand} {x' y' : Od} (ho : o.op = .binOp b T x y T2) (hx : cOd x = some x') (hy : cOd y = some y') : OpOK P E o (.bin b x' y') := by
  intro t H v H' hs φ n a w hT hH
  have h1 := hT.ev hx
  have h2 := hT.ev hy
  simp only [stepA, Option.map_eq_some_iff] at hs
  obtain ⟨r, hr, hs⟩ := hs
  cases hs
  unfold binA at hr
  split at hr
  · rename_i k p k' q e1 e2
    split at hr
    · rename_i ek
      subst ek
      rw [e1] at h1
      rw [e2] at h2
      have h1' : a.eval x = .int k p := h1
      have h2' : a.eval y = .int k q := h2
      obtain ⟨u, hu, hv⟩ := binI_ok (P := P) hr T w
      refine pure_ok (u := u) ?_ (hv φ) hH
      simp only [execOp, ho, h1', h2']
      simp only [Sem.run_bind]
      have hg : (eqGuard b T x y (.int k p) (.int k q)).run P w = .ok () w := by
        unfold eqGuard
        split <;> simp
      simp [hg, hu]
    · cases hr
  · rename_i p q e1 e2
    rw [e1] at h1
    rw [e2] at h2
    have h1' : a.eval x = .string p := h1
    have h2' : a.eval y = .string q := h2
    obtain ⟨u, hu, hv⟩ := binS_ok (P := P) hr T w
    refine pure_ok (u := u) ?_ (hv φ) hH
    simp only [execOp, ho, h1', h2']
    have hg : (eqGuard b T x y (.string p) (.string q)).run P w = .ok () w := by
      unfold eqGuard
      split <;> simp
    simp [hg, hu]
  · cases hr

theorem k_not {T : TypeId} {x : Operand} {x' : Od} (ho : o.op = .unOp .not T x) (hx : cOd x = some x') : OpOK P E o (.not x') := by
  intro t H v H' hs φ n a w hT hH
  have h1 := hT.ev hx
  simp only [stepA] at hs
  split at hs
  · rename_i q e
    rw [e] at h1
    have h1' : a.eval x = .bool q := h1
    cases hs
    exact pure_ok (u := .bool (!q)) (by simp [execOp, ho, h1', Op.unary]) rfl hH
  · cases hs
theorem k_neg {T : TypeId} {x : Operand} {x' : Od} (ho : o.op = .unOp .neg T x) (hx : cOd x = some x') : OpOK P E o (.neg x') := by
  intro t H v H' hs φ n a w hT hH
  have h1 := hT.ev hx
  simp only [stepA] at hs
  split at hs
  · rename_i k q e
    rw [e] at h1
    have h1' : a.eval x = .int k q := h1
    cases hs
    exact pure_ok (u := .int k (k.wrap (0 - q))) (by simp [execOp, ho, h1', Op.unary, Op.intArith]) rfl hH
  · cases hs
theorem k_cv {S T : TypeId} {k0 k : IntKind} {x : Operand} {x' : Od} (ho : o.op = .convert S T x) (hS : P.underlying S = some (.int k0)) (hTy : P.underlying T = some (.int k)) (hx : cOd x = some x') : OpOK P E o (.cv k x') := by
  intro t H v H' hs φ n a w hT hH
  have h1 := hT.ev hx
  simp only [stepA] at hs
  split at hs
  · rename_i k1 q e
    rw [e] at h1
    have h1' : a.eval x = .int k1 q := h1
    cases hs
    exact pure_ok (u := .int k (k.wrap q)) (by simp [execOp, ho, h1', convert, run_underlying hS, run_underlying hTy, Conv.intToInt]) rfl hH
  · cases hs

theorem k_ext {x : Operand} {x' : Od} {i : Nat} (ho : o.op = .extract x i) (hx : cOd x = some x') : OpOK P E o (.ext i x') := by
  intro t H v H' hs φ n a w hT hH
  have h1 := hT.ev hx
  simp only [stepA] at hs
  split at hs
  · rename_i vs e
    rw [e] at h1
    obtain ⟨l, h1', hl⟩ := h1
    simp only [Option.map_eq_some_iff] at hs
    obtain ⟨v', hv', hs⟩ := hs
    cases hs
    obtain ⟨u, hu, hr⟩ := hl.get _ _ hv'
    exact pure_ok (u := u) (by simp [execOp, ho, h1', Instr.extract, hu]) hr hH
  · cases hs

theorem k_nck {x : Operand} {x' : Od} (ho : o.op = .nilCheck x) (hx : cOd x = some x') : OpOK P E o (.nck x') := by
  intro t H v H' hs φ n a w hT hH
  have h1 := hT.ev hx
  simp only [stepA] at hs
  split at hs
  · rename_i oo i f e
    rw [e] at h1
    cases hs
    refine pure_ok (u := a.eval x) ?_ h1 hH
    obtain ⟨p, _, h1'⟩ := h1
    simp [execOp, ho, h1']
  · rename_i f cs e
    rw [e] at h1
    cases hs
    refine pure_ok (u := a.eval x) ?_ h1 hH
    obtain ⟨l, h1', _⟩ := h1
    simp [execOp, ho, h1']
  · cases hs

theorem k_lns {T : TypeId} {x : Operand} {x' : Od} (ho : o.op = .call { callee := .builtin .len, args := #[x], argTypes := #[T] }) (hu : P.underlying T = some .string) (hx : cOd x = some x') : OpOK P E o (.lns x') := by
  intro t H v H' hs φ n a w hT hH
  have h1 := hT.ev hx
  simp only [stepA] at hs
  split at hs
  · rename_i s e
    rw [e] at h1
    have h1' : a.eval x = .string s := h1
    cases hs
    exact pure_ok (u := .int .i64 s.size) (by simp [execOp, ho, resolve, invoke, builtin, Builtin.len_, run_underlying hu, h1', goInt]) rfl hH
  · cases hs
theorem k_len {T e' : TypeId} {x : Operand} {x' : Od} (ho : o.op = .call { callee := .builtin .len, args := #[x], argTypes := #[T] }) (hu : P.underlying T = some (.slice e')) (hx : cOd x = some x') : OpOK P E o (.len x') := by
  intro t H v H' hs φ n a w hT hH
  have h1 := hT.ev hx
  simp only [stepA] at hs
  split at hs
  · rename_i oo i m e
    rw [e] at h1
    obtain ⟨p, ad, c, _, h1', _⟩ := h1
    cases hs
    exact pure_ok (u := .int .i64 m) (by simp [execOp, ho, resolve, invoke, builtin, Builtin.len_, run_underlying hu, h1', goInt]) rfl hH
  · rename_i e
    rw [e] at h1
    have h1' : a.eval x = .slice none 0 0 := h1
    cases hs
    exact pure_ok (u := .int .i64 0) (by simp [execOp, ho, resolve, invoke, builtin, Builtin.len_, run_underlying hu, h1', goInt]) rfl hH
  · rename_i e
    rw [e] at h1
    obtain ⟨ad, h1'⟩ := h1
    cases hs
    exact pure_ok (u := .int .i64 0) (by simp [execOp, ho, resolve, invoke, builtin, Builtin.len_, run_underlying hu, h1', goInt]) rfl hH
  · cases hs

theorem k_mx {Ts : Array TypeId} {x y : Operand} {x' y' : Od} (ho : o.op = .call { callee := .builtin .max, args := #[x, y], argTypes := Ts }) (hx : cOd x = some x') (hy : cOd y = some y') : OpOK P E o (.mx x' y') := by
  intro t H v H' hs φ n a w hT hH
  have h1 := hT.ev hx
  have h2 := hT.ev hy
  simp only [stepA] at hs
  split at hs
  · rename_i k p k' q e1 e2
    rw [e1] at h1
    rw [e2] at h2
    have h1' : a.eval x = .int k p := h1
    have h2' : a.eval y = .int k' q := h2
    cases hs
    exact pure_ok (u := .int k (if q > p then q else p)) (by simp [execOp, ho, resolve, invoke, builtin, Builtin.max_, Builtin.max2, h1', h2']) rfl hH
  · cases hs
theorem k_mn {Ts : Array TypeId} {x y : Operand} {x' y' : Od} (ho : o.op = .call { callee := .builtin .min, args := #[x, y], argTypes := Ts }) (hx : cOd x = some x') (hy : cOd y = some y') : OpOK P E o (.mn x' y') := by
  intro t H v H' hs φ n a w hT hH
  have h1 := hT.ev hx
  have h2 := hT.ev hy
  simp only [stepA] at hs
  split at hs
  · rename_i k p k' q e1 e2
    rw [e1] at h1
    rw [e2] at h2
    have h1' : a.eval x = .int k p := h1
    have h2' : a.eval y = .int k' q := h2
    cases hs
    exact pure_ok (u := .int k (if q < p then q else p)) (by simp [execOp, ho, resolve, invoke, builtin, Builtin.min_, Builtin.min2, h1', h2']) rfl hH
  · cases hs

theorem eq_bool {T : TypeId} (hT0 : P.underlying T = some .bool) (d : Nat) (p q : Bool) (w : World) : (Op.equalIn (d + 1) T (.bool p) (.bool q)).run P w = .ok (p == q) w := by
  simp [Op.equalIn, run_underlying hT0]

theorem k_eqb {b : BinOp} {ne : Bool} {T T2 : TypeId} {x y : Operand} {x' y' : Od} (ho : o.op = .binOp b T x y T2) (hb : b = if ne then .neq else .eql) (hT0 : P.underlying T = some .bool) (hx : cOd x = some x') (hy : cOd y = some y') : OpOK P E o (.eqb ne x' y') := by
  intro t H v H' hs φ n a w hT hH
  have h1 := hT.ev hx
  have h2 := hT.ev hy
  simp only [stepA] at hs
  split at hs
  · rename_i p q e1 e2
    rw [e1] at h1
    rw [e2] at h2
    have h1' : a.eval x = .bool p := h1
    have h2' : a.eval y = .bool q := h2
    cases hs
    refine pure_ok (u := .bool ((p == q) != ne)) ?_ rfl hH
    have he : (Op.equal T (.bool p) (.bool q)).run P w = .ok (p == q) w := eq_bool hT0 9999 p q w
    subst hb
    cases ne
    · have hg : (eqGuard .eql T x y (.bool p) (.bool q)).run P w = .ok () w := by simp [eqGuard]
      have hr : (binOp .eql T (.bool p) (.bool q)).run P w = .ok (.bool (p == q)) w := by simp [binOp, he]
      simp only [execOp, ho, h1', h2', Bool.false_eq_true, if_false]
      simp [hg, hr]
    · have hg : (eqGuard .neq T x y (.bool p) (.bool q)).run P w = .ok () w := by simp [eqGuard]
      have hr : (binOp .neq T (.bool p) (.bool q)).run P w = .ok (.bool (!(p == q))) w := by simp [binOp, he]
      simp only [execOp, ho, h1', h2', if_true]
      simp [hg, hr]
  · cases hs

theorem k_fn {f : FuncId} {xs : Array Operand} {xs' : List Od} (ho : o.op = .makeFunc (.func f) #[] xs) (hx : xs.toList.mapM cOd = some xs') : OpOK P E o (.fn f xs') := by
  intro t H v H' hs φ n a w hT hH
  simp only [stepA, Option.some.injEq, Prod.mk.injEq] at hs
  obtain ⟨rfl, rfl⟩ := hs
  have key : ∀ (l : List Operand) (l' : List Od), l.mapM cOd = some l' → VRs φ (l'.map (·.ev t)) (l.map a.eval) := by
    intro l
    induction l with
    | nil => intro l' h; simp at h; subst h; rfl
    | cons y l ih =>
      intro l' h
      simp only [List.mapM_cons, Option.bind_eq_bind, Option.pure_def, Option.bind_eq_some_iff, Option.some.injEq] at h
      obtain ⟨y', hy, r, hr, rfl⟩ := h
      exact ⟨_, _, rfl, hT.ev hy, ih r hr⟩
  refine pure_ok (u := .func (.func f) #[] (xs.map a.eval)) (by simp [execOp, ho, Instr.makeFunc]) ?_ hH
  refine ⟨xs.toList.map a.eval, ?_, key _ _ hx⟩
  rw [← Array.toList_map, Array.toArray_toList]

theorem bt_get (s : ByteArray) (j : Int) (h0 : 0 ≤ j) (h1 : j < s.size) : ∃ b, s[j.toNat]? = some b ∧ bt s j = (b.toNat : Int) := by
  have hl : j.toNat < s.size := by omega
  refine ⟨s[j.toNat], ?_, ?_⟩
  · simp [hl]
  · simp [bt, hl]

theorem k_ix {T : TypeId} {x y : Operand} {x' y' : Od} (ho : o.op = .index T x y) (hT0 : P.underlying T = some .string) (hx : cOd x = some x') (hy : cOd y = some y') : OpOK P E o (.ix x' y') := by
  intro t H v H' hs φ n a w hT hH
  have h1 := hT.ev hx
  have h2 := hT.ev hy
  simp only [stepA] at hs
  split at hs
  · rename_i s k j e1 e2
    rw [e1] at h1
    rw [e2] at h2
    have h1' : a.eval x = .string s := h1
    have h2' : a.eval y = .int k j := h2
    split at hs
    · rename_i hj
      cases hs
      obtain ⟨b, hb, he⟩ := bt_get s j hj.1 hj.2
      refine pure_ok (u := .int .u8 (bt s j)) ?_ rfl hH
      simp [execOp, ho, h1', h2', Instr.index, asIntOf, run_underlying hT0, hj.1, hb, he]
    · cases hs
  · cases hs

def cOO : Option Operand → Option (Option Od)
  | none => some none
  | some x => (cOd x).map some

theorem optI_ok {φ : Phi} {t : Nat → AV} {n : Nat} {a : Act} (hT : TR φ t n a) {lo : Option Operand} {lo' : Option Od} (hl : cOO lo = some lo') {d l : Int} (h : optI t d lo' = some l) :
    (lo = none ∧ l = d) ∨ ∃ x k, lo = some x ∧ a.eval x = .int k l := by
  cases lo with
  | none =>
    cases hl
    simp only [optI, Option.some.injEq] at h
    exact .inl ⟨rfl, h.symm⟩
  | some x =>
    simp only [cOO, Option.map_eq_some_iff] at hl
    obtain ⟨x', hx', rfl⟩ := hl
    have h1 := hT.ev hx'
    simp only [optI] at h
    cases he : x'.ev t <;> rw [he] at h <;> simp [intA] at h
    subst h
    rw [he] at h1
    exact .inr ⟨x, _, rfl, h1⟩

theorem k_cuts {T : TypeId} {x : Operand} {x' : Od} {lo hi : Option Operand} {lo' hi' : Option Od} (ho : o.op = .slice T x lo hi none) (hT0 : P.underlying T = some .string) (hx : cOd x = some x')
    (hlo : cOO lo = some lo') (hhi : cOO hi = some hi') : OpOK P E o (.cuts x' lo' hi') := by
  intro t H v H' hs φ n a w hT hH
  have h1 := hT.ev hx
  simp only [stepA] at hs
  split at hs
  · rename_i s e
    rw [e] at h1
    have h1' : a.eval x = .string s := h1
    simp only [Option.bind_eq_some_iff] at hs
    obtain ⟨l, hl, h, hh, hs⟩ := hs
    split at hs
    · rename_i hb
      cases hs
      refine pure_ok (u := .string (s.extract l.toNat h.toNat)) ?_ rfl hH
      have eh : (h.toNat : Int) = h := Int.toNat_of_nonneg (by omega)
      rcases optI_ok hT hlo hl with ⟨rfl, rfl⟩ | ⟨xl, kl, rfl, el⟩ <;> rcases optI_ok hT hhi hh with ⟨rfl, rfl⟩ | ⟨xh, kh, rfl, eh2⟩
      · simp [execOp, ho, h1', Instr.sliceAt, run_underlying hT0, Instr.slice, Instr.sliceBounds]
      · simp [execOp, ho, h1', Instr.sliceAt, run_underlying hT0, Instr.slice, Instr.sliceBounds, run_sliceBound, eh2, hb.2.2, (by omega : 0 ≤ h)]
      · simp [execOp, ho, h1', Instr.sliceAt, run_underlying hT0, Instr.slice, Instr.sliceBounds, run_sliceBound, el, hb.1, hb.2.1]
      · simp [execOp, ho, h1', Instr.sliceAt, run_underlying hT0, Instr.slice, Instr.sliceBounds, run_sliceBound, el, eh2, hb.1, hb.2.1, hb.2.2, eh, (by omega : 0 ≤ h)]
    · cases hs
  · cases hs

end Go.Proofs.YtkdnijiipegabaaDoor.B
