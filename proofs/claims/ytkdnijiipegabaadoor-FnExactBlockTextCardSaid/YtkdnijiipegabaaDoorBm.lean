/- The program logic: from the program's operations to the abstract ones. -/
import Derived.Test.YtkdnijiipegabaaDoorBl
namespace Go.Proofs.YtkdnijiipegabaaDoor.B
open Go.RowKit
set_option linter.unusedVariables false
set_option linter.unusedSimpArgs false

def cParts (place : Nat → Option (Nat × Nat)) : List (Nat × Operand) → Option (List (Nat × Nat × Od))
  | [] => some []
  | (i, x) :: xs => (place i).bind fun p => (cOd x).bind fun y => (cParts place xs).map fun ys => (p.1, p.2, y) :: ys

theorem cParts_ok {place : Nat → Option (Nat × Nat)} : ∀ {xs : List (Nat × Operand)} {ys : List (Nat × Nat × Od)}, cParts place xs = some ys → PartsOK place xs ys
  | [], ys, h => by
    simp only [cParts, Option.some.injEq] at h
    subst h
    trivial
  | (i, x) :: xs, ys, h => by
    simp only [cParts, Option.bind_eq_some_iff, Option.map_eq_some_iff] at h
    obtain ⟨⟨off, n⟩, h1, y, h2, zs, h3, rfl⟩ := h
    exact ⟨h1, h2, cParts_ok h3⟩

def shape (P : Program) (f : Field) : Nat :=
  match P.underlying f.type with
  | some (.int _) => 0
  | some .bool => 1
  | _ => 2

def cEq (P : Program) (b : BinOp) (ne : Bool) (T : TypeId) (x y : Operand) : Option AOp :=
  match P.underlying T with
  | some .bool => (cOd x).bind fun x' => (cOd y).map fun y' => .eqb ne x' y'
  | some (.slice _) => match y with
    | .const c => (cOd x).bind fun x' => (cOd (.const c)).map fun y' => .eqn 0 ne x' y'
    | _ => none
  | some (.interface _) => match y with
    | .const c => (cOd x).bind fun x' => (cOd (.const c)).map fun y' => .eqn 1 ne x' y'
    | _ => none
  | some (.struct fs) =>
    if P.stoodInHeld T = false ∧ P.eqGuardType P.depth T = false ∧ flatF P (P.fieldsOf T).toList 0 ((P.fieldsOf T).toList.map (shape P)) = true then
      (cOd x).bind fun x' => (cOd y).map fun y' => .eqs ne ((P.fieldsOf T).toList.map (shape P)) x' y' else none
  | _ => (cOd x).bind fun x' => (cOd y).map fun y' => .bin b x' y'

def cCall (P : Program) (c : Call) : Option AOp :=
  match c.callee, c.args, c.argTypes with
  | .builtin .len, ⟨[x]⟩, ⟨[T]⟩ => match P.underlying T with
    | some .string => (cOd x).map .lns
    | some (.slice _) => (cOd x).map .len
    | _ => none
  | .builtin .max, ⟨[x, y]⟩, _ => (cOd x).bind fun x' => (cOd y).map fun y' => .mx x' y'
  | .builtin .min, ⟨[x, y]⟩, _ => (cOd x).bind fun x' => (cOd y).map fun y' => .mn x' y'
  | .builtin .append, ⟨[x, y]⟩, ⟨[T, T']⟩ => if T = T' then match P.underlying T with
      | some (.slice e) => (P.info? e).bind fun i => i.zero.bind fun z => if z.cells.size = i.size ∧ 0 < i.size ∧ 0 < i.bytes then (cOd x).bind fun x' => (cOd y).map fun y' => .app e i.size i.bytes x' y' else none
      | _ => none else none
  | .value (.func f), ⟨xs⟩, _ => (xs.mapM cOd).map fun xs' => .call f xs'
  | .value x, ⟨xs⟩, _ => (cOd x).bind fun x' => (xs.mapM cOd).map fun xs' => .calv x' xs'
  | _, _, _ => none

def cOp (P : Program) (o : Oper) : Option AOp :=
  match o.op with
  | .move x => (cOd x).map .mv
  | .assign x => (cOd x).map .mv
  | .pick c a b => (cOd c).bind fun c' => (cOd a).bind fun a' => (cOd b).map fun b' => .pick c' a' b'
  | .alloc T => (P.info? T).bind fun i => i.zero.bind fun z => (z.cells.toList.mapM cVal).map fun zs => .alloc T zs
  | .box T x => (P.info? T).bind fun i => (cOd x).map fun x' => .box T i.size x'
  | .build T xs => match P.underlying T with
    | some (.struct fs) => (P.info? T).bind fun i => i.zero.bind fun z => (fs.toList.mapM (fun f => (P.info? f.type).map fun i => (f.offset, i.size))).bind fun places =>
        (z.cells.toList.mapM cVal).bind fun zs => (cParts (places.toArray[·]?) xs.toList).map fun ys => .build zs ys
    | _ => none
  | .buildSlice T len xs => match P.underlying T with
    | some (.slice e) => (P.info? e).bind fun i => i.zero.bind fun z => if len * i.size ≤ 16777216 then
        (((Array.range (len * i.size)).map (z.cells[· % z.cells.size]!)).toList.mapM cVal).bind fun zs => (cParts (fun k => some (k * i.size, i.size)) xs.toList).map fun ys => .lit e i.size len zs ys else none
    | _ => none
  | .load T x => match P.underlying T with
    | some d => if aggB d = true then (P.info? T).bind fun i => (cOd x).map fun x' => .lda i.size x' else (cOd x).map .ld
    | none => none
  | .store T x y => (P.info? T).bind fun i => (cOd x).bind fun x' => (cOd y).map fun y' => .st i.size x' y'
  | .nilCheck x => (cOd x).map .nck
  | .binOp .eql T x y _ => cEq P .eql false T x y
  | .binOp .neq T x y _ => cEq P .neq true T x y
  | .binOp b _ x y _ => (cOd x).bind fun x' => (cOd y).map fun y' => .bin b x' y'
  | .unOp .not _ x => (cOd x).map .not
  | .unOp .neg _ x => (cOd x).map .neg
  | .convert S T x => match P.underlying S, P.underlying T with
    | some (.int _), some (.int k) => (cOd x).map fun x' => .cv k x'
    | some (.slice e), some .string => match P.underlying e with
      | some (.int .u8) => (cOd x).map .cvs
      | _ => none
    | _, _ => none
  | .makeFunc (.func f) ⟨[]⟩ xs => (xs.toList.mapM cOd).map fun xs' => .fn f xs'
  | .makeSlice T x y => match P.underlying T with
    | some (.slice e) => (P.info? e).bind fun i => i.zero.bind fun z => (z.cells.toList.mapM cVal).bind fun zs =>
        if zs.length = i.size ∧ 0 < i.bytes then match x, y with
          | .tmp a, .tmp b => if a = b then some (.mk e i.size i.bytes zs (.t a)) else none
          | .const (.int .i64 a), .const (.int .i64 b) => if a = b then some (.mk e i.size i.bytes zs (.c (.int .i64 a))) else none
          | _, _ => none
        else none
    | _ => none
  | .slice T x lo hi none => match P.underlying T with
    | some .string => (cOd x).bind fun x' => (cOO lo).bind fun l => (cOO hi).map fun h => .cuts x' l h
    | some (.slice e) => (P.info? e).bind fun i => (cOd x).bind fun x' => (cOO lo).bind fun l => (cOO hi).map fun h => .cut i.size x' l h
    | _ => none
  | .fieldAddr T x k => match P.underlying T with
    | some (.struct fs) => (fs[k]?).bind fun f => (P.info? f.type).bind fun i => if i.size ≠ 0 then (cOd x).map fun x' => .fa f.offset x' else none
    | _ => none
  | .field T x k => match P.underlying T with
    | some (.struct fs) => (fs[k]?).bind fun f => match P.underlying f.type with
      | some d => if aggB d = false then (cOd x).map fun x' => .fd f.offset 0 x' else none
      | none => none
    | _ => none
  | .indexAddr T x y => match P.underlying T with
    | some (.slice e) => (P.info? e).bind fun i => (cOd x).bind fun x' => (cOd y).map fun y' => .ia i.size x' y'
    | _ => none
  | .index T x y => match P.underlying T with
    | some .string => (cOd x).bind fun x' => (cOd y).map fun y' => .ix x' y'
    | _ => none
  | .extract x i => (cOd x).map fun x' => .ext i x'
  | .call c => cCall P c
  | _ => none

variable {P : Program} {E : Env}

theorem cEq_ok {o : Oper} {b : BinOp} {ne : Bool} {T T2 : TypeId} {x y : Operand} {ao : AOp} (ho : o.op = .binOp b T x y T2) (hb : b = if ne then .neq else .eql) (h : cEq P b ne T x y = some ao) : OpS P E o ao := by
  unfold cEq at h
  split at h
  · rename_i hT0
    simp only [Option.bind_eq_some_iff, Option.map_eq_some_iff] at h
    obtain ⟨x', hx, y', hy, rfl⟩ := h
    exact (k_eqb ho hb hT0 hx hy).opS rfl
  · rename_i e hT0
    split at h
    · simp only [Option.bind_eq_some_iff, Option.map_eq_some_iff] at h
      obtain ⟨x', hx, y', hy, rfl⟩ := h
      exact (k_eqn ho hb hT0 (.inl ⟨rfl, _, rfl⟩) hx hy).opS rfl
    · cases h
  · rename_i e hT0
    split at h
    · simp only [Option.bind_eq_some_iff, Option.map_eq_some_iff] at h
      obtain ⟨x', hx, y', hy, rfl⟩ := h
      exact (k_eqn ho hb hT0 (.inr ⟨rfl, _, rfl⟩) hx hy).opS rfl
    · cases h
  · rename_i fs hT0
    split at h
    · rename_i hc
      simp only [Option.bind_eq_some_iff, Option.map_eq_some_iff] at h
      obtain ⟨x', hx, y', hy, rfl⟩ := h
      have hT1 : P.underlying T = some (.struct (P.fieldsOf T)) := by rw [hT0]; simp [Program.fieldsOf, hT0]
      exact (k_eqs ho hb hT1 hc.1 hc.2.1 hc.2.2 hx hy).opS rfl
    · cases h
  · simp only [Option.bind_eq_some_iff, Option.map_eq_some_iff] at h
    obtain ⟨x', hx, y', hy, rfl⟩ := h
    exact (k_bin ho hx hy).opS rfl

theorem cCall_ok {o : Oper} {c : Call} {ao : AOp} (ho : o.op = .call c) (h : cCall P c = some ao) : OpS P E o ao := by
  obtain ⟨callee, args, argTypes⟩ := c
  unfold cCall at h
  simp only at h
  split at h
  · rename_i x T
    split at h
    · rename_i hT0
      simp only [Option.map_eq_some_iff] at h
      obtain ⟨x', hx, rfl⟩ := h
      exact (k_lns ho hT0 hx).opS rfl
    · rename_i e hT0
      simp only [Option.map_eq_some_iff] at h
      obtain ⟨x', hx, rfl⟩ := h
      exact (k_len ho hT0 hx).opS rfl
    · cases h
  · simp only [Option.bind_eq_some_iff, Option.map_eq_some_iff] at h
    obtain ⟨x', hx, y', hy, rfl⟩ := h
    exact (k_mx ho hx hy).opS rfl
  · simp only [Option.bind_eq_some_iff, Option.map_eq_some_iff] at h
    obtain ⟨x', hx, y', hy, rfl⟩ := h
    exact (k_mn ho hx hy).opS rfl
  · split at h
    · rename_i eT
      subst eT
      split at h
      · rename_i e hT0
        simp only [Option.bind_eq_some_iff] at h
        obtain ⟨i, hi, z, hz, h⟩ := h
        split at h
        · rename_i hc
          simp only [Option.bind_eq_some_iff, Option.map_eq_some_iff] at h
          obtain ⟨x', hx, y', hy, rfl⟩ := h
          exact (k_app (ty := 0) ho hT0 hi hz hc.1 hc.2.1 hc.2.2 hx hy).opS rfl
        · cases h
      · cases h
    · cases h
  · simp only [Option.map_eq_some_iff] at h
    obtain ⟨xs', hx, rfl⟩ := h
    exact s_call ho hx
  · simp only [Option.bind_eq_some_iff, Option.map_eq_some_iff] at h
    obtain ⟨x', hx0, xs', hx, rfl⟩ := h
    exact s_calv ho hx0 hx
  · cases h

theorem cOp_ok {o : Oper} {ao : AOp} (h : cOp P o = some ao) : OpS P E o ao := by
  unfold cOp at h
  split at h
  · rename_i x ho
    simp only [Option.map_eq_some_iff] at h
    obtain ⟨x', hx, rfl⟩ := h
    exact (k_mv (.inl ho) hx).opS rfl
  · rename_i x ho
    simp only [Option.map_eq_some_iff] at h
    obtain ⟨x', hx, rfl⟩ := h
    exact (k_mv (.inr ho) hx).opS rfl
  · rename_i c a b ho
    simp only [Option.bind_eq_some_iff, Option.map_eq_some_iff] at h
    obtain ⟨c', hc, a', ha, b', hb, rfl⟩ := h
    exact (k_pick ho hc ha hb).opS rfl
  · rename_i T ho
    simp only [Option.bind_eq_some_iff, Option.map_eq_some_iff] at h
    obtain ⟨i, hi, z, hz, zs, hzs, rfl⟩ := h
    exact (k_alloc ho hi hz hzs).opS rfl
  · rename_i T x ho
    simp only [Option.bind_eq_some_iff, Option.map_eq_some_iff] at h
    obtain ⟨i, hi, x', hx, rfl⟩ := h
    exact (k_box ho hx).opS rfl
  · rename_i T xs ho
    split at h
    · rename_i fs hT0
      simp only [Option.bind_eq_some_iff, Option.map_eq_some_iff] at h
      obtain ⟨i, hi, z, hz, places, hpl, zs, hzs, ys, hys, rfl⟩ := h
      exact (k_build ho hi hz hT0 hpl hzs (cParts_ok hys)).opS rfl
    · cases h
  · rename_i T len xs ho
    split at h
    · rename_i e hT0
      simp only [Option.bind_eq_some_iff] at h
      obtain ⟨i, hi, z, hz, h⟩ := h
      split at h
      · rename_i hs
        simp only [Option.bind_eq_some_iff, Option.map_eq_some_iff] at h
        obtain ⟨zs, hzs, ys, hys, rfl⟩ := h
        exact (k_lit ho hT0 hi hz hs hzs (cParts_ok hys)).opS rfl
      · cases h
    · cases h
  · rename_i T x ho
    split at h
    · rename_i d hT0
      split at h
      · rename_i hd
        simp only [Option.bind_eq_some_iff, Option.map_eq_some_iff] at h
        obtain ⟨i, hi, x', hx, rfl⟩ := h
        exact (k_lda ho hT0 hd hi hx).opS rfl
      · rename_i hd
        simp only [Option.map_eq_some_iff] at h
        obtain ⟨x', hx, rfl⟩ := h
        exact (k_ld ho hT0 (by simpa using hd) hx).opS rfl
    · cases h
  · rename_i T x y ho
    simp only [Option.bind_eq_some_iff, Option.map_eq_some_iff] at h
    obtain ⟨i, hi, x', hx, y', hy, rfl⟩ := h
    exact (k_st ho hi hx hy).opS rfl
  · rename_i x ho
    simp only [Option.map_eq_some_iff] at h
    obtain ⟨x', hx, rfl⟩ := h
    exact (k_nck ho hx).opS rfl
  · rename_i T x y T2 ho
    exact cEq_ok ho rfl h
  · rename_i T x y T2 ho
    exact cEq_ok ho rfl h
  · rename_i b T x y T2 _ _ ho
    simp only [Option.bind_eq_some_iff, Option.map_eq_some_iff] at h
    obtain ⟨x', hx, y', hy, rfl⟩ := h
    exact (k_bin ho hx hy).opS rfl
  · rename_i T x ho
    simp only [Option.map_eq_some_iff] at h
    obtain ⟨x', hx, rfl⟩ := h
    exact (k_not ho hx).opS rfl
  · rename_i T x ho
    simp only [Option.map_eq_some_iff] at h
    obtain ⟨x', hx, rfl⟩ := h
    exact (k_neg ho hx).opS rfl
  · rename_i S T x ho
    split at h
    · rename_i k0 k hS hT0
      simp only [Option.map_eq_some_iff] at h
      obtain ⟨x', hx, rfl⟩ := h
      exact (k_cv ho hS hT0 hx).opS rfl
    · rename_i e hS hT0
      split at h
      · rename_i he
        simp only [Option.map_eq_some_iff] at h
        obtain ⟨x', hx, rfl⟩ := h
        exact (k_cvs ho hS he hT0 hx).opS rfl
      · cases h
    · cases h
  · rename_i f xs ho
    simp only [Option.map_eq_some_iff] at h
    obtain ⟨xs', hx, rfl⟩ := h
    exact (k_fn ho hx).opS rfl
  · rename_i T x y ho
    split at h
    · rename_i e hT0
      simp only [Option.bind_eq_some_iff] at h
      obtain ⟨i, hi, z, hz, zs, hzs, h⟩ := h
      split at h
      · rename_i hc
        split at h
        · split at h
          · rename_i a b eab
            subst eab
            cases h
            exact (k_mk ho rfl hT0 hi hz hzs hc.1 hc.2 rfl).opS rfl
          · cases h
        · split at h
          · rename_i a b eab
            subst eab
            cases h
            exact (k_mk ho rfl hT0 hi hz hzs hc.1 hc.2 rfl).opS rfl
          · cases h
        · cases h
      · cases h
    · cases h
  · rename_i T x lo hi ho
    split at h
    · rename_i hT0
      simp only [Option.bind_eq_some_iff, Option.map_eq_some_iff] at h
      obtain ⟨x', hx, l, hl, hh, hhi, rfl⟩ := h
      exact (k_cuts ho hT0 hx hl hhi).opS rfl
    · rename_i e hT0
      simp only [Option.bind_eq_some_iff, Option.map_eq_some_iff] at h
      obtain ⟨i, hi0, x', hx, l, hl, hh, hhi, rfl⟩ := h
      exact (k_cut ho hT0 hi0 hx hl hhi).opS rfl
    · cases h
  · rename_i T x k ho
    split at h
    · rename_i fs hT0
      simp only [Option.bind_eq_some_iff] at h
      obtain ⟨f, hf, i, hi, h⟩ := h
      split at h
      · rename_i hz
        simp only [Option.map_eq_some_iff] at h
        obtain ⟨x', hx, rfl⟩ := h
        exact (k_fa ho hT0 hf hi hz hx).opS rfl
      · cases h
    · cases h
  · rename_i T x k ho
    split at h
    · rename_i fs hT0
      simp only [Option.bind_eq_some_iff] at h
      obtain ⟨f, hf, h⟩ := h
      split at h
      · rename_i d hd
        split at h
        · rename_i hagg
          simp only [Option.map_eq_some_iff] at h
          obtain ⟨x', hx, rfl⟩ := h
          exact (k_fd ho hT0 hf hd hagg hx).opS rfl
        · cases h
      · cases h
    · cases h
  · rename_i T x y ho
    split at h
    · rename_i e hT0
      simp only [Option.bind_eq_some_iff, Option.map_eq_some_iff] at h
      obtain ⟨i, hi, x', hx, y', hy, rfl⟩ := h
      exact (k_ia ho hT0 hi hx hy).opS rfl
    · cases h
  · rename_i T x y ho
    split at h
    · rename_i hT0
      simp only [Option.bind_eq_some_iff, Option.map_eq_some_iff] at h
      obtain ⟨x', hx, y', hy, rfl⟩ := h
      exact (k_ix ho hT0 hx hy).opS rfl
    · cases h
  · rename_i x i ho
    simp only [Option.map_eq_some_iff] at h
    obtain ⟨x', hx, rfl⟩ := h
    exact (k_ext ho hx).opS rfl
  · rename_i c ho
    exact cCall_ok ho h
  · cases h

end Go.Proofs.YtkdnijiipegabaaDoor.B
