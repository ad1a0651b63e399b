/- The program logic: what simp does with a code. Nothing here has a binder in front of what comes later: simp goes through a code from its head on. -/
import Derived.Test.YtkdnijiipegabaaDoorBp
namespace Go.Proofs.YtkdnijiipegabaaDoor.B
open Go.RowKit
set_option linter.unusedVariables false
set_option linter.unusedSimpArgs false

def binC (b : BinOp) : AV → AV → Prop
  | .int k x, .int k' y => k = k' ∧ match b with
    | .quo => y ≠ 0
    | .rem => y ≠ 0
    | .add | .sub | .mul | .xor | .eql | .neq | .lss | .leq | .gtr | .geq => True
    | _ => False
  | .str x, .str y => match b with
    | .add => x.size + y.size ≤ 9223372036854775807
    | .eql | .neq | .lss | .leq | .gtr | .geq => True
    | _ => False
  | _, _ => False

/-- Strings in their order. -/
def sless (x y : ByteArray) : Bool := Op.bytesLess x.toList y.toList
theorem toList_beq (x y : ByteArray) : (x.toList == y.toList) = decide (x = y) := by
  rw [ByteArray.toList_eq, ByteArray.toList_eq]
  obtain ⟨⟨x⟩⟩ := x
  obtain ⟨⟨y⟩⟩ := y
  by_cases h : x = y
  · subst h; simp
  · simp [h]

/-! Strings are in a strict order. -/
def bLess (x y : List UInt8) : Prop := Op.bytesLess x y = true
theorem bLess_irrefl : ∀ x : List UInt8, Op.bytesLess x x = false
  | [] => rfl
  | a :: x => by simp [Op.bytesLess, bLess_irrefl x]
theorem bLess_total : ∀ x y : List UInt8, Op.bytesLess x y = true ∨ x = y ∨ Op.bytesLess y x = true
  | [], [] => .inr (.inl rfl)
  | [], _ :: _ => .inl rfl
  | _ :: _, [] => .inr (.inr rfl)
  | a :: x, b :: y => by
    rcases Nat.lt_trichotomy a.toNat b.toNat with h | h | h
    · exact .inl (by simp [Op.bytesLess, UInt8.lt_iff_toNat_lt, h])
    · have e : a = b := UInt8.toNat_inj.1 h
      subst e
      rcases bLess_total x y with h | h | h
      · exact .inl (by simp [Op.bytesLess, h])
      · exact .inr (.inl (by rw [h]))
      · exact .inr (.inr (by simp [Op.bytesLess, h]))
    · exact .inr (.inr (by simp [Op.bytesLess, UInt8.lt_iff_toNat_lt, h]))
theorem bLess_trans : ∀ x y z : List UInt8, Op.bytesLess x y = true → Op.bytesLess y z = true → Op.bytesLess x z = true
  | _, [], _, h, _ => by cases ‹List UInt8› <;> simp [Op.bytesLess] at h
  | _, _ :: _, [], _, h => by simp [Op.bytesLess] at h
  | [], _ :: _, _ :: _, _, _ => rfl
  | a :: x, b :: y, c :: z, h1, h2 => by
    simp only [Op.bytesLess, Bool.or_eq_true, decide_eq_true_eq, Bool.and_eq_true, beq_iff_eq, UInt8.lt_iff_toNat_lt] at h1 h2 ⊢
    rcases h1 with h1 | ⟨rfl, h1⟩ <;> rcases h2 with h2 | ⟨rfl, h2⟩
    · exact .inl (by omega)
    · exact .inl h1
    · exact .inl h2
    · exact .inr ⟨rfl, bLess_trans x y z h1 h2⟩
theorem toList_inj {x y : ByteArray} (h : x.toList = y.toList) : x = y := by
  have := toList_beq x y
  rw [h] at this
  simp at this
  exact this
theorem sless_irrefl (x : ByteArray) : sless x x = false := bLess_irrefl _
theorem sless_trans {x y z : ByteArray} (h : sless x y = true) (k : sless y z = true) : sless x z = true := bLess_trans _ _ _ h k
theorem sless_total (x y : ByteArray) : sless x y = true ∨ x = y ∨ sless y x = true := (bLess_total x.toList y.toList).imp id (Or.imp toList_inj id)
theorem sless_asymm {x y : ByteArray} (h : sless x y = true) : sless y x = false := by
  cases k : sless y x with
  | false => rfl
  | true =>
    have := sless_trans h k
    rw [sless_irrefl] at this
    cases this
theorem sless_gt (x y : ByteArray) : (!(sless x y || decide (x = y))) = sless y x := by
  rcases sless_total x y with h | h | h
  · rw [h, sless_asymm h]; rfl
  · subst h; simp [sless_irrefl]
  · rw [h, sless_asymm h]
    have : x ≠ y := fun e => by subst e; rw [sless_irrefl] at h; cases h
    simp [this]
theorem sless_le (x y : ByteArray) : (sless x y || decide (x = y)) = !sless y x := by rw [← sless_gt x y, Bool.not_not]

def binV (b : BinOp) : AV → AV → AV
  | .int k x, .int k' y => match b with
    | .add => .int k (k.wrap (x + y))
    | .sub => .int k (k.wrap (x - y))
    | .mul => .int k (k.wrap (x * y))
    | .quo => .int k (k.wrap (x.tdiv y))
    | .rem => .int k (x.tmod y)
    | .xor => .int k (k.wrap ((BitVec.ofInt k.bits x ^^^ BitVec.ofInt k.bits y).toNat))
    | .eql => .bool (decide (x = y))
    | .neq => .bool (!decide (x = y))
    | .lss => .bool (decide (x < y))
    | .leq => .bool (decide (x ≤ y))
    | .gtr => .bool (decide (y < x))
    | .geq => .bool (decide (y ≤ x))
    | _ => .un
  | .str x, .str y => match b with
    | .add => .str (x ++ y)
    | .eql => .bool (decide (x = y))
    | .neq => .bool (!decide (x = y))
    | .lss => .bool (sless x y)
    | .leq => .bool (sless x y || decide (x = y))
    | .gtr => .bool (!(sless x y || decide (x = y)))
    | .geq => .bool (!sless x y)
    | _ => .un
  | _, _ => .un

theorem bin_eq {b : BinOp} {x y : AV} (h : binC b x y) : binA b x y = some (binV b x y) := by
  unfold binC at h
  split at h
  · obtain ⟨rfl, h⟩ := h
    cases b <;> simp only at h <;> simp [binA, binI, binV, h] <;> first | rfl | skip
    all_goals (try exact beq_eq_decide _ _)
    all_goals (try (rw [bne, beq_eq_decide]))
  · cases b <;> simp only at h <;> simp [binA, binS, binV, h, toList_beq, sless]
  · exact h.elim

def ixC : AV → AV → Prop
  | .str s, .int _ j => 0 ≤ j ∧ j < s.size
  | _, _ => False
def ixV : AV → AV → AV
  | .str s, .int _ j => .int .u8 (bt s j)
  | _, _ => .un
def boolC : AV → Prop
  | .bool _ => True
  | _ => False
def pickV : AV → AV → AV → AV
  | .bool q, a, b => if q = true then a else b
  | _, _, _ => .un
def strC : AV → Prop
  | .str _ => True
  | _ => False
def lnsV : AV → AV
  | .str s => .int .i64 s.size
  | _ => .un
def slC : AV → Prop
  | .sl _ _ _ => True
  | .nils => True
  | .sz => True
  | _ => False
def lenV : AV → AV
  | .sl _ _ n => .int .i64 n
  | .nils => .int .i64 0
  | .sz => .int .i64 0
  | _ => .un
def notV : AV → AV
  | .bool q => .bool (!q)
  | _ => .un
def extC (i : Nat) : AV → Prop
  | .tu vs => i < vs.length
  | _ => False
def extV (i : Nat) : AV → AV
  | .tu vs => vs.getD i .un
  | _ => .un
def ptC : AV → Prop
  | .pt _ _ _ => True
  | _ => False
def faV (off : Nat) : AV → AV
  | .pt o i f => .pt o i (f + off)
  | _ => .un

def iaC (H : Hp) (esz : Nat) : AV → AV → Prop
  | .sl o i n, .int _ j => (∃ ob, H.at o = some ob ∧ ob.esz = esz) ∧ 0 ≤ j ∧ j < n
  | _, _ => False
def iaV : AV → AV → AV
  | .sl o i n, .int _ j => .pt o (i + j.toNat) 0
  | _, _ => .un
def cutsC (d : Int → Option Int) (e : Int → Option Int) : AV → Prop
  | .str s => ∃ l h, d 0 = some l ∧ e s.size = some h ∧ 0 ≤ l ∧ l ≤ h ∧ h ≤ s.size
  | _ => False
def cutsV (d : Int → Option Int) (e : Int → Option Int) : AV → AV
  | .str s => .str (s.extract ((d 0).getD 0).toNat ((e s.size).getD 0).toNat)
  | _ => .un

/-- Where an operation can be done. -/
def stepC (t : Tm) (H : Hp) (op : AOp) : Prop :=
  match op with
  | .mv _ | .alloc _ _ | .fn _ _ => True
  | .bin b x y => binC b (x.ev t) (y.ev t)
  | .ix x y => ixC (x.ev t) (y.ev t)
  | .pick c _ _ => boolC (c.ev t)
  | .lns x => strC (x.ev t)
  | .len x => slC (x.ev t)
  | .not x => boolC (x.ev t)
  | .ext i x => extC i (x.ev t)
  | .fa _ x => ptC (x.ev t)
  | .ia esz x y => iaC H esz (x.ev t) (y.ev t)
  | .cuts x lo hi => cutsC (fun d => optI t d lo) (fun d => optI t d hi) (x.ev t)
  | op => (stepA t H op).isSome = true

def oV (o : Option (AV × Hp)) : AV :=
  match o with
  | some (v, _) => v
  | none => .un
def oH (o : Option (AV × Hp)) (H : Hp) : Hp :=
  match o with
  | some (_, H) => H
  | none => H

def stepV (t : Tm) (H : Hp) (op : AOp) : AV :=
  match op with
  | .mv x => x.ev t
  | .bin b x y => binV b (x.ev t) (y.ev t)
  | .ix x y => ixV (x.ev t) (y.ev t)
  | .pick c a b => pickV (c.ev t) (a.ev t) (b.ev t)
  | .lns x => lnsV (x.ev t)
  | .len x => lenV (x.ev t)
  | .not x => notV (x.ev t)
  | .ext i x => extV i (x.ev t)
  | .fa off x => faV off (x.ev t)
  | .ia esz x y => iaV (x.ev t) (y.ev t)
  | .cuts x lo hi => cutsV (fun d => optI t d lo) (fun d => optI t d hi) (x.ev t)
  | .alloc _ zs => .pt H.length 0 0
  | .fn f xs => .fn f (xs.map (·.ev t))
  | op => oV (stepA t H op)

def stepH (t : Tm) (H : Hp) (op : AOp) : Hp :=
  match op with
  | .mv _ | .bin _ _ _ | .ix _ _ | .pick _ _ _ | .lns _ | .len _ | .not _ | .ext _ _ | .fa _ _ | .fn _ _ | .ia _ _ _ | .cuts _ _ _ => H
  | .alloc ety zs => H ++ [some ⟨[zs], zs.length, ety, false⟩]
  | op => oH (stepA t H op) H

theorem isSome_eq {o : Option (AV × Hp)} {H : Hp} (h : o.isSome = true) : o = some (oV o, oH o H) := by
  cases o with
  | none => cases h
  | some p => obtain ⟨v, H'⟩ := p; rfl

theorem step_eq {t : Tm} {H : Hp} {op : AOp} (h : stepC t H op) : stepA t H op = some (stepV t H op, stepH t H op) := by
  cases op <;> simp only [stepC] at h <;> simp only [stepV, stepH] <;> try exact isSome_eq h
  case mv x => rfl
  case alloc e zs => rfl
  case fn f xs => rfl
  case bin b x y => simp only [stepA, bin_eq h, Option.map_some]
  case ix x y =>
    simp only [stepA]
    generalize x.ev t = a at h
    generalize y.ev t = b at h
    cases a <;> cases b <;> simp only [ixC] at h
    exact if_pos h
  case pick c a b =>
    simp only [stepA]
    generalize c.ev t = v at h
    cases v <;> simp only [boolC] at h
    rfl
  case lns x =>
    simp only [stepA]
    generalize x.ev t = v at h
    cases v <;> simp only [strC] at h
    rfl
  case len x =>
    simp only [stepA]
    generalize x.ev t = v at h
    cases v <;> simp only [slC] at h <;> rfl
  case not x =>
    simp only [stepA]
    generalize x.ev t = v at h
    cases v <;> simp only [boolC] at h
    rfl
  case ext i x =>
    simp only [stepA]
    generalize x.ev t = v at h
    cases v <;> simp only [extC] at h
    simp [extV, List.getD_eq_getElem?_getD, h]
  case ia esz x y =>
    simp only [stepA]
    generalize x.ev t = a at h
    generalize y.ev t = b at h
    cases a <;> cases b <;> simp only [iaC] at h
    obtain ⟨⟨ob, h1, h2⟩, h3, h4⟩ := h
    simp only [h1, Option.bind_some]
    rw [if_pos ⟨h2, h3, h4⟩]
    rfl
  case cuts x lo hi =>
    simp only [stepA]
    generalize x.ev t = a at h
    cases a <;> simp only [cutsC] at h
    obtain ⟨l, hh, h1, h2, h3⟩ := h
    simp only [h1, h2, Option.bind_some]
    rw [if_pos h3]
    simp only [cutsV, h1, h2, Option.getD_some]
  case fa off x =>
    simp only [stepA]
    generalize x.ev t = v at h
    cases v <;> simp only [ptC] at h
    rfl

theorem bin_conv {b : BinOp} {x y : AV} (h : (binA b x y).isSome = true) : binC b x y := by
  unfold binA at h
  unfold binC
  split at h
  · split at h
    · rename_i e
      refine ⟨e, ?_⟩
      cases b <;> simp only [binI, Option.isSome_none, Bool.false_eq_true] at h <;> first | trivial | skip
      all_goals
        split at h
        · cases h
        · assumption
    · cases h
  · cases b <;> simp only [binS, Option.isSome_none, Bool.false_eq_true] at h <;> first | trivial | skip
    split at h
    · assumption
    · cases h
  · cases h

theorem step_conv {t : Tm} {H : Hp} {op : AOp} (h : (stepA t H op).isSome = true) : stepC t H op := by
  cases op <;> simp only [stepC] <;> try exact h
  case bin b x y =>
    simp only [stepA, Option.isSome_map] at h
    exact bin_conv h
  case ix x y =>
    simp only [stepA] at h
    generalize x.ev t = a at h
    generalize y.ev t = b at h
    cases a <;> cases b <;> simp only [Option.isSome_none, Bool.false_eq_true] at h
    simp only [ixC]
    split at h
    · assumption
    · cases h
  case ia esz x y =>
    simp only [stepA] at h
    generalize x.ev t = a at h
    generalize y.ev t = b at h
    cases a <;> cases b <;> simp only [Option.isSome_none, Bool.false_eq_true] at h
    rename_i o i n k j
    simp only [iaC]
    cases h1 : H.at o with
    | none => rw [h1] at h; cases h
    | some ob =>
      rw [h1] at h
      simp only [Option.bind_some] at h
      split at h
      · rename_i hc
        exact ⟨⟨ob, rfl, hc.1⟩, hc.2⟩
      · cases h
  case cuts x lo hi =>
    simp only [stepA] at h
    generalize x.ev t = a at h
    cases a <;> simp only [Option.isSome_none, Bool.false_eq_true] at h
    rename_i s
    simp only [cutsC]
    cases h1 : optI t 0 lo with
    | none => rw [h1] at h; cases h
    | some l =>
      cases h2 : optI t s.size hi with
      | none => rw [h1, h2] at h; cases h
      | some hh =>
        rw [h1, h2] at h
        simp only [Option.bind_some] at h
        split at h
        · rename_i hc
          exact ⟨l, hh, rfl, rfl, hc⟩
        · cases h
  case ext i x =>
    simp only [stepA] at h
    generalize x.ev t = v at h
    cases v <;> simp only [Option.isSome_none, Bool.false_eq_true] at h
    rename_i vs
    rw [Option.isSome_map] at h
    simp only [extC]
    rcases Nat.lt_or_ge i vs.length with hl | hl
    · exact hl
    · rw [List.getElem?_eq_none hl] at h; cases h
  all_goals
    simp only [stepA] at h
    generalize Od.ev t _ = v at h ⊢
    cases v <;> simp only [Option.isSome_none, Bool.false_eq_true] at h <;> trivial

/-- Under a guard. -/
def gG (x : AV) (g : Nat) (b : Bool) (C : CallP) (d : Option Nat) (op : AOp) (p : Plan) (t : Tm) (H : Hp) (K : Tm → Hp → Prop) : Prop :=
  match x with
  | .bool q => (q = b → RgP C (.st d op none [] p) t H K) ∧ (q = !b → RgP C p (updO t d .un) H K)
  | .un => RgP C p (updO t d .un) H K
  | _ => False
/-- Under a condition. -/
def cG (x : AV) (C : CallP) (a b : CC) (Q : Ex → Tm → Hp → Prop) (t : Tm) (H : Hp) : Prop :=
  match x with
  | .bool q => (q = true → W C a Q t H) ∧ (q = false → W C b Q t H)
  | _ => False
/-- What was read is read again. -/
def againG (ag : List (Option Nat × AOp × Option (Nat × Bool))) (t : Tm) (H : Hp) : Prop := ∀ q ∈ ag, pend1 t H ⟨q.1, q.2.1, q.2.2, []⟩
/-- Behind a call. -/
def callG (C : CallP) (f : Nat) (args : List AV) (d : Option Nat) (ag : List (Option Nat × AOp × Option (Nat × Bool))) (p : Plan) (t : Tm) (H : Hp) (K : Tm → Hp → Prop) : Prop :=
  C f args H (fun v H' => againG ag (updO t d v) H' ∧ RgP C p (updO t d v) H' K)
/-- Behind the call of a value. -/
def calvG (x : AV) (C : CallP) (args : List AV) (d : Option Nat) (ag : List (Option Nat × AOp × Option (Nat × Bool))) (p : Plan) (t : Tm) (H : Hp) (K : Tm → Hp → Prop) : Prop :=
  match x with
  | .fn f cs => callG C f (args ++ cs) d ag p t H K
  | _ => False

theorem againG_nil (t : Tm) (H : Hp) : againG [] t H = True := by simp [againG]
theorem againG_cons (q) (ag) (t : Tm) (H : Hp) : againG (q :: ag) t H = (pend1 t H ⟨q.1, q.2.1, q.2.2, []⟩ ∧ againG ag t H) := by simp [againG]
theorem pend1_n (t : Tm) (H : Hp) (d : Nat) (op : AOp) (l : List Nat) : pend1 t H ⟨some d, op, none, l⟩ = (stepC t H op ∧ t d = stepV t H op) := by
  apply propext
  simp only [pend1, roA, want]
  constructor
  · rintro ⟨v, hv, ht⟩
    have hs : (stepA t H op).isSome = true := by
      cases h1 : stepA t H op with
      | none => rw [h1] at hv; cases hv
      | some p => rfl
    have hc := step_conv hs
    rw [step_eq hc] at hv
    simp only [Option.map_some, Option.some.injEq] at hv
    exact ⟨hc, by rw [ht d rfl, ← hv]⟩
  · rintro ⟨hc, ht⟩
    exact ⟨stepV t H op, by rw [step_eq hc]; rfl, fun d' hd => by cases hd; exact ht⟩

section
variable (C : CallP) (t : Tm) (H : Hp) (K : Tm → Hp → Prop) (Q : Ex → Tm → Hp → Prop)

theorem stepK_eq {op : AOp} (hn : op.isCall = false) (K : AV → Hp → Prop) : stepK C t H op K = (stepC t H op ∧ K (stepV t H op) (stepH t H op)) := by
  rw [stepK_opt hn]
  apply propext
  constructor
  · intro h
    have hs : (stepA t H op).isSome = true := by
      cases h1 : stepA t H op with
      | none => rw [h1] at h; exact h.elim
      | some p => rfl
    have hc := step_conv hs
    rw [step_eq hc] at h
    exact ⟨hc, h⟩
  · rintro ⟨hc, h⟩
    rw [step_eq hc]
    exact h
theorem RgP_op {op : AOp} (hn : op.isCall = false) (d : Option Nat) (p : Plan) : RgP C (.st d op none [] p) t H K = (stepC t H op ∧ RgP C p (updO t d (stepV t H op)) (stepH t H op) K) := by
  simp only [RgP]
  show stepK C t H op _ = _
  rw [stepK_eq _ _ _ hn]
  simp
theorem RgP_ag {op : AOp} (hn : op.isCall = false) (d : Option Nat) (q) (ag) (p : Plan) : RgP C (.st d op none (q :: ag) p) t H K = (stepC t H op ∧ againG (q :: ag) (updO t d (stepV t H op)) (stepH t H op) ∧ RgP C p (updO t d (stepV t H op)) (stepH t H op) K) := by
  simp only [RgP]
  show stepK C t H op _ = _
  rw [stepK_eq _ _ _ hn]
  rfl
theorem RgP_g (d : Option Nat) (op : AOp) (g : Nat) (b : Bool) (p : Plan) : RgP C (.st d op (some (g, b)) [] p) t H K = gG (t g) g b C d op p t H K := by
  simp only [RgP, roK, want, gG]
  generalize t g = x
  cases x <;> try rfl
  · rename_i q
    cases q <;> cases b <;> simp
  · simp
theorem RgP_call (d : Option Nat) (f : Nat) (xs : List Od) (ag) (p : Plan) : RgP C (.st d (.call f xs) none ag p) t H K = callG C f (xs.map (·.ev t)) d ag p t H K := by
  simp only [RgP, callG]
  rfl
theorem W_cond (c : Od) (a b : CC) : W C (.cond c a b) Q t H = cG (c.ev t) C a b Q t H := by
  simp only [W, cG]
  generalize c.ev t = x
  cases x <;> try rfl
  rename_i q
  cases q <;> simp
end

end Go.Proofs.YtkdnijiipegabaaDoor.B
