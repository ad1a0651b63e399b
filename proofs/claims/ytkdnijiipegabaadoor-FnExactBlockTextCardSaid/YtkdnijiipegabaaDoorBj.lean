/- The program logic: codes, and what they do. -/
import Derived.Test.YtkdnijiipegabaaDoorBi
namespace Go.Proofs.YtkdnijiipegabaaDoor.B
open Go.RowKit
set_option linter.unusedVariables false
set_option linter.unusedSimpArgs false

/-- An operation in a region: its temporary, what it does, its guard, the operations that it waits for. -/
structure RO where
  d : Option Nat
  op : AOp
  g : Option (Nat × Bool)
  after : List Nat

/-- A region's order, chosen where it may be: an operation, those that are to read again what they read, and so on. -/
inductive Plan where
  | fin
  | st (d : Option Nat) (op : AOp) (g : Option (Nat × Bool)) (again : List (Option Nat × AOp × Option (Nat × Bool))) (p : Plan)
  | both (a b : Plan)
  | bad

inductive CC where
  | skip
  | plan (p : Plan)
  | seq (a b : CC)
  | cond (c : Od) (a b : CC)
  | block (id : Nat) (c : CC)
  | loop (c : CC)
  | exit (id : Nat)
  | ret

abbrev Tm := Nat → AV
abbrev CallP := Nat → List AV → Hp → (AV → Hp → Prop) → Prop

def AOp.ods : AOp → List Od
  | .mv x | .box _ _ x | .ld x | .lda _ x | .nck x | .not x | .neg x | .cv _ x | .cvs x | .mk _ _ _ _ x | .fa _ x | .fd _ _ x | .ext _ x | .len x | .lns x => [x]
  | .pick c a b => [c, a, b]
  | .alloc _ _ => []
  | .build _ ps => ps.map (·.2.2)
  | .lit _ _ _ _ ps => ps.map (·.2.2)
  | .st _ x y | .bin _ x y | .eqb _ x y | .eqn _ _ x y | .eqs _ _ x y | .ia _ x y | .ix x y | .mx x y | .mn x y | .app _ _ _ x y => [x, y]
  | .cut _ x l h => x :: (l.toList ++ h.toList)
  | .cuts x l h => x :: (l.toList ++ h.toList)
  | .fn _ xs => xs
  | .call _ xs => xs
  | .calv x xs => x :: xs

def AOp.quiet : AOp → Bool
  | .alloc _ _ | .box _ _ _ | .lit _ _ _ _ _ | .st _ _ _ | .mk _ _ _ _ _ | .app _ _ _ _ _ | .call _ _ | .calv _ _ => false
  | _ => true

/-- Does it look at memory. -/
def AOp.mem : AOp → Bool
  | .ld _ | .lda _ _ | .cut _ _ _ _ | .ia _ _ _ | .cvs _ => true
  | _ => false

def optK (o : Option (AV × Hp)) (K : AV → Hp → Prop) : Prop :=
  match o with
  | some (v, H) => K v H
  | none => False

def stepK (C : CallP) (t : Tm) (H : Hp) (op : AOp) (K : AV → Hp → Prop) : Prop :=
  match op with
  | .call f xs => C f (xs.map (·.ev t)) H K
  | .calv x xs => match x.ev t with
    | .fn f cs => C f (xs.map (·.ev t) ++ cs) H K
    | _ => False
  | op => optK (stepA t H op) K

def updO (t : Tm) (d : Option Nat) (v : AV) : Tm :=
  match d with
  | some d => upd t d v
  | none => t

/-- Is a guarded operation wanted. -/
def want (t : Tm) : Option (Nat × Bool) → Option Bool
  | none => some true
  | some (d, b) => match t d with
    | .bool q => some (q == b)
    | .un => some false
    | _ => none

def roK (C : CallP) (t : Tm) (H : Hp) (r : RO) (K : Tm → Hp → Prop) : Prop :=
  match want t r.g with
  | some true => stepK C t H r.op (fun v H' => K (updO t r.d v) H')
  | some false => K (updO t r.d .un) H
  | none => False

def opsK (C : CallP) : List RO → Tm → Hp → (Tm → Hp → Prop) → Prop
  | [], t, H, K => K t H
  | r :: l, t, H, K => roK C t H r (fun t' H' => opsK C l t' H' K)

/-- What a quiet operation yields. -/
def roA (t : Tm) (H : Hp) (r : RO) : Option AV :=
  match want t r.g with
  | some true => (stepA t H r.op).map (·.1)
  | some false => some .un
  | none => none

def RO.looks (r : RO) : List Nat := r.op.ods.filterMap (fun | .t d => some d | .c _ => none) ++ (match r.g with | some (d, _) => [d] | none => [])

/-- All that an operation waits for. -/
def before (l : List RO) : Nat → Nat → List Nat
  | 0, _ => []
  | n + 1, i => match l[i]? with
    | some r => r.after ++ r.after.flatMap (before l n)
    | none => []

def waits (l : List RO) (j i : Nat) : Bool := (before l l.length j).contains i

/-- A quiet operation; who looks at what it writes waits for it. -/
def qt (l : List RO) (i : Nat) (r : RO) : Bool :=
  r.op.quiet && (List.range l.length).all fun k => match l[k]?, r.d with
    | some q, some d => !q.looks.contains d || waits l k i
    | _, _ => true

/-- A quiet operation that can be done next. -/
def nextQ (l : List RO) (D : List Nat) : Option Nat :=
  (List.range l.length).find? fun i => !D.contains i && match l[i]? with
    | some r => qt l i r && r.after.all D.contains
    | none => false

def readyL (l : List RO) (D : List Nat) : List Nat :=
  (List.range l.length).filter fun i => !D.contains i && match l[i]? with
    | some r => !qt l i r && r.after.all D.contains
    | none => false

/-- What has been read may be read again, if nothing says that it was read before. -/
def again (l : List RO) (D : List Nat) (i : Nat) : List RO :=
  D.filterMap fun p => match l[p]? with
    | some r => if r.op.mem && !waits l i p then some r else none
    | none => none

def pend1 (t : Tm) (H : Hp) (r : RO) : Prop := ∃ v, roA t H r = some v ∧ ∀ d, r.d = some d → t d = v

def Rg (C : CallP) : Nat → List RO → List Nat → Tm → Hp → (Tm → Hp → Prop) → Prop
  | 0, _, _, _, _, _ => False
  | n + 1, l, D, t, H, K =>
    match nextQ l D with
    | some i => match l[i]? with
      | some r => match roA t H r with
        | some v => Rg C n l (i :: D) (updO t r.d v) H K
        | none => False
      | none => False
    | none => if (List.range l.length).all D.contains then K t H else ∀ i ∈ readyL l D, match l[i]? with
      | some r => roK C t H r (fun t' H' => (∀ q ∈ again l D i, pend1 t' H' q) ∧ Rg C n l (i :: D) t' H' K)
      | none => False

/-- Each temporary is written once; who looks at it waits for it, or is waited for. -/
def good (l : List RO) : Bool :=
  (List.range l.length).all fun i => match l[i]? with
    | some r => r.after.all (· < i) && (List.range l.length).all fun j => match l[j]? with
      | some q => match q.d with
        | some d => (j == i || r.d != some d) && (!r.looks.contains d || (j != i && (waits l i j || waits l j i)))
        | none => true
      | none => true
    | none => true

def RgP (C : CallP) : Plan → Tm → Hp → (Tm → Hp → Prop) → Prop
  | .fin, t, H, K => K t H
  | .st d op g ag p, t, H, K => roK C t H ⟨d, op, g, []⟩ (fun t' H' => (∀ q ∈ ag, pend1 t' H' ⟨q.1, q.2.1, q.2.2, []⟩) ∧ RgP C p t' H' K)
  | .both a b, t, H, K => RgP C a t H K ∧ RgP C b t H K
  | .bad, _, _, _ => False

def seqPlan : List RO → Plan
  | [] => .fin
  | r :: l => .st r.d r.op r.g [] (seqPlan l)

def alts (f : Nat → Plan) : List Nat → Plan
  | [] => .bad
  | [i] => f i
  | i :: is => .both (f i) (alts f is)

def mkPlan : Nat → List RO → List Nat → Plan
  | 0, _, _ => .bad
  | n + 1, l, D => match nextQ l D with
    | some i => match l[i]? with
      | some r => .st r.d r.op r.g [] (mkPlan n l (i :: D))
      | none => .bad
    | none => if (List.range l.length).all D.contains then .fin else alts (fun i => match l[i]? with
      | some r => .st r.d r.op r.g ((again l D i).map fun q => (q.d, q.op, q.g)) (mkPlan n l (i :: D))
      | none => .bad) (readyL l D)

inductive Ex where
  | normal
  | exit (id : Nat)
  | ret

def thenX (K : Tm → Hp → Prop) (Q : Ex → Tm → Hp → Prop) : Ex → Tm → Hp → Prop
  | .normal, t, H => K t H
  | e, t, H => Q e t H
def inB (id : Nat) (Q : Ex → Tm → Hp → Prop) : Ex → Tm → Hp → Prop
  | .exit id', t, H => if id' = id then Q .normal t H else Q (.exit id') t H
  | e, t, H => Q e t H

def W (C : CallP) : CC → (Ex → Tm → Hp → Prop) → Tm → Hp → Prop
  | .skip, Q, t, H => Q .normal t H
  | .plan p, Q, t, H => RgP C p t H (Q .normal)
  | .seq a b, Q, t, H => W C a (thenX (W C b Q) Q) t H
  | .cond c a b, Q, t, H => match c.ev t with
    | .bool true => W C a Q t H
    | .bool false => W C b Q t H
    | _ => False
  | .block id c, Q, t, H => W C c (inB id Q) t H
  | .loop c, Q, t, H => ∃ (I : Tm → Hp → Prop) (μ : Tm → Hp → Nat), I t H ∧ ∀ t H, I t H → W C c (thenX (fun t' H' => I t' H' ∧ μ t' H' < μ t H) Q) t H
  | .exit id, Q, t, H => Q (.exit id) t H
  | .ret, Q, t, H => Q .ret t H

/-! ### Congruence -/

theorem opt_congr {t t' : Tm} {x : Option Od} (h : ∀ y ∈ x.toList, y.ev t = y.ev t') (d : Int) : optI t d x = optI t' d x := by
  cases x with
  | none => rfl
  | some x => simp only [optI]; rw [h x (by simp)]

theorem fill_congr {t t' : Tm} : ∀ (ps : List (Nat × Nat × Od)) (zs : List AV), (∀ y ∈ ps.map (·.2.2), y.ev t = y.ev t') → fillA t zs ps = fillA t' zs ps
  | [], zs, h => rfl
  | (off, n, x) :: ps, zs, h => by
    simp only [fillA]
    rw [h x (by simp)]
    split
    · exact fill_congr ps _ (fun y hy => h y (by simp only [List.map_cons, List.mem_cons]; exact .inr hy))
    · rfl

theorem map_congr {t t' : Tm} {xs : List Od} (h : ∀ y ∈ xs, y.ev t = y.ev t') : xs.map (·.ev t) = xs.map (·.ev t') := List.map_congr_left h

theorem stepA_congr {t t' : Tm} {op : AOp} (h : ∀ y ∈ op.ods, y.ev t = y.ev t') (H : Hp) : stepA t H op = stepA t' H op := by
  cases op <;> simp only [AOp.ods] at h <;> simp only [stepA]
  case build zs ps => rw [fill_congr ps zs h]
  case lit ety esz n zs ps => rw [fill_congr ps zs h]
  case fn f xs => rw [map_congr h]
  case cut esz x l hh =>
    rw [h x (by simp)]
    have e1 : ∀ d, optI t d l = optI t' d l := opt_congr (fun y hy => h y (by simp [hy]))
    have e2 : ∀ d, optI t d hh = optI t' d hh := opt_congr (fun y hy => h y (by simp [hy]))
    simp only [e1, e2]
  case cuts x l hh =>
    rw [h x (by simp)]
    have e1 : ∀ d, optI t d l = optI t' d l := opt_congr (fun y hy => h y (by simp [hy]))
    have e2 : ∀ d, optI t d hh = optI t' d hh := opt_congr (fun y hy => h y (by simp [hy]))
    simp only [e1, e2]
  case pick c a b => rw [h c (by simp), h a (by simp), h b (by simp)]
  all_goals
    first
    | rfl
    | (rename_i x y; rw [h x (by simp), h y (by simp)])
    | (rename_i x; rw [h x (by simp)])

theorem stepK_congr {C : CallP} {t t' : Tm} {op : AOp} (h : ∀ y ∈ op.ods, y.ev t = y.ev t') (H : Hp) (K : AV → Hp → Prop) : stepK C t H op K = stepK C t' H op K := by
  have key := stepA_congr h H
  cases op <;> simp only [AOp.ods] at h <;> simp only [stepK]
  case call f xs => rw [map_congr h]
  case calv x xs => rw [h x (by simp), map_congr (fun y hy => h y (List.mem_cons_of_mem _ hy))]
  all_goals rw [key]

theorem ods_congr {t t' : Tm} {r : RO} (h : ∀ d ∈ r.looks, t d = t' d) : (∀ y ∈ r.op.ods, y.ev t = y.ev t') ∧ want t r.g = want t' r.g := by
  refine ⟨fun y hy => ?_, ?_⟩
  · cases y with
    | c v => rfl
    | t d => exact h d (List.mem_append_left _ (List.mem_filterMap.2 ⟨.t d, hy, rfl⟩))
  · cases hg : r.g with
    | none => rfl
    | some p =>
      obtain ⟨d, b⟩ := p
      simp only [want]
      rw [h d (List.mem_append_right _ (by rw [hg]; simp))]

theorem roA_congr {t t' : Tm} {r : RO} (h : ∀ d ∈ r.looks, t d = t' d) (H : Hp) : roA t H r = roA t' H r := by
  obtain ⟨h1, h2⟩ := ods_congr h
  unfold roA
  rw [h2, stepA_congr h1]

/-- A quiet operation changes nothing. -/
theorem quiet_same {t : Tm} {H H' : Hp} {op : AOp} {v : AV} (hq : op.quiet = true) (h : stepA t H op = some (v, H')) : H' = H := by
  cases op <;> simp only [AOp.quiet, Bool.false_eq_true] at hq <;> simp only [stepA] at h
  case cut esz x lo hi =>
    split at h
    · simp only [Option.bind_eq_some_iff] at h
      obtain ⟨ob, _, h⟩ := h
      split at h
      · simp only [Option.bind_eq_some_iff] at h
        obtain ⟨_, _, _, _, h⟩ := h
        split at h <;> cases h <;> rfl
      · cases h
    · simp only [Option.bind_eq_some_iff] at h
      obtain ⟨_, _, _, _, h⟩ := h
      split at h <;> cases h <;> rfl
    · simp only [Option.bind_eq_some_iff] at h
      obtain ⟨_, _, _, _, h⟩ := h
      split at h <;> cases h <;> rfl
    · cases h
  case cvs x =>
    split at h
    · simp only [Option.bind_eq_some_iff] at h
      obtain ⟨ob, _, h⟩ := h
      split at h
      · simp only [Option.map_eq_some_iff, Prod.mk.injEq] at h
        obtain ⟨_, _, _, rfl⟩ := h
        rfl
      · cases h
    · cases h
  all_goals (repeat' split at h)
  all_goals
    first
    | (cases h <;> rfl)
    | (simp only [Option.map_eq_some_iff, Prod.mk.injEq] at h; obtain ⟨_, _, _, rfl⟩ := h; rfl)
    | (simp only [Option.bind_eq_some_iff, Option.map_eq_some_iff] at h; grind)
    | skip

theorem stepK_mono {C : CallP} (hC : ∀ f args H K K', (∀ v H', K v H' → K' v H') → C f args H K → C f args H K') {t : Tm} {H : Hp} {op : AOp} {K K' : AV → Hp → Prop} (hk : ∀ v H', K v H' → K' v H') (h : stepK C t H op K) : stepK C t H op K' := by
  unfold stepK at h ⊢
  split at h
  · exact hC _ _ _ _ _ hk h
  · split at h
    · exact hC _ _ _ _ _ hk h
    · exact h.elim
  · unfold optK at h ⊢
    split at h
    · exact hk _ _ h
    · exact h.elim

theorem roK_mono {C : CallP} (hC : ∀ f args H K K', (∀ v H', K v H' → K' v H') → C f args H K → C f args H K') {t : Tm} {H : Hp} {r : RO} {K K' : Tm → Hp → Prop} (hk : ∀ v H', K v H' → K' v H') (h : roK C t H r K) : roK C t H r K' := by
  unfold roK at h ⊢
  split at h
  · exact stepK_mono hC (fun v H' => hk _ _) h
  · exact hk _ _ h
  · exact h.elim

/-- What a quiet operation does. -/
theorem roK_quiet {C : CallP} {t : Tm} {H : Hp} {r : RO} {K : Tm → Hp → Prop} (hq : r.op.quiet = true) (h : roK C t H r K) : ∃ v, roA t H r = some v ∧ K (updO t r.d v) H := by
  unfold roK at h
  unfold roA
  split at h
  · have hk : stepK C t H r.op (fun v H' => K (updO t r.d v) H') = optK (stepA t H r.op) (fun v H' => K (updO t r.d v) H') := by
      generalize r.op = op at hq
      cases op <;> first | rfl | cases hq
    rw [hk] at h
    unfold optK at h
    split at h
    · rename_i v H' hs
      obtain rfl := quiet_same hq hs
      exact ⟨v, by simp [hs], h⟩
    · exact h.elim
  · exact ⟨.un, rfl, h⟩
  · exact h.elim

theorem roK_after {C : CallP} {t : Tm} {H : Hp} {r : RO} {K : Tm → Hp → Prop} (l : List Nat) : roK C t H ⟨r.d, r.op, r.g, l⟩ K = roK C t H r K := rfl

theorem seqPlan_ok {C : CallP} (hC : ∀ f args H K K', (∀ v H', K v H' → K' v H') → C f args H K → C f args H K') : ∀ (l : List RO) (t : Tm) (H : Hp) (K : Tm → Hp → Prop), RgP C (seqPlan l) t H K → opsK C l t H K
  | [], t, H, K, h => h
  | r :: l, t, H, K, h => by
    simp only [seqPlan, RgP, roK_after] at h
    exact roK_mono hC (fun v H' h => seqPlan_ok hC l _ _ K h.2) h

theorem alts_ok {C : CallP} {t : Tm} {H : Hp} {K : Tm → Hp → Prop} (f : Nat → Plan) : ∀ (is : List Nat), RgP C (alts f is) t H K → ∀ i ∈ is, RgP C (f i) t H K
  | [], h, i, hi => by simp at hi
  | [j], h, i, hi => by
    rw [List.mem_singleton.1 hi]
    exact h
  | j :: k :: is, h, i, hi => by
    simp only [alts, RgP] at h
    rcases List.mem_cons.1 hi with rfl | hi
    · exact h.1
    · exact alts_ok f (k :: is) h.2 i hi

theorem mkPlan_ok {C : CallP} (hC : ∀ f args H K K', (∀ v H', K v H' → K' v H') → C f args H K → C f args H K') : ∀ (n : Nat) (l : List RO) (D : List Nat) (t : Tm) (H : Hp) (K : Tm → Hp → Prop), RgP C (mkPlan n l D) t H K → Rg C n l D t H K
  | 0, l, D, t, H, K, h => h.elim
  | n + 1, l, D, t, H, K, h => by
    simp only [mkPlan] at h
    simp only [Rg]
    split at h
    · rename_i i hi
      split at h
      · rename_i r hr
        simp only [RgP, roK_after] at h
        have hq : r.op.quiet = true := by
          unfold nextQ at hi
          have h1 := List.find?_some hi
          simp only [hr, Bool.and_eq_true] at h1
          have h2 := h1.2.1
          simp only [qt, Bool.and_eq_true] at h2
          exact h2.1
        obtain ⟨v, hv, hk⟩ := roK_quiet hq h
        simp only [hr, hv]
        exact mkPlan_ok hC n l (i :: D) _ _ K hk.2
      · exact h.elim
    · rename_i hi
      split at h
      · rename_i hall
        rw [if_pos hall]
        exact h
      · rename_i hall
        rw [if_neg hall]
        intro i hir
        have h1 := alts_ok _ _ h i hir
        split at h1
        · rename_i r hr
          simp only [RgP, roK_after] at h1
          refine roK_mono hC (fun t' H' hk => ⟨fun q hq => ?_, mkPlan_ok hC n l (i :: D) _ _ K hk.2⟩) h1
          exact hk.1 (q.d, q.op, q.g) (List.mem_map.2 ⟨q, hq, rfl⟩)
        · exact h1.elim

end Go.Proofs.YtkdnijiipegabaaDoor.B
