/- The program logic: from the program's codes and functions to the abstract ones. -/
import Derived.Test.YtkdnijiipegabaaDoorBm
namespace Go.Proofs.YtkdnijiipegabaaDoor.B
open Go.RowKit
set_option linter.unusedVariables false
set_option linter.unusedSimpArgs false

def cGuard (ops : Array Oper) : Option (Nat × Bool) → Option (Option (Nat × Bool))
  | none => some none
  | some (g, b) => (ops[g]?).bind fun o => o.dst.map fun d => some (d, b)

def dOk (nt : Nat) : Option Nat → Bool
  | some d => decide (d < nt)
  | none => true

def cRO (P : Program) (nt : Nat) (ops : Array Oper) (o : Oper) : Option RO :=
  (cOp P o).bind fun op => (cGuard ops o.guard).bind fun g =>
    if dOk nt o.dst = true then some { d := o.dst, op, g, after := (o.after.toList.filter (Region.binds .any)).map (·.on) } else none

def cROs (P : Program) (nt : Nat) (ops : Array Oper) : List Oper → Option (List RO)
  | [] => some []
  | o :: os => (cRO P nt ops o).bind fun r => (cROs P nt ops os).map fun rs => r :: rs

def comp (P : Program) (nt : Nat) : Code → Option CC
  | .skip => some .skip
  | .region _ ops false => (cROs P nt ops ops.toList).map fun l => .plan (seqPlan l)
  | .region _ ops true => (cROs P nt ops ops.toList).bind fun l => if good l = true then some (.plan (mkPlan (2 * l.length + 1) l [])) else none
  | .seq a b => (comp P nt a).bind fun a' => (comp P nt b).map fun b' => .seq a' b'
  | .cond c a b => (cOd c).bind fun c' => (comp P nt a).bind fun a' => (comp P nt b).map fun b' => .cond c' a' b'
  | .block id c => (comp P nt c).map fun c' => .block id c'
  | .loop c => (comp P nt c).map .loop
  | .exit id => some (.exit id)
  | .ret => some .ret
  | _ => none

/-- Where a result lies. -/
inductive RV where
  | t (d : Nat)
  | c (d : Nat)
  | ca (d n : Nat)

structure CF where
  nt : Nat
  body : CC
  res : List RV

def cRV (P : Program) : ResultVar → Option RV
  | .tmp d => some (.t d)
  | .cell a T => match P.underlying T with
    | some d => if aggB d = true then (P.info? T).map fun i => .ca a i.size else some (.c a)
    | none => none

def cRVs (P : Program) : List ResultVar → Option (List RV)
  | [] => some []
  | r :: rs => (cRV P r).bind fun x => (cRVs P rs).map fun xs => x :: xs

def compF (P : Program) (f : Nat) : Option CF :=
  (P.funcs[f]?).bind fun fn => fn.body.bind fun c => if (fn.name == "runtime.NumGoroutine") = false then
    (comp P fn.ntmps c).bind fun body => (cRVs P fn.results.toList).map fun res => { nt := fn.ntmps, body, res } else none

def rvA (t : Tm) (H : Hp) : RV → Option AV
  | .t d => some (t d)
  | .c d => (stepA t H (.ld (.t d))).map (·.1)
  | .ca d n => (stepA t H (.lda n (.t d))).map (·.1)
def rvsA (t : Tm) (H : Hp) : List RV → Option (List AV)
  | [] => some []
  | r :: rs => (rvA t H r).bind fun v => (rvsA t H rs).map fun vs => v :: vs
def resA (t : Tm) (H : Hp) (rs : List RV) : Option AV :=
  match rs with
  | [r] => rvA t H r
  | rs => (rvsA t H rs).map .tu

/-- A function's end. -/
def endX (res : List RV) (R : AV → Hp → Prop) : Ex → Tm → Hp → Prop
  | .exit _, _, _ => False
  | _, t, H => match resA t H res with
    | some v => R v H
    | none => False

def initT (args : List AV) : Tm := fun d => args.getD d .un

variable {P : Program} {E : Env}

theorem cRO_ok {nt : Nat} {ops : Array Oper} {o : Oper} {r : RO} (h : cRO P nt ops o = some r) : RoOK P E nt ops o r := by
  unfold cRO at h
  simp only [Option.bind_eq_some_iff] at h
  obtain ⟨op, hop, g, hg, h⟩ := h
  split at h
  · rename_i hd
    cases h
    refine ⟨rfl, cOp_ok hop, ?_, fun d hdd => ?_, fun j => ?_⟩
    · unfold cGuard at hg
      split at hg
      · rename_i e
        cases hg
        exact .inl ⟨e, rfl⟩
      · rename_i g0 b e
        simp only [Option.bind_eq_some_iff, Option.map_eq_some_iff] at hg
        obtain ⟨og, hog, d, hd, rfl⟩ := hg
        exact .inr ⟨g0, b, og, d, e, hog, hd, rfl⟩
    · simp only at hdd
      rw [hdd] at hd
      simpa [dOk] using hd
    · simp only [List.mem_map, List.mem_filter, Array.mem_toList_iff]
      constructor
      · rintro ⟨e, ⟨h1, h2⟩, h3⟩
        exact ⟨e, h1, h2, h3⟩
      · rintro ⟨e, h1, h2, h3⟩
        exact ⟨e, ⟨h1, h2⟩, h3⟩
  · cases h

theorem cROs_ok {nt : Nat} {ops : Array Oper} : ∀ {os : List Oper} {l : List RO}, cROs P nt ops os = some l → l.length = os.length ∧ ∀ (i : Nat) (o : Oper) (r : RO), os[i]? = some o → l[i]? = some r → RoOK P E nt ops o r
  | [], l, h => by
    simp only [cROs, Option.some.injEq] at h
    subst h
    exact ⟨rfl, fun i o r h => by simp at h⟩
  | o :: os, l, h => by
    simp only [cROs, Option.bind_eq_some_iff, Option.map_eq_some_iff] at h
    obtain ⟨r, hr, rs, hrs, rfl⟩ := h
    obtain ⟨h1, h2⟩ := cROs_ok hrs
    refine ⟨by simp [h1], fun i o' r' ho' hr' => ?_⟩
    cases i with
    | zero =>
      have e1 : o = o' := by simpa using ho'
      have e2 : r = r' := by simpa using hr'
      subst e1 e2
      exact cRO_ok hr
    | succ i => exact h2 i o' r' (by simpa using ho') (by simpa using hr')

theorem AC_le (f : Nat) (args : List AV) (H : Hp) (K K' : AV → Hp → Prop) (hk : ∀ v H', K v H' → K' v H') (h : AC P E f args H K) : AC P E f args H K' :=
  ⟨h.1, fun φ w vals hv hH => Calls.mono (h.2 φ w vals hv hH) (fun e w' he => by
    cases e with
    | returned u =>
      obtain ⟨φ', H', v, p1, p2, p3, p4, p5⟩ := he
      exact ⟨φ', H', v, p1, p2, p3, p4, hk _ _ p5⟩
    | panicked c => exact he
    | outgrown => exact he)⟩

def exOf : Ex → Exit
  | .normal => .normal
  | .exit id => .exit id
  | .ret => .ret

/-- What is behind a code. -/
structure Rel (E : Env) (n : Nat) (φ0 : Phi) (w0 : World) (t : Tm) (H : Hp) (φ : Phi) (a : Act) (w : World) : Prop where
  tr : TR φ t n a
  hr : HR E φ H w
  below : Below E.B0 w0 w
  le : PLe φ0 φ

def After (E : Env) (n : Nat) (φ0 : Phi) (w0 : World) (Q : Ex → Tm → Hp → Prop) (QQ : Exit → Act → World → Prop) : Prop :=
  ∀ e t H φ a w, Rel E n φ0 w0 t H φ a w → Q e t H → QQ (exOf e) a w

theorem W_sound (hm : P.follows .mixedOrders = true) {nt n : Nat} (hn : nt ≤ n) {φ0 : Phi} {w0 : World} : ∀ (code : Code) (c : CC), comp P nt code = some c → ∀ (Q : Ex → Tm → Hp → Prop) (t : Tm) (H : Hp), W (AC P E) c Q t H →
    ∀ (φ : Phi) (a : Act) (w : World), Rel E n φ0 w0 t H φ a w → ∀ (QQ : Exit → Act → World → Prop), After E n φ0 w0 Q QQ → code.wp P QQ a w := by
  intro code
  induction code with
  | skip =>
    intro c hc Q t H h φ a w hr QQ hq
    cases hc
    exact wp_skip (hq .normal t H φ a w hr h)
  | region id ops draw =>
    intro c hc Q t H h φ a w hr QQ hq
    cases draw with
    | false =>
      simp only [comp, Option.map_eq_some_iff] at hc
      obtain ⟨l, hl, rfl⟩ := hc
      obtain ⟨h1, h2⟩ := cROs_ok (E := E) hl
      refine wp_region (ops_sound (K := Q .normal) hn (fun φ t H a w p1 p2 p3 p4 p5 => hq .normal t H φ a w ⟨p1, p2, p3, p4⟩ p5) _ l (fun p hp => ?_) (by simp [h1]) t H (seqPlan_ok AC_le l t H _ h) φ a w hr.tr hr.hr hr.below hr.le)
      obtain ⟨k, hk⟩ := List.getElem?_of_mem hp
      obtain ⟨i, r⟩ := p
      rw [List.getElem?_zip_eq_some] at hk
      obtain ⟨k1, k2⟩ := hk
      have e : k = i ∧ k < ops.size := by
        rw [List.getElem?_eq_some_iff] at k1
        obtain ⟨q1, q2⟩ := k1
        simp at q1 q2
        exact ⟨q2, q1⟩
      obtain ⟨rfl, hlt⟩ := e
      exact ⟨ops[k], by simp [hlt], h2 k _ r (by simp [hlt]) k2⟩
    | true =>
      simp only [comp, Option.bind_eq_some_iff] at hc
      obtain ⟨l, hl, hc⟩ := hc
      split at hc
      · rename_i hg
        cases hc
        obtain ⟨h1, h2⟩ := cROs_ok (E := E) hl
        have h1' : l.length = ops.size := by simpa using h1
        refine wp_region_any hm (sim hg h1' hn (fun i o r ho hr' => h2 i o r (by simpa using ho) hr') (K := Q .normal) (fun φ t H a w p1 p2 p3 p4 p5 => hq .normal t H φ a w ⟨p1, p2, p3, p4⟩ p5) _ [] t H (mkPlan_ok AC_le _ l [] t H _ h) ops.size _ φ a _ ?_ ⟨by simp [h1'], fun i hi => ?_, by simp, by simp, fun i r hi => ?_, by simp, ⟨hr.tr.size, fun d _ => hr.tr.vals d, hr.tr.defers⟩, hr.hr.drew⟩ (hr.below.trans ⟨rfl, rfl, rfl, Nat.le_refl _, fun _ _ => rfl⟩) hr.le)
        · have : ∀ k, cntF (List.replicate k false) = k := by
            intro k
            induction k with
            | zero => rfl
            | succ k ih => simp [List.replicate_succ, cntF] at ih ⊢
          simp [this]
        · simp [Array.getElem?_replicate] at hi
        · simp [Array.getElem?_replicate] at hi
      · cases hc
  | seq x y ihx ihy =>
    intro c hc Q t H h φ a w hr QQ hq
    simp only [comp, Option.bind_eq_some_iff, Option.map_eq_some_iff] at hc
    obtain ⟨a', ha, b', hb, rfl⟩ := hc
    refine wp_seq (ihx a' ha _ t H h φ a w hr _ (fun e t1 H1 φ1 a1 w1 hr1 h1 => ?_))
    cases e with
    | normal => exact ihy b' hb Q t1 H1 h1 φ1 a1 w1 hr1 QQ hq
    | exit id => exact hq (.exit id) t1 H1 φ1 a1 w1 hr1 h1
    | ret => exact hq .ret t1 H1 φ1 a1 w1 hr1 h1
  | cond x y z ihy ihz =>
    intro c hc Q t H h φ a w hr QQ hq
    simp only [comp, Option.bind_eq_some_iff, Option.map_eq_some_iff] at hc
    obtain ⟨c', hc', a', ha, b', hb, rfl⟩ := hc
    have hv := hr.tr.ev hc'
    simp only [W] at h
    split at h
    · rename_i e
      rw [e] at hv
      exact wp_cond_true hv (ihy a' ha Q t H h φ a w hr QQ hq)
    · rename_i e
      rw [e] at hv
      exact wp_cond_false hv (ihz b' hb Q t H h φ a w hr QQ hq)
    · exact h.elim
  | block id x ih =>
    intro c hc Q t H h φ a w hr QQ hq
    simp only [comp, Option.map_eq_some_iff] at hc
    obtain ⟨c', hc', rfl⟩ := hc
    refine wp_block (ih c' hc' _ t H h φ a w hr _ (fun e t1 H1 φ1 a1 w1 hr1 h1 => ?_))
    cases e with
    | normal => exact hq .normal t1 H1 φ1 a1 w1 hr1 h1
    | exit id' =>
      simp only [inB] at h1
      simp only [exOf, Exit.inBlock]
      split
      · rename_i e
        rw [if_pos e] at h1
        exact hq .normal t1 H1 φ1 a1 w1 hr1 h1
      · rename_i e
        rw [if_neg e] at h1
        exact hq (.exit id') t1 H1 φ1 a1 w1 hr1 h1
    | ret => exact hq .ret t1 H1 φ1 a1 w1 hr1 h1
  | loop x ih =>
    intro c hc Q t H h φ a w hr QQ hq
    simp only [comp, Option.map_eq_some_iff] at hc
    obtain ⟨c', hc', rfl⟩ := hc
    obtain ⟨I, μ, h0, hround⟩ := h
    intro b k cs
    have key : ∀ m t H φ a w, μ t H = m → I t H → Rel E n φ0 w0 t H φ a w →
        ∃ e a' w', QQ e a' w' ∧ Arrives P (lone (b.at a (.code x :: .inLoop x :: k)) cs w) b k cs e a' w' := by
      intro m
      induction m using Nat.strongRecOn with
      | _ m ihm =>
        intro t H φ a w hμ hI hr
        have hwp := ih c' hc' _ t H (hround t H hI) φ a w hr (fun e a1 w1 => match e with
          | .normal => ∃ t1 H1 φ1, Rel E n φ0 w0 t1 H1 φ1 a1 w1 ∧ I t1 H1 ∧ μ t1 H1 < μ t H
          | e => QQ e a1 w1) (fun e t1 H1 φ1 a1 w1 hr1 h1 => by
            cases e with
            | normal => exact ⟨t1, H1, φ1, hr1, h1⟩
            | exit id => exact hq (.exit id) t1 H1 φ1 a1 w1 hr1 h1
            | ret => exact hq .ret t1 H1 φ1 a1 w1 hr1 h1)
        obtain ⟨e, a₁, w₁, hqq, harr⟩ := hwp b (.inLoop x :: k) cs
        cases e with
        | normal =>
          obtain ⟨t1, H1, φ1, hr1, hI1, hlt⟩ := hqq
          obtain ⟨e₂, a₂, w₂, hq₂, harr₂⟩ := ihm (μ t1 H1) (hμ ▸ hlt) t1 H1 φ1 a₁ w₁ rfl hI1 hr1
          exact ⟨e₂, a₂, w₂, hq₂, .of_steps (Steps.trans harr (.one step_inLoop)) harr₂⟩
        | exit id => exact ⟨_, a₁, w₁, hqq, .pass (x := .inLoop x) rfl (fun _ _ => .inl (by simp)) harr⟩
        | goto l => exact ⟨_, a₁, w₁, hqq, .pass (x := .inLoop x) rfl (fun _ _ => .inl (by simp)) harr⟩
        | ret => exact ⟨_, a₁, w₁, hqq, .pass (x := .inLoop x) rfl (fun _ _ => .inl (by simp)) harr⟩
        | panic ch => exact ⟨_, a₁, w₁, hqq, .pass (x := .inLoop x) rfl (fun _ _ => .inl (by simp)) harr⟩
        | outgrown => exact ⟨_, a₁, w₁, hqq, .pass (x := .inLoop x) rfl (fun _ _ => .inl (by simp)) harr⟩
    obtain ⟨e, a', w', hqq, harr⟩ := key _ t H φ a w rfl h0 hr
    exact ⟨e, a', w', hqq, .of_steps (.one step_loop) harr⟩
  | exit id =>
    intro c hc Q t H h φ a w hr QQ hq
    cases hc
    exact wp_exit (hq (.exit id) t H φ a w hr h)
  | ret =>
    intro c hc Q t H h φ a w hr QQ hq
    cases hc
    exact wp_ret (hq .ret t H φ a w hr h)
  | _ => intro c hc; cases hc

end Go.Proofs.YtkdnijiipegabaaDoor.B
