/- The program logic: regions in any order. -/
import Derived.Test.YtkdnijiipegabaaDoorBj
namespace Go.Proofs.YtkdnijiipegabaaDoor.B
open Go.RowKit
set_option linter.unusedVariables false
set_option linter.unusedSimpArgs false
variable {P : Program} {E : Env}

def entered (P : Program) (f : Nat) : Prop := ∃ fn c, P.funcs[f]? = some fn ∧ (fn.name == "runtime.NumGoroutine") = false ∧ fn.body = some c

/-- A CALL, in abstract words: whatever the memory that H tells of, it returns a value and a memory for which R holds. -/
def AC (P : Program) (E : Env) : CallP := fun f args H R => entered P f ∧ ∀ (φ : Phi) (w : World) (vals : List Value), VRs φ args vals → HR E φ H w →
  Calls P f vals.toArray w fun
    | .returned u, w' => ∃ φ' H' v, PLe φ φ' ∧ HR E φ' H' w' ∧ Below E.B0 w w' ∧ VR φ' v u ∧ R v H'
    | _, _ => False

def OpS (P : Program) (E : Env) (o : Oper) (ao : AOp) : Prop := ∀ (t : Tm) (H : Hp) (K : AV → Hp → Prop), stepK (AC P E) t H ao K →
  ∀ (φ : Phi) (n : Nat) (a : Act) (w : World) (next : Act → World → Prop) (Q : Exit → Act → World → Prop), TR φ t n a → HR E φ H w →
    (∀ φ' u w' v H', PLe φ φ' → HR E φ' H' w' → Below E.B0 w w' → VR φ' v u → K v H' → next (a.put o.dst u) w') → o.wp P a w next Q

def AOp.isCall : AOp → Bool
  | .call _ _ | .calv _ _ => true
  | _ => false

theorem stepK_opt {C : CallP} {t : Tm} {H : Hp} {ao : AOp} {K : AV → Hp → Prop} (h : ao.isCall = false) : stepK C t H ao K = optK (stepA t H ao) K := by
  cases ao <;> first | rfl | cases h

theorem OpOK.opS {o : Oper} {ao : AOp} (h : OpOK P E o ao) (hn : ao.isCall = false) : OpS P E o ao := by
  intro t H K hk φ n a w next Q hT hH hnext
  rw [stepK_opt hn] at hk
  unfold optK at hk
  split at hk
  · rename_i v H' hs
    obtain ⟨φ', u, w', hd, hv, hp, hH', hb⟩ := h t H v H' hs φ n a w hT hH
    exact hd.wp (hnext φ' u w' v H' hp hH' hb hv hk)
  · exact hk.elim

theorem ods_VRs {φ : Phi} {t : Tm} {n : Nat} {a : Act} (hT : TR φ t n a) : ∀ (l : List Operand) (l' : List Od), l.mapM cOd = some l' → VRs φ (l'.map (·.ev t)) (l.map a.eval) := by
  intro l
  induction l with
  | nil => intro l' h; simp at h; subst h; rfl
  | cons y l ih =>
    intro l' h
    simp only [List.mapM_cons, Option.bind_eq_bind, Option.pure_def, Option.bind_eq_some_iff, Option.some.injEq] at h
    obtain ⟨y', hy, r, hr, rfl⟩ := h
    exact ⟨_, _, rfl, hT.ev hy, ih r hr⟩

theorem call_wp {o : Oper} {f : Nat} {args : List AV} {vals : List Value} {H : Hp} {K : AV → Hp → Prop} {φ : Phi} {a : Act} {w : World} {next : Act → World → Prop} {Q : Exit → Act → World → Prop}
    (he : entered P f → (execOp a.eval o).run P w = .ok (.enter f vals.toArray) w) (hk : AC P E f args H K) (hv : VRs φ args vals) (hH : HR E φ H w)
    (hnext : ∀ φ' u w' v H', PLe φ φ' → HR E φ' H' w' → Below E.B0 w w' → VR φ' v u → K v H' → next (a.put o.dst u) w') : o.wp P a w next Q := by
  obtain ⟨h1, h2⟩ := hk
  unfold Oper.wp
  rw [he h1]
  simp only [Oper.upon]
  refine Calls.mono (h2 φ w vals hv hH) (fun e w' hr => ?_)
  cases e with
  | returned u =>
    obtain ⟨φ', H', v, p1, p2, p3, p4, p5⟩ := hr
    exact hnext φ' u w' v H' p1 p2 p3 p4 p5
  | panicked c => exact hr.elim
  | outgrown => exact hr.elim

theorem s_call {o : Oper} {f : Nat} {xs : Array Operand} {ts : Array TypeId} {xs' : List Od} (ho : o.op = .call { callee := .value (.func f), args := xs, argTypes := ts }) (hx : xs.toList.mapM cOd = some xs') : OpS P E o (.call f xs') := by
  intro t H K hk φ n a w next Q hT hH hnext
  refine call_wp (vals := xs.toList.map a.eval) (fun ⟨fn, c, h1, h2, h3⟩ => ?_) hk (ods_VRs hT _ _ hx) hH hnext
  have h2' : ¬ fn.name = "runtime.NumGoroutine" := by simpa using h2
  have e : (xs.toList.map a.eval).toArray = xs.map a.eval := by apply Array.ext'; simp
  rw [e]
  simp [execOp, ho, resolve, Deferred.ofValue, Act.eval, invoke, callFunc, h1, h2', h3]

theorem s_calv {o : Oper} {x : Operand} {xs : Array Operand} {ts : Array TypeId} {x' : Od} {xs' : List Od} (ho : o.op = .call { callee := .value x, args := xs, argTypes := ts }) (hx0 : cOd x = some x') (hx : xs.toList.mapM cOd = some xs') : OpS P E o (.calv x' xs') := by
  intro t H K hk φ n a w next Q hT hH hnext
  have h0 := hT.ev hx0
  simp only [stepK] at hk
  split at hk
  · rename_i f cs e
    rw [e] at h0
    obtain ⟨l, h0', hl⟩ := h0
    refine call_wp (vals := xs.toList.map a.eval ++ l) (fun ⟨fn, c, h1, h2, h3⟩ => ?_) hk ((ods_VRs hT _ _ hx).append hl) hH hnext
    have h2' : ¬ fn.name = "runtime.NumGoroutine" := by simpa using h2
    have e : (xs.toList.map a.eval ++ l).toArray = xs.map a.eval ++ l.toArray := by apply Array.ext'; simp
    rw [e]
    simp [execOp, ho, resolve, Deferred.ofValue, h0', invoke, callFunc, h1, h2', h3]
  · exact hk.elim

structure RoOK (P : Program) (E : Env) (nt : Nat) (ops : Array Oper) (o : Oper) (r : RO) : Prop where
  d : r.d = o.dst
  op : OpS P E o r.op
  g : (o.guard = none ∧ r.g = none) ∨ ∃ g b og d, o.guard = some (g, b) ∧ ops[g]? = some og ∧ og.dst = some d ∧ r.g = some (d, b)
  dlt : ∀ d, r.d = some d → d < nt
  after : ∀ j, j ∈ r.after ↔ ∃ e ∈ o.after, Region.binds .any e = true ∧ e.on = j

theorem wanted_of {φ : Phi} {t : Tm} {n : Nat} {a : Act} (hT : TR φ t n a) {nt : Nat} {ops : Array Oper} {o : Oper} {r : RO} (h : RoOK P E nt ops o r) {b : Bool} (hw : want t r.g = some b) :
    Region.wanted o (yielded ops a.tmps) = b := by
  rcases h.g with ⟨h1, h2⟩ | ⟨g, b', og, d, h1, h2, h3, h4⟩
  · rw [h2] at hw
    simp only [want, Option.some.injEq] at hw
    simp [Region.wanted, h1, ← hw]
  · rw [h4] at hw
    have hv := hT.vals d
    simp only [want] at hw
    split at hw
    · rename_i q e
      rw [e] at hv
      have hv' : a.tmps.getD d undef = .bool q := hv
      cases hw
      have hg : a.tmps[d]? = some (.bool q) := by
        rw [Array.getD_eq_getD_getElem?] at hv'
        cases ht : a.tmps[d]? with
        | none => rw [ht] at hv'; simp [undef] at hv'
        | some x => rw [ht] at hv'; simp at hv'; rw [hv']
      simp [Region.wanted, h1, yielded, h2, h3, hg]
    · rename_i e
      rw [e] at hv
      have hv' : a.tmps.getD d undef = undef := hv
      cases hw
      have hy : yielded ops a.tmps g = none := by
        unfold yielded
        simp only [h2, h3, Option.bind_some]
        rw [Array.getD_eq_getD_getElem?] at hv'
        cases ht : a.tmps[d]? with
        | none => rfl
        | some x => rw [ht] at hv'; simp at hv'; rw [hv']; rfl
      simp [Region.wanted, h1, hy]
    · cases hw

/-- One operation. -/
theorem exec1 {nt : Nat} {ops : Array Oper} {i : Nat} {o : Oper} {r : RO} (hi : ops[i]? = some o) (h : RoOK P E nt ops o r) {t tm : Tm} {H : Hp} {K : Tm → Hp → Prop} (hc : ∀ d ∈ r.looks, t d = tm d)
    (hk : roK (AC P E) t H r K) {φ : Phi} {n : Nat} {a : Act} {w : World} {next : Act → World → Prop} {Q : Exit → Act → World → Prop} (hT : TR φ tm n a) (hH : HR E φ H w)
    (hnext : ∀ φ' u w' v H', PLe φ φ' → HR E φ' H' w' → Below E.B0 w w' → VR φ' v u → K (updO t r.d v) H' → next (a.put r.d u) w') : wpOp P ops Q i next a w := by
  obtain ⟨c1, c2⟩ := ods_congr hc
  unfold wpOp
  simp only [hi]
  unfold roK at hk
  rw [c2] at hk
  split at hk
  · rename_i hw
    rw [wanted_of hT h hw, if_pos rfl]
    rw [stepK_congr c1] at hk
    refine .inl (h.op tm H _ hk φ n a w _ _ hT hH (fun φ' u w' v H' p1 p2 p3 p4 p5 => ?_))
    rw [← h.d]
    exact hnext φ' u w' v H' p1 p2 p3 p4 p5
  · rename_i hw
    rw [wanted_of hT h hw, if_neg (by simp), ← h.d]
    exact hnext φ undef w .un H (PLe.refl _) hH (Below.refl _ _) rfl hk
  · exact hk.elim

theorem TR.putO {φ φ' : Phi} {t : Tm} {n : Nat} {a : Act} (h : TR φ t n a) (hp : PLe φ φ') {d : Option Nat} (hd : ∀ x, d = some x → x < n) {v : AV} {u : Value} (hv : VR φ' v u) : TR φ' (updO t d v) n (a.put d u) := by
  cases d with
  | none => exact h.mono hp
  | some d => exact (h.mono hp).put (hd d rfl) hv

/-- Operations in their order. -/
theorem ops_sound {nt : Nat} {ops : Array Oper} {n : Nat} (hn : nt ≤ n) {φ0 : Phi} {w0 : World} {Q : Exit → Act → World → Prop} {K : Tm → Hp → Prop}
    (hK : ∀ φ t H a w, TR φ t n a → HR E φ H w → Below E.B0 w0 w → PLe φ0 φ → K t H → Q .normal a w) :
    ∀ (is : List Nat) (rs : List RO), (∀ p ∈ is.zip rs, ∃ o, ops[p.1]? = some o ∧ RoOK P E nt ops o p.2) → is.length = rs.length → ∀ (t : Tm) (H : Hp), opsK (AC P E) rs t H K →
      ∀ φ a w, TR φ t n a → HR E φ H w → Below E.B0 w0 w → PLe φ0 φ → wpOps P ops Q is a w
  | [], [], _, _, t, H, hk, φ, a, w, hT, hH, hb, hp => hK φ t H a w hT hH hb hp hk
  | [], _ :: _, _, hl, _, _, _, _, _, _, _, _, _, _ => by simp at hl
  | _ :: _, [], _, hl, _, _, _, _, _, _, _, _, _, _ => by simp at hl
  | i :: is, r :: rs, hr, hl, t, H, hk, φ, a, w, hT, hH, hb, hp => by
    obtain ⟨o, ho, hro⟩ := hr (i, r) (by simp)
    rw [wpOps_cons]
    simp only [opsK] at hk
    refine exec1 ho hro (fun _ _ => rfl) hk hT hH (fun φ' u w' v H' p1 p2 p3 p4 p5 => ?_)
    exact ops_sound hn hK is rs (fun p hp => hr p (by rw [List.zip_cons_cons]; exact List.mem_cons_of_mem _ hp)) (by simpa using hl) _ _ p5 φ' _ w' (hT.putO p1 (fun x hx => Nat.lt_of_lt_of_le (hro.dlt x hx) hn) p4) p2 (hb.trans p3) (hp.trans p1)

end Go.Proofs.YtkdnijiipegabaaDoor.B
