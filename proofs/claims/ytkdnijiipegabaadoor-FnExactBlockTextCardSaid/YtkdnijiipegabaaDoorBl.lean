/- The program logic: regions in any order, done. -/
import Derived.Test.YtkdnijiipegabaaDoorBk
namespace Go.Proofs.YtkdnijiipegabaaDoor.B
open Go.RowKit
set_option linter.unusedVariables false
set_option linter.unusedSimpArgs false
variable {P : Program} {E : Env}

def cntF (l : List Bool) : Nat := (l.filter (!·)).length
theorem cntF_set : ∀ (l : List Bool) (i : Nat), l[i]? = some false → cntF (l.set i true) + 1 = cntF l
  | [], i, h => by simp at h
  | b :: l, 0, h => by
    have : b = false := by simpa using h
    subst this
    simp [cntF]
  | b :: l, i + 1, h => by
    have ih := cntF_set l i (by simpa using h)
    cases b <;> simp [cntF] at ih ⊢ <;> omega
theorem cntF_pos (l : List Bool) (i : Nat) (h : l[i]? = some false) : 0 < cntF l := by have := cntF_set l i h; omega

/-- Where the concrete temporaries are not told of: those that are done here, and not yet there. -/
def pd (l : List RO) (D : List Nat) (Lc : List Bool) (d : Nat) : Prop := ∃ p r, p ∈ D ∧ Lc[p]? = some false ∧ l[p]? = some r ∧ r.d = some d

structure TRm (φ : Phi) (t : Tm) (pd : Nat → Prop) (n : Nat) (a : Act) : Prop where
  size : a.tmps.size = n
  vals : ∀ d, ¬ pd d → VR φ (t d) (a.tmps.getD d undef)
  defers : a.defers = []

open Classical in
noncomputable def mask (t : Tm) (pd : Nat → Prop) : Tm := fun d => if pd d then .any else t d
theorem mask_eq {t : Tm} {pd : Nat → Prop} {d : Nat} (h : ¬ pd d) : mask t pd d = t d := by unfold mask; rw [if_neg h]

theorem TRm.mask {φ : Phi} {t : Tm} {pd : Nat → Prop} {n : Nat} {a : Act} (h : TRm φ t pd n a) : TR φ (mask t pd) n a := by
  refine ⟨h.size, fun d => ?_, h.defers⟩
  unfold B.mask
  split
  · trivial
  · rename_i hd
    exact h.vals d hd

theorem put_getD (a : Act) (d : Option Nat) (u : Value) (x : Nat) (n : Nat) (hn : a.tmps.size = n) (hd : ∀ y, d = some y → y < n) : (a.put d u).tmps.getD x undef = if d = some x then u else a.tmps.getD x undef := by
  cases d with
  | none => simp [Act.put]
  | some d =>
    have := hd d rfl
    simp only [Act.put, Array.getD_eq_getD_getElem?, Array.getElem?_setIfInBounds, Option.some.injEq]
    by_cases e : d = x
    · subst e
      rw [if_pos rfl, if_pos rfl, if_pos (by omega)]
      rfl
    · rw [if_neg e, if_neg e]

structure Sim (E : Env) (l : List RO) (n : Nat) (D : List Nat) (Lc : Array Bool) (t : Tm) (H : Hp) (φ : Phi) (a : Act) (w : World) : Prop where
  size : Lc.size = l.length
  sub : ∀ i : Nat, Lc[i]? = some true → i ∈ D
  lt : ∀ i ∈ D, i < l.length
  pend : ∀ i ∈ D, Lc[i]? = some false → ∀ r, l[i]? = some r → qt l i r = true ∧ pend1 t H r
  clo : ∀ (i : Nat) r, Lc[i]? = some true → l[i]? = some r → ∀ j ∈ r.after, Lc[j]? = some true
  cloD : ∀ i ∈ D, ∀ r, l[i]? = some r → ∀ j ∈ r.after, j ∈ D
  tr : TRm φ t (pd l D Lc.toList) n a
  hr : HR E φ H w

theorem before_mem (l : List RO) (S : Nat → Prop) (hS : ∀ i r, S i → l[i]? = some r → ∀ j ∈ r.after, S j) : ∀ (n i : Nat), (∀ r, l[i]? = some r → ∀ j ∈ r.after, S j) → ∀ j ∈ before l n i, S j
  | 0, i, h, j, hj => by simp [before] at hj
  | n + 1, i, h, j, hj => by
    simp only [before] at hj
    split at hj
    · rename_i r hr
      rcases List.mem_append.1 hj with hj | hj
      · exact h r hr j hj
      · obtain ⟨k, hk, hj⟩ := List.mem_flatMap.1 hj
        exact before_mem l S hS n k (fun r' hr' => hS k r' (h r hr k hk) hr') j hj
    · simp at hj

theorem good_spec {l : List RO} (h : good l = true) {i : Nat} {r : RO} (hi : l[i]? = some r) :
    (∀ j ∈ r.after, j < i) ∧ ∀ j q d, l[j]? = some q → q.d = some d → (j = i ∨ r.d ≠ some d) ∧ (d ∈ r.looks → j ≠ i ∧ (waits l i j = true ∨ waits l j i = true)) := by
  have hlt : i < l.length := (List.getElem?_eq_some_iff.1 hi).1
  simp only [good, List.all_eq_true, List.mem_range] at h
  have h1 := h i hlt
  simp only [hi, Bool.and_eq_true, List.all_eq_true, decide_eq_true_eq, List.mem_range] at h1
  refine ⟨h1.1, fun j q d hj hd => ?_⟩
  have h2 := h1.2 j (List.getElem?_eq_some_iff.1 hj).1
  simp only [hj, hd, Bool.and_eq_true, Bool.or_eq_true, beq_iff_eq, bne_iff_ne, ne_eq, Bool.not_eq_true', List.contains_eq_mem, decide_eq_false_iff_not] at h2
  refine ⟨h2.1, fun hm => ?_⟩
  rcases h2.2 with h3 | h3
  · exact absurd hm h3
  · exact h3

variable {nt : Nat} {ops : Array Oper} {l : List RO} {n : Nat}

theorem qt_spec {i : Nat} {r : RO} (h : qt l i r = true) : r.op.quiet = true ∧ ∀ k q d, l[k]? = some q → r.d = some d → d ∈ q.looks → waits l k i = true := by
  simp only [qt, Bool.and_eq_true, List.all_eq_true, List.mem_range] at h
  refine ⟨h.1, fun k q d hk hd hm => ?_⟩
  have h2 := h.2 k (List.getElem?_eq_some_iff.1 hk).1
  simp only [hk, hd, Bool.or_eq_true, Bool.not_eq_true', List.contains_eq_mem, decide_eq_false_iff_not] at h2
  rcases h2 with h2 | h2
  · exact absurd hm h2
  · exact h2

theorem waits_mem (S : Nat → Prop) (hS : ∀ i r, S i → l[i]? = some r → ∀ j ∈ r.after, S j) {i : Nat} {r : RO} (hi : l[i]? = some r) (ha : ∀ j ∈ r.after, S j) {p : Nat} (hw : waits l i p = true) : S p := by
  have hw' : p ∈ before l l.length i := by simpa [waits] using hw
  exact before_mem l S hS l.length i (fun r' hr' j hj => by rw [hi] at hr'; cases hr'; exact ha j hj) p hw'

theorem looks_unmasked (hg : good l = true) {D : List Nat} {Lc : Array Bool} {t : Tm} {H : Hp} {φ : Phi} {a : Act} {w : World} (h : Sim E l n D Lc t H φ a w) {i : Nat} {r : RO} (hi : l[i]? = some r) (ha : ∀ j ∈ r.after, Lc[j]? = some true) :
    ∀ d ∈ r.looks, t d = mask t (pd l D Lc.toList) d := by
  intro d hd
  refine (mask_eq ?_).symm
  rintro ⟨p, q, hpD, hpL, hp, hq⟩
  rw [Array.getElem?_toList] at hpL
  have hw := (qt_spec (h.pend p hpD hpL q hp).1).2 i r d hi hq hd
  have := waits_mem (fun j => Lc[j]? = some true) (fun i r hi hr => h.clo i r hi hr) hi ha hw
  rw [hpL] at this
  cases this

theorem ready_spec (hl : l.length = ops.size) (hro : ∀ (i : Nat) (o : Oper) (r : RO), ops[i]? = some o → l[i]? = some r → RoOK P E nt ops o r) {Lc : Array Bool} (hs : Lc.size = l.length) {i : Nat} (h : i ∈ Region.ready .any ops Lc) :
    Lc[i]? = some false ∧ ∃ o r, ops[i]? = some o ∧ l[i]? = some r ∧ ∀ j ∈ r.after, Lc[j]? = some true := by
  obtain ⟨h1, o, ho, h2⟩ := mem_ready.1 h
  have hlt : i < l.length := by rw [hl]; exact (Array.getElem?_eq_some_iff.1 ho).1
  have hr := List.getElem?_eq_getElem hlt
  refine ⟨?_, o, l[i], ho, hr, fun j hj => ?_⟩
  · rw [Array.getD_eq_getD_getElem?] at h1
    cases hx : Lc[i]? with
    | none => rw [hx] at h1; simp at h1
    | some b => rw [hx] at h1; simp at h1; rw [h1]
  · obtain ⟨e, he, hb, rfl⟩ := ((hro i o _ ho hr).after j).1 hj
    have := h2 e he hb
    rw [Array.getD_eq_getD_getElem?] at this
    cases hx : Lc[e.on]? with
    | none => rw [hx] at this; simp at this
    | some b => rw [hx] at this; simp at this; rw [this]

theorem set_get (Lc : Array Bool) (i j : Nat) (hi : Lc[i]? = some false) : (Lc.setIfInBounds i true)[j]? = if i = j then some true else Lc[j]? := by
  rw [Array.getElem?_setIfInBounds]
  by_cases e : i = j
  · subst e
    rw [if_pos rfl, if_pos rfl, if_pos (Array.getElem?_eq_some_iff.1 hi).1]
  · rw [if_neg e, if_neg e]

/-- If nothing is ready all is done. -/
theorem all_done (hg : good l = true) (hl : l.length = ops.size) (hro : ∀ (i : Nat) (o : Oper) (r : RO), ops[i]? = some o → l[i]? = some r → RoOK P E nt ops o r) {Lc : Array Bool} (hs : Lc.size = l.length) (h : Region.ready .any ops Lc = []) :
    ∀ i, i < l.length → Lc[i]? = some true := by
  intro i
  induction i using Nat.strongRecOn with
  | _ i ih =>
    intro hlt
    have hlt2 : i < Lc.size := by omega
    cases hb : Lc[i] with
    | true => rw [Array.getElem?_eq_getElem hlt2, hb]
    | false =>
      exfalso
      have hr := List.getElem?_eq_getElem hlt
      have hlo : i < ops.size := by omega
      have ho := Array.getElem?_eq_getElem hlo
      have : i ∈ Region.ready .any ops Lc := by
        rw [mem_ready]
        refine ⟨by rw [Array.getD_eq_getD_getElem?, Array.getElem?_eq_getElem hlt2, hb]; rfl, _, ho, fun e he hbi => ?_⟩
        have hj : e.on ∈ l[i].after := ((hro i _ _ ho hr).after e.on).2 ⟨e, he, hbi, rfl⟩
        have hji := (good_spec hg hr).1 _ hj
        rw [Array.getD_eq_getD_getElem?, ih e.on hji (by omega)]
        rfl
      rw [h] at this
      cases this

/-- One that is done here is done there. -/
theorem pend_step (hg : good l = true) (hl : l.length = ops.size) (hn : nt ≤ n) (hro : ∀ (i : Nat) (o : Oper) (r : RO), ops[i]? = some o → l[i]? = some r → RoOK P E nt ops o r) {D : List Nat} {Lc : Array Bool} {t : Tm} {H : Hp} {φ : Phi} {a : Act} {w : World}
    (h : Sim E l n D Lc t H φ a w) {i : Nat} (hi : i ∈ Region.ready .any ops Lc) (hD : i ∈ D) {next : Act → World → Prop} {Q : Exit → Act → World → Prop}
    (hnext : ∀ φ' a' w', PLe φ φ' → Below E.B0 w w' → Sim E l n D (Lc.setIfInBounds i true) t H φ' a' w' → next a' w') : wpOp P ops Q i next a w := by
  obtain ⟨hu, o, r, ho, hr, ha⟩ := ready_spec hl hro h.size hi
  obtain ⟨hqt, v, hv, hvd⟩ := h.pend i hD hu r hr
  have hq := (qt_spec hqt).1
  have hRO := hro i o r ho hr
  have hc := looks_unmasked hg h hr ha
  have hk : roK (AC P E) t H r (fun t' H' => t' = updO t r.d v ∧ H' = H) := by
    unfold roA at hv
    unfold roK
    split at hv
    · rename_i hw
      simp only [Option.map_eq_some_iff, Prod.exists, exists_and_right, exists_eq_right] at hv
      obtain ⟨H', hs⟩ := hv
      have hnc : r.op.isCall = false := by
        cases hop : r.op <;> first | rfl | (rw [hop] at hq; cases hq)
      rw [stepK_opt hnc, hs]
      exact ⟨rfl, quiet_same hq hs⟩
    · cases hv
      exact ⟨rfl, rfl⟩
    · cases hv
  refine exec1 ho hRO hc hk h.tr.mask h.hr (fun φ' u w' v' H' p1 p2 p3 p4 p5 => ?_)
  obtain ⟨p5, rfl⟩ := p5
  have hdn : ∀ y, r.d = some y → y < n := fun y hy => Nat.lt_of_lt_of_le (hRO.dlt y hy) hn
  refine hnext φ' _ w' p1 p3 ⟨by simpa using h.size, fun j hj => ?_, h.lt, fun j hj hjf rj hrj => ?_, fun j rj hj hrj k hk => ?_, h.cloD, ⟨?_, fun d hd => ?_, ?_⟩, p2⟩
  · rw [set_get _ _ _ hu] at hj
    split at hj
    · rename_i e; rw [← e]; exact hD
    · exact h.sub j hj
  · rw [set_get _ _ _ hu] at hjf
    split at hjf
    · cases hjf
    · exact h.pend j hj hjf rj hrj
  · rw [set_get _ _ _ hu] at hj ⊢
    split
    · rfl
    · split at hj
      · rename_i e
        subst e
        rw [hr] at hrj
        cases hrj
        exact ha k hk
      · exact h.clo j rj hj hrj k hk
  · cases hd : r.d <;> simp [Act.put, h.tr.size]
  · rw [put_getD a r.d u d n h.tr.size hdn]
    by_cases e : r.d = some d
    · rw [if_pos e]
      have e1 := congrFun p5 d
      rw [e] at e1
      simp only [updO, upd, if_true] at e1
      rw [hvd d e, ← e1]
      exact p4
    · rw [if_neg e]
      refine VR.mono p1 _ _ (h.tr.vals d ?_)
      rintro ⟨p, q, q1, q2, q3, q4⟩
      refine hd ⟨p, q, q1, ?_, q3, q4⟩
      rw [Array.getElem?_toList] at q2 ⊢
      rw [set_get _ _ _ hu]
      split
      · rename_i e2
        subst e2
        rw [hr] at q3
        cases q3
        exact absurd q4 e
      · exact q2
  · cases hd : r.d <;> simp [Act.put, h.tr.defers]

theorem roA_nomem {t : Tm} {r : RO} (hq : r.op.quiet = true) (hm : r.op.mem = false) (H H' : Hp) : roA t H r = roA t H' r := by
  have key : (stepA t H r.op).map (·.1) = (stepA t H' r.op).map (·.1) := by
    generalize r.op = op at hq hm
    cases op <;> simp only [AOp.quiet, AOp.mem, Bool.false_eq_true, Bool.true_eq_false] at hq hm <;> simp only [stepA]
    all_goals first | rfl | skip
    all_goals (repeat' split) <;> first | rfl | (simp only [Option.map_map]; rfl) | (simp [Option.map_bind]; done) | skip
    all_goals
      rename_i s _
      cases optI t 0 _ with
      | none => rfl
      | some l =>
        cases optI t (s.size : Int) _ with
        | none => rfl
        | some h =>
          simp only [Option.bind_some]
          split <;> rfl
  unfold roA
  rw [key]

theorem nextQ_some {D : List Nat} {i : Nat} (h : nextQ l D = some i) : i ∉ D ∧ ∃ r, l[i]? = some r ∧ qt l i r = true ∧ ∀ j ∈ r.after, j ∈ D := by
  unfold nextQ at h
  have h1 := List.find?_some h
  simp only [Bool.and_eq_true, Bool.not_eq_true', List.contains_eq_mem, decide_eq_false_iff_not] at h1
  obtain ⟨h1, h2⟩ := h1
  refine ⟨h1, ?_⟩
  split at h2
  · rename_i r hr
    simp only [Bool.and_eq_true, List.all_eq_true] at h2
    exact ⟨r, hr, h2.1, fun j hj => by simpa using h2.2 j hj⟩
  · cases h2

theorem nextQ_none {D : List Nat} (h : nextQ l D = none) {i : Nat} {r : RO} (hi : l[i]? = some r) (hD : i ∉ D) (ha : ∀ j ∈ r.after, j ∈ D) : qt l i r = false ∧ i ∈ readyL l D := by
  unfold nextQ at h
  have h1 := List.find?_eq_none.1 h i (List.mem_range.2 (List.getElem?_eq_some_iff.1 hi).1)
  have hall : r.after.all D.contains = true := by
    rw [List.all_eq_true]
    intro j hj
    simpa using ha j hj
  have hq : qt l i r = false := by
    cases hq : qt l i r with
    | false => rfl
    | true => exact absurd (by simp [hi, hD, hq]; exact ha) h1
  refine ⟨hq, ?_⟩
  unfold readyL
  rw [List.mem_filter, List.mem_range]
  refine ⟨(List.getElem?_eq_some_iff.1 hi).1, ?_⟩
  simp [hi, hD, hq]
  exact ha

theorem sim (hg : good l = true) (hl : l.length = ops.size) (hn : nt ≤ n) (hro : ∀ (i : Nat) (o : Oper) (r : RO), ops[i]? = some o → l[i]? = some r → RoOK P E nt ops o r) {φ0 : Phi} {w0 : World} {Q : Exit → Act → World → Prop} {K : Tm → Hp → Prop}
    (hK : ∀ φ t H a w, TR φ t n a → HR E φ H w → Below E.B0 w0 w → PLe φ0 φ → K t H → Q .normal a w) :
    ∀ (m : Nat) (D : List Nat) (t : Tm) (H : Hp), Rg (AC P E) m l D t H K → ∀ (fuel : Nat) (Lc : Array Bool) (φ : Phi) (a : Act) (w : World), cntF Lc.toList ≤ fuel → Sim E l n D Lc t H φ a w → Below E.B0 w0 w → PLe φ0 φ →
      wpAny P .any ops Q fuel Lc a w := by
  intro m
  induction m with
  | zero => intro D t H h; exact h.elim
  | succ m ih =>
    intro D t H h
    simp only [Rg] at h
    split at h
    · rename_i i hnq
      split at h
      · rename_i r hr
        split at h
        · rename_i v hv
          obtain ⟨hD, r', hr', hq, ha⟩ := nextQ_some hnq
          rw [hr] at hr'
          cases hr'
          intro fuel Lc φ a w hf hS hb hp
          have hLi : Lc[i]? = some false := by
            have hlt : i < Lc.size := by rw [hS.size]; exact (List.getElem?_eq_some_iff.1 hr).1
            cases hbv : Lc[i] with
            | false => rw [Array.getElem?_eq_getElem hlt, hbv]
            | true => exact absurd (hS.sub i (by rw [Array.getElem?_eq_getElem hlt, hbv])) hD
          have hnd : ∀ p q, p ∈ D → l[p]? = some q → (∀ d, r.d = some d → d ∉ q.looks) ∧ (∀ d, r.d = some d → q.d ≠ some d) := by
            intro p q hpD hpq
            refine ⟨fun d hd hm => ?_, fun d hd he => ?_⟩
            · have hw := (qt_spec hq).2 p q d hpq hd hm
              exact hD (waits_mem (fun j => j ∈ D) (fun i r hi hr => hS.cloD i hi r hr) hpq (hS.cloD p hpD q hpq) hw)
            · rcases ((good_spec hg hpq).2 i r d hr hd).1 with e | e
              · exact hD (e ▸ hpD)
              · exact e he
          have hown : ∀ d, r.d = some d → d ∉ r.looks := by
            intro d hd hm
            exact (((good_spec hg hr).2 i r d hr hd).2 hm).1 rfl
          have hupd : ∀ (q : RO), (∀ d, r.d = some d → d ∉ q.looks) → roA (updO t r.d v) H q = roA t H q := by
            intro q hq
            refine roA_congr (fun d hd => ?_) H
            cases hrd : r.d with
            | none => rfl
            | some d' =>
              simp only [updO, upd]
              rw [if_neg]
              rintro rfl
              exact hq d hrd hd
          refine ih (i :: D) _ H h fuel Lc φ a w hf ⟨hS.size, fun j hj => List.mem_cons_of_mem _ (hS.sub j hj), fun j hj => ?_, fun j hj hjf rj hrj => ?_, hS.clo, fun j hj rj hrj k hk => ?_, ⟨hS.tr.size, fun d hd => ?_, hS.tr.defers⟩, hS.hr⟩ hb hp
          · rcases List.mem_cons.1 hj with rfl | hj
            · exact (List.getElem?_eq_some_iff.1 hr).1
            · exact hS.lt j hj
          · rcases List.mem_cons.1 hj with rfl | hj
            · rw [hr] at hrj
              cases hrj
              refine ⟨hq, v, ?_, fun d hd => ?_⟩
              · rw [hupd r hown]; exact hv
              · rw [hd]; simp [updO, upd]
            · obtain ⟨g1, u, g2, g3⟩ := hS.pend j hj hjf rj hrj
              obtain ⟨n1, n2⟩ := hnd j rj hj hrj
              refine ⟨g1, u, by rw [hupd rj n1]; exact g2, fun d hd => ?_⟩
              cases hrd : r.d with
              | none => exact g3 d hd
              | some d' =>
                simp only [updO, upd]
                rw [if_neg]
                · exact g3 d hd
                · rintro rfl
                  exact n2 d hrd hd
          · rcases List.mem_cons.1 hj with rfl | hj
            · rw [hr] at hrj
              cases hrj
              exact List.mem_cons_of_mem _ (ha k hk)
            · exact List.mem_cons_of_mem _ (hS.cloD j hj rj hrj k hk)
          · have hd1 : ¬ pd l D Lc.toList d := by
              rintro ⟨p, q, q1, q2, q3, q4⟩
              exact hd ⟨p, q, List.mem_cons_of_mem _ q1, q2, q3, q4⟩
            have hd2 : r.d ≠ some d := fun e => hd ⟨i, r, List.mem_cons_self .., by rw [Array.getElem?_toList]; exact hLi, hr, e⟩
            have : updO t r.d v d = t d := by
              cases hrd : r.d with
              | none => rfl
              | some d' =>
                simp only [updO, upd]
                rw [if_neg]
                rintro rfl
                exact hd2 hrd
            rw [this]
            exact hS.tr.vals d hd1
        · exact h.elim
      · exact h.elim
    · rename_i hnq
      intro fuel
      induction fuel with
      | zero =>
        intro Lc φ a w hf hS hb hp
        have hall : ∀ i, i < l.length → Lc[i]? = some true := by
          intro i hi
          have hlt : i < Lc.size := by rw [hS.size]; exact hi
          cases hbv : Lc[i] with
          | true => rw [Array.getElem?_eq_getElem hlt, hbv]
          | false =>
            have := cntF_pos Lc.toList i (by rw [Array.getElem?_toList, Array.getElem?_eq_getElem hlt, hbv])
            omega
        have hDall : (List.range l.length).all D.contains = true := by
          rw [List.all_eq_true]
          intro i hi
          simpa using hS.sub i (hall i (List.mem_range.1 hi))
        rw [if_pos hDall] at h
        refine ⟨?_, hK φ t H a w ⟨hS.tr.size, fun d => hS.tr.vals d ?_, hS.tr.defers⟩ hS.hr hb hp h⟩
        · apply List.eq_nil_iff_forall_not_mem.2
          intro i hi
          obtain ⟨hu, _, r, _, hr, _⟩ := ready_spec hl hro hS.size hi
          rw [hall i (List.getElem?_eq_some_iff.1 hr).1] at hu
          cases hu
        · rintro ⟨p, q, q1, q2, q3, q4⟩
          rw [Array.getElem?_toList, hall p (List.getElem?_eq_some_iff.1 q3).1] at q2
          cases q2
      | succ fuel ihf =>
        intro Lc φ a w hf hS hb hp
        refine ⟨fun hre => ?_, fun i hi => ?_⟩
        · have hall := all_done hg hl hro hS.size hre
          have hDall : (List.range l.length).all D.contains = true := by
            rw [List.all_eq_true]
            intro i hi
            simpa using hS.sub i (hall i (List.mem_range.1 hi))
          rw [if_pos hDall] at h
          refine hK φ t H a w ⟨hS.tr.size, fun d => hS.tr.vals d ?_, hS.tr.defers⟩ hS.hr hb hp h
          rintro ⟨p, q, q1, q2, q3, q4⟩
          rw [Array.getElem?_toList, hall p (List.getElem?_eq_some_iff.1 q3).1] at q2
          cases q2
        · obtain ⟨hu, o, r, ho, hr, ha⟩ := ready_spec hl hro hS.size hi
          have hcnt : cntF (Lc.setIfInBounds i true).toList ≤ fuel := by
            have := cntF_set Lc.toList i (by rw [Array.getElem?_toList]; exact hu)
            rw [Array.toList_setIfInBounds]
            omega
          by_cases hD : i ∈ D
          · exact pend_step hg hl hn hro hS hi hD (fun φ' a' w' p1 p2 p3 => ihf _ φ' a' w' hcnt p3 (hb.trans p2) (hp.trans p1))
          · obtain ⟨hq, hrl⟩ := nextQ_none hnq hr hD (fun j hj => hS.sub j (ha j hj))
            have hnall : ¬ (List.range l.length).all D.contains = true := by
              intro hh
              rw [List.all_eq_true] at hh
              exact hD (by simpa using hh i (List.mem_range.2 (List.getElem?_eq_some_iff.1 hr).1))
            rw [if_neg hnall] at h
            have hk := h i hrl
            rw [hr] at hk
            simp only at hk
            have hRO := hro i o r ho hr
            have hdn : ∀ y, r.d = some y → y < n := fun y hy => Nat.lt_of_lt_of_le (hRO.dlt y hy) hn
            refine exec1 ho hRO (looks_unmasked hg hS hr ha) hk hS.tr.mask hS.hr (fun φ' u w' v H' p1 p2 p3 p4 p5 => ?_)
            obtain ⟨p5, p6⟩ := p5
            have hnd : ∀ p q, p ∈ D → Lc[p]? = some false → l[p]? = some q → (∀ d, r.d = some d → d ∉ q.looks) ∧ (∀ d, r.d = some d → q.d ≠ some d) := by
              intro p q hpD hpL hpq
              refine ⟨fun d hd hm => ?_, fun d hd he => ?_⟩
              · rcases (((good_spec hg hpq).2 i r d hr hd).2 hm).2 with hw | hw
                · exact hD (waits_mem (fun j => j ∈ D) (fun i r hi hr => hS.cloD i hi r hr) hpq (hS.cloD p hpD q hpq) hw)
                · have := waits_mem (fun j => Lc[j]? = some true) (fun i r hi hr => hS.clo i r hi hr) hr ha hw
                  simp only [hpL] at this
                  cases this
              · rcases ((good_spec hg hpq).2 i r d hr hd).1 with e | e
                · exact hD (e ▸ hpD)
                · exact e he
            refine ih (i :: D) _ H' p6 fuel _ φ' _ w' hcnt ⟨by simpa using hS.size, fun j hj => ?_, fun j hj => ?_, fun j hj hjf rj hrj => ?_, fun j rj hj hrj k hk => ?_, fun j hj rj hrj k hk => ?_, ⟨?_, fun d hd => ?_, ?_⟩, p2⟩ (hb.trans p3) (hp.trans p1)
            · rw [set_get _ _ _ hu] at hj
              split at hj
              · rename_i e; rw [← e]; exact List.mem_cons_self ..
              · exact List.mem_cons_of_mem _ (hS.sub j hj)
            · rcases List.mem_cons.1 hj with rfl | hj
              · exact (List.getElem?_eq_some_iff.1 hr).1
              · exact hS.lt j hj
            · rw [set_get _ _ _ hu] at hjf
              split at hjf
              · cases hjf
              · rename_i hij
                rcases List.mem_cons.1 hj with e | hj
                · exact absurd e.symm hij
                · obtain ⟨g1, u', g2, g3⟩ := hS.pend j hj hjf rj hrj
                  obtain ⟨n1, n2⟩ := hnd j rj hj hjf hrj
                  refine ⟨g1, ?_⟩
                  by_cases hmem : rj.op.mem = true
                  · refine p5 rj ?_
                    unfold again
                    refine List.mem_filterMap.2 ⟨j, hj, ?_⟩
                    have hw : waits l i j = false := by
                      cases hw : waits l i j with
                      | false => rfl
                      | true =>
                        have := waits_mem (fun j => Lc[j]? = some true) (fun i r hi hr => hS.clo i r hi hr) hr ha hw
                        simp only [hjf] at this
                        cases this
                    simp [hrj, hmem, hw]
                  · refine ⟨u', ?_, fun d hd => ?_⟩
                    · have e1 : roA (updO t r.d v) H' rj = roA t H' rj := by
                        refine roA_congr (fun d hd => ?_) H'
                        cases hrd : r.d with
                        | none => rfl
                        | some d' =>
                          simp only [updO, upd]
                          rw [if_neg]
                          rintro rfl
                          exact n1 d hrd hd
                      rw [e1, ← g2]
                      exact roA_nomem (qt_spec g1).1 (by simpa using hmem) H' H
                    · cases hrd : r.d with
                      | none => exact g3 d hd
                      | some d' =>
                        simp only [updO, upd]
                        rw [if_neg]
                        · exact g3 d hd
                        · rintro rfl
                          exact n2 d hrd hd
            · rw [set_get _ _ _ hu] at hj ⊢
              split
              · rfl
              · split at hj
                · rename_i e
                  subst e
                  rw [hr] at hrj
                  cases hrj
                  exact ha k hk
                · exact hS.clo j rj hj hrj k hk
            · rcases List.mem_cons.1 hj with rfl | hj
              · rw [hr] at hrj
                cases hrj
                exact List.mem_cons_of_mem _ (hS.sub k (ha k hk))
              · exact List.mem_cons_of_mem _ (hS.cloD j hj rj hrj k hk)
            · cases hd : r.d <;> simp [Act.put, hS.tr.size]
            · rw [put_getD a r.d u d n hS.tr.size hdn]
              by_cases e : r.d = some d
              · rw [if_pos e, e]
                simp only [updO, upd, if_true]
                exact p4
              · rw [if_neg e]
                have : updO t r.d v d = t d := by
                  cases hrd : r.d with
                  | none => rfl
                  | some d' =>
                    simp only [updO, upd]
                    rw [if_neg]
                    rintro rfl
                    exact e hrd
                rw [this]
                refine VR.mono p1 _ _ (hS.tr.vals d ?_)
                rintro ⟨p, q, q1, q2, q3, q4⟩
                refine hd ⟨p, q, List.mem_cons_of_mem _ q1, ?_, q3, q4⟩
                rw [Array.getElem?_toList] at q2 ⊢
                rw [set_get _ _ _ hu]
                split
                · rename_i e2
                  subst e2
                  exact absurd q1 hD
                · exact q2
            · cases hd : r.d <;> simp [Act.put, hS.tr.defers]

end Go.Proofs.YtkdnijiipegabaaDoor.B
