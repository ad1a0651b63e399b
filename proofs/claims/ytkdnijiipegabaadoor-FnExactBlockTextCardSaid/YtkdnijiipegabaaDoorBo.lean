/- The program logic: the rules by which functions are proved. -/
import Derived.Test.YtkdnijiipegabaaDoorBn
namespace Go.Proofs.YtkdnijiipegabaaDoor.B
open Go.RowKit
set_option linter.unusedVariables false
set_option linter.unusedSimpArgs false
variable {P : Program} {E : Env}

def rvSem (a : Act) : ResultVar → Sem Value
  | .tmp t => pure (a.tmps.getD t undef)
  | .cell b t => do loadVar t (← asAddr (a.tmps.getD b undef))
theorem results_eq (fn : Func) (a : Act) : results fn a.tmps = (do
  let vs ← fn.results.mapM (rvSem a)
  pure (if h : vs.size = 1 then vs[0] else .tuple vs)) := rfl

theorem rv_ok {r : ResultVar} {x : RV} (hc : cRV P r = some x) {t : Tm} {H : Hp} {v : AV} (hv : rvA t H x = some v) {φ : Phi} {n : Nat} {a : Act} {w : World} (hT : TR φ t n a) (hH : HR E φ H w) :
    ∃ u, VR φ v u ∧ (rvSem a r).run P w = .ok u w := by
  cases r with
  | tmp d =>
    cases hc
    simp only [rvA, Option.some.injEq] at hv
    subst hv
    exact ⟨_, hT.vals d, by simp [rvSem]⟩
  | cell b T =>
    have h1 := hT.vals b
    simp only [cRV] at hc
    split at hc
    · rename_i d hT0
      split at hc
      · rename_i hd
        simp only [Option.map_eq_some_iff] at hc
        obtain ⟨i, hi, rfl⟩ := hc
        simp only [rvA, stepA, Od.ev, Option.map_eq_some_iff, Prod.exists, exists_and_right, exists_eq_right] at hv
        obtain ⟨H', hs⟩ := hv
        split at hs
        · rename_i oo j f e
          rw [e] at h1
          obtain ⟨p, hp, h1'⟩ := h1
          simp only [Option.bind_eq_some_iff] at hs
          obtain ⟨ob, hob, r, hr, hs⟩ := hs
          split at hs
          · rename_i hle
            cases hs
            obtain ⟨l, hl, hl2, hl3⟩ := hH.cells (Hp.at_some hob) hp hr f i.size hle
            have hrun := run_loadCells_list (P := P) (w := w) _ l hl3
            rw [hl2] at hrun
            refine ⟨.agg l.toArray, ⟨l, rfl, hl⟩, ?_⟩
            simp [rvSem, h1', asAddr, loadVar, run_isAgg hT0, hd, run_sizeOf hi, hrun]
          · cases hs
        · cases hs
      · rename_i hd
        cases hc
        simp only [rvA, stepA, Od.ev, Option.map_eq_some_iff, Prod.exists, exists_and_right, exists_eq_right] at hv
        obtain ⟨H', hs⟩ := hv
        split at hs
        · rename_i oo j f e
          rw [e] at h1
          obtain ⟨p, hp, h1'⟩ := h1
          simp only [Option.bind_eq_some_iff, Option.map_eq_some_iff] at hs
          obtain ⟨ob, hob, r, hr, v', hv', hs⟩ := hs
          cases hs
          obtain ⟨u, hu, hR, _⟩ := hH.cell (Hp.at_some hob) hp hr hv'
          exact ⟨u, hR, by simp [rvSem, h1', asAddr, loadVar, run_isAgg hT0, hd, hu]⟩
        · cases hs
    · cases hc

theorem rvs_ok {t : Tm} {H : Hp} {φ : Phi} {n : Nat} {a : Act} {w : World} (hT : TR φ t n a) (hH : HR E φ H w) : ∀ (rs : List ResultVar) (xs : List RV) (vs : List AV), cRVs P rs = some xs → rvsA t H xs = some vs →
    ∃ us, VRs φ vs us ∧ (rs.mapM (rvSem a)).run P w = .ok us w
  | [], xs, vs, hc, hv => by
    cases hc
    cases hv
    exact ⟨[], rfl, by simp⟩
  | r :: rs, xs, vs, hc, hv => by
    simp only [cRVs, Option.bind_eq_some_iff, Option.map_eq_some_iff] at hc
    obtain ⟨x, hx, xs', hxs, rfl⟩ := hc
    simp only [rvsA, Option.bind_eq_some_iff, Option.map_eq_some_iff] at hv
    obtain ⟨v, hv, vs', hvs, rfl⟩ := hv
    obtain ⟨u, h1, h2⟩ := rv_ok (P := P) hx hv hT hH
    obtain ⟨us, h3, h4⟩ := rvs_ok hT hH rs xs' vs' hxs hvs
    exact ⟨u :: us, ⟨u, us, rfl, h1, h3⟩, by rw [List.mapM_cons, Sem.run_bind, h2, Result.andThen_ok, Sem.run_bind, h4]; rfl⟩

theorem res_ok {fn : Func} {xs : List RV} (hc : cRVs P fn.results.toList = some xs) {t : Tm} {H : Hp} {v : AV} (hv : resA t H xs = some v) {φ : Phi} {n : Nat} {a : Act} {w : World} (hT : TR φ t n a) (hH : HR E φ H w) :
    ∃ u, VR φ v u ∧ (results fn a.tmps).run P w = .ok u w := by
  have hlen : ∀ (rs : List ResultVar) (xs : List RV), cRVs P rs = some xs → rs.length = xs.length := by
    intro rs
    induction rs with
    | nil => intro xs h; cases h; rfl
    | cons r rs ih =>
      intro xs h
      simp only [cRVs, Option.bind_eq_some_iff, Option.map_eq_some_iff] at h
      obtain ⟨x, hx, xs', hxs, rfl⟩ := h
      simp [ih xs' hxs]
  have hrun : ∀ (vs : List AV), rvsA t H xs = some vs → ∃ us, VRs φ vs us ∧ (fn.results.mapM (rvSem a)).run P w = .ok us.toArray w := by
    intro vs hvs
    obtain ⟨us, h1, h2⟩ := rvs_ok (P := P) hT hH _ xs vs hc hvs
    refine ⟨us, h1, ?_⟩
    rw [Array.mapM_eq_mapM_toList]
    show (List.mapM (rvSem a) fn.results.toList >>= (pure ∘ List.toArray)).run P w = _
    rw [Sem.run_bind, h2]
    rfl
  unfold resA at hv
  split at hv
  · rename_i r
    obtain ⟨us, h1, h2⟩ := hrun [v] (by simp [rvsA, hv])
    obtain ⟨u, us', rfl, h3, h4⟩ := h1
    rw [show us' = [] from h4] at h2
    refine ⟨u, h3, ?_⟩
    rw [results_eq, Sem.run_bind, h2]
    rfl
  · rename_i hne
    simp only [Option.map_eq_some_iff] at hv
    obtain ⟨vs, hvs, rfl⟩ := hv
    obtain ⟨us, h1, h2⟩ := hrun vs hvs
    refine ⟨.tuple us.toArray, ⟨us, rfl, h1⟩, ?_⟩
    have h1len := h1.length
    have hl2 : ∀ (xs : List RV) (vs : List AV), rvsA t H xs = some vs → vs.length = xs.length := by
      intro xs
      induction xs with
      | nil => intro vs h; cases h; rfl
      | cons x xs ih =>
        intro vs h
        simp only [rvsA, Option.bind_eq_some_iff, Option.map_eq_some_iff] at h
        obtain ⟨v, hv, vs', hvs, rfl⟩ := h
        simp [ih vs' hvs]
    have h3 := hl2 _ _ hvs
    have hn1 : ¬ us.toArray.size = 1 := by
      intro e
      rw [List.size_toArray, h1len, h3] at e
      obtain ⟨x, rfl⟩ := List.length_eq_one_iff.1 e
      exact hne x rfl
    rw [results_eq, Sem.run_bind, h2, Result.andThen_ok, dif_neg hn1]
    rfl

theorem AC_intro (hm : P.follows .mixedOrders = true) {f : Nat} {cf : CF} (hc : compF P f = some cf) {args : List AV} {H : Hp} {R : AV → Hp → Prop} (h : W (AC P E) cf.body (endX cf.res R) (initT args) H) : AC P E f args H R := by
  unfold compF at hc
  simp only [Option.bind_eq_some_iff] at hc
  obtain ⟨fn, hf, c, hb, hc⟩ := hc
  split at hc
  · rename_i hn
    simp only [Option.bind_eq_some_iff, Option.map_eq_some_iff] at hc
    obtain ⟨body, hbody, res, hres, rfl⟩ := hc
    refine ⟨⟨fn, c, hf, hn, hb⟩, fun φ w vals hv hH => ?_⟩
    refine calls_of_wp hf hb ?_
    refine W_sound hm (nt := fn.ntmps) (n := (vals.toArray ++ Array.replicate (fn.ntmps - vals.toArray.size) undef).size) (by simp; omega) (φ0 := φ) (w0 := w) c body hbody _ _ H h φ _ w ⟨⟨rfl, fun d => ?_, rfl⟩, hH, Below.refl _ _, PLe.refl _⟩ _ (fun e t H' φ' a w' hr hq => ?_)
    · show VR φ (args.getD d .un) _
      rw [Array.getD_eq_getD_getElem?]
      rcases Nat.lt_or_ge d args.length with hd | hd
      · obtain ⟨u, hu, hR⟩ := hv.get d args[d] (by simp [hd])
        have hdv : d < vals.length := by rw [hv.length]; exact hd
        rw [Array.getElem?_append_left (by simpa using hdv)]
        simp only [List.getElem?_toArray, hu, Option.getD_some]
        rw [List.getD_eq_getElem?_getD, List.getElem?_eq_getElem hd]
        exact hR
      · have hdv : vals.length ≤ d := by rw [hv.length]; exact hd
        rw [Array.getElem?_append_right (by simpa using hdv), List.getD_eq_getElem?_getD, List.getElem?_eq_none hd]
        simp only [Option.getD_none, Array.getElem?_replicate]
        split <;> rfl
    · have key : (match resA t H' res with | some v => R v H' | none => False) → bodyPost P fn (fun
          | .returned u, w' => ∃ φ' H' v, PLe φ φ' ∧ HR E φ' H' w' ∧ Below E.B0 w w' ∧ VR φ' v u ∧ R v H'
          | _, _ => False) .ret a w' := by
        intro hq
        split at hq
        · rename_i v hv
          obtain ⟨u, hu, hrun⟩ := res_ok (P := P) hres hv hr.tr hr.hr
          exact ⟨hr.tr.defers, u, hrun, φ', H', v, hr.le, hr.hr, hr.below, hu, hq⟩
        · exact hq.elim
      cases e with
      | normal => exact key hq
      | exit id => exact hq.elim
      | ret => exact key hq
  · cases hc

theorem AC.mono {f : Nat} {args : List AV} {H : Hp} {R R' : AV → Hp → Prop} (h : AC P E f args H R) (hr : ∀ v H', R v H' → R' v H') : AC P E f args H R' := AC_le f args H R R' hr h

end Go.Proofs.YtkdnijiipegabaaDoor.B
