/- The program's runs: is one. -/
import Derived.Test.YtkdnijiipegabaaDoorIa
import Derived.Test.YtkdnijiipegabaaDoorEd
namespace Go.Proofs.YtkdnijiipegabaaDoor.B
open Go.RowKit Go.Proofs
set_option linter.unusedVariables false
set_option linter.unusedSimpArgs false
variable {E : Env}

def tabJ (f : Nat) (args : List AV) : Option AV :=
  match f, args with
  | 20, [.int .i64 n, .int .i64 l, .int .i64 h] => some (.bool (decide (l ≤ n ∧ n ≤ h)))
  | 21, [.str k] => if k.size < 4611686018427387904 then some (.bool (keyOk k)) else none
  | _, _ => none
theorem tabJ_ok : TabOK tabJ Tryd.prog E := by
  intro f args r H h
  unfold tabJ at h
  split at h
  · cases h
    exact in_ok _ _ _ _
  · split at h
    · cases h
      exact implKey_ok _ _ (by assumption)
    · cases h
  · cases h
section
variable (C : CallP) (d : Option Nat) (ag : List (Option Nat × AOp × Option (Nat × Bool))) (p : Plan) (t : Tm) (H : Hp) (K : Tm → Hp → Prop)
@[simp] theorem tabJ_in (n l h : Int) : callG (tC tabJ C) 20 [.int .i64 n, .int .i64 l, .int .i64 h] d ag p t H K =
  (againG ag (updO t d (.bool (decide (l ≤ n ∧ n ≤ h)))) H ∧ RgP (tC tabJ C) p (updO t d (.bool (decide (l ≤ n ∧ n ≤ h)))) H K) := rfl
theorem tabJ_key (k : ByteArray) (hk : k.size < 4611686018427387904) : callG (tC tabJ C) 21 [.str k] d ag p t H K =
  (againG ag (updO t d (.bool (keyOk k))) H ∧ RgP (tC tabJ C) p (updO t d (.bool (keyOk k))) H K) := callG_tab (if_pos hk)
end
theorem entryOk_ok (e : Ent) (H : Hp) (hk : e.key.size < 4611686018427387904) : AC Tryd.prog E 44 [.ag (entRow e)] H (fun v H' => v = .bool (entOk e) ∧ H' = H) := by
  refine AC_byp (tC_le tabJ_ok) h_impl_entryOk (by simp) ?_
  have hkey : ∀ {C : CallP} {d : Option Nat} {ag} {p : Plan} {t : Tm} {H : Hp} {K : Tm → Hp → Prop}, _ := @fun C d ag p t H K => tabJ_key C d ag p t H K e.key hk
  simp [c_impl_entryOk, entRow, hkey]
  cases h1 : keyOk e.key with
  | false => simp [entOk, h1]
  | true =>
  simp
  refine g_split (fun h2 => ?_) (fun h2 => ?_) (by simp) <;> simp at h2 <;> simp [h2, entOk, h1]
  · cases h3 : e.gone with
    | false =>
      simp [h3]
    | true =>
      simp [h3]
      refine g_split (fun h4 => ?_) (fun h4 => ?_) (by simp) <;> simp at h4 <;> simp [h4, h2]
  · intro h5 h6
    omega
theorem before_ok (a b : Ent) (H : Hp) : AC Tryd.prog E 45 [.ag (entRow a), .ag (entRow b)] H (fun v H' => v = .bool (ahead a b) ∧ H' = H) := by
  refine AC_byp (tC_le tab0_ok) h_impl_before (by simp) ?_
  simp [c_impl_before, entRow]
  refine g_split (fun hq => ?_) (fun hq => ?_) (by simp) <;> simp [hq, ahead]
  refine g_split (fun hq2 => ?_) (fun hq2 => ?_) (by simp) <;> simp at hq2 <;> simp [hq, hq2]

theorem implRunOk_ok (a : AV) (r : List Ent) (H : Hp) (ha : Ents H a r) (hs : Short r) (hn : r.length < 4611686018427387904) : AC Tryd.prog E 35 [a] H (fun v H' => v = .bool (runOk r) ∧ H' = H) := by
  refine AC_byp (tC_le tabJ_ok) h_impl_RunOk (by simp) ?_
  have l1 := ha.len
  simp [c_impl_RunOk, l1, ha.slc]
  refine W_for (fun m t H' => ∃ i : Nat, i + m = r.length ∧ t 0 = a ∧ t 5 = a ∧ t 6 = .int .i64 r.length ∧ t 7 = .int .i64 i ∧ (∀ j : Nat, ∀ h : j < r.length, j < i → entOk r[j] = true ∧ ∀ h0 : 0 < j, ahead r[j - 1] r[j] = true) ∧ HLe H H') r.length ?_ (tC_mono AC_mono) ?_
  · exact ⟨0, by omega, by simp, by simp, by simp, by simp, by simp, HLe.refl _⟩
  rintro m t H' ⟨i, him, h0, h5, h6, h7, hI, hle⟩
  simp [h0, h5, h6, h7, l1, ha.slc]
  refine c_split (fun hq => ?_) (fun hq => ?_) <;> simp at hq
  · have hw := wrapN (i := i) (by omega)
    obtain ⟨o1, i1, ob1, rfl, a1, a2, a3⟩ := (ha.le hle).get hq
    have u1 := Hp.at_lt a1
    have no : (entOk r[i] = true ∧ ∀ h0 : 0 < i, ahead r[i - 1] r[i] = true) ∨ runOk r = false := by
      rcases Classical.em (entOk r[i] = true ∧ ∀ h0 : 0 < i, ahead r[i - 1] r[i] = true) with h | h
      · exact .inl h
      · refine .inr ?_
        simp only [runOk, decide_eq_false_iff_not]
        exact fun hh => h (hh.1 i hq)
    have yes : (entOk r[i] = true ∧ ∀ h0 : 0 < i, ahead r[i - 1] r[i] = true) → ∀ j : Nat, ∀ h : j < r.length, j < i + 1 → entOk r[j] = true ∧ ∀ h0 : 0 < j, ahead r[j - 1] r[j] = true := by
      intro hi j hj hji
      rcases Nat.lt_or_ge j i with h | h
      · exact hI j hj h
      · have : j = i := by omega
        subst this
        exact hi
    obtain ⟨G, hG⟩ : ∃ G : Hp, G = H' ++ [some ⟨[[.str r[i].key, .int .i64 r[i].val, .bool r[i].gone, .int .i64 r[i].time]], 4, 56, false⟩] := ⟨_, rfl⟩
    have hleG : HLe H' G := by rw [hG]; exact HLe.self _ _
    have bG : G.at H'.length = some ⟨[[.str r[i].key, .int .i64 r[i].val, .bool r[i].gone, .int .i64 r[i].time]], 4, 56, false⟩ := by rw [hG]; simp
    have a1G := hleG.2 _ _ a1
    simp [h0, h5, h6, h7, hq, a1, a2, a3, Hp.at_app, u1, ← hG, bG]
    refine cg_use (entryOk_ok r[i] G (hs.get hq)) ?_
    cases he : entOk r[i] with
    | false =>
      simp [h0, h5, h6, h7, he]
      exact ⟨no.resolve_left (fun h => by rw [he] at h; cases h.1), hle.trans hleG⟩
    | true =>
      rcases Nat.eq_zero_or_pos i with rfl | hp
      · simp [h0, h5, h6, h7]
        exact ⟨m - 1, by omega, 1, by omega, by decide, fun j hj hj1 => yes ⟨he, fun h => by omega⟩ j hj (by omega), hle.trans hleG⟩
      · have hw2 : IntKind.i64.wrap ((i : Int) - 1) = ((i - 1 : Nat) : Int) := by rw [wrap64 (by omega) (by omega)]; omega
        have hlt : i - 1 < r.length := by omega
        obtain ⟨o2, i2, ob2, e2, b1, b2, b3⟩ := (ha.le hle).get hlt
        cases e2
        rw [a1] at b1
        cases b1
        simp [h0, h5, h6, h7, hp, hw2, a1G, a2, b3, hlt, bG]
        refine cg_use (before_ok r[i - 1] r[i] G) ?_
        cases hb : ahead r[i - 1] r[i] with
        | false =>
          simp [h0, h5, h6, h7]
          exact ⟨no.resolve_left (fun h => by rw [h.2 hp] at hb; cases hb), hle.trans hleG⟩
        | true =>
          simp [h0, h5, h6, h7, hw]
          exact ⟨m - 1, by omega, i + 1, by omega, rfl, yes ⟨he, fun _ => hb⟩, hle.trans hleG⟩
  · have : i = r.length := by omega
    subst this
    simp [h0, l1, ha.slc]
    simp only [runOk, decide_eq_decide]
    exact ⟨⟨fun h => ⟨fun j hj => hI j hj hj, by omega⟩, fun h => by omega⟩, hle⟩

end Go.Proofs.YtkdnijiipegabaaDoor.B
