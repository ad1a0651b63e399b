/- The reference's small functions, and the table of calls that touch no memory. -/
import Derived.Test.YtkdnijiipegabaaDoorEa
import Derived.Test.YtkdnijiipegabaaDoorBw
namespace Go.Proofs.YtkdnijiipegabaaDoor.B
open Go.RowKit Go.Proofs
set_option linter.unusedVariables false
set_option linter.unusedSimpArgs false
variable {E : Env}

/-! ### Numbers -/
def tab0 (f : Nat) (args : List AV) : Option AV :=
  match f, args with
  | 16, [.int .i64 n, .int .i64 l, .int .i64 h] => some (.bool (decide (l ≤ n ∧ n ≤ h)))
  | _, _ => none
theorem l6In_ok (n l h : Int) (H : Hp) : AC Tryd.prog E 16 [.int .i64 n, .int .i64 l, .int .i64 h] H (fun v H' => v = .bool (decide (l ≤ n ∧ n ≤ h)) ∧ H' = H) := by
  refine AC_by fol (CLe.refl (AC Tryd.prog E)) h_spec_l6In ?_
  simp [c_spec_l6In]
  refine g_split (fun hq => ?_) (fun hq => ?_) (by simp) <;> simp at hq <;> simp [hq]
  omega
theorem tab0_ok : TabOK tab0 Tryd.prog E := by
  intro f args r H h
  unfold tab0 at h
  split at h
  · cases h
    exact l6In_ok _ _ _ _
  · cases h
@[simp] theorem tab0_in (C : CallP) (n l h : Int) (d : Option Nat) (ag) (p : Plan) (t : Tm) (H : Hp) (K : Tm → Hp → Prop) : callG (tC tab0 C) 16 [.int .i64 n, .int .i64 l, .int .i64 h] d ag p t H K =
  (againG ag (updO t d (.bool (decide (l ≤ n ∧ n ≤ h)))) H ∧ RgP (tC tab0 C) p (updO t d (.bool (decide (l ≤ n ∧ n ≤ h)))) H K) := rfl

theorem ix_nat (s : ByteArray) (i : Nat) : bt s (i : Int) = bt s i := rfl
theorem u8_le (s : ByteArray) (i : Int) : 0 ≤ bt s i ∧ bt s i < 256 := by
  unfold bt
  cases h : s[i.toNat]? with
  | none => simp
  | some b =>
    have := b.toNat_lt
    simp only [Option.map_some, Option.getD_some]
    omega
theorem wrap_bt (s : ByteArray) (i : Int) : IntKind.i64.wrap (bt s i) = bt s i := by
  have := u8_le s i
  exact wrap64 (by omega) (by omega)

theorem KeyOk_ok (k : ByteArray) (H : Hp) (hk : k.size < 4611686018427387904) : AC Tryd.prog E 17 [.str k] H (fun v H' => v = .bool (keyOk k) ∧ H' = H) := by
  refine AC_byp (tC_le tab0_ok) h_spec_KeyOk (by simp) ?_
  simp [c_spec_KeyOk]
  refine W_for (fun m t H' => ∃ i : Nat, i + m = k.size ∧ t 0 = .str k ∧ t 3 = .int .i64 i ∧ (∀ j : Nat, j < i → 97 ≤ bt k j ∧ bt k j ≤ 100) ∧ H' = H) k.size ?_ (tC_mono AC_mono) ?_
  · exact ⟨0, by simp⟩
  rintro m t H' ⟨i, him, h0, h3, hI, rfl⟩
  simp [h0, h3]
  refine c_split (fun hq => ?_) (fun hq => ?_) <;> simp at hq
  · simp [h0, h3, hq, wrap_bt]
    refine c_split (fun hq2 => ?_) (fun hq2 => ?_) <;> simp at hq2
    · simp [h0, h3]
      simp only [keyOk, decide_eq_false_iff_not]
      intro hh
      have := hh.1 i hq
      omega
    · have hw := wrapN (i := i) (by omega)
      simp [h0, h3, hw]
      refine ⟨m - 1, by omega, i + 1, by omega, rfl, fun j hj => ?_⟩
      rcases Nat.lt_or_ge j i with h | h
      · exact hI j h
      · have : j = i := by omega
        subst this
        exact hq2
  · have : i = k.size := by omega
    subst this
    simp [h0]
    simp only [keyOk, decide_eq_decide]
    exact ⟨fun h => ⟨hI, by omega⟩, fun h => by omega⟩

theorem l11Ahead_ok (a b : Ent) (H : Hp) : AC Tryd.prog E 41 [.ag (entRow a), .ag (entRow b)] H (fun v H' => v = .bool (ahead a b) ∧ H' = H) := by
  refine AC_byp (tC_le tab0_ok) h_spec_l11Ahead (by simp) ?_
  simp [c_spec_l11Ahead, entRow]
  refine g_split (fun hq => ?_) (fun hq => ?_) (by simp) <;> simp [hq, ahead]
  refine g_split (fun hq2 => ?_) (fun hq2 => ?_) (by simp) <;> simp at hq2 <;> simp [hq, hq2]

def tab1 (f : Nat) (args : List AV) : Option AV :=
  match f, args with
  | 16, [.int .i64 n, .int .i64 l, .int .i64 h] => some (.bool (decide (l ≤ n ∧ n ≤ h)))
  | 17, [.str k] => if k.size < 4611686018427387904 then some (.bool (keyOk k)) else none
  | _, _ => none
theorem tab1_ok : TabOK tab1 Tryd.prog E := by
  intro f args r H h
  unfold tab1 at h
  split at h
  · cases h
    exact l6In_ok _ _ _ _
  · split at h
    · cases h
      exact KeyOk_ok _ _ (by assumption)
    · cases h
  · cases h
@[simp] theorem tab1_in (C : CallP) (n l h : Int) (d : Option Nat) (ag) (p : Plan) (t : Tm) (H : Hp) (K : Tm → Hp → Prop) : callG (tC tab1 C) 16 [.int .i64 n, .int .i64 l, .int .i64 h] d ag p t H K =
  (againG ag (updO t d (.bool (decide (l ≤ n ∧ n ≤ h)))) H ∧ RgP (tC tab1 C) p (updO t d (.bool (decide (l ≤ n ∧ n ≤ h)))) H K) := rfl
theorem tab1_key (C : CallP) (k : ByteArray) (hk : k.size < 4611686018427387904) (d : Option Nat) (ag) (p : Plan) (t : Tm) (H : Hp) (K : Tm → Hp → Prop) : callG (tC tab1 C) 17 [.str k] d ag p t H K =
  (againG ag (updO t d (.bool (keyOk k))) H ∧ RgP (tC tab1 C) p (updO t d (.bool (keyOk k))) H K) := callG_tab (if_pos hk)

theorem l11Ok_ok (e : Ent) (H : Hp) (hk : e.key.size < 4611686018427387904) : AC Tryd.prog E 40 [.ag (entRow e)] H (fun v H' => v = .bool (entOk e) ∧ H' = H) := by
  refine AC_byp (tC_le tab1_ok) h_spec_l11Ok (by simp) ?_
  simp [c_spec_l11Ok, entRow, tab1_key _ _ hk]
  refine g_split (fun h1 => ?_) (fun h1 => ?_) (by simp) <;> simp [h1, entOk]
  refine g_split (fun h2 => ?_) (fun h2 => ?_) (by simp) <;> simp at h2 <;> simp [h2]
  · refine g_split (fun h3 => ?_) (fun h3 => ?_) (by simp) <;> simp at h3 <;> simp [h3]
    refine g_split (fun h4 => ?_) (fun h4 => ?_) (by simp) <;> simp at h4 <;> simp [h4]
  · intro a b
    have := h2 a
    omega

def tab2 (f : Nat) (args : List AV) : Option AV :=
  match f, args with
  | 16, [.int .i64 n, .int .i64 l, .int .i64 h] => some (.bool (decide (l ≤ n ∧ n ≤ h)))
  | 17, [.str k] => if k.size < 4611686018427387904 then some (.bool (keyOk k)) else none
  | 41, [.ag [.str a1, .int .i64 a2, .bool a3, .int .i64 a4], .ag [.str b1, .int .i64 b2, .bool b3, .int .i64 b4]] => some (.bool (ahead ⟨a1, a2, a3, a4⟩ ⟨b1, b2, b3, b4⟩))
  | 40, [.ag [.str a1, .int .i64 a2, .bool a3, .int .i64 a4]] => if a1.size < 4611686018427387904 then some (.bool (entOk ⟨a1, a2, a3, a4⟩)) else none
  | _, _ => none
theorem tab2_ok : TabOK tab2 Tryd.prog E := by
  intro f args r H h
  unfold tab2 at h
  split at h
  · cases h
    exact l6In_ok _ _ _ _
  · split at h
    · cases h
      exact KeyOk_ok _ _ (by assumption)
    · cases h
  · cases h
    exact l11Ahead_ok ⟨_, _, _, _⟩ ⟨_, _, _, _⟩ H
  · split at h
    · cases h
      exact l11Ok_ok ⟨_, _, _, _⟩ H (by assumption)
    · cases h
  · cases h
section
variable (C : CallP) (d : Option Nat) (ag : List (Option Nat × AOp × Option (Nat × Bool))) (p : Plan) (t : Tm) (H : Hp) (K : Tm → Hp → Prop)
@[simp] theorem tab2_in (n l h : Int) : callG (tC tab2 C) 16 [.int .i64 n, .int .i64 l, .int .i64 h] d ag p t H K =
  (againG ag (updO t d (.bool (decide (l ≤ n ∧ n ≤ h)))) H ∧ RgP (tC tab2 C) p (updO t d (.bool (decide (l ≤ n ∧ n ≤ h)))) H K) := rfl
theorem tab2_key (k : ByteArray) (hk : k.size < 4611686018427387904) : callG (tC tab2 C) 17 [.str k] d ag p t H K =
  (againG ag (updO t d (.bool (keyOk k))) H ∧ RgP (tC tab2 C) p (updO t d (.bool (keyOk k))) H K) := callG_tab (if_pos hk)
@[simp] theorem tab2_ahead (a1 b1 : ByteArray) (a2 b2 a4 b4 : Int) (a3 b3 : Bool) : callG (tC tab2 C) 41 [.ag [.str a1, .int .i64 a2, .bool a3, .int .i64 a4], .ag [.str b1, .int .i64 b2, .bool b3, .int .i64 b4]] d ag p t H K =
  (againG ag (updO t d (.bool (ahead ⟨a1, a2, a3, a4⟩ ⟨b1, b2, b3, b4⟩))) H ∧ RgP (tC tab2 C) p (updO t d (.bool (ahead ⟨a1, a2, a3, a4⟩ ⟨b1, b2, b3, b4⟩))) H K) := rfl
theorem tab2_ok1 (a1 : ByteArray) (a2 a4 : Int) (a3 : Bool) (hk : a1.size < 4611686018427387904) : callG (tC tab2 C) 40 [.ag [.str a1, .int .i64 a2, .bool a3, .int .i64 a4]] d ag p t H K =
  (againG ag (updO t d (.bool (entOk ⟨a1, a2, a3, a4⟩))) H ∧ RgP (tC tab2 C) p (updO t d (.bool (entOk ⟨a1, a2, a3, a4⟩))) H K) := callG_tab (if_pos hk)
end

theorem ent_eta (e : Ent) : (⟨e.key, e.val, e.gone, e.time⟩ : Ent) = e := rfl

theorem RunOk_ok (a : AV) (r : List Ent) (H : Hp) (ha : Ents H a r) (hs : Short r) (hn : r.length < 4611686018427387904) : AC Tryd.prog E 31 [a] H (fun v H' => v = .bool (runOk r) ∧ H' = H) := by
  refine AC_byp (tC_le tab2_ok) h_spec_RunOk (by simp) ?_
  have l1 := ha.len
  simp [c_spec_RunOk]
  refine W_for (fun m t H' => ∃ i : Nat, i + m = r.length ∧ t 0 = a ∧ t 3 = .int .i64 i ∧ (∀ j : Nat, ∀ h : j < r.length, j < i → entOk r[j] = true ∧ ∀ h0 : 0 < j, ahead r[j - 1] r[j] = true) ∧ H' = H) r.length ?_ (tC_mono AC_mono) ?_
  · exact ⟨0, by simp⟩
  rintro m t H' ⟨i, him, h0, h3, hI, rfl⟩
  simp [h0, h3, l1, ha.slc]
  refine c_split (fun hq => ?_) (fun hq => ?_) <;> simp at hq
  · have hw := wrapN (i := i) (by omega)
    obtain ⟨o1, i1, ob1, rfl, a1, a2, a3⟩ := ha.get hq
    have no : (entOk r[i] = true ∧ ∀ h0 : 0 < i, ahead r[i - 1] r[i] = true) ∨ runOk r = false := by
      rcases Classical.em (entOk r[i] = true ∧ ∀ h0 : 0 < i, ahead r[i - 1] r[i] = true) with h | h
      · exact .inl h
      · refine .inr ?_
        simp only [runOk, decide_eq_false_iff_not]
        exact fun hh => h (hh.1 i hq)
    have yes : (entOk r[i] = true ∧ ∀ h0 : 0 < i, ahead r[i - 1] r[i] = true) → ∀ j : Nat, ∀ h : j < r.length, j < i + 1 → entOk r[j] = true ∧ ∀ h0 : 0 < j, ahead r[j - 1] r[j] = true := by
      intro hi j hj hji
      rcases Nat.lt_or_ge j i with h | h
      · exact hI j hj h
      · have : j = i := by omega
        subst this
        exact hi
    cases he : entOk r[i] with
    | false =>
      simp [h0, h3, hq, a1, a2, a3, tab2_ok1 _ _ _ _ _ _ _ _ _ _ _ (hs.get hq), ent_eta, he]
      exact no.resolve_left (fun h => by rw [he] at h; cases h.1)
    | true =>
      rcases Nat.eq_zero_or_pos i with rfl | hp
      · rw [Nat.add_zero] at a3
        simp [h0, h3, hq, a1, a2, a3, tab2_ok1 _ _ _ _ _ _ _ _ _ _ _ (hs.get hq), ent_eta, he]
        exact ⟨m - 1, by omega, 1, by omega, rfl, fun j hj hj1 => yes ⟨he, fun h => by omega⟩ j hj (by omega)⟩
      · have hw2 : IntKind.i64.wrap ((i : Int) - 1) = ((i - 1 : Nat) : Int) := by rw [wrap64 (by omega) (by omega)]; omega
        have hlt : i - 1 < r.length := by omega
        obtain ⟨o2, i2, ob2, e2, b1, b2, b3⟩ := ha.get hlt
        cases e2
        rw [a1] at b1
        cases b1
        cases hb : ahead r[i - 1] r[i] with
        | false =>
          simp [h0, h3, hq, hp, hlt, hw2, a1, a2, a3, b3, tab2_ok1 _ _ _ _ _ _ _ _ _ _ _ (hs.get hq), ent_eta, he, hb]
          exact no.resolve_left (fun h => by rw [h.2 hp] at hb; cases hb)
        | true =>
          simp [h0, h3, hq, hp, hlt, hw, hw2, a1, a2, a3, b3, tab2_ok1 _ _ _ _ _ _ _ _ _ _ _ (hs.get hq), ent_eta, he, hb]
          exact ⟨m - 1, by omega, i + 1, by omega, rfl, yes ⟨he, fun _ => hb⟩⟩
  · have : i = r.length := by omega
    subst this
    simp [h0, l1, ha.slc]
    simp only [runOk, decide_eq_decide]
    exact ⟨fun h => ⟨fun j hj => hI j hj hj, by omega⟩, fun h => by omega⟩

end Go.Proofs.YtkdnijiipegabaaDoor.B
