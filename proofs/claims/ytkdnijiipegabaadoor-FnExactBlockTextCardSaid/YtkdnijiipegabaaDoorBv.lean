/- The program logic: memory of one's own, append, and calls that are read off a table. -/
import Derived.Test.YtkdnijiipegabaaDoorBu
namespace Go.Proofs.YtkdnijiipegabaaDoor.B
open Go.RowKit
set_option linter.unusedVariables false
set_option linter.unusedSimpArgs false

/-- Memory has grown, and is as it was but for some objects. -/
def Fr (S : Nat → Prop) (H H' : Hp) : Prop := H.length ≤ H'.length ∧ ∀ o ob, ¬ S o → H.at o = some ob → H'.at o = some ob
theorem Fr.refl (S : Nat → Prop) (H : Hp) : Fr S H H := ⟨Nat.le_refl _, fun _ _ _ h => h⟩
theorem Fr.len {S : Nat → Prop} {H H' : Hp} (h : Fr S H H') : H.length ≤ H'.length := h.1
theorem Fr.trans {S S' : Nat → Prop} {a b c : Hp} (h : Fr S a b) (k : Fr S' b c) (hs : ∀ o, S' o → S o ∨ a.length ≤ o) : Fr S a c :=
  ⟨Nat.le_trans h.1 k.1, fun o ob hn ho => k.2 o ob (fun hk => (hs o hk).elim hn (fun hl => by have := Hp.at_lt ho; omega)) (h.2 o ob hn ho)⟩
theorem Fr.same {S : Nat → Prop} {a b c : Hp} (h : Fr S a b) (k : Fr S b c) : Fr S a c := h.trans k (fun o h => .inl h)
theorem Fr.mono {S S' : Nat → Prop} {a b : Hp} (h : Fr S a b) (hs : ∀ o, S o → S' o ∨ a.length ≤ o) : Fr S' a b :=
  ⟨h.1, fun o ob hn ho => h.2 o ob (fun hk => (hs o hk).elim hn (fun hl => by have := Hp.at_lt ho; omega)) ho⟩
theorem HLe.fr {S : Nat → Prop} {a b : Hp} (h : HLe a b) : Fr S a b := ⟨h.1, fun o ob _ ho => h.2 o ob ho⟩
theorem Fr.le {S : Nat → Prop} {a b : Hp} (h : Fr S a b) (hs : ∀ o, S o → a.length ≤ o) : HLe a b :=
  ⟨h.1, fun o ob ho => h.2 o ob (fun hk => by have := Hp.at_lt ho; have := hs o hk; omega) ho⟩
theorem HLe.fr_le {S : Nat → Prop} {a b c : Hp} (h : HLe a b) (k : Fr S b c) (hs : ∀ o, S o → a.length ≤ o) : HLe a c :=
  ⟨Nat.le_trans h.1 k.1, fun o ob ho => k.2 o ob (fun hk => by have := Hp.at_lt ho; have := hs o hk; omega) (h.2 o ob ho)⟩
theorem Fr.le_fr {S : Nat → Prop} {a b c : Hp} (h : Fr S a b) (k : HLe b c) : Fr S a c := ⟨Nat.le_trans h.1 k.1, fun o ob hn ho => k.2 o ob (h.2 o ob hn ho)⟩
theorem Fr.set {S : Nat → Prop} {a b : Hp} (h : Fr S a b) {o : Nat} (ho : S o ∨ a.length ≤ o) (x : Option Ob) : Fr S a (List.set b o x) :=
  ⟨by rw [List.length_set]; exact h.1, fun o' ob hn h' => by
    rw [Hp.at_set_ne (fun e => by subst e; exact ho.elim hn (fun hl => by have := Hp.at_lt h'; omega))]
    exact h.2 o' ob hn h'⟩
theorem Fr.app {S : Nat → Prop} {a b : Hp} (h : Fr S a b) (l : Hp) : Fr S a (b ++ l) := h.le_fr (HLe.self _ _)

theorem Rows.fr {S : Nat → Prop} {esz : Nat} {H H' : Hp} {v : AV} {rows : List (List AV)} (h : Rows esz H v rows) (hf : Fr S H H') (hs : ∀ o, v.of o → ¬ S o) : Rows esz H' v rows := by
  rcases h with h | h | ⟨o, i, ob, h1, h2, h3⟩
  · exact .inl h
  · exact .inr (.inl h)
  · subst h1
    exact .inr (.inr ⟨o, i, ob, rfl, hf.2 o ob (hs o rfl) h2, h3⟩)

/-- A slice of one's own, its content: it may be appended to. -/
def Own (esz ety : Nat) (H : Hp) (v : AV) (R : List (List AV)) : Prop :=
  (v = .nils ∧ R = []) ∨ (v = .sz ∧ R = []) ∨ ∃ o ob, v = .sl o 0 R.length ∧ H.at o = some ob ∧ ob.ro = false ∧ ob.esz = esz ∧ ob.ety = ety ∧ R.length ≤ ob.rows.length ∧ ob.rows.take R.length = R
theorem Own.rows {esz ety : Nat} {H : Hp} {v : AV} {R : List (List AV)} (h : Own esz ety H v R) : Rows esz H v R := by
  rcases h with h | h | ⟨o, ob, rfl, h2, h3, h4, h5, h6, h7⟩
  · exact .inl h
  · exact .inr (.inl h)
  · exact .inr (.inr ⟨o, 0, ob, rfl, h2, h4, by omega, by simpa using h7⟩)
theorem Own.fr {S : Nat → Prop} {esz ety : Nat} {H H' : Hp} {v : AV} {R : List (List AV)} (h : Own esz ety H v R) (hf : Fr S H H') (hs : ∀ o, v.of o → ¬ S o) : Own esz ety H' v R := by
  rcases h with h | h | ⟨o, ob, h1, h2, h3⟩
  · exact .inl h
  · exact .inr (.inl h)
  · subst h1
    exact .inr (.inr ⟨o, ob, rfl, hf.2 o ob (hs o rfl) h2, h3⟩)
theorem Own.le {esz ety : Nat} {H H' : Hp} {v : AV} {R : List (List AV)} (h : Own esz ety H v R) (hf : HLe H H') : Own esz ety H' v R := h.fr (hf.fr (S := fun _ => False)) (fun _ _ h => h)
theorem Own.nils {esz ety : Nat} {H : Hp} : Own esz ety H .nils [] := .inl ⟨rfl, rfl⟩
theorem Own.obj {esz ety : Nat} {H : Hp} {o n : Nat} {R : List (List AV)} (h : H.at o = some ⟨R, esz, ety, false⟩) (hn : n = R.length) : Own esz ety H (.sl o 0 n) R :=
  .inr (.inr ⟨o, _, by rw [hn], h, rfl, rfl, rfl, Nat.le_refl _, by simp⟩)
theorem Own.lt {esz ety : Nat} {H : Hp} {v : AV} {R : List (List AV)} (h : Own esz ety H v R) {o : Nat} (ho : v.of o) : o < H.length := by
  rcases h with ⟨rfl, _⟩ | ⟨rfl, _⟩ | ⟨o', ob, rfl, h2, _⟩
  · exact ho.elim
  · exact ho.elim
  · have : o' = o := ho
    subst this
    exact Hp.at_lt h2
theorem Rows.lt {esz : Nat} {H : Hp} {v : AV} {R : List (List AV)} (h : Rows esz H v R) {o : Nat} (ho : v.of o) : o < H.length := by
  rcases h with ⟨rfl, _⟩ | ⟨rfl, _⟩ | ⟨o', i, ob, rfl, h2, _⟩
  · exact ho.elim
  · exact ho.elim
  · have : o' = o := ho
    subst this
    exact Hp.at_lt h2
@[simp] theorem AV.of_sl (o i n o' : Nat) : AV.of (.sl o i n) o' = (o = o') := rfl
@[simp] theorem AV.of_nils (o' : Nat) : AV.of .nils o' = False := rfl
@[simp] theorem AV.of_sz (o' : Nat) : AV.of .sz o' = False := rfl

/-- What append does. -/
def appA (ety esz bytes : Nat) (x y : AV) (H : Hp) : Option (AV × Hp) := stepA (fun _ => .un) H (.app ety esz bytes (.c x) (.c y))

theorem appA_own {ety esz bytes : Nat} {x y : AV} {H : Hp} {R R2 : List (List AV)} (hx : Own esz ety H x R) (hy : Rows esz H y R2) (hb : (R.length + R2.length) * bytes ≤ 140737488355328) :
    ∃ v H', appA ety esz bytes x y H = some (v, H') ∧ Own esz ety H' v (R ++ R2) ∧ Fr x.of H H' ∧ (∀ o, v.of o → x.of o ∨ H.length ≤ o) := by
  have hb2 : R2.length * bytes ≤ 140737488355328 := Nat.le_trans (Nat.mul_le_mul_right _ (by omega)) hb
  rcases hy with ⟨rfl, rfl⟩ | ⟨rfl, rfl⟩ | ⟨o2, i2, ob2, rfl, h2, h3, h4, h5⟩
  · refine ⟨x, H, ?_, by simpa using hx, Fr.refl _ _, fun o h => .inl h⟩
    rcases hx with ⟨rfl, rfl⟩ | ⟨rfl, rfl⟩ | ⟨o, ob, rfl, _⟩ <;> simp [appA]
  · refine ⟨x, H, ?_, by simpa using hx, Fr.refl _ _, fun o h => .inl h⟩
    rcases hx with ⟨rfl, rfl⟩ | ⟨rfl, rfl⟩ | ⟨o, ob, rfl, _⟩ <;> simp [appA]
  · rcases hx with ⟨rfl, rfl⟩ | ⟨rfl, rfl⟩ | ⟨o, ob, rfl, k1, k2, k3, k4, k5, k6⟩
    · by_cases hz : R2.length = 0
      · obtain rfl := List.length_eq_zero_iff.1 hz
        exact ⟨.nils, H, by simp [appA, h2, h3] at h4 ⊢; exact h4, Own.nils, Fr.refl _ _, fun o h => .inl h⟩
      · refine ⟨.sl H.length 0 R2.length, H ++ [some ⟨R2, esz, ety, false⟩], by simp [appA, h2, h3, hz, h4, h5, hb2], Own.obj (by simp) rfl, (HLe.self _ _).fr, fun o h => .inr (Nat.le_of_eq h)⟩
    · by_cases hz : R2.length = 0
      · obtain rfl := List.length_eq_zero_iff.1 hz
        exact ⟨.sz, H, by simp [appA, h2, h3] at h4 ⊢; exact h4, .inr (.inl ⟨rfl, rfl⟩), Fr.refl _ _, fun o h => .inl h⟩
      · refine ⟨.sl H.length 0 R2.length, H ++ [some ⟨R2, esz, ety, false⟩], by simp [appA, h2, h3, hz, h4, h5, hb2], Own.obj (by simp) rfl, (HLe.self _ _).fr, fun o h => .inr (Nat.le_of_eq h)⟩
    · refine ⟨.sl H.length 0 (R ++ R2).length, (List.set H o none) ++ [some ⟨R ++ R2, esz, ety, false⟩], ?_, Own.obj ?_ rfl, ?_, fun o h => .inr (Nat.le_of_eq h)⟩
      · simp [appA, h2, h3, h4, h5, hb2, k1, k2, k3, k4, k5, k6, hb]
      · have : (List.set H o none).length = H.length := by simp
        rw [← this, Hp.at_app_0]
        rfl
      · refine ((Fr.refl _ H).set (.inl rfl) none).app _

/-- Behind append. -/
def appG (x y : AV) (ety esz bytes : Nat) (C : CallP) (d : Option Nat) (ag : List (Option Nat × AOp × Option (Nat × Bool))) (p : Plan) (t : Tm) (H : Hp) (K : Tm → Hp → Prop) : Prop :=
  optK (appA ety esz bytes x y H) (fun v H' => againG ag (updO t d v) H' ∧ RgP C p (updO t d v) H' K)
@[simp] theorem R_appG (C : CallP) (t : Tm) (H : Hp) (K : Tm → Hp → Prop) (d : Option Nat) (pl : Plan) (ag) (e n m : Nat) (x y : Od) :
    RgP C (.st d (.app e n m x y) none ag pl) t H K = appG (x.ev t) (y.ev t) e n m C d ag pl t H K := rfl

theorem appG_own {ety esz bytes : Nat} {x y : AV} {H : Hp} {R R2 : List (List AV)} {C : CallP} {d : Option Nat} {ag : List (Option Nat × AOp × Option (Nat × Bool))} {p : Plan} {t : Tm} {K : Tm → Hp → Prop}
    (hx : Own esz ety H x R) (hy : Rows esz H y R2) (hb : (R.length + R2.length) * bytes ≤ 140737488355328)
    (hk : ∀ v H', Own esz ety H' v (R ++ R2) → Fr x.of H H' → (∀ o, v.of o → x.of o ∨ H.length ≤ o) → againG ag (updO t d v) H' ∧ RgP C p (updO t d v) H' K) : appG x y ety esz bytes C d ag p t H K := by
  obtain ⟨v, H', h1, h2, h3, h4⟩ := appA_own hx hy hb
  unfold appG
  rw [h1]
  exact hk v H' h2 h3 h4

/-- One element is appended. -/
theorem appG_one {ety esz bytes : Nat} {x : AV} {row : List AV} {H : Hp} {R : List (List AV)} {C : CallP} {d : Option Nat} {ag : List (Option Nat × AOp × Option (Nat × Bool))} {p : Plan} {t : Tm} {K : Tm → Hp → Prop}
    (hx : Own esz ety H x R) (hb : (R.length + 1) * bytes ≤ 140737488355328)
    (hk : ∀ v H', Own esz ety H' v (R ++ [row]) → Fr x.of H H' → (∀ o, v.of o → x.of o ∨ H.length ≤ o) → againG ag (updO t d v) H' ∧ RgP C p (updO t d v) H' K) :
    appG x (.sl H.length 0 1) ety esz bytes C d ag p t (H ++ [some ⟨[row], esz, ety, false⟩]) K := by
  refine appG_own (R2 := [row]) (hx.le (HLe.self _ _)) (Own.rows (ety := ety) (Own.obj (by simp) rfl)) hb (fun v H' h1 h2 h3 => hk v H' h1 ?_ ?_)
  · exact ⟨Nat.le_trans (by simp) h2.1, fun o ob hn ho => h2.2 o ob hn ((HLe.self _ _).2 o ob ho)⟩
  · intro o ho
    rcases h3 o ho with h | h
    · exact .inl h
    · simp at h
      exact .inr (by omega)

/-- Elements of one's own, in memory that has been made since. -/
def OwnM {α : Type} (esz ety : Nat) (row : α → List AV) (H0 H : Hp) (v : AV) (xs : List α) : Prop := Own esz ety H v (xs.map row) ∧ ∀ o, v.of o → H0.length ≤ o
section
variable {α : Type} {esz ety bytes : Nat} {row : α → List AV} {H0 H H' : Hp} {v x : AV} {xs : List α} {C : CallP} {d : Option Nat} {ag : List (Option Nat × AOp × Option (Nat × Bool))} {p : Plan} {t : Tm} {K : Tm → Hp → Prop}
theorem OwnM.rows (h : OwnM esz ety row H0 H v xs) : Rows esz H v (xs.map row) := h.1.rows
theorem OwnM.len (h : OwnM esz ety row H0 H v xs) : lenV v = .int .i64 xs.length := by simpa using h.rows.len
theorem OwnM.slc (h : OwnM esz ety row H0 H v xs) : slC v := h.rows.slc
theorem OwnM.le (h : OwnM esz ety row H0 H v xs) (hle : HLe H H') : OwnM esz ety row H0 H' v xs := ⟨h.1.le hle, h.2⟩
theorem OwnM.fr {S : Nat → Prop} (h : OwnM esz ety row H0 H v xs) (hf : Fr S H H') (hs : ∀ o, v.of o → ¬ S o) : OwnM esz ety row H0 H' v xs := ⟨h.1.fr hf hs, h.2⟩
theorem OwnM.nils : OwnM esz ety row H0 H .nils [] := ⟨Own.nils, by simp⟩
theorem OwnM.base {H1 : Hp} (h : OwnM esz ety row H0 H v xs) (hl : H1.length ≤ H0.length) : OwnM esz ety row H1 H v xs := ⟨h.1, fun o ho => Nat.le_trans hl (h.2 o ho)⟩
/-- An empty slice that was just made. -/
theorem OwnM.lit0 (hle : HLe H0 H) : OwnM esz ety row H0 (H ++ [some ⟨[], esz, ety, false⟩]) (.sl H.length 0 0) [] := ⟨Own.obj (by simp) rfl, fun o ho => by have := hle.1; simp at ho; omega⟩
theorem appG_add {r : List AV} {y : α} (hx : OwnM esz ety row H0 H x xs) (hle : HLe H0 H) (hb : (xs.length + 1) * bytes ≤ 140737488355328) (hr : r = row y)
    (hk : ∀ v H', HLe H0 H' → OwnM esz ety row H0 H' v (xs ++ [y]) → Fr x.of H H' → (∀ o, v.of o → x.of o ∨ H.length ≤ o) → againG ag (updO t d v) H' ∧ RgP C p (updO t d v) H' K) :
    appG x (.sl H.length 0 1) ety esz bytes C d ag p t (H ++ [some ⟨[r], esz, ety, false⟩]) K := by
  subst hr
  exact appG_one hx.1 (by simpa using hb) (fun v H' g1 g2 g3 => hk v H' (hle.fr_le g2 hx.2) ⟨by simpa using g1, fun o ho => (g3 o ho).elim (hx.2 o) (fun h => Nat.le_trans hle.1 h)⟩ g2 g3)
theorem appG_cat {y : AV} {ys : List α} (hx : OwnM esz ety row H0 H x xs) (hy : Rows esz H y (ys.map row)) (hle : HLe H0 H) (hb : (xs.length + ys.length) * bytes ≤ 140737488355328)
    (hk : ∀ v H', HLe H0 H' → OwnM esz ety row H0 H' v (xs ++ ys) → Fr x.of H H' → (∀ o, v.of o → x.of o ∨ H.length ≤ o) → againG ag (updO t d v) H' ∧ RgP C p (updO t d v) H' K) :
    appG x y ety esz bytes C d ag p t H K :=
  appG_own hx.1 hy (by simpa using hb) (fun v H' g1 g2 g3 => hk v H' (hle.fr_le g2 hx.2) ⟨by simpa using g1, fun o ho => (g3 o ho).elim (hx.2 o) (fun h => Nat.le_trans hle.1 h)⟩ g2 g3)
/-- Part of a slice. -/
theorem Rows.drop {rows : List (List AV)} (h : Rows esz H v rows) (k : Nat) (hk : k ≤ rows.length) : ∃ u, stepA (fun _ => .un) H (.cut esz (.c v) (some (.c (.int .i64 k))) none) = some (u, H) ∧ Rows esz H u (rows.drop k) ∧ (∀ o, u.of o → v.of o) := by
  rcases h with ⟨rfl, rfl⟩ | ⟨rfl, rfl⟩ | ⟨o, i, ob, rfl, h2, h3, h4, h5⟩
  · have : k = 0 := by simpa using hk
    subst this
    exact ⟨.nils, by simp, Rows.nil, fun o ho => ho⟩
  · have : k = 0 := by simpa using hk
    subst this
    exact ⟨.sz, by simp, .inr (.inl ⟨rfl, rfl⟩), fun o ho => ho⟩
  · refine ⟨.sl o (i + k) (rows.length - k), ?_, .inr (.inr ⟨o, i + k, ob, by simp, h2, h3, by simp; omega, ?_⟩), fun o ho => ho⟩
    · simp [h2, h3]
      omega
    · rw [List.length_drop, ← List.drop_drop, ← List.drop_take, h5]
end

/-- Behind a cut. -/
def cutG (v : AV) (lo hi : Option AV) (esz : Nat) (C : CallP) (d : Option Nat) (p : Plan) (t : Tm) (H : Hp) (K : Tm → Hp → Prop) : Prop :=
  optK (stepA (fun _ => .un) H (.cut esz (.c v) (lo.map .c) (hi.map .c))) (fun u H' => RgP C p (updO t d u) H' K)
@[simp] theorem R_cutG (C : CallP) (t : Tm) (H : Hp) (K : Tm → Hp → Prop) (d : Option Nat) (pl : Plan) (esz : Nat) (x : Od) (lo hi : Option Od) :
    RgP C (.st d (.cut esz x lo hi) none [] pl) t H K = cutG (x.ev t) (lo.map (·.ev t)) (hi.map (·.ev t)) esz C d pl t H K := by
  have e : stepA t H (.cut esz x lo hi) = stepA (fun _ => .un) H (.cut esz (.c (x.ev t)) ((lo.map (·.ev t)).map .c) ((hi.map (·.ev t)).map .c)) := by
    cases lo <;> cases hi <;> rfl
  simp only [RgP, cutG, ← e]
  show stepK C t H (.cut esz x lo hi) _ = _
  rw [stepK_opt rfl]
  simp
section
variable {esz ety : Nat} {H : Hp} {v : AV} {rows : List (List AV)} {C : CallP} {d : Option Nat} {p : Plan} {t : Tm} {K : Tm → Hp → Prop}
theorem cut_rows (h : Rows esz H v rows) (lo hi : Option AV) (l k : Nat) (hlo : lo = none ∧ l = 0 ∨ ∃ q, lo = some (.int q l)) (hhi : hi = none ∧ k = rows.length ∨ ∃ q, hi = some (.int q k)) (h1 : l ≤ k) (h2 : k ≤ rows.length) :
    ∃ u, stepA (fun _ => .un) H (.cut esz (.c v) (lo.map .c) (hi.map .c)) = some (u, H) ∧ Rows esz H u ((rows.drop l).take (k - l)) ∧ (∀ o, u.of o → v.of o) ∧ (l = 0 → ∀ ety, Own esz ety H v rows → Own esz ety H u (rows.take k)) := by
  have el : ∀ z, optI (fun _ => AV.un) z (lo.map .c) = some (if lo = none then z else l) := by
    intro z
    rcases hlo with ⟨rfl, _⟩ | ⟨q, rfl⟩ <;> simp
  have eh : optI (fun _ => AV.un) rows.length (hi.map .c) = some (k : Int) := by
    rcases hhi with ⟨rfl, rfl⟩ | ⟨q, rfl⟩ <;> simp
  have el0 : optI (fun _ => AV.un) 0 (lo.map .c) = some (l : Int) := by
    rcases hlo with ⟨rfl, rfl⟩ | ⟨q, rfl⟩ <;> simp
  rcases h with ⟨rfl, rfl⟩ | ⟨rfl, rfl⟩ | ⟨o, i, ob, rfl, a2, a3, a4, a5⟩
  · have hk : k = 0 := by simpa using h2
    subst hk
    have hl : l = 0 := by omega
    subst hl
    refine ⟨.nils, ?_, by simpa using Rows.nil, fun o ho => ho, fun _ ety h => by simpa using h⟩
    have eh' : optI (fun _ => AV.un) 0 (hi.map .c) = some 0 := by simpa using eh
    simp only [stepA, Od.ev, el0, eh', Option.bind_some]
    simp
  · have hk : k = 0 := by simpa using h2
    subst hk
    have hl : l = 0 := by omega
    subst hl
    refine ⟨.sz, ?_, .inr (.inl ⟨rfl, by simp⟩), fun o ho => ho, fun _ ety h => by simpa using h⟩
    have eh' : optI (fun _ => AV.un) 0 (hi.map .c) = some 0 := by simpa using eh
    simp only [stepA, Od.ev, el0, eh', Option.bind_some]
    simp
  · refine ⟨.sl o (i + l) (k - l), ?_, .inr (.inr ⟨o, i + l, ob, ?_, a2, a3, ?_, ?_⟩), fun o ho => ho, ?_⟩
    · simp only [stepA, Od.ev, el0, eh, Option.bind_some, a2, a3, if_true]
      rw [if_pos ⟨by omega, by omega, by omega⟩]
      simp
    · congr 1
      simp
      omega
    · simp
      omega
    · have e5 : (ob.rows.drop i).take rows.length = rows := a5
      have : ((ob.rows.drop i).take rows.length).drop l = rows.drop l := by rw [e5]
      rw [List.drop_take, List.drop_drop] at this
      have hlen : ((rows.drop l).take (k - l)).length = k - l := by simp; omega
      rw [hlen, ← this, List.take_take, Nat.min_eq_left (by omega)]
    · intro hl0 ety ho
      subst hl0
      rcases ho with ⟨ho, _⟩ | ⟨ho, _⟩ | ⟨o', ob', ho, b2, b3, b4, b5, b6, b7⟩
      · cases ho
      · cases ho
      · cases ho
        refine .inr (.inr ⟨o, ob', ?_, b2, b3, b4, b5, ?_, ?_⟩)
        · simp
          omega
        · simp
          omega
        · have : (ob'.rows.take rows.length).take k = rows.take k := by rw [b7]
          rw [List.take_take, Nat.min_eq_left h2] at this
          rw [List.length_take, Nat.min_eq_left h2, this]
theorem cutG_rows (h : Rows esz H v rows) {lo hi : Option AV} (l k : Nat) (hlo : lo = none ∧ l = 0 ∨ ∃ q, lo = some (.int q l)) (hhi : hi = none ∧ k = rows.length ∨ ∃ q, hi = some (.int q k)) (h1 : l ≤ k) (h2 : k ≤ rows.length)
    (hk : ∀ u, Rows esz H u ((rows.drop l).take (k - l)) → (∀ o, u.of o → v.of o) → (l = 0 → ∀ ety, Own esz ety H v rows → Own esz ety H u (rows.take k)) → RgP C p (updO t d u) H K) : cutG v lo hi esz C d p t H K := by
  obtain ⟨u, e1, e2, e3, e4⟩ := cut_rows h lo hi l k hlo hhi h1 h2
  unfold cutG
  rw [e1]
  exact hk u e2 e3 e4
/-- From a place on. -/
theorem cutG_from (h : Rows esz H v rows) {z : Int} (l : Nat) (hz : z = l) (h2 : l ≤ rows.length) (hk : ∀ u, Rows esz H u (rows.drop l) → (∀ o, u.of o → v.of o) → RgP C p (updO t d u) H K) : cutG v (some (.int .i64 z)) none esz C d p t H K :=
  cutG_rows h l rows.length (.inr ⟨_, by rw [hz]⟩) (.inl ⟨rfl, rfl⟩) h2 (Nat.le_refl _) (fun u h1 h2 _ => hk u (by
    rw [List.take_of_length_le (by simp)] at h1
    exact h1) h2)
/-- Up to a place. -/
theorem cutG_upto (h : Rows esz H v rows) {z : Int} (k : Nat) (hz : z = k) (h2 : k ≤ rows.length) (hk : ∀ u, Rows esz H u (rows.take k) → (∀ o, u.of o → v.of o) → (∀ ety, Own esz ety H v rows → Own esz ety H u (rows.take k)) → RgP C p (updO t d u) H K) : cutG v none (some (.int .i64 z)) esz C d p t H K :=
  cutG_rows h 0 k (.inl ⟨rfl, rfl⟩) (.inr ⟨_, by rw [hz]⟩) (Nat.zero_le _) h2 (fun u h1 h2 h3 => hk u (by simpa using h1) h2 (h3 rfl))
end

end Go.Proofs.YtkdnijiipegabaaDoor.B
