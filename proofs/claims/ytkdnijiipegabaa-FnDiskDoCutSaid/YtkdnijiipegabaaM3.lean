/- A part of the proof: The reference's stores: copies. The reference's stores: levels are set. The reference's stores: runs go down. The reference's stores: sizes. The reference's stores: what is put. The reference's stores: what is added. The reference's stores: put, taken, let down. The reference's stores: levels are joined. The reference's stores: times are kept, and let go. The reference's stores: times are let go. The reference's stores: deeds are done. The reference's stores: the past. The reference's draws: deeds. The reference's stores: a new one. The reference's draws: stores. The reference's draws: stores. The reference's blocks: texts. The reference's blocks: texts are cut. The reference's blocks: numbers are read. The reference's blocks: entries are read. The reference's blocks: blocks are read. The reference's disk: what a first block tells. The reference's disk: what a first block tells is read. The reference's disk: the store that a first block tells of (its parts). The reference's disk: the store that a first block tells of (its sieves). The reference's disk: the store that a first block tells of (its runs). The reference's disk: the store that a first block tells of. The reference's disk: the last store. There is no condition. -/
import Derived.Test.YtkdnijiipegabaaM0
import Derived.Test.YtkdnijiipegabaaM1
import Derived.Test.YtkdnijiipegabaaM2
namespace Go.Proofs.Ytkdnijiipegabaa.B
open Go.RowKit Go.Proofs
set_option linter.unusedVariables false
set_option linter.unusedSimpArgs false
variable {E : Env}

/-- A store of one's own: its levels and sieves may be written, its times appended to. -/
def MSt (H0 H : Hp) (v : AV) (s : Sr) : Prop := ∃ a ol os d lr sr, v = stAV a (.sl ol 0 s.lev.length) (.sl os 0 s.sv.length) s d ∧ OwnE H0 H a s.top ∧ Own 1 55 H (.sl ol 0 s.lev.length) lr ∧ All2 (LvRow H) lr s.lev ∧
  Own 5 103 H (.sl os 0 s.sv.length) sr ∧ All2 (SvRow H (fun x => ol = x ∨ d.of x)) sr s.sv ∧ OwnI H0 H d s.tms ∧ ¬ d.of ol ∧ H0.length ≤ ol ∧ H0.length ≤ os ∧ s.lev.length = 3 ∧ s.sv.length = 3
theorem MSt.st {H0 H : Hp} {v : AV} {s : Sr} (h : MSt H0 H v s) : St H v s := by
  obtain ⟨a, ol, os, d, lr, sr, h1, h2, h3, h4, h5, h6, h7, h8, h9⟩ := h
  exact ⟨a, _, _, d, lr, sr, h1, h2.ents, h3.rows, h4, h5.rows, All2.mono (fun row s h => by
    obtain ⟨r, e1, e2, _⟩ := h
    exact ⟨r, e1, e2, fun _ _ h => h⟩) h6, h7.ints⟩
theorem MSt.le {H0 H H' : Hp} {v : AV} {s : Sr} (h : MSt H0 H v s) (hle : HLe H H') : MSt H0 H' v s := by
  obtain ⟨a, ol, os, d, lr, sr, h1, h2, h3, h4, h5, h6, h7, h8⟩ := h
  exact ⟨a, ol, os, d, lr, sr, h1, h2.le hle, h3.le hle, All2.mono (fun _ _ => LvRow.le hle) h4, h5.le hle, All2.mono (fun _ _ => SvRow.le hle) h6, h7.le hle, h8⟩
theorem LvRow.fr {S : Nat → Prop} {H H' : Hp} (hf : Fr S H H') (hs : ∀ x ob, S x → H.at x = some ob → ob.esz ≠ 4) {row : List AV} {es : List Ent} (h : LvRow H row es) : LvRow H' row es := by
  obtain ⟨u, h1, h2⟩ := h
  refine ⟨u, h1, h2.fr hf (fun x hx hS => ?_)⟩
  rcases h2 with ⟨rfl, _⟩ | ⟨rfl, _⟩ | ⟨o', i, ob, rfl, a2, a3, a4⟩
  · exact hx.elim
  · exact hx.elim
  · have : o' = x := hx
    subst this
    exact hs _ _ hS a2 a3
theorem SvRow.fr {S X X' : Nat → Prop} {H H' : Hp} {row : List AV} {s : Sv} (h : SvRow H X row s) (hf : Fr S H H') (hs : ∀ x ob, S x → H.at x = some ob → ob.esz ≠ 1 ∨ X x) (hx : ∀ x, x < H.length → X' x → X x) : SvRow H' X' row s := by
  obtain ⟨u, h1, h2, h3⟩ := h
  refine ⟨u, h1, ?_, fun x hu hx' => h3 x hu (hx x (Rows.lt h2 hu) hx')⟩
  rcases h2 with h | h | ⟨o', i, ob, rfl, a2, a3, a4⟩
  · exact .inl h
  · exact .inr (.inl h)
  · exact .inr (.inr ⟨o', i, ob, rfl, hf.2 _ _ (fun hh => (hs o' ob hh a2).elim (fun hne => hne a3) (fun hX => h3 o' rfl hX)) a2, a3, a4⟩)
theorem Rows.frz {S : Nat → Prop} {esz : Nat} {H H' : Hp} {v : AV} {R : List (List AV)} (h : Rows esz H v R) (hf : Fr S H H') (hs : ∀ x ob, S x → H.at x = some ob → ob.esz ≠ esz) : Rows esz H' v R := by
  refine h.fr hf (fun x hx hS => ?_)
  rcases h with ⟨rfl, _⟩ | ⟨rfl, _⟩ | ⟨o', i, ob, rfl, a2, a3, a4⟩
  · exact hx.elim
  · exact hx.elim
  · have : o' = x := hx
    subst this
    exact hs _ _ hS a2 a3
theorem Own.esz {esz ety : Nat} {H : Hp} {v : AV} {R : List (List AV)} (h : Own esz ety H v R) {x : Nat} {ob : Ob} (hx : v.of x) (ho : H.at x = some ob) : ob.esz = esz := by
  rcases h with ⟨rfl, _⟩ | ⟨rfl, _⟩ | ⟨o', ob', rfl, a2, a3, a4, _⟩
  · exact hx.elim
  · exact hx.elim
  · have : o' = x := hx
    subst this
    rw [ho] at a2
    cases a2
    exact a4
theorem Own.sl {esz ety : Nat} {H : Hp} {v : AV} {R : List (List AV)} (h : Own esz ety H v R) (hR : 0 < R.length) : ∃ o, v = .sl o 0 R.length := by
  rcases h with ⟨rfl, rfl⟩ | ⟨rfl, rfl⟩ | ⟨o', ob', rfl, _⟩
  · simp at hR
  · simp at hR
  · exact ⟨o', rfl⟩

theorem set_in {H l : Hp} {n : Nat} (h : n < H.length) (Y Z : Option Ob) : List.set (List.set H n Y ++ l) n Z = List.set H n Z ++ l := by
  rw [List.set_append_left _ _ (by rw [List.length_set]; exact h), List.set_set]
theorem set_in' {H l : Hp} {n : Nat} (h : n < H.length) (Z : Option Ob) : List.set (H ++ l) n Z = List.set H n Z ++ l := List.set_append_left _ _ h
theorem at_in {H l : Hp} {n : Nat} (h : n < H.length) (Y : Option Ob) : Hp.at (List.set H n Y ++ l) n = Y := (Hp.at_app l (by rw [List.length_set]; exact h)).trans (Hp.at_set _ h)
theorem at_off {H l : Hp} {n o : Nat} {ob : Ob} (h : H.at o = some ob) (hne : n ≠ o) (Y : Option Ob) : Hp.at (List.set H n Y ++ l) o = some ob := (Hp.at_app l (by rw [List.length_set]; exact Hp.at_lt h)).trans ((Hp.at_set_ne hne).trans h)
theorem at_len {H l : Hp} {n : Nat} (Y : Option Ob) : Hp.at (List.set H n Y ++ l) H.length = Hp.at l 0 := by
  have : (List.set H n Y).length = H.length := List.length_set
  rw [← this]
  exact Hp.at_app_0
theorem at_len1 {H l : Hp} {n : Nat} (k : Nat) (Y : Option Ob) : Hp.at (List.set H n Y ++ l) (H.length + k) = Hp.at l k := by
  have : (List.set H n Y).length = H.length := List.length_set
  rw [← this]
  exact Hp.at_app_ge k
theorem set_len {H l : Hp} {n : Nat} (Y Z : Option Ob) : List.set (List.set H n Y ++ l) H.length Z = List.set H n Y ++ List.set l 0 Z := by
  have : (List.set H n Y).length = H.length := List.length_set
  rw [← this]
  exact Hp.set_app_0

theorem l12Copy_ok (v : AV) (s : Sr) (H : Hp) (hs : St H v s) (hb : StB s) (hl3 : s.lev.length = 3) (hs3 : s.sv.length = 3) :
    AC Try.prog E 67 [v] H (fun u H' => HLe H H' ∧ MSt H H' u s) := by
  obtain ⟨a, b, c, d, lr, sr, rfl, ha, hb1, hlr, hc, hsr, hd⟩ := hs
  obtain ⟨hB1, hB2, hB3, hB4, hB5, hB6, hB7, hB8, hB9⟩ := hb
  refine AC_by fol (tC_le tab2_ok) h_spec_l12Copy ?_
  have l2 := hb1.len
  rw [hlr.length, hl3] at l2
  have hone : one a = true ∧ one b = true ∧ one c = true ∧ one d = true := ⟨ha.one, hb1.one, hc.one, hd.one⟩
  obtain ⟨n1, n2, n3, n4⟩ := hone
  simp [c_spec_l12Copy, stAV, n1, n2, n3, n4]
  refine appG_cat (row := entRow) (xs := []) (ys := s.top) (H0 := H) ⟨Own.obj (R := []) (by simp) rfl, by simp⟩ (ha.le (HLe.self _ _)) (HLe.self _ _) (by have := hB1.1; simp; omega) (fun v1 H1 g1 g2 g3 g4 => ?_)
  have k0 : H1.at H.length = some ⟨[[a, b, c, .int .i64 s.keep, .int .i64 s.time, d]], 6, 65, false⟩ := g3.2 _ _ (by simp) (by simp)
  have k1 : H1.at (H.length + 1) = some ⟨[[.nils, .nils, .nils, .int .i64 0, .int .i64 0, .nils]], 6, 65, false⟩ := g3.2 _ _ (by simp) (by simp)
  have k2 : H1.at (H.length + 2) = some ⟨[[a, b, c, .int .i64 s.keep, .int .i64 s.time, d]], 6, 65, false⟩ := g3.2 _ _ (by simp) (by simp)
  have lt2 := Hp.at_lt k2
  have m0 : H.length + 2 ≠ H.length := by omega
  have m1 : H.length + 2 ≠ H.length + 1 := by omega
  have j0 : ∀ Y l, Hp.at (List.set H1 (H.length + 2) Y ++ l) H.length = _ := fun Y l => (Hp.at_app l (by rw [List.length_set]; exact Hp.at_lt k0)).trans ((Hp.at_set_ne m0).trans k0)
  have j1 : ∀ Y l, Hp.at (List.set H1 (H.length + 2) Y ++ l) (H.length + 1) = _ := fun Y l => (Hp.at_app l (by rw [List.length_set]; exact Hp.at_lt k1)).trans ((Hp.at_set_ne m1).trans k1)
  have j2 : ∀ Y l, Hp.at (List.set H1 (H.length + 2) Y ++ l) (H.length + 2) = Y := fun Y l => (Hp.at_app l (by rw [List.length_set]; exact lt2)).trans (Hp.at_set _ lt2)
  have hF1 : ∀ Y l, HLe H (List.set H1 (H.length + 2) Y ++ l) := fun Y l => (g1.set (by omega) Y).app l
  simp [k0, k2, g2.rows.one, g2.rows.cells, g2.rows.cells1, j0]
  refine appG_cat (row := intRow) (xs := []) (ys := s.tms) (H0 := H) ⟨Own.lit0 (by simp), by simp; exact g1.1⟩ (hd.le (hF1 _ _)) (hF1 _ _) (by simp; omega) (fun v2 H2 p1 p2 p3 p4 => ?_)
  have n5 : ¬ AV.of (.sl H1.length 0 0) H.length ∧ ¬ AV.of (.sl H1.length 0 0) (H.length + 1) ∧ ¬ AV.of (.sl H1.length 0 0) (H.length + 2) := by simp; omega
  have q0 := p3.2 _ _ n5.1 (j0 _ _)
  have q1 := p3.2 _ _ n5.2.1 (j1 _ _)
  have q2 := p3.2 _ _ n5.2.2 (j2 _ _)
  have lt22 := Hp.at_lt q2
  have w1 : OwnE H H2 v1 s.top := ((g2.fr (Fr.one H1 (H.length + 2) _) (fun x hx => g2.rows.ne_of k2 (by simp) hx)).le (HLe.self _ _)).fr p3 (fun x hx h => by have := g2.1.lt hx; simp at h; omega)
  simp [q0, q2, p2.rows.one, p2.rows.cells, p2.rows.cells1, at_in lt22, set_in lt22]
  have hlr3 : lr.length = 3 := by rw [hlr.length]; exact hl3
  have hsr3 : sr.length = 3 := by rw [hsr.length]; exact hs3
  obtain ⟨o1, i1, ob1, rfl, c1, c2, _⟩ := hb1.get (j := 0) (by omega)
  obtain ⟨o2, i2, ob2, rfl, e1, e2, _⟩ := hc.get (j := 0) (by omega)
  have row1 : ∀ j (h : j < s.lev.length), ∃ u, ob1.rows[i1 + j]? = some [u] ∧ Ents H u s.lev[j] := by
    intro j hj
    obtain ⟨o', i', ob', x1, x2, x3, x4⟩ := hb1.get (j := j) (by omega)
    cases x1
    rw [c1] at x2
    cases x2
    obtain ⟨u, hu, hue⟩ := hlr.get j (by omega) hj
    exact ⟨u, by rw [x4, hu], hue⟩
  have row2 : ∀ j (h : j < s.sv.length), ∃ r, ob2.rows[i2 + j]? = some [.str s.sv[j].l, .str s.sv[j].m, .str s.sv[j].f, r, .int .i64 s.sv[j].k] ∧ Strs H r s.sv[j].r := by
    intro j hj
    obtain ⟨o', i', ob', x1, x2, x3, x4⟩ := hc.get (j := j) (by omega)
    cases x1
    rw [e1] at x2
    cases x2
    obtain ⟨r, hu, hue, _⟩ := hsr.get j (by omega) hj
    exact ⟨r, by rw [x4, hu], hue⟩
  refine W_for (fun m t H' => ∃ i lv sv lr' sr', i + m = 3 ∧ t 1 = .pt H.length 0 0 ∧ t 2 = .pt (H.length + 1) 0 0 ∧ t 3 = .pt (H.length + 2) 0 0 ∧ t 4 = .int .i64 (i : Nat) ∧ HLe H H' ∧
    H'.at H.length = some ⟨[[a, .sl o1 i1 lr.length, .sl o2 i2 sr.length, .int .i64 s.keep, .int .i64 s.time, d]], 6, 65, false⟩ ∧
    H'.at (H.length + 1) = some ⟨[[.nils, .nils, .nils, .int .i64 0, .int .i64 0, .nils]], 6, 65, false⟩ ∧
    H'.at (H.length + 2) = some ⟨[[v1, lv, sv, .int .i64 s.keep, .int .i64 s.time, v2]], 6, 65, false⟩ ∧
    OwnE H H' v1 s.top ∧ OwnI H H' v2 s.tms ∧ Own 1 55 H' lv lr' ∧ (∀ x, lv.of x → H.length + 3 ≤ x) ∧ (∀ x, v2.of x → ¬ lv.of x) ∧ All2 (LvRow H') lr' (s.lev.take i) ∧
    Own 5 103 H' sv sr' ∧ (∀ x, sv.of x → H.length + 3 ≤ x) ∧ All2 (SvRow H' (fun x => lv.of x ∨ v2.of x)) sr' (s.sv.take i)) 3 ?_ (tC_mono AC_mono) ?_
  · refine ⟨0, .sl H2.length 0 0, .sl (H2.length + 1) 0 0, [], [], rfl, by simp, by simp, by simp, by simp, ?_, at_off q0 m0 _, at_off q1 m1 _, at_in lt22 _, ?_, ?_, ?_, ?_, ?_, trivial, ?_, ?_, trivial⟩
    · exact (p1.set (by omega) _).app _
    · exact (w1.fr (Fr.one H2 (H.length + 2) _) (fun x hx => w1.rows.ne_of q2 (by simp) hx)).le (HLe.self _ _)
    · exact (p2.fr (Fr.one H2 (H.length + 2) _) (fun x hx => p2.rows.ne_of q2 (by simp) hx)).le (HLe.self _ _)
    · exact Own.obj (R := []) ((at_len _).trans Hp.at_0) rfl
    · intro x hx; simp at hx; omega
    · intro x hx h; have := p2.1.lt hx; simp at h; omega
    · exact Own.obj (R := []) ((at_len1 1 _).trans (by simp)) rfl
    · intro x hx; simp at hx; omega
  rintro m t H' ⟨i, lv, sv, lr', sr', him, h1, h2, h3, h4, hle, k0, k1, k2, hv1, hv2, hlv, hlva, hlvd, hlvr, hsv, hsva, hsvr⟩
  have d1 := hle.2 _ _ c1
  have d2 := hle.2 _ _ e1
  simp [h1, h2, h3, h4, k0, hlr3]
  refine c_split (fun hq => ?_) (fun hq => ?_) <;> simp at hq
  · have hi3 : i < 3 := by omega
    have hw := wrapN (i := i) (by omega)
    obtain ⟨u, r1, r2⟩ := row1 i (by omega)
    obtain ⟨r, r3, r4⟩ := row2 i (by omega)
    have hes := hB2 _ (List.getElem_mem (show i < s.lev.length by omega))
    have k0' := (HLe.self H' [some ⟨[], 4, 72, false⟩]).2 _ _ k0
    have k2' := (HLe.self H' [some ⟨[], 4, 72, false⟩]).2 _ _ k2
    have d1' := (HLe.self H' [some ⟨[], 4, 72, false⟩]).2 _ _ d1
    have hiI : (i : Int) < 3 := by omega
    simp [h1, h2, h3, h4, k0, k2, hlr3, d1, c2, r1, hi3, hiI, k0', k2', d1']
    refine appG_cat (bytes := 40) (row := entRow) (xs := []) (ys := s.lev[i]'(by omega)) (H0 := H) (OwnM.lit0 hle) ((r2.le hle).le (HLe.self _ _)) (hle.app _) (by have := hes.1; simp; omega) (fun v3 H4 g1 g2 g3 g4 => ?_)
    have hF4 : HLe H' H4 := ⟨Nat.le_trans (by simp) g3.1, fun o ob ho => g3.2 o ob (by have := Hp.at_lt ho; simp; omega) ((HLe.self _ _).2 _ _ ho)⟩
    have k04 := hF4.2 _ _ k0
    have k24 := hF4.2 _ _ k2
    simp [h1, h2, h3, h4, k24, g2.rows.one, g2.rows.cells, g2.rows.cells1]
    have k24' := (HLe.self H4 [some ⟨[[v3]], 1, 55, false⟩]).2 _ _ k24
    simp [k24']
    refine appG_one' (bytes := 24) (R := lr') rfl (hlv.le hF4) (by have := All2.length hlvr; simp at this; omega) (fun v5 H5 b1 b2 b3 => ?_)
    have hF5 : Fr lv.of H' H5 := (hF4.fr (S := lv.of)).same b2
    have k05 := hF5.2 _ _ (fun hx => by have := hlva _ hx; omega) k0
    have k15 := hF5.2 _ _ (fun hx => by have := hlva _ hx; omega) k1
    have k25 := hF5.2 _ _ (fun hx => by have := hlva _ hx; omega) k2
    have lt5 := Hp.at_lt k25
    have hle5 : HLe H H5 := hle.fr_le hF5 (fun x hx => by have := hlva x hx; omega)
    have f1 := hle5.2 _ _ c1
    have f2 := hle5.2 _ _ e1
    have no2 : H.length + 2 ≠ o2 := by have := Hp.at_lt e1; omega
    simp [h1, h2, h3, h4, k25, b1.rows.one, b1.rows.cells, b1.rows.cells1, at_off k05 m0, at_off f2 no2, e2, r3, hsr3, hi3, hiI, (Hp.at_set_ne m0).trans k05, (Hp.at_set_ne no2).trans f2, at_len, set_len, r4.one]
    obtain ⟨X, hX⟩ : ∃ X : Option Ob, X = some ⟨[[v1, v5, sv, .int .i64 s.keep, .int .i64 s.time, v2]], 6, 65, false⟩ := ⟨_, rfl⟩
    rw [← hX]
    have hsvl := hB6 _ (List.getElem_mem (show i < s.sv.length by omega))
    refine appG_cat (bytes := 16) (row := strRow) (xs := []) (ys := (s.sv[i]'(by omega)).r) (H0 := H) ⟨Own.obj (R := []) ((at_len1 1 _).trans (by simp)) rfl, fun x hx => by simp at hx; have := hle5.1; omega⟩ (r4.le ((hle5.set (by omega) X).app _)) ((hle5.set (by omega) X).app _) (by simp; omega) (fun v6 H6 p1 p2 p3 p4 => ?_)
    have hF6 : Fr (fun x => x = H.length + 2) H5 H6 := ((Fr.one H5 (H.length + 2) X).le_fr (HLe.self _ _)).trans p3 (fun x hx => .inr (by simp at hx; omega))
    have nn : ∀ x, x ≤ H5.length → ¬ AV.of (.sl (H5.length + 1) 0 0) x := fun x hx h => by simp at h; omega
    have k06 := hF6.2 _ _ (by omega) k05
    have k16 := hF6.2 _ _ (by omega) k15
    have k26 : H6.at (H.length + 2) = _ := p3.2 _ _ (nn _ (by omega)) ((at_in lt5 X).trans hX)
    have kb6 : H6.at H5.length = _ := p3.2 _ _ (nn _ (Nat.le_refl _)) ((at_len X).trans Hp.at_0)
    have lt6 := Hp.at_lt k26
    have ltb := Hp.at_lt kb6
    have nb2 : H5.length ≠ H.length + 2 := by omega
    simp [h1, h2, h3, h4, kb6, k26, p2.rows.one, p2.rows.cells, p2.rows.cells1, (Hp.at_set_ne nb2).trans k26, Hp.at_set _ ltb]
    obtain ⟨Y, hY⟩ : ∃ Y : Option Ob, Y = some ⟨[[.str (s.sv[i]'(by omega)).l, .str (s.sv[i]'(by omega)).m, .str (s.sv[i]'(by omega)).f, v6, .int .i64 (s.sv[i]'(by omega)).k]], 5, 103, false⟩ := ⟨_, rfl⟩
    have nd : ∀ x, sv.of x → x < H'.length := fun x hx => hsv.lt hx
    have nl : ∀ x, lv.of x → x < H'.length := fun x hx => hlv.lt hx
    have hll := hF4.1
    have hl5 := hF5.1
    have hsv6 : Own 5 103 H6 sv sr' := (hsv.fr hF5 (fun x hx h => hlv.rows.apart hsv.rows (by simp) h hx)).fr hF6 (fun x hx => by have := hsva x hx; omega)
    refine appG_one' (bytes := 80) (R := sr') (by simp) (hsv6.fr (Fr.one H6 H5.length _) (fun x hx => by have := nd x hx; omega)) (by have := All2.length hsvr; simp at this; omega) (fun v7 H7 q1 q2 q3 => ?_)
    have hF7 : Fr (fun x => x = H5.length ∨ sv.of x) H6 H7 := ((Fr.one H6 H5.length _).mono (fun x hx => .inl (.inl hx))).trans q2 (fun x hx => .inl (.inr hx))
    have k07 := hF7.2 _ _ (fun hh => hh.elim (fun h => by omega) (fun h => by have := hsva _ h; omega)) k06
    have k17 := hF7.2 _ _ (fun hh => hh.elim (fun h => by omega) (fun h => by have := hsva _ h; omega)) k16
    have k27 := hF7.2 _ _ (fun hh => hh.elim (fun h => by omega) (fun h => by have := hsva _ h; omega)) k26
    have lt7 := Hp.at_lt k27
    simp [h1, h2, h3, h4, k27, q1.rows.one, q1.rows.cells, q1.rows.cells1, hw]
    obtain ⟨Z, hZ⟩ : ∃ Z : Option Ob, Z = some ⟨[[v1, v5, v7, .int .i64 s.keep, .int .i64 s.time, v2]], 6, 65, false⟩ := ⟨_, rfl⟩
    rw [← hZ]
    have hS := Fr.one H7 (H.length + 2) Z
    have hF58 : Fr (fun x => x = H.length + 2 ∨ sv.of x) H5 (List.set H7 (H.length + 2) Z) := ((hF6.mono (fun x hx => .inl (.inl hx))).trans hF7 (fun x hx => hx.elim (fun h => .inr (by omega)) (fun h => .inl (.inr h)))).trans hS (fun x hx => .inl (.inl hx))
    have hF8 : Fr (fun x => lv.of x ∨ sv.of x ∨ x = H.length + 2) H' (List.set H7 (H.length + 2) Z) := (hF5.mono (fun x hx => .inl (.inl hx))).trans hF58 (fun x hx => hx.elim (fun h => .inl (.inr (.inr h))) (fun h => .inl (.inr (.inl h))))
    have ns4 : ∀ x ob, (lv.of x ∨ sv.of x ∨ x = H.length + 2) → H'.at x = some ob → ob.esz ≠ 4 := fun x ob hs ho => by
      rcases hs with h | h | h
      · rw [hlv.esz h ho]; decide
      · rw [hsv.esz h ho]; decide
      · subst h; rw [k2] at ho; cases ho; simp
    have ns58 : ∀ x ob, (x = H.length + 2 ∨ sv.of x) → H5.at x = some ob → ob.esz ≠ 1 ∧ ob.esz ≠ 4 := fun x ob hs ho => by
      rcases hs with h | h
      · subst h; rw [k25] at ho; cases ho; simp
      · have hsv5 : Own 5 103 H5 sv sr' := hsv.fr hF5 (fun x hx h => hlv.rows.apart hsv.rows (by simp) h hx)
        rw [hsv5.esz h ho]; decide
    have v5a : ∀ x, v5.of x → lv.of x ∨ H'.length ≤ x := fun x hx => (b3 x hx).imp id (fun h => by omega)
    have v7a : ∀ x, v7.of x → sv.of x ∨ H5.length ≤ x := fun x hx => (q3 x hx).imp id (fun h => by simp at h; have := hF6.1; omega)
    have v3a : ∀ x, v3.of x → H'.length ≤ x := fun x hx => (g4 x hx).elim (fun h => by simp at h; omega) (fun h => by simp at h; omega)
    have v6a : ∀ x, v6.of x → H5.length < x := fun x hx => (p4 x hx).elim (fun h => by simp at h; omega) (fun h => by simp at h; omega)
    have tk1 : s.lev.take (i + 1) = s.lev.take i ++ [s.lev[i]'(by omega)] := List.take_succ_eq_append_getElem (by omega)
    have tk2 : s.sv.take (i + 1) = s.sv.take i ++ [s.sv[i]'(by omega)] := List.take_succ_eq_append_getElem (by omega)
    refine ⟨m - 1, by omega, i + 1, by omega, by omega, hle.fr_le hF8 (fun x hx => hx.elim (fun h => by have := hlva x h; omega) (fun hx => hx.elim (fun h => by have := hsva x h; omega) (fun h => by omega))), ((Hp.at_set_ne m0).trans k07).trans (by rw [hlr3, hsr3]), (Hp.at_set_ne m1).trans k17, v5, v7, (Hp.at_set _ lt7).trans hZ, ?_, ?_, lr' ++ [[v3]], ?_, ?_, ?_, ?_, sr' ++ [[.str (s.sv[i]'(by omega)).l, .str (s.sv[i]'(by omega)).m, .str (s.sv[i]'(by omega)).f, v6, .int .i64 (s.sv[i]'(by omega)).k]], ?_, ?_, ?_⟩
    · exact hv1.fr hF8 (fun x hx hs => by
        rcases hs with h | h | h
        · exact hv1.rows.apart hlv.rows (by simp) hx h
        · exact hv1.rows.apart hsv.rows (by simp) hx h
        · exact hv1.rows.ne_of k2 (by simp) hx h)
    · exact hv2.fr hF8 (fun x hx hs => by
        rcases hs with h | h | h
        · exact hlvd x hx h
        · exact hv2.rows.apart hsv.rows (by simp) hx h
        · exact hv2.rows.ne_of k2 (by simp) hx h)
    · exact b1.fr hF58 (fun x hx hs => by
        rcases hs with h | h
        · rcases v5a x hx with hh | hh
          · have := hlva x hh; omega
          · have := Hp.at_lt k2; omega
        · exact b1.rows.apart (hsv.fr hF5 (fun x hx h => hlv.rows.apart hsv.rows (by simp) h hx)).rows (by simp) hx h)
    · intro x hx
      rcases v5a x hx with h | h
      · exact hlva x h
      · have := Hp.at_lt k2; omega
    · intro x hx h
      rcases v5a x h with hh | hh
      · exact hlvd x hx hh
      · have := hv2.1.lt hx; omega
    · rw [tk1]
      refine (All2.mono (fun row es h => h.fr hF8 ns4) hlvr).append ⟨⟨v3, rfl, ?_⟩, trivial⟩
      have hv35 : Ents H5 v3 (s.lev[i]'(by omega)) := by
        have h9 : Ents H4 v3 (s.lev[i]'(by omega)) := g2.ents
        exact h9.fr b2 (fun x hx h => by have := v3a x hx; have := nl x h; omega)
      exact Rows.frz hv35 hF58 (fun x ob hs ho => (ns58 x ob hs ho).2)
    · exact q1.fr hS (fun x hx => by
        rcases v7a x hx with h | h
        · have := hsva x h; omega
        · omega)
    · intro x hx
      rcases v7a x hx with h | h
      · exact hsva x h
      · omega
    · rw [tk2]
      refine (All2.mono (fun row sv h => ?_) hsvr).append ⟨⟨v6, rfl, ?_, ?_⟩, trivial⟩
      · refine SvRow.fr (X' := fun x => v5.of x ∨ v2.of x) h hF8 (fun x ob hs ho => ?_) (fun x hx hx' => hx'.elim (fun h => (v5a x h).elim .inl (fun h => by omega)) .inr)
        rcases hs with h | h | h
        · exact .inr (.inl h)
        · exact .inl (by rw [hsv.esz h ho]; decide)
        · exact .inl (by subst h; rw [k2] at ho; cases ho; simp)
      · have e6 : Strs H6 v6 (s.sv[i]'(by omega)).r := p2.strs
        exact (e6.fr hF7 (fun x hx hs => by
          rcases hs with h | h
          · have := v6a x hx; omega
          · have := v6a x hx; have := nd x h; omega)).fr hS (fun x hx h => by have := v6a x hx; omega)
      · intro x hx h
        have h6 := v6a x hx
        rcases h with h | h
        · rcases v5a x h with hh | hh
          · have := nl x hh; omega
          · have := b1.lt h; omega
        · have := hv2.1.lt h; omega
  · have hi3 : i = 3 := by omega
    subst hi3
    have t1 : s.lev.take 3 = s.lev := List.take_of_length_le (by omega)
    have t2 : s.sv.take 3 = s.sv := List.take_of_length_le (by omega)
    rw [t1] at hlvr
    rw [t2] at hsvr
    have ltk := Hp.at_lt k1
    obtain ⟨ol, rfl⟩ := hlv.sl (by rw [hlvr.length]; omega)
    obtain ⟨os, rfl⟩ := hsv.sl (by rw [hsvr.length]; omega)
    have m2 : H.length + 1 ≠ H.length + 2 := by omega
    simp [h2, h3, k1, k2, hv1.rows.one, hv2.rows.one, Hp.at_set _ ltk]
    have hst := Fr.one H' (H.length + 1) (some ⟨[[v1, .sl ol 0 lr'.length, .sl os 0 sr'.length, .int .i64 s.keep, .int .i64 s.time, v2]], 6, 65, false⟩)
    refine ⟨hle.fr_le hst (fun x hx => by omega), v1, ol, os, v2, lr', sr', by rw [hlvr.length, hsvr.length]; rfl, hv1.fr hst (fun x hx => hv1.rows.ne_of k1 (by simp) hx), ?_, ?_, ?_, ?_, hv2.fr hst (fun x hx => hv2.rows.ne_of k1 (by simp) hx), fun hx => hlvd ol hx rfl, ?_, ?_, hl3, hs3⟩
    · rw [← hlvr.length]
      exact hlv.fr hst (fun x hx => hlv.rows.ne_of k1 (by simp) hx)
    · exact All2.mono (fun row es h => h.fr hst (fun x ob hx ho => by subst hx; rw [k1] at ho; cases ho; simp)) hlvr
    · rw [← hsvr.length]
      exact hsv.fr hst (fun x hx => hsv.rows.ne_of k1 (by simp) hx)
    · exact All2.mono (fun row sv h => h.fr hst (fun x ob hx ho => .inl (by subst hx; rw [k1] at ho; cases ho; simp)) (fun x _ h => h)) hsvr
    · have := hlva ol rfl; omega
    · have := hsva os rfl; omega

end Go.Proofs.Ytkdnijiipegabaa.B

namespace Go.Proofs.Ytkdnijiipegabaa.B
open Go.RowKit Go.Proofs
set_option linter.unusedVariables false
set_option linter.unusedSimpArgs false
variable {E : Env}

abbrev zst : AV := .ag [.nils, .nils, .nils, .int .i64 0, .int .i64 0, .nils]
/-- The objects of a store that are written. -/
def stOf : AV → Nat → Prop
  | .ag (_ :: .sl ol _ _ :: .sl os _ _ :: _), x => x = ol ∨ x = os
  | _, _ => False
theorem Own.ob {esz ety : Nat} {H : Hp} {o n : Nat} {R : List (List AV)} (h : Own esz ety H (.sl o 0 n) R) : n = R.length ∧ ∃ ob, H.at o = some ob ∧ ob.ro = false ∧ ob.esz = esz ∧ ob.ety = ety ∧ R.length ≤ ob.rows.length ∧ ob.rows.take R.length = R := by
  rcases h with ⟨h, _⟩ | ⟨h, _⟩ | ⟨o', ob, h, k⟩
  · cases h
  · cases h
  · cases h
    exact ⟨rfl, ob, k⟩
theorem Own.setRow {esz ety : Nat} {H H' : Hp} {o n : Nat} {R : List (List AV)} (h : Own esz ety H (.sl o 0 n) R) {ob : Ob} (ho : H.at o = some ob) (i : Nat) (row : List AV) (h' : H'.at o = some { ob with rows := ob.rows.set i row }) : Own esz ety H' (.sl o 0 n) (R.set i row) := by
  obtain ⟨rfl, ob', k1, k2, k3, k4, k5, k6⟩ := h.ob
  rw [ho] at k1
  cases k1
  refine .inr (.inr ⟨o, _, by simp, h', k2, k3, k4, by simpa using k5, ?_⟩)
  simp only [List.length_set]
  rw [List.take_set, k6]

theorem MSt_set {a r r' d : AV} {ol os : Nat} {s : Sr} {H0 H H' : Hp} {lr sr : List (List AV)} {i : Nat} {es : List Ent} {x : Sv} {obl obs : Ob}
    (ha : OwnE H0 H a s.top) (hlv : Own 1 55 H (.sl ol 0 s.lev.length) lr) (hlr : All2 (LvRow H) lr s.lev) (hsv : Own 5 103 H (.sl os 0 s.sv.length) sr) (hsr : All2 (SvRow H (fun x => ol = x ∨ d.of x)) sr s.sv)
    (hd : OwnI H0 H d s.tms) (hdo : ¬ d.of ol) (hol : H0.length ≤ ol) (hos : H0.length ≤ os) (hl3 : s.lev.length = 3) (hs3 : s.sv.length = 3) (k1 : H.at ol = some obl) (j1 : H.at os = some obs)
    (hF : Fr (fun y => y = ol ∨ y = os) H H') (q1 : H'.at ol = some ⟨obl.rows.set i [r], 1, obl.ety, false⟩) (q2 : H'.at os = some ⟨obs.rows.set i [.str x.l, .str x.m, .str x.f, r', .int .i64 x.k], 5, obs.ety, false⟩)
    (hr : Ents H r es) (hr' : Strs H' r' x.r) (hr'o : ¬ r'.of ol) (hr'd : ∀ y, r'.of y → ¬ d.of y) :
    MSt H0 H' (stAV a (.sl ol 0 3) (.sl os 0 3) s d) { s with lev := s.lev.set i es, sv := s.sv.set i x } := by
  have el := hlv.ob.2
  have es' := hsv.ob.2
  have z1 : obl.esz = 1 := by obtain ⟨ob, h1, h2, h3, _⟩ := el; rw [k1] at h1; cases h1; exact h3
  have z2 : obs.esz = 5 := by obtain ⟨ob, h1, h2, h3, _⟩ := es'; rw [j1] at h1; cases h1; exact h3
  have z3 : obl.ro = false := by obtain ⟨ob, h1, h2, h3, _⟩ := el; rw [k1] at h1; cases h1; exact h2
  have z4 : obs.ro = false := by obtain ⟨ob, h1, h2, h3, _⟩ := es'; rw [j1] at h1; cases h1; exact h2
  have q1 : H'.at ol = some { obl with rows := obl.rows.set i [r] } := by rw [q1, ← z1, ← z3]
  have q2 : H'.at os = some { obs with rows := obs.rows.set i [.str x.l, .str x.m, .str x.f, r', .int .i64 x.k] } := by rw [q2, ← z2, ← z4]
  have n4 : ∀ y ob, (y = ol ∨ y = os) → H.at y = some ob → ob.esz ≠ 4 := fun y ob hs ho => by
    rcases hs with h | h
    · subst h; rw [k1] at ho; cases ho; omega
    · subst h; rw [j1] at ho; cases ho; omega
  have hneo : ol ≠ os := by
    rintro rfl
    rw [k1] at j1
    cases j1
    omega
  refine ⟨a, ol, os, d, lr.set i [r], sr.set i [.str x.l, .str x.m, .str x.f, r', .int .i64 x.k], by simp [stAV, hl3, hs3], ha.fr hF (fun y hy hs => ?_), ?_, ?_, ?_, ?_, hd.fr hF (fun y hy hs => ?_), hdo, hol, hos, by simpa using hl3, by simpa using hs3⟩
  · rcases hs with h | h
    · exact ha.rows.ne_of k1 (by omega) hy h
    · exact ha.rows.ne_of j1 (by omega) hy h
  · simp only [List.length_set]
    exact hlv.setRow k1 i _ q1
  · exact (All2.mono (fun row es h => h.fr hF n4) hlr).set i ⟨r, rfl, Rows.frz hr hF n4⟩
  · simp only [List.length_set]
    exact hsv.setRow j1 i _ q2
  · refine (All2.mono (fun row sv h => SvRow.fr (X' := fun y => ol = y ∨ d.of y) h hF (fun y ob hs ho => ?_) (fun y _ h => h)) hsr).set i ⟨r', rfl, hr', fun y hy he => he.elim (fun he => hr'o (he ▸ hy)) (hr'd y hy)⟩
    rcases hs with h | h
    · exact .inr (.inl h.symm)
    · exact .inl (by subst h; rw [j1] at ho; cases ho; omega)
  · rcases hs with h | h
    · exact hdo (h ▸ hy)
    · exact hd.rows.ne_of j1 (by omega) hy h

theorem l12Set_ok (v r : AV) (s : Sr) (i : Nat) (es : List Ent) (H0 H : Hp) (hs : MSt H0 H v s) (hle0 : HLe H0 H) (hr : Ents H r es) (hes : EsB es) (hi : i < 3) :
    AC Try.prog E 91 [v, .int .i64 i, r] H (fun u H' => match setR s i es with
      | some x => ∃ w, u = .tu [w, .bool true] ∧ MSt H0 H' w x ∧ stOf w = stOf v ∧ Fr (stOf v) H H'
      | none => u = .tu [zst, .bool false] ∧ HLe H H') := by
  obtain ⟨a, ol, os, d, lr, sr, rfl, ha, hlv, hlr, hsv, hsr, hd, hdo, hol, hos, hl3, hs3⟩ := hs
  refine AC_by fol (tC_le tab2_ok) h_spec_l12Set ?_
  obtain ⟨e1, obl, k1, k2, k3, k4, k5, k6⟩ := hlv.ob
  obtain ⟨e2, obs, j1, j2, j3, j4, j5, j6⟩ := hsv.ob
  have hlr3 : lr.length = 3 := by omega
  have hsr3 : sr.length = 3 := by omega
  have hlo : ol < H.length := Hp.at_lt k1
  have hso : os < H.length := Hp.at_lt j1
  have hneo : ol ≠ os := by
    rintro rfl
    rw [k1] at j1
    cases j1
    omega
  obtain ⟨u0, hu0, _⟩ := hlr.get i (by omega) (by omega)
  obtain ⟨r0, hr0, _, _⟩ := hsr.get i (by omega) (by omega)
  have k7 : obl.rows[i]? = some [u0] := by
    have : (obl.rows.take lr.length)[i]? = lr[i]? := by rw [k6]
    rw [List.getElem?_take, if_pos (by omega)] at this
    rw [this, List.getElem?_eq_getElem (by omega), hu0]
  have j7 : obs.rows[i]? = some [.str (s.sv[i]'(by omega)).l, .str (s.sv[i]'(by omega)).m, .str (s.sv[i]'(by omega)).f, r0, .int .i64 (s.sv[i]'(by omega)).k] := by
    have : (obs.rows.take sr.length)[i]? = sr[i]? := by rw [j6]
    rw [List.getElem?_take, if_pos (by omega)] at this
    rw [this, List.getElem?_eq_getElem (by omega), hr0]
  have hks := keysR_short hes.2
  have hkl := keysR_len es
  have hkb : (keysR es).length < 4611686018427387904 := by have := hes.1; omega
  have lr1 := hr.len
  obtain ⟨H1, hH1⟩ : ∃ H1, H1 = H ++ [some ⟨[[a, .sl ol 0 3, .sl os 0 3, .int .i64 s.keep, .int .i64 s.time, d]], 6, 65, false⟩, some ⟨[[.nils, .nils, .nils, .int .i64 0, .int .i64 0, .nils]], 6, 65, false⟩] := ⟨_, rfl⟩
  have hle1 : HLe H H1 := by rw [hH1]; exact HLe.self _ _
  have b0 : H1.at H.length = some ⟨[[a, .sl ol 0 3, .sl os 0 3, .int .i64 s.keep, .int .i64 s.time, d]], 6, 65, false⟩ := by rw [hH1]; simp
  have b1 : H1.at (H.length + 1) = some ⟨[[.nils, .nils, .nils, .int .i64 0, .int .i64 0, .nils]], 6, 65, false⟩ := by rw [hH1]; simp
  have hl1 : H1.length = H.length + 2 := by rw [hH1]; simp
  have m01 : H.length ≠ H.length + 1 := by omega
  have m10 : H.length + 1 ≠ H.length := by omega
  have ml0 : ol ≠ H.length := by omega
  have ml1 : ol ≠ H.length + 1 := by omega
  have ms0 : os ≠ H.length := by omega
  have ms1 : os ≠ H.length + 1 := by omega
  have hiI : (i : Int) < 3 := by omega
  simp [c_spec_l12Set, stAV, ha.rows.one, hd.rows.one, hl3, hs3, ← hH1, b0]
  refine ⟨cg_ex (l11Keys_ok r es H1 (hr.le hle1) hes.1) ?_, ?_⟩
  · rintro v2 H2 ⟨hle2, hk2⟩
    have b02 := hle2.2 _ _ b0
    simp [b02]
    refine ⟨cg_ex (SieveOf_ok v2 (keysR es) s.keep H2 hk2.strs hks hkb) ?_, ?_⟩
    · rintro v3 H3 ⟨hle3, hret⟩
      have c0 := (hle2.trans hle3).2 _ _ b0
      have c1 := (hle2.trans hle3).2 _ _ b1
      have cl := (hle2.trans hle3).2 _ _ (hle1.2 _ _ k1)
      have cs := (hle2.trans hle3).2 _ _ (hle1.2 _ _ j1)
      have t0 := Hp.at_lt c0
      have t1 := Hp.at_lt c1
      have tl := Hp.at_lt cl
      have ts := Hp.at_lt cs
      have hle := hle1.trans (hle2.trans hle3)
      cases hso : sieveO (keysR es) s.keep with
      | none =>
        rw [hso] at hret
        obtain rfl := hret
        have hset : setR s i es = none := by simp [setR, hso]
        rw [hset]
        simp [ha.rows.one, hd.rows.one, hle, c0, c1, cl, cs, k3, j3, k7, j7, k2, j2, hi, hiI, lr1, hr.slc, hr.one, hr.cells, hr.cells1, Hp.at_set_ne, Hp.at_set, Hp.at_app, List.length_set, m01, m10, ml0, ml1, ms0, ms1, hneo, hneo.symm, ml0.symm, ml1.symm, ms0.symm, ms1.symm, t0, t1, tl, ts, at_len, set_in']
        exact (hle.set (by omega) _).app _
      | some x =>
        rw [hso] at hret
        obtain ⟨r', rfl, hr', hrl⟩ := hret
        simp [svAV, hr'.rows.one, ha.rows.one, hd.rows.one, hle, c0, c1, cl, cs, k3, j3, k7, j7, k2, j2, hi, hiI, lr1, hr.slc, hr.one, hr.cells, hr.cells1, Hp.at_set_ne, Hp.at_set, Hp.at_app, List.length_set, m01, m10, ml0, ml1, ms0, ms1, hneo, hneo.symm, ml0.symm, ml1.symm, ms0.symm, ms1.symm, t0, t1, tl, ts, at_len, set_in']
        refine cg_use (l12Size_ok i _ (by omega)) ?_
        simp [ha.rows.one, hd.rows.one, hle, c0, c1, cl, cs, k3, j3, k7, j7, k2, j2, hi, hiI, lr1, hr.slc, hr.one, hr.cells, hr.cells1, Hp.at_set_ne, Hp.at_set, Hp.at_app, List.length_set, m01, m10, ml0, ml1, ms0, ms1, hneo, hneo.symm, ml0.symm, ml1.symm, ms0.symm, ms1.symm, t0, t1, tl, ts, at_len, set_in']
        refine c_split (fun hq => ?_) (fun hq => ?_) <;> simp at hq
        · have hset : setR s i es = none := by simp [setR, hso]; omega
          rw [hset]
          simp [ha.rows.one, hd.rows.one, hle, c0, c1, cl, cs, k3, j3, k7, j7, k2, j2, hi, hiI, lr1, hr.slc, hr.one, hr.cells, hr.cells1, Hp.at_set_ne, Hp.at_set, Hp.at_app, List.length_set, m01, m10, ml0, ml1, ms0, ms1, hneo, hneo.symm, ml0.symm, ml1.symm, ms0.symm, ms1.symm, t0, t1, tl, ts, at_len, set_in']
          exact (hle.set (by omega) _).app _
        · have hset : setR s i es = some { s with lev := s.lev.set i es, sv := s.sv.set i x } := by simp [setR, hso]; omega
          rw [hset]
          simp [hr'.rows.one, ha.rows.one, hd.rows.one, hle, c0, c1, cl, cs, k3, j3, k7, j7, k2, j2, hi, hiI, lr1, hr.slc, hr.one, hr.cells, hr.cells1, Hp.at_set_ne, Hp.at_set, Hp.at_app, List.length_set, m01, m10, ml0, ml1, ms0, ms1, hneo, hneo.symm, ml0.symm, ml1.symm, ms0.symm, ms1.symm, t0, t1, tl, ts, at_len, set_in']
          have hF := ((((hle.fr (S := fun y => y = ol ∨ y = os)).set (.inl (.inl rfl)) (some ⟨obl.rows.set i [r], 1, obl.ety, false⟩)).set (.inl (.inr rfl)) (some ⟨obs.rows.set i [.str x.l, .str x.m, .str x.f, r', .int .i64 x.k], 5, obs.ety, false⟩)).set (o := H.length + 1) (.inr (by omega)) (some ⟨[[a, .sl ol 0 3, .sl os 0 3, .int .i64 s.keep, .int .i64 s.time, d]], 6, 65, false⟩))
          have hr2 := (((hr'.rows.fr (Fr.one H3 ol (some ⟨obl.rows.set i [r], 1, obl.ety, false⟩)) (fun y hy hh => by have h7 := hr'.2 y hy; have h8 := hle2.1; (try simp only [List.length_append, List.length_cons, List.length_nil] at h7); (try simp only [List.length_append, List.length_cons, List.length_nil] at h8); omega)).fr (Fr.one _ os (some ⟨obs.rows.set i [.str x.l, .str x.m, .str x.f, r', .int .i64 x.k], 5, obs.ety, false⟩)) (fun y hy hh => by have h7 := hr'.2 y hy; have h8 := hle2.1; (try simp only [List.length_append, List.length_cons, List.length_nil] at h7); (try simp only [List.length_append, List.length_cons, List.length_nil] at h8); omega)).fr (Fr.one _ (H.length + 1) (some ⟨[[a, .sl ol 0 3, .sl os 0 3, .int .i64 s.keep, .int .i64 s.time, d]], 6, 65, false⟩)) (fun y hy hh => by have h7 := hr'.2 y hy; have h8 := hle2.1; (try simp only [List.length_append, List.length_cons, List.length_nil] at h7); (try simp only [List.length_append, List.length_cons, List.length_nil] at h8); omega))
          exact ⟨MSt_set (i := i) (es := es) (x := x) ha hlv hlr hsv hsr hd hdo hol hos hl3 hs3 k1 j1 (hF.app _) (by simp [ha.rows.one, hd.rows.one, hle, c0, c1, cl, cs, k3, j3, k7, j7, k2, j2, hi, hiI, lr1, hr.slc, hr.one, hr.cells, hr.cells1, Hp.at_set_ne, Hp.at_set, Hp.at_app, List.length_set, m01, m10, ml0, ml1, ms0, ms1, hneo, hneo.symm, ml0.symm, ml1.symm, ms0.symm, ms1.symm, t0, t1, tl, ts, at_len, set_in']) (by simp [ha.rows.one, hd.rows.one, hle, c0, c1, cl, cs, k3, j3, k7, j7, k2, j2, hi, hiI, lr1, hr.slc, hr.one, hr.cells, hr.cells1, Hp.at_set_ne, Hp.at_set, Hp.at_app, List.length_set, m01, m10, ml0, ml1, ms0, ms1, hneo, hneo.symm, ml0.symm, ml1.symm, ms0.symm, ms1.symm, t0, t1, tl, ts, at_len, set_in']) hr (Rows.le hr2 (HLe.self _ _)) (fun hy => by have h7 := hr'.2 ol hy; have h8 := hle2.1; (try simp only [List.length_append, List.length_cons, List.length_nil] at h7); (try simp only [List.length_append, List.length_cons, List.length_nil] at h8); omega) (fun y hy hdy => by have h7 := hr'.2 y hy; have h9 := hd.1.lt hdy; have h8 := hle2.1; (try simp only [List.length_append, List.length_cons, List.length_nil] at h7); (try simp only [List.length_append, List.length_cons, List.length_nil] at h8); omega), (hF.app _)⟩
    · have b02' : ∀ l, Hp.at (H2 ++ l) H.length = _ := fun l => (HLe.self H2 l).2 _ _ b02
      simp [b02']
      refine cg_ex (SieveOf_ok v2 (keysR es) s.keep _ (Rows.le hk2.strs (HLe.self _ _)) hks hkb) ?_
      rintro v3 H3 ⟨hle3, hret⟩
      have c0 := (((hle2.app _).trans hle3)).2 _ _ b0
      have c1 := (((hle2.app _).trans hle3)).2 _ _ b1
      have cl := (((hle2.app _).trans hle3)).2 _ _ (hle1.2 _ _ k1)
      have cs := (((hle2.app _).trans hle3)).2 _ _ (hle1.2 _ _ j1)
      have t0 := Hp.at_lt c0
      have t1 := Hp.at_lt c1
      have tl := Hp.at_lt cl
      have ts := Hp.at_lt cs
      have hle := hle1.trans (((hle2.app _).trans hle3))
      have nle : H.length ≤ H2.length := by have h8 := hle2.1; (try simp only [List.length_append, List.length_cons, List.length_nil] at h8); omega
      have cx : H3.at H2.length = some ⟨[[.str ⟨#[]⟩, .str ⟨#[]⟩, .str ⟨#[]⟩, .nils, .int .i64 0]], 5, 103, false⟩ := hle3.2 _ _ (Hp.at_app_0.trans Hp.at_0)
      have tx := Hp.at_lt cx
      have nx0 : H2.length ≠ H.length := by have := hle2.1; (try simp at this); omega
      have nx1 : H2.length ≠ H.length + 1 := by have := hle2.1; (try simp at this); omega
      have nxl : H2.length ≠ ol := by have := hle2.1; (try simp at this); omega
      have nxs : H2.length ≠ os := by have := hle2.1; (try simp at this); omega
      cases hso : sieveO (keysR es) s.keep with
      | none =>
        rw [hso] at hret
        obtain rfl := hret
        have hset : setR s i es = none := by simp [setR, hso]
        rw [hset]
        simp [ha.rows.one, hd.rows.one, hle, c0, c1, cl, cs, k3, j3, k7, j7, k2, j2, hi, hiI, lr1, hr.slc, hr.one, hr.cells, hr.cells1, Hp.at_set_ne, Hp.at_set, Hp.at_app, List.length_set, m01, m10, ml0, ml1, ms0, ms1, hneo, hneo.symm, ml0.symm, ml1.symm, ms0.symm, ms1.symm, t0, t1, tl, ts, cx, tx, nx0, nx1, nxl, nxs, nx0.symm, nx1.symm, nxl.symm, nxs.symm]
        exact (hle.set (o := H2.length) (by omega) _).set (o := H.length + 1) (by omega) _
      | some x =>
        rw [hso] at hret
        obtain ⟨r', rfl, hr', hrl⟩ := hret
        simp [svAV, hr'.rows.one, ha.rows.one, hd.rows.one, hle, c0, c1, cl, cs, k3, j3, k7, j7, k2, j2, hi, hiI, lr1, hr.slc, hr.one, hr.cells, hr.cells1, Hp.at_set_ne, Hp.at_set, Hp.at_app, List.length_set, m01, m10, ml0, ml1, ms0, ms1, hneo, hneo.symm, ml0.symm, ml1.symm, ms0.symm, ms1.symm, t0, t1, tl, ts, cx, tx, nx0, nx1, nxl, nxs, nx0.symm, nx1.symm, nxl.symm, nxs.symm]
        refine cg_use (l12Size_ok i _ (by omega)) ?_
        simp [ha.rows.one, hd.rows.one, hle, c0, c1, cl, cs, k3, j3, k7, j7, k2, j2, hi, hiI, lr1, hr.slc, hr.one, hr.cells, hr.cells1, Hp.at_set_ne, Hp.at_set, Hp.at_app, List.length_set, m01, m10, ml0, ml1, ms0, ms1, hneo, hneo.symm, ml0.symm, ml1.symm, ms0.symm, ms1.symm, t0, t1, tl, ts, cx, tx, nx0, nx1, nxl, nxs, nx0.symm, nx1.symm, nxl.symm, nxs.symm]
        refine c_split (fun hq => ?_) (fun hq => ?_) <;> simp at hq
        · have hset : setR s i es = none := by simp [setR, hso]; omega
          rw [hset]
          simp [ha.rows.one, hd.rows.one, hle, c0, c1, cl, cs, k3, j3, k7, j7, k2, j2, hi, hiI, lr1, hr.slc, hr.one, hr.cells, hr.cells1, Hp.at_set_ne, Hp.at_set, Hp.at_app, List.length_set, m01, m10, ml0, ml1, ms0, ms1, hneo, hneo.symm, ml0.symm, ml1.symm, ms0.symm, ms1.symm, t0, t1, tl, ts, cx, tx, nx0, nx1, nxl, nxs, nx0.symm, nx1.symm, nxl.symm, nxs.symm]
          exact (hle.set (o := H2.length) (by omega) _).set (o := H.length + 1) (by omega) _
        · have hset : setR s i es = some { s with lev := s.lev.set i es, sv := s.sv.set i x } := by simp [setR, hso]; omega
          rw [hset]
          simp [hr'.rows.one, ha.rows.one, hd.rows.one, hle, c0, c1, cl, cs, k3, j3, k7, j7, k2, j2, hi, hiI, lr1, hr.slc, hr.one, hr.cells, hr.cells1, Hp.at_set_ne, Hp.at_set, Hp.at_app, List.length_set, m01, m10, ml0, ml1, ms0, ms1, hneo, hneo.symm, ml0.symm, ml1.symm, ms0.symm, ms1.symm, t0, t1, tl, ts, cx, tx, nx0, nx1, nxl, nxs, nx0.symm, nx1.symm, nxl.symm, nxs.symm]
          have hF := (((((hle.fr (S := fun y => y = ol ∨ y = os)).set (o := H2.length) (.inr (by omega)) (some ⟨[[.str x.l, .str x.m, .str x.f, r', .int .i64 x.k]], 5, 103, false⟩)).set (.inl (.inl rfl)) (some ⟨obl.rows.set i [r], 1, obl.ety, false⟩)).set (.inl (.inr rfl)) (some ⟨obs.rows.set i [.str x.l, .str x.m, .str x.f, r', .int .i64 x.k], 5, obs.ety, false⟩)).set (o := H.length + 1) (.inr (by omega)) (some ⟨[[a, .sl ol 0 3, .sl os 0 3, .int .i64 s.keep, .int .i64 s.time, d]], 6, 65, false⟩))
          have hr2 := ((((Rows.fr hr'.rows (Fr.one H3 (H2.length) (some ⟨[[.str x.l, .str x.m, .str x.f, r', .int .i64 x.k]], 5, 103, false⟩)) (fun y hy hh => by have h7 := hr'.2 y hy; have h8 := hle2.1; (try simp only [List.length_append, List.length_cons, List.length_nil] at h7); (try simp only [List.length_append, List.length_cons, List.length_nil] at h8); omega)).fr (Fr.one _ ol (some ⟨obl.rows.set i [r], 1, obl.ety, false⟩)) (fun y hy hh => by have h7 := hr'.2 y hy; have h8 := hle2.1; (try simp only [List.length_append, List.length_cons, List.length_nil] at h7); (try simp only [List.length_append, List.length_cons, List.length_nil] at h8); omega)).fr (Fr.one _ os (some ⟨obs.rows.set i [.str x.l, .str x.m, .str x.f, r', .int .i64 x.k], 5, obs.ety, false⟩)) (fun y hy hh => by have h7 := hr'.2 y hy; have h8 := hle2.1; (try simp only [List.length_append, List.length_cons, List.length_nil] at h7); (try simp only [List.length_append, List.length_cons, List.length_nil] at h8); omega)).fr (Fr.one _ (H.length + 1) (some ⟨[[a, .sl ol 0 3, .sl os 0 3, .int .i64 s.keep, .int .i64 s.time, d]], 6, 65, false⟩)) (fun y hy hh => by have h7 := hr'.2 y hy; have h8 := hle2.1; (try simp only [List.length_append, List.length_cons, List.length_nil] at h7); (try simp only [List.length_append, List.length_cons, List.length_nil] at h8); omega))
          exact ⟨MSt_set (i := i) (es := es) (x := x) ha hlv hlr hsv hsr hd hdo hol hos hl3 hs3 k1 j1 hF (by simp [ha.rows.one, hd.rows.one, hle, c0, c1, cl, cs, k3, j3, k7, j7, k2, j2, hi, hiI, lr1, hr.slc, hr.one, hr.cells, hr.cells1, Hp.at_set_ne, Hp.at_set, Hp.at_app, List.length_set, m01, m10, ml0, ml1, ms0, ms1, hneo, hneo.symm, ml0.symm, ml1.symm, ms0.symm, ms1.symm, t0, t1, tl, ts, cx, tx, nx0, nx1, nxl, nxs, nx0.symm, nx1.symm, nxl.symm, nxs.symm]) (by simp [ha.rows.one, hd.rows.one, hle, c0, c1, cl, cs, k3, j3, k7, j7, k2, j2, hi, hiI, lr1, hr.slc, hr.one, hr.cells, hr.cells1, Hp.at_set_ne, Hp.at_set, Hp.at_app, List.length_set, m01, m10, ml0, ml1, ms0, ms1, hneo, hneo.symm, ml0.symm, ml1.symm, ms0.symm, ms1.symm, t0, t1, tl, ts, cx, tx, nx0, nx1, nxl, nxs, nx0.symm, nx1.symm, nxl.symm, nxs.symm]) hr hr2 (fun hy => by have h7 := hr'.2 ol hy; have h8 := hle2.1; (try simp only [List.length_append, List.length_cons, List.length_nil] at h7); (try simp only [List.length_append, List.length_cons, List.length_nil] at h8); omega) (fun y hy hdy => by have h7 := hr'.2 y hy; have h9 := hd.1.lt hdy; have h8 := hle2.1; (try simp only [List.length_append, List.length_cons, List.length_nil] at h7); (try simp only [List.length_append, List.length_cons, List.length_nil] at h8); omega), hF⟩
  · have b0' : ∀ l, Hp.at (H1 ++ l) H.length = _ := fun l => (HLe.self H1 l).2 _ _ b0
    simp [b0']
    refine cg_ex (l11Keys_ok r es _ ((hr.le hle1).le (HLe.self _ _)) hes.1) ?_
    rintro v2 H2 ⟨hle2, hk2⟩
    have b02 := hle2.2 _ _ (b0' _)
    simp [b02]
    refine cg_ex (SieveOf_ok v2 (keysR es) s.keep _ hk2.strs hks hkb) ?_
    rintro v3 H3 ⟨hle3, hret⟩
    have c0 := (((HLe.self H1 _).trans hle2).trans hle3).2 _ _ b0
    have c1 := (((HLe.self H1 _).trans hle2).trans hle3).2 _ _ b1
    have cl := (((HLe.self H1 _).trans hle2).trans hle3).2 _ _ (hle1.2 _ _ k1)
    have cs := (((HLe.self H1 _).trans hle2).trans hle3).2 _ _ (hle1.2 _ _ j1)
    have t0 := Hp.at_lt c0
    have t1 := Hp.at_lt c1
    have tl := Hp.at_lt cl
    have ts := Hp.at_lt cs
    have hle := hle1.trans (((HLe.self H1 _).trans hle2).trans hle3)
    have nle : H.length ≤ H1.length := by have h8 := hle2.1; (try simp only [List.length_append, List.length_cons, List.length_nil] at h8); omega
    have cx : H3.at H1.length = some ⟨[[.str ⟨#[]⟩, .str ⟨#[]⟩, .str ⟨#[]⟩, .nils, .int .i64 0]], 5, 103, false⟩ := hle3.2 _ _ (hle2.2 _ _ (Hp.at_app_0.trans Hp.at_0))
    have tx := Hp.at_lt cx
    have nx0 : H1.length ≠ H.length := by have := hle2.1; (try simp at this); omega
    have nx1 : H1.length ≠ H.length + 1 := by have := hle2.1; (try simp at this); omega
    have nxl : H1.length ≠ ol := by have := hle2.1; (try simp at this); omega
    have nxs : H1.length ≠ os := by have := hle2.1; (try simp at this); omega
    cases hso : sieveO (keysR es) s.keep with
    | none =>
      rw [hso] at hret
      obtain rfl := hret
      have hset : setR s i es = none := by simp [setR, hso]
      rw [hset]
      simp [ha.rows.one, hd.rows.one, hle, c0, c1, cl, cs, k3, j3, k7, j7, k2, j2, hi, hiI, lr1, hr.slc, hr.one, hr.cells, hr.cells1, Hp.at_set_ne, Hp.at_set, Hp.at_app, List.length_set, m01, m10, ml0, ml1, ms0, ms1, hneo, hneo.symm, ml0.symm, ml1.symm, ms0.symm, ms1.symm, t0, t1, tl, ts, cx, tx, nx0, nx1, nxl, nxs, nx0.symm, nx1.symm, nxl.symm, nxs.symm]
      exact (hle.set (o := H1.length) (by omega) _).set (o := H.length + 1) (by omega) _
    | some x =>
      rw [hso] at hret
      obtain ⟨r', rfl, hr', hrl⟩ := hret
      simp [svAV, hr'.rows.one, ha.rows.one, hd.rows.one, hle, c0, c1, cl, cs, k3, j3, k7, j7, k2, j2, hi, hiI, lr1, hr.slc, hr.one, hr.cells, hr.cells1, Hp.at_set_ne, Hp.at_set, Hp.at_app, List.length_set, m01, m10, ml0, ml1, ms0, ms1, hneo, hneo.symm, ml0.symm, ml1.symm, ms0.symm, ms1.symm, t0, t1, tl, ts, cx, tx, nx0, nx1, nxl, nxs, nx0.symm, nx1.symm, nxl.symm, nxs.symm]
      refine cg_use (l12Size_ok i _ (by omega)) ?_
      simp [ha.rows.one, hd.rows.one, hle, c0, c1, cl, cs, k3, j3, k7, j7, k2, j2, hi, hiI, lr1, hr.slc, hr.one, hr.cells, hr.cells1, Hp.at_set_ne, Hp.at_set, Hp.at_app, List.length_set, m01, m10, ml0, ml1, ms0, ms1, hneo, hneo.symm, ml0.symm, ml1.symm, ms0.symm, ms1.symm, t0, t1, tl, ts, cx, tx, nx0, nx1, nxl, nxs, nx0.symm, nx1.symm, nxl.symm, nxs.symm]
      refine c_split (fun hq => ?_) (fun hq => ?_) <;> simp at hq
      · have hset : setR s i es = none := by simp [setR, hso]; omega
        rw [hset]
        simp [ha.rows.one, hd.rows.one, hle, c0, c1, cl, cs, k3, j3, k7, j7, k2, j2, hi, hiI, lr1, hr.slc, hr.one, hr.cells, hr.cells1, Hp.at_set_ne, Hp.at_set, Hp.at_app, List.length_set, m01, m10, ml0, ml1, ms0, ms1, hneo, hneo.symm, ml0.symm, ml1.symm, ms0.symm, ms1.symm, t0, t1, tl, ts, cx, tx, nx0, nx1, nxl, nxs, nx0.symm, nx1.symm, nxl.symm, nxs.symm]
        exact (hle.set (o := H1.length) (by omega) _).set (o := H.length + 1) (by omega) _
      · have hset : setR s i es = some { s with lev := s.lev.set i es, sv := s.sv.set i x } := by simp [setR, hso]; omega
        rw [hset]
        simp [hr'.rows.one, ha.rows.one, hd.rows.one, hle, c0, c1, cl, cs, k3, j3, k7, j7, k2, j2, hi, hiI, lr1, hr.slc, hr.one, hr.cells, hr.cells1, Hp.at_set_ne, Hp.at_set, Hp.at_app, List.length_set, m01, m10, ml0, ml1, ms0, ms1, hneo, hneo.symm, ml0.symm, ml1.symm, ms0.symm, ms1.symm, t0, t1, tl, ts, cx, tx, nx0, nx1, nxl, nxs, nx0.symm, nx1.symm, nxl.symm, nxs.symm]
        have hF := (((((hle.fr (S := fun y => y = ol ∨ y = os)).set (o := H1.length) (.inr (by omega)) (some ⟨[[.str x.l, .str x.m, .str x.f, r', .int .i64 x.k]], 5, 103, false⟩)).set (.inl (.inl rfl)) (some ⟨obl.rows.set i [r], 1, obl.ety, false⟩)).set (.inl (.inr rfl)) (some ⟨obs.rows.set i [.str x.l, .str x.m, .str x.f, r', .int .i64 x.k], 5, obs.ety, false⟩)).set (o := H.length + 1) (.inr (by omega)) (some ⟨[[a, .sl ol 0 3, .sl os 0 3, .int .i64 s.keep, .int .i64 s.time, d]], 6, 65, false⟩))
        have hr2 := ((((Rows.fr hr'.rows (Fr.one H3 (H1.length) (some ⟨[[.str x.l, .str x.m, .str x.f, r', .int .i64 x.k]], 5, 103, false⟩)) (fun y hy hh => by have h7 := hr'.2 y hy; have h8 := hle2.1; (try simp only [List.length_append, List.length_cons, List.length_nil] at h7); (try simp only [List.length_append, List.length_cons, List.length_nil] at h8); omega)).fr (Fr.one _ ol (some ⟨obl.rows.set i [r], 1, obl.ety, false⟩)) (fun y hy hh => by have h7 := hr'.2 y hy; have h8 := hle2.1; (try simp only [List.length_append, List.length_cons, List.length_nil] at h7); (try simp only [List.length_append, List.length_cons, List.length_nil] at h8); omega)).fr (Fr.one _ os (some ⟨obs.rows.set i [.str x.l, .str x.m, .str x.f, r', .int .i64 x.k], 5, obs.ety, false⟩)) (fun y hy hh => by have h7 := hr'.2 y hy; have h8 := hle2.1; (try simp only [List.length_append, List.length_cons, List.length_nil] at h7); (try simp only [List.length_append, List.length_cons, List.length_nil] at h8); omega)).fr (Fr.one _ (H.length + 1) (some ⟨[[a, .sl ol 0 3, .sl os 0 3, .int .i64 s.keep, .int .i64 s.time, d]], 6, 65, false⟩)) (fun y hy hh => by have h7 := hr'.2 y hy; have h8 := hle2.1; (try simp only [List.length_append, List.length_cons, List.length_nil] at h7); (try simp only [List.length_append, List.length_cons, List.length_nil] at h8); omega))
        exact ⟨MSt_set (i := i) (es := es) (x := x) ha hlv hlr hsv hsr hd hdo hol hos hl3 hs3 k1 j1 hF (by simp [ha.rows.one, hd.rows.one, hle, c0, c1, cl, cs, k3, j3, k7, j7, k2, j2, hi, hiI, lr1, hr.slc, hr.one, hr.cells, hr.cells1, Hp.at_set_ne, Hp.at_set, Hp.at_app, List.length_set, m01, m10, ml0, ml1, ms0, ms1, hneo, hneo.symm, ml0.symm, ml1.symm, ms0.symm, ms1.symm, t0, t1, tl, ts, cx, tx, nx0, nx1, nxl, nxs, nx0.symm, nx1.symm, nxl.symm, nxs.symm]) (by simp [ha.rows.one, hd.rows.one, hle, c0, c1, cl, cs, k3, j3, k7, j7, k2, j2, hi, hiI, lr1, hr.slc, hr.one, hr.cells, hr.cells1, Hp.at_set_ne, Hp.at_set, Hp.at_app, List.length_set, m01, m10, ml0, ml1, ms0, ms1, hneo, hneo.symm, ml0.symm, ml1.symm, ms0.symm, ms1.symm, t0, t1, tl, ts, cx, tx, nx0, nx1, nxl, nxs, nx0.symm, nx1.symm, nxl.symm, nxs.symm]) hr hr2 (fun hy => by have h7 := hr'.2 ol hy; have h8 := hle2.1; (try simp only [List.length_append, List.length_cons, List.length_nil] at h7); (try simp only [List.length_append, List.length_cons, List.length_nil] at h8); omega) (fun y hy hdy => by have h7 := hr'.2 y hy; have h9 := hd.1.lt hdy; have h8 := hle2.1; (try simp only [List.length_append, List.length_cons, List.length_nil] at h7); (try simp only [List.length_append, List.length_cons, List.length_nil] at h8); omega), hF⟩

end Go.Proofs.Ytkdnijiipegabaa.B

namespace Go.Proofs.Ytkdnijiipegabaa.B
open Go.RowKit Go.Proofs
set_option linter.unusedVariables false
set_option linter.unusedSimpArgs false
variable {E : Env}

theorem MSt.obj {H0 H : Hp} {v : AV} {s : Sr} (h : MSt H0 H v s) : ∀ x, stOf v x → H0.length ≤ x ∧ ∃ ob, H.at x = some ob ∧ (ob.esz = 1 ∨ ob.esz = 5) := by
  obtain ⟨a, ol, os, d, lr, sr, rfl, ha, hlv, hlr, hsv, hsr, hd, hdo, hol, hos, hl3, hs3⟩ := h
  obtain ⟨e1, obl, k1, k2, k3, k4, k5, k6⟩ := hlv.ob
  obtain ⟨e2, obs, j1, j2, j3, j4, j5, j6⟩ := hsv.ob
  rintro x (h | h)
  · subst h
    exact ⟨hol, obl, k1, .inl k3⟩
  · subst h
    exact ⟨hos, obs, j1, .inr j3⟩
theorem MSt.lt {H0 H : Hp} {v : AV} {s : Sr} (h : MSt H0 H v s) {x : Nat} (hx : stOf v x) : x < H.length := by
  obtain ⟨_, ob, h1, _⟩ := h.obj x hx
  exact Hp.at_lt h1
theorem MSt.ne4 {H0 H : Hp} {v : AV} {s : Sr} (h : MSt H0 H v s) : ∀ x ob, stOf v x → H.at x = some ob → ob.esz ≠ 4 := by
  intro x ob hx ho
  obtain ⟨_, ob', h1, h2⟩ := h.obj x hx
  rw [ho] at h1
  cases h1
  omega
/-- Where only boxes are written a store stays. -/
theorem MSt.fr {S : Nat → Prop} {H0 H H' : Hp} {v : AV} {s : Sr} (h : MSt H0 H v s) (hf : Fr S H H') (hS : ∀ x ob, S x → H.at x = some ob → ob.esz = 6) : MSt H0 H' v s := by
  obtain ⟨a, ol, os, d, lr, sr, rfl, ha, hlv, hlr, hsv, hsr, hd, hdo, hol, hos, hl3, hs3⟩ := h
  have no : ∀ {esz ety : Nat} {v : AV} {R : List (List AV)}, esz ≠ 6 → Own esz ety H v R → ∀ x, v.of x → ¬ S x := by
    intro esz ety v R hne ho x hx hs
    have hlt := ho.lt hx
    rcases ho with ⟨rfl, _⟩ | ⟨rfl, _⟩ | ⟨o', ob, rfl, a2, a3, a4, _⟩
    · exact hx.elim
    · exact hx.elim
    · have : o' = x := hx
      subst this
      exact hne (a4.symm.trans (hS _ _ hs a2))
  refine ⟨a, ol, os, d, lr, sr, rfl, ha.fr hf (no (by omega) ha.1), hlv.fr hf (no (by omega) hlv), All2.mono (fun _ _ h => h.fr hf (fun x ob hs ho => by have := hS x ob hs ho; omega)) hlr, hsv.fr hf (no (by omega) hsv),
    All2.mono (fun _ _ h => h.fr hf (fun x ob hs ho => .inl (by have := hS x ob hs ho; omega)) (fun _ _ h => h)) hsr, hd.fr hf (no (by omega) hd.1), hdo, hol, hos, hl3, hs3⟩
theorem MSt.shape {H0 H : Hp} {v : AV} {s : Sr} (h : MSt H0 H v s) : ∃ a ol os d, v = .ag [a, .sl ol 0 3, .sl os 0 3, .int .i64 s.keep, .int .i64 s.time, d] ∧ one a = true ∧ one d = true ∧ OwnI H0 H d s.tms := by
  obtain ⟨a, ol, os, d, lr, sr, rfl, ha, hlv, hlr, hsv, hsr, hd, hdo, hol, hos, hl3, hs3⟩ := h
  exact ⟨a, ol, os, d, by rw [stAV, hl3, hs3], ha.rows.one, hd.rows.one, hd⟩
def SmB (es : List Ent) : Prop := es.length ≤ 1000 ∧ Fits es
theorem EsB.sub {xs ys : List Ent} (h : EsB ys) (hs : xs.Sublist ys) : EsB xs := ⟨Nat.lt_of_le_of_lt hs.length_le h.1, fun e he => h.2 e (hs.subset he)⟩
theorem SmB.big {es : List Ent} (h : SmB es) : EsB es := ⟨Nat.lt_of_le_of_lt h.1 (by omega), h.2⟩
theorem SmB.join {xs ys : List Ent} (h : SmB xs) (k : SmB ys) : EsB (joinL xs ys) := ⟨by
  rw [joinL_len]
  have := h.1
  have := k.1
  omega, fun e he => (joinL_mem he).elim (h.2 e) (k.2 e)⟩
theorem setR_tms {s x : Sr} {i : Nat} {es : List Ent} (h : setR s i es = some x) : x.tms = s.tms ∧ x.top = s.top ∧ x.keep = s.keep ∧ x.time = s.time := by
  unfold setR at h
  split at h
  · cases h
  · split at h
    · cases h
      exact ⟨rfl, rfl, rfl, rfl⟩
    · cases h
theorem intoR_tms : ∀ {n : Nat} {s x : Sr} {r : List Ent}, intoR n s r = some x → x.tms = s.tms ∧ x.top = s.top ∧ x.keep = s.keep ∧ x.time = s.time
  | 0, s, x, r, h => setR_tms h
  | n + 1, s, x, r, h => by
    unfold intoR at h
    split at h
    · cases h
      exact setR_tms (by assumption)
    · split at h
      · cases h
      · rename_i y hy
        have h1 := intoR_tms hy
        have h2 := setR_tms h
        exact ⟨h2.1.trans h1.1, h2.2.1.trans h1.2.1, h2.2.2.1.trans h1.2.2.1, h2.2.2.2.trans h1.2.2.2⟩

theorem l12Into_ok : ∀ (n : Nat), n ≤ 2 → ∀ (v r : AV) (s : Sr) (es : List Ent) (H0 H : Hp), MSt H0 H v s → HLe H0 H → Ents H r es → SmB es → (∀ l ∈ s.lev, SmB l) → s.tms.length ≤ 1000 →
    AC Try.prog E 92 [v, .int .i64 ((2 - n : Nat) : Int), r] H (fun u H' => match intoR n s es with
      | some x => ∃ w, u = .tu [w, .bool true] ∧ MSt H0 H' w x ∧ stOf w = stOf v ∧ Fr (stOf v) H H'
      | none => u = .tu [zst, .bool false] ∧ Fr (stOf v) H H') := by
  intro n
  induction n with
  | zero =>
    intro hn v r s es H0 H hs hle0 hr hes hlev htm
    have hs0 := hs
    have hobj := hs.obj
    have hlt := fun x => hs.lt (x := x)
    obtain ⟨a, ol, os, d, lr, sr, rfl, ha, hlv, hlr, hsv, hsr, hd, hdo, hol, hos, hl3, hs3⟩ := hs
    refine AC_by fol (tC_le tab2_ok) h_spec_l12Into ?_
    obtain ⟨e1, obl, k1, k2, k3, k4, k5, k6⟩ := hlv.ob
    have hlr3 : lr.length = 3 := by omega
    have hlo : ol < H.length := Hp.at_lt k1
    obtain ⟨lvl, hlvl⟩ : ∃ lvl, lvl = 2 - 0 := ⟨_, rfl⟩
    rw [← hlvl]
    have hl2 : lvl = 2 := by omega
    subst hl2
    obtain ⟨u, hu, hue⟩ := hlr.get 2 (by omega) (by omega)
    have k7 : obl.rows[2]? = some [u] := by
      have : (obl.rows.take lr.length)[2]? = lr[2]? := by rw [k6]
      rw [List.getElem?_take, if_pos (by omega)] at this
      rw [this, List.getElem?_eq_getElem (by omega), hu]
    have hg : s.lev.getD 2 [] = s.lev[2]'(by omega) := by
      rw [List.getD_eq_getElem?_getD, List.getElem?_eq_getElem (by omega)]
      rfl
    have hlm := hlev _ (List.getElem_mem (show 2 < s.lev.length by omega))
    rw [← hg] at hlm hue
    obtain ⟨lv, hlvd⟩ : ∃ lv, lv = s.lev.getD 2 [] := ⟨_, rfl⟩
    rw [← hlvd] at hlm hue
    simp only [stAV, hl3, hs3] at hs0 hobj hlt ⊢
    obtain ⟨H1, hH1⟩ : ∃ H1, H1 = H ++ [some ⟨[[a, .sl ol 0 3, .sl os 0 3, .int .i64 s.keep, .int .i64 s.time, d]], 6, 65, false⟩, some ⟨[[.nils, .nils, .nils, .int .i64 0, .int .i64 0, .nils]], 6, 65, false⟩] := ⟨_, rfl⟩
    have hle1 : HLe H H1 := by rw [hH1]; exact HLe.self _ _
    have b0 : H1.at H.length = some ⟨[[a, .sl ol 0 3, .sl os 0 3, .int .i64 s.keep, .int .i64 s.time, d]], 6, 65, false⟩ := by rw [hH1]; simp
    have b1 : H1.at (H.length + 1) = some ⟨[[.nils, .nils, .nils, .int .i64 0, .int .i64 0, .nils]], 6, 65, false⟩ := by rw [hH1]; simp
    have hl1 : H1.length = H.length + 2 := by rw [hH1]; simp
    have g1 := hle1.2 _ _ k1
    simp [c_spec_l12Into, ha.rows.one, hd.rows.one, ← hH1, b0, g1, k3, k7]
    refine cg_ex (l11Join_ok r u es lv H1 (hr.le hle1) (hue.le hle1) (by have := hes.1; have := hlm.1; omega)) ?_
    rintro v2 H2 ⟨hle2, hj⟩
    have b02 := hle2.2 _ _ b0
    simp [b02]
    refine cg_ex (l11Trim_ok v2 d (joinL es lv) s.tms true H2 hj.ents ((hd.le hle1).le hle2).ints (hes.join hlm).1 (by omega)) ?_
    rintro v3 H3 ⟨hle3, hq⟩
    have b03 := hle3.2 _ _ b02
    have b13 := hle3.2 _ _ (hle2.2 _ _ b1)
    have hle13 := (hle1.trans hle2).trans hle3
    have hes3 : EsB (trimR (joinL es lv) s.tms true) := (hes.join hlm).sub (trimR_sub _ _ _)
    simp [b03]
    refine cg_ex (l12Set_ok _ v3 s 2 _ H0 H3 (hs0.le hle13) (hle0.trans hle13) hq.ents hes3 (by omega)) ?_
    intro v4 H4 hp
    cases h1 : setR s 2 (trimR (joinL es lv) s.tms true) with
    | some x =>
      have hint : intoR 0 s es = some x := by rw [intoR, ← hlvd, h1]
      rw [h1] at hp
      obtain ⟨w, rfl, hm, hst, hfr⟩ := hp
      rw [hint]
      have n0 : ∀ y, H.length ≤ y → y < H3.length → ¬ stOf (.ag [a, .sl ol 0 3, .sl os 0 3, .int .i64 s.keep, .int .i64 s.time, d]) y := fun y h1 h2 h3 => by have := hlt y h3; omega
      have t03 := Hp.at_lt b03
      have t13 := Hp.at_lt b13
      have b04 := hfr.2 _ _ (n0 _ (by omega) t03) b03
      have b14 := hfr.2 _ _ (n0 _ (by omega) t13) b13
      have t0 := Hp.at_lt b04
      have t1 := Hp.at_lt b14
      obtain ⟨wa, wl, ws, wd, hw, hwa, hwd, hwi⟩ := hm.shape
      have hw' := hw
      subst hw'
      simp [hwa, hwd, Hp.at_app, Hp.at_set, t1, b14, set_in']
      have hF := (Fr.one H4 (H.length + 1) (some ⟨[[wa, .sl wl 0 3, .sl ws 0 3, .int .i64 x.keep, .int .i64 x.time, wd]], 6, 65, false⟩)).app
      refine ⟨hm.fr (hF _) (fun y ob hy ho => ?_), hst, ((hle13.fr (S := stOf _)).same hfr).trans (hF _) (fun y hy => .inr (by rw [hy]; omega))⟩
      rw [hy, b14] at ho
      cases ho
      rfl
    | none =>
      have hint : intoR 0 s es = none := by rw [intoR, ← hlvd, h1]
      rw [h1] at hp
      obtain ⟨rfl, hle4⟩ := hp
      rw [hint]
      have t13 := Hp.at_lt b13
      have b14 := hle4.2 _ _ b13
      have t1 := Hp.at_lt b14
      simp [Hp.at_app, Hp.at_set, t1, b14, set_in']
      exact (((hle13.trans hle4).fr (S := stOf _)).set (.inr (by omega)) _).app _
  | succ n ih =>
  intro hn v r s es H0 H hs hle0 hr hes hlev htm
  have hs0 := hs
  have hobj := hs.obj
  have hlt := fun x => hs.lt (x := x)
  obtain ⟨a, ol, os, d, lr, sr, rfl, ha, hlv, hlr, hsv, hsr, hd, hdo, hol, hos, hl3, hs3⟩ := hs
  refine AC_by fol (tC_le tab2_ok) h_spec_l12Into ?_
  obtain ⟨e1, obl, k1, k2, k3, k4, k5, k6⟩ := hlv.ob
  have hlr3 : lr.length = 3 := by omega
  have hlo : ol < H.length := Hp.at_lt k1
  obtain ⟨lvl, hlvl⟩ : ∃ lvl, lvl = 2 - (n + 1) := ⟨_, rfl⟩
  rw [← hlvl]
  have hl2 : lvl < 2 := by omega
  have hl1n : 1 - n = lvl := by omega
  obtain ⟨u, hu, hue⟩ := hlr.get lvl (by omega) (by omega)
  have k7 : obl.rows[lvl]? = some [u] := by
    have : (obl.rows.take lr.length)[lvl]? = lr[lvl]? := by rw [k6]
    rw [List.getElem?_take, if_pos (by omega)] at this
    rw [this, List.getElem?_eq_getElem (by omega), hu]
  have hg : s.lev.getD lvl [] = s.lev[lvl]'(by omega) := by
    rw [List.getD_eq_getElem?_getD, List.getElem?_eq_getElem (by omega)]
    rfl
  have hlm := hlev _ (List.getElem_mem (show lvl < s.lev.length by omega))
  rw [← hg] at hlm hue
  obtain ⟨lv, hlvd⟩ : ∃ lv, lv = s.lev.getD lvl [] := ⟨_, rfl⟩
  rw [← hlvd] at hlm hue
  simp only [stAV, hl3, hs3] at hs0 hobj hlt ⊢
  obtain ⟨H1, hH1⟩ : ∃ H1, H1 = H ++ [some ⟨[[a, .sl ol 0 3, .sl os 0 3, .int .i64 s.keep, .int .i64 s.time, d]], 6, 65, false⟩, some ⟨[[.nils, .nils, .nils, .int .i64 0, .int .i64 0, .nils]], 6, 65, false⟩] := ⟨_, rfl⟩
  have hle1 : HLe H H1 := by rw [hH1]; exact HLe.self _ _
  have b0 : H1.at H.length = some ⟨[[a, .sl ol 0 3, .sl os 0 3, .int .i64 s.keep, .int .i64 s.time, d]], 6, 65, false⟩ := by rw [hH1]; simp
  have b1 : H1.at (H.length + 1) = some ⟨[[.nils, .nils, .nils, .int .i64 0, .int .i64 0, .nils]], 6, 65, false⟩ := by rw [hH1]; simp
  have hl1 : H1.length = H.length + 2 := by rw [hH1]; simp
  have hiI : (lvl : Int) ≠ 2 := by omega
  have hi3 : (lvl : Int) < 3 := by omega
  have g1 := hle1.2 _ _ k1
  simp [c_spec_l12Into, ha.rows.one, hd.rows.one, ← hH1, b0, hiI, hi3, g1, k3, k7]
  refine cg_ex (l11Join_ok r u es lv H1 (hr.le hle1) (hue.le hle1) (by have := hes.1; have := hlm.1; omega)) ?_
  rintro v2 H2 ⟨hle2, hj⟩
  have b02 := hle2.2 _ _ b0
  simp [b02]
  refine cg_ex (l11Trim_ok v2 d (joinL es lv) s.tms false H2 hj.ents ((hd.le hle1).le hle2).ints (hes.join hlm).1 (by omega)) ?_
  rintro v3 H3 ⟨hle3, hq⟩
  have b03 := hle3.2 _ _ b02
  have b13 := hle3.2 _ _ (hle2.2 _ _ b1)
  have hle13 := (hle1.trans hle2).trans hle3
  have hes3 : EsB (trimR (joinL es lv) s.tms false) := (hes.join hlm).sub (trimR_sub _ _ _)
  simp [b03]
  refine cg_ex (l12Set_ok _ v3 s lvl _ H0 H3 (hs0.le hle13) (hle0.trans hle13) hq.ents hes3 (by omega)) ?_
  intro v4 H4 hp
  cases h1 : setR s lvl (trimR (joinL es lv) s.tms false) with
  | some x =>
    have hint : intoR (n + 1) s es = some x := by rw [intoR, hl1n, ← hlvd, h1]
    rw [h1] at hp
    obtain ⟨w, rfl, hm, hst, hfr⟩ := hp
    rw [hint]
    have n0 : ∀ y, H.length ≤ y → y < H3.length → ¬ stOf (.ag [a, .sl ol 0 3, .sl os 0 3, .int .i64 s.keep, .int .i64 s.time, d]) y := fun y h1 h2 h3 => by have := hlt y h3; omega
    have t03 := Hp.at_lt b03
    have t13 := Hp.at_lt b13
    have b04 := hfr.2 _ _ (n0 _ (by omega) t03) b03
    have b14 := hfr.2 _ _ (n0 _ (by omega) t13) b13
    have t0 := Hp.at_lt b04
    have t1 := Hp.at_lt b14
    obtain ⟨wa, wl, ws, wd, hw, hwa, hwd, hwi⟩ := hm.shape
    have hw' := hw
    subst hw'
    simp [hwa, hwd, Hp.at_app, Hp.at_set, t1, b14, set_in']
    have hF := (Fr.one H4 (H.length + 1) (some ⟨[[wa, .sl wl 0 3, .sl ws 0 3, .int .i64 x.keep, .int .i64 x.time, wd]], 6, 65, false⟩)).app
    refine ⟨hm.fr (hF _) (fun y ob hy ho => ?_), hst, ((hle13.fr (S := stOf _)).same hfr).trans (hF _) (fun y hy => .inr (by rw [hy]; omega))⟩
    rw [hy, b14] at ho
    cases ho
    rfl
  | none =>
    rw [h1] at hp
    obtain ⟨rfl, hle4⟩ := hp
    have t03 := Hp.at_lt b03
    have t13 := Hp.at_lt b13
    have b04 := hle4.2 _ _ b03
    have b14 := hle4.2 _ _ b13
    have g14 := (hle13.trans hle4).2 _ _ k1
    have t0 := Hp.at_lt b04
    have t1 := Hp.at_lt b14
    have tl := Hp.at_lt g14
    simp [Hp.at_app, t0, t1, tl, b14, b04, g14, set_in', k3, k7, hi3]
    have hwr : IntKind.i64.wrap ((lvl : Int) + 1) = ((2 - n : Nat) : Int) := by
      rw [wrapN (by omega)]
      congr 1
      omega
    rw [hwr]
    have hle14 := hle13.trans hle4
    refine cg_ex (ih (by omega) _ u s lv H0 _ ((hs0.le hle14).le (HLe.self _ _)) ((hle0.trans hle14).app _) ((hue.le hle14).le (HLe.self _ _)) hlm hlev htm) ?_
    intro v5 H5 hp
    have n0 : ∀ y, H.length ≤ y → ¬ stOf (.ag [a, .sl ol 0 3, .sl os 0 3, .int .i64 s.keep, .int .i64 s.time, d]) y := fun y h1 h3 => by have := hlt y h3; omega
    have nn : H.length ≠ H.length + 1 := by omega
    cases h2 : intoR n s lv with
    | none =>
      have hint : intoR (n + 1) s es = none := by rw [intoR, hl1n, ← hlvd, h1, h2]
      rw [h2] at hp
      obtain ⟨rfl, hfr⟩ := hp
      rw [hint]
      have b05 := hfr.2 _ _ (n0 _ (by omega)) ((HLe.self H4 _).2 _ _ b04)
      have b15 := hfr.2 _ _ (n0 _ (by omega)) ((HLe.self H4 _).2 _ _ b14)
      have u0 := Hp.at_lt b05
      have u1 := Hp.at_lt b15
      simp [b05, b15, Hp.at_set_ne, Hp.at_set, List.length_set, nn, nn.symm, u0, u1]
      exact ((((hle14.app _).fr (S := stOf _)).same hfr).set (.inr (by omega)) _).set (.inr (by omega)) _
    | some x =>
      have hint : intoR (n + 1) s es = setR x lvl (trimR es x.tms false) := by rw [intoR, hl1n, ← hlvd, h1, h2]
      rw [h2] at hp
      obtain ⟨w, rfl, hm, hst, hfr⟩ := hp
      rw [hint]
      obtain ⟨wa, wl, ws, wd, hw, hwa, hwd, hwi⟩ := hm.shape
      have hw' := hw
      subst hw'
      have b05 := hfr.2 _ _ (n0 _ (by omega)) ((HLe.self H4 _).2 _ _ b04)
      have b15 := hfr.2 _ _ (n0 _ (by omega)) ((HLe.self H4 _).2 _ _ b14)
      have u0 := Hp.at_lt b05
      have u1 := Hp.at_lt b15
      simp [hwa, hwd, b05, Hp.at_set, u0]
      have hF5 := Fr.one H5 H.length (some ⟨[[wa, .sl wl 0 3, .sl ws 0 3, .int .i64 x.keep, .int .i64 x.time, wd]], 6, 65, false⟩)
      have hm6 := hm.fr hF5 (fun y ob hy ho => by rw [hy, b05] at ho; cases ho; rfl)
      have hr5 : Ents H5 r es := Rows.frz (hr.le (hle14.app _)) hfr (((hs0.le hle14).le (HLe.self _ _)).ne4)
      have hr6 := Rows.frz hr5 hF5 (fun y ob hy ho => by rw [hy, b05] at ho; cases ho; simp)
      have hx5 := (intoR_tms h2).1
      obtain ⟨_, _, _, _, hw7, _, _, hwi6⟩ := hm6.shape
      cases hw7
      refine cg_ex (l11Trim_ok r wd es x.tms false _ hr6 hwi6.ints hes.big.1 (by rw [hx5]; omega)) ?_
      rintro v7 H7 ⟨hle7, hq7⟩
      have b07 := hle7.2 _ _ (Hp.at_set _ u0)
      have b17 := hle7.2 _ _ ((Hp.at_set_ne nn).trans b15)
      simp [b07]
      have hle07 := ((((hle0.trans hle14).app _).fr_le hfr (fun y hy => (hobj y hy).1)).fr_le hF5 (fun y hy => by rw [hy]; exact hle0.1)).trans hle7
      have hF7 := ((((hle14.app _).fr (S := stOf _)).same hfr).trans hF5 (fun y hy => .inr (by rw [hy]; omega))).le_fr hle7
      refine cg_ex (l12Set_ok _ v7 x lvl _ H0 H7 (hm6.le hle7) hle07 hq7.ents (hes.big.sub (trimR_sub _ _ _)) (by omega)) ?_
      intro v8 H8 hp8
      have t17 := Hp.at_lt b17
      cases h3 : setR x lvl (trimR es x.tms false) with
      | none =>
        rw [h3] at hp8
        obtain ⟨rfl, hle8⟩ := hp8
        have b18 := hle8.2 _ _ b17
        have u1 := Hp.at_lt b18
        simp [b18, Hp.at_set, u1]
        exact (hF7.le_fr hle8).set (.inr (by omega)) _
      | some y =>
        rw [h3] at hp8
        obtain ⟨w8, rfl, hm8, hst8, hfr8⟩ := hp8
        have b18 := hfr8.2 _ _ (fun h => n0 _ (Nat.le_succ _) (hst ▸ h)) b17
        have u1 := Hp.at_lt b18
        obtain ⟨xa, xl, xs, xd, hx, hxa, hxd, hxi⟩ := hm8.shape
        subst hx
        simp [hxa, hxd, b18, Hp.at_set, u1]
        have hF8 := Fr.one H8 (H.length + 1) (some ⟨[[xa, .sl xl 0 3, .sl xs 0 3, .int .i64 y.keep, .int .i64 y.time, xd]], 6, 65, false⟩)
        exact ⟨hm8.fr hF8 (fun z ob hz ho => by rw [hz, b18] at ho; cases ho; rfl), hst8.trans hst, (hF7.same (hst ▸ hfr8)).trans hF8 (fun z hz => .inr (by rw [hz]; omega))⟩

end Go.Proofs.Ytkdnijiipegabaa.B

namespace Go.Proofs.Ytkdnijiipegabaa.B
open Go.RowKit Go.Proofs
set_option linter.unusedVariables false
set_option linter.unusedSimpArgs false

theorem addBs_len (d : Nat) : ∀ (gs : List (List ByteArray)) (b : Bool) (s : Sv), (addBs d b s gs).r.length ≤ s.r.length + gs.length
  | [], b, s => Nat.le_refl _
  | g :: gs, b, s => by
    have h := addBs_len d gs false (addB d b s g)
    have h2 : (addB d b s g).r.length ≤ s.r.length + 1 := by
      simp only [addB]
      split <;> simp
    simp only [addBs, List.length_cons]
    omega
theorem bfs_len : ∀ (n : Nat) (q : List Fk) (s : Sv), (∀ f ∈ q, f.1.length ≤ 24) → (bfs n q s).r.length ≤ s.r.length + n * 24
  | 0, q, s, h => by simp [bfs]
  | n + 1, [], s, h => by simp [bfs]
  | n + 1, (ks, d) :: q, s, h => by
    have hk : ks.length ≤ 24 := h (ks, d) (List.mem_cons_self ..)
    have h1 := bfs_len n (q ++ subs d (brs d ks)) (addBs d true s (brs d ks)) (fun f hf => (List.mem_append.1 hf).elim (fun hf => h f (List.mem_cons_of_mem _ hf)) (subs_len hk f))
    have h2 := addBs_len d (brs d ks) true s
    have h3 := (brs_sum _ d ks (Nat.le_refl _)).2
    simp only [bfs]
    omega
theorem sieveO_len {ks : List ByteArray} {keep : Int} {x : Sv} (h : sieveO ks keep = some x) : x.r.length ≤ 12000 := by
  unfold sieveO at h
  split at h
  · rename_i hc
    cases h
    have := bfs_len 500 [(ks, 0)] ⟨⟨#[]⟩, ⟨#[]⟩, ⟨#[]⟩, [], keep⟩ (fun f hf => by
      simp at hf
      subst hf
      exact (keysOk_good hc.1).2)
    simpa [sieveR] using this
  · cases h

def Small (s : Sr) : Prop := SmB s.top ∧ (∀ l ∈ s.lev, SmB l) ∧ s.tms.length ≤ 1000 ∧ (∀ t ∈ s.tms, I64 t) ∧ (∀ x ∈ s.sv, x.r.length ≤ 12000) ∧ I64 s.time ∧ I64 s.keep ∧ s.lev.length = 3 ∧ s.sv.length = 3
theorem Small.stB {s : Sr} (h : Small s) : StB s := by
  obtain ⟨h1, h2, h3, h4, h5, h6, h7, h8, h9⟩ := h
  exact ⟨h1.big, fun l hl => (h2 l hl).big, by omega, by omega, by omega, fun x hx => by have := h5 x hx; omega, h6, h7, h4⟩
theorem asc1_bnd (now : Int) : ∀ (p : Option Int) (ts : List Int), asc1 now p ts = true → ∀ t ∈ ts, 0 ≤ t ∧ t ≤ now
  | _, [], _ => by simp
  | p, t :: ts, h => by
    simp only [asc1, Bool.and_eq_true, decide_eq_true_eq] at h
    intro u hu
    rcases List.mem_cons.1 hu with rfl | hu
    · exact h.1.1
    · exact asc1_bnd now (some t) ts h.2 u hu
theorem getD_get {α : Type} {xs : List α} {i : Nat} (d : α) (h : i < xs.length) : xs.getD i d = xs[i] := by
  rw [List.getD_eq_getElem?_getD, List.getElem?_eq_getElem h]
  rfl
theorem storeOk_small {s : Sr} (h : storeOk s = true) : Small s := by
  simp only [storeOk, headOk, timesR, Bool.and_eq_true, decide_eq_true_eq] at h
  obtain ⟨⟨⟨⟨⟨⟨h1, h2⟩, h3⟩, h4⟩, h5, h6⟩, h7, h8⟩, h9⟩ := h
  have lv : ∀ i, i < 3 → levelOk s i = true := by
    intro i hi
    match i, hi with
    | 0, _ => exact h9.1.1
    | 1, _ => exact h9.2.1.1
    | 2, _ => exact h9.2.2.1
  have lv2 : ∀ i (hi : i < 3), SmB (s.lev[i]'(by omega)) ∧ (s.sv[i]'(by omega)).r.length ≤ 12000 := by
    intro i hi
    have := lv i hi
    simp only [levelOk, Bool.and_eq_true, decide_eq_true_eq, getD_get (xs := s.lev) (i := i) [] (by omega), getD_get (xs := s.sv) (i := i) default (by omega)] at this
    obtain ⟨⟨g1, g2⟩, g3⟩ := this
    exact ⟨⟨by unfold sizeL at g2; omega, (runOk_fits g1).1⟩, sieveO_len g3⟩
  refine ⟨⟨by omega, (runOk_fits h7).1⟩, fun l hl => ?_, by omega, fun t ht => ?_, fun x hx => ?_, ⟨by omega, by omega⟩, ⟨by omega, by omega⟩, h1, h2⟩
  · obtain ⟨i, hi, rfl⟩ := List.mem_iff_getElem.1 hl
    exact (lv2 i (by omega)).1
  · have := asc1_bnd _ _ _ h5 t ht
    exact ⟨by omega, by omega⟩
  · obtain ⟨i, hi, rfl⟩ := List.mem_iff_getElem.1 hx
    exact (lv2 i (by omega)).2
theorem setR_small {s x : Sr} {i : Nat} {es : List Ent} (h : Small s) (hi : i < 3) (he : Fits es) (hx : setR s i es = some x) : Small x := by
  obtain ⟨h1, h2, h3, h4, h5, h6, h7, h8, h9⟩ := h
  unfold setR at hx
  split at hx
  · cases hx
  · rename_i y hy
    split at hx
    · rename_i hl
      cases hx
      refine ⟨h1, fun l hl' => ?_, h3, h4, fun z hz => ?_, h6, h7, by simpa using h8, by simpa using h9⟩
      · rcases List.mem_or_eq_of_mem_set hl' with h | rfl
        · exact h2 l h
        · exact ⟨by unfold sizeL at hl; omega, he⟩
      · rcases List.mem_or_eq_of_mem_set hz with h | rfl
        · exact h5 z h
        · exact sieveO_len hy
    · cases hx
theorem Fits.trim {r : List Ent} (h : Fits r) (ts : List Int) (b : Bool) : Fits (trimR r ts b) := fun e he => h e ((trimR_sub r ts b).subset he)
theorem Fits.join {xs ys : List Ent} (h : Fits xs) (k : Fits ys) : Fits (joinL xs ys) := fun e he => (joinL_mem he).elim (h e) (k e)
theorem Small.lv {s : Sr} (h : Small s) (i : Nat) : SmB (s.lev.getD i []) := by
  rcases Nat.lt_or_ge i s.lev.length with hi | hi
  · rw [getD_get [] hi]
    exact h.2.1 _ (List.getElem_mem hi)
  · rw [List.getD_eq_getElem?_getD, List.getElem?_eq_none hi]
    exact ⟨by simp, fun e he => by simp at he⟩
theorem intoR_small : ∀ {n : Nat} {s x : Sr} {r : List Ent}, Small s → Fits r → intoR n s r = some x → Small x
  | 0, s, x, r, h, hr, hx => setR_small h (by omega) (Fits.trim (hr.join (h.lv 2).2) _ _) hx
  | n + 1, s, x, r, h, hr, hx => by
    unfold intoR at hx
    split at hx
    · rename_i y hy
      cases hx
      exact setR_small h (i := 1 - n) (by omega) (Fits.trim (hr.join (h.lv (1 - n)).2) _ _) hy
    · split at hx
      · cases hx
      · rename_i y hy
        exact setR_small (intoR_small h (h.lv (1 - n)).2 hy) (by omega) (Fits.trim hr _ _) hx
theorem downR_small {s x : Sr} (h : Small s) (hx : downR s = some x) : Small x := by
  refine intoR_small ?_ h.1.2 hx
  exact ⟨⟨by simp, fun e he => by simp at he⟩, h.2⟩
theorem addR_small {s x : Sr} {e : Ent} (hx : addR s e = some x) : Small x := by
  unfold addR at hx
  split at hx
  · rename_i hc
    simp only [Bool.and_eq_true] at hc
    have hs := storeOk_small hc.1
    have he := (entOk_fit hc.2).1
    have fin : ∀ y, Small y → y.top.length ≤ 10 → Small { y with top := joinL [e] y.top, time := e.time } := by
      rintro y ⟨h1, h2, h3, h4, h5, h6, h7⟩ hl
      refine ⟨⟨by rw [joinL_len]; simp; omega, Fits.join (fun f hf => ?_) h1.2⟩, h2, h3, h4, h5, he.2.2, h7⟩
      simp at hf
      rw [hf]
      exact he
    split at hx
    · cases hx
    · rename_i y hy
      cases hx
      split at hy
      · refine fin y (downR_small hs hy) ?_
        rw [(intoR_tms hy).2.1]
        simp
      · cases hy
        exact fin _ hs (by omega)
  · cases hx
theorem doR_small {s x : Sr} {d : Dd} (hx : doR s d = some x) : Small x := by
  unfold doR at hx
  split at hx
  · exact addR_small hx
  split at hx
  · exact addR_small hx
  split at hx
  · unfold holdR at hx
    split at hx
    · rename_i hc
      have hs := storeOk_small hc
      simp only at hx
      generalize (if s.tms.getLast? = some s.time then s.tms else s.tms ++ [s.time]) = ts at hx
      split at hx
      · rename_i ht
        cases hx
        simp only [timesR, Bool.and_eq_true, decide_eq_true_eq] at ht
        obtain ⟨h1, h2, h3, h4, h5, h6, h7⟩ := hs
        refine ⟨h1, h2, by dsimp only; omega, fun t hh => ?_, h5, h6, h7⟩
        have := asc1_bnd _ _ _ ht.1 t hh
        have := h6.2
        exact ⟨by omega, by dsimp only at *; omega⟩
      · cases hx
    · cases hx
  split at hx
  · unfold freeR at hx
    split at hx
    · rename_i hc
      obtain ⟨h1, h2, h3, h4, h5, h6, h7⟩ := storeOk_small hc
      simp only at hx
      split at hx
      · cases hx
      · cases hx
        refine ⟨h1, h2, Nat.le_trans (List.length_filter_le _ _) h3, fun t ht => h4 t (List.mem_filter.1 ht).1, h5, h6, h7⟩
    · cases hx
  split at hx
  · unfold letR at hx
    split at hx
    · exact downR_small (storeOk_small (by assumption)) hx
    · cases hx
  split at hx
  · unfold joinR at hx
    split at hx
    · rename_i hc
      have hs := storeOk_small hc.1
      split at hx
      · cases hx
      · rename_i y hy
        exact intoR_small (setR_small hs (by omega) (fun e he => by simp at he) hy) (hs.lv _).2 hx
    · cases hx
  · cases hx
theorem newR_small {k : Int} {s : Sr} (h : newR k = some s) : Small s := by
  unfold newR at h
  split at h
  · cases h
    refine ⟨⟨by simp, fun e he => by simp at he⟩, fun l hl => ?_, by simp, by simp, fun x hx => ?_, ⟨by simp, by simp⟩, ⟨by dsimp only; omega, by dsimp only; omega⟩, rfl, by simp⟩
    · simp at hl
      subst hl
      exact ⟨by simp, fun e he => by simp at he⟩
    · have := List.eq_of_mem_replicate hx
      subst this
      simp
  · cases h

end Go.Proofs.Ytkdnijiipegabaa.B

namespace Go.Proofs.Ytkdnijiipegabaa.B
open Go.RowKit Go.Proofs
set_option linter.unusedVariables false
set_option linter.unusedSimpArgs false
variable {E : Env}

/-- A store, or none. -/
def RetS (H0 H : Hp) (u : AV) (o : Option Sr) : Prop := HLe H0 H ∧ match o with
  | some x => ∃ w, u = .tu [w, .bool true] ∧ MSt H0 H w x
  | none => u = .tu [zst, .bool false]
theorem MSt.base {H0 H1 H : Hp} {v : AV} {s : Sr} (h : MSt H1 H v s) (hl : H0.length ≤ H1.length) : MSt H0 H v s := by
  obtain ⟨a, ol, os, d, lr, sr, rfl, ha, hlv, hlr, hsv, hsr, hd, hdo, hol, hos, hl3, hs3⟩ := h
  exact ⟨a, ol, os, d, lr, sr, rfl, ha.base hl, hlv, hlr, hsv, hsr, hd.base hl, hdo, Nat.le_trans hl hol, Nat.le_trans hl hos, hl3, hs3⟩
theorem RetS.fin {S : Nat → Prop} {H0 H1 H2 H3 : Hp} {u : AV} {o : Option Sr} (h : RetS H1 H2 u o) (hle : HLe H0 H1) (hf : Fr S H2 H3) (hS : ∀ x ob, S x → H2.at x = some ob → ob.esz = 6) (hS2 : ∀ x, S x → H0.length ≤ x) : RetS H0 H3 u o := by
  obtain ⟨h1, h2⟩ := h
  refine ⟨(hle.trans h1).fr_le hf hS2, ?_⟩
  cases o with
  | none => exact h2
  | some x =>
    obtain ⟨w, e, hm⟩ := h2
    exact ⟨w, e, (hm.fr hf hS).base hle.1⟩
theorem RetS.shape {H0 H : Hp} {u : AV} {o : Option Sr} (h : RetS H0 H u o) : ∃ a b c k t d, u = .tu [.ag [a, b, c, k, t, d], .bool o.isSome] ∧ one a = true ∧ one b = true ∧ one c = true ∧ one k = true ∧ one t = true ∧ one d = true := by
  obtain ⟨_, h⟩ := h
  cases o with
  | none => exact ⟨_, _, _, _, _, _, h, by simp⟩
  | some x =>
    obtain ⟨w, e, hm⟩ := h
    obtain ⟨a, ol, os, d, rfl, h1, h2, _⟩ := hm.shape
    exact ⟨_, _, _, _, _, _, e, h1, by simp, by simp, by simp, by simp, h2⟩
theorem MSt.upd {H0 H : Hp} {a d a' d' : AV} {ol os : Nat} {s : Sr} {tp : List Ent} {ts : List Int} (t : Int) (h : MSt H0 H (.ag [a, .sl ol 0 3, .sl os 0 3, .int .i64 s.keep, .int .i64 s.time, d]) s) (ha : OwnE H0 H a' tp) (hd : OwnI H0 H d' ts) (hdo : ¬ d'.of ol) (hdd : ∀ y, d'.of y → d.of y) :
    MSt H0 H (.ag [a', .sl ol 0 3, .sl os 0 3, .int .i64 s.keep, .int .i64 t, d']) { s with top := tp, time := t, tms := ts } := by
  obtain ⟨a2, ol2, os2, d2, lr, sr, hv, ha2, hlv, hlr, hsv, hsr, hd2, hdo2, hol, hos, hl3, hs3⟩ := h
  simp only [stAV, hl3, hs3, AV.ag.injEq, List.cons.injEq, AV.sl.injEq, and_true, true_and] at hv
  obtain ⟨rfl, rfl, rfl, rfl⟩ := hv
  exact ⟨a', ol, os, d', lr, sr, by simp [stAV, hl3, hs3], ha, hlv, hlr, hsv, All2.mono (fun row sv h => by
    obtain ⟨r, e1, e2, e3⟩ := h
    exact ⟨r, e1, e2, fun x hx hh => e3 x hx (hh.imp id (hdd x))⟩) hsr, hd, hdo, hol, hos, hl3, hs3⟩
/-- Other times. -/
theorem MSt.app {H0 H H' : Hp} {a d d' : AV} {ol os : Nat} {s : Sr} {ts : List Int} (h : MSt H0 H (.ag [a, .sl ol 0 3, .sl os 0 3, .int .i64 s.keep, .int .i64 s.time, d]) s) (hf : Fr d.of H H') (hd : OwnI H0 H' d' ts) (hdd : ∀ y, d'.of y → d.of y ∨ H.length ≤ y) :
    MSt H0 H' (.ag [a, .sl ol 0 3, .sl os 0 3, .int .i64 s.keep, .int .i64 s.time, d']) { s with tms := ts } := by
  obtain ⟨a2, ol2, os2, d2, lr, sr, hv, ha2, hlv, hlr, hsv, hsr, hd2, hdo2, hol, hos, hl3, hs3⟩ := h
  simp only [stAV, hl3, hs3, AV.ag.injEq, List.cons.injEq, AV.sl.injEq, and_true, true_and] at hv
  obtain ⟨rfl, rfl, rfl, rfl⟩ := hv
  refine ⟨a, ol, os, d', lr, sr, by simp [stAV, hl3, hs3], ha2.fr hf (fun x hx hs => ha2.rows.apart hd2.rows (by simp) hx hs), hlv.fr hf (fun x hx hs => hdo2 (by rw [show ol = x from hx]; exact hs)), All2.mono (fun _ _ h => h.fr hf (fun x ob hs ho => by rw [hd2.1.esz hs ho]; decide)) hlr,
    hsv.fr hf (fun x hx hs => hsv.rows.apart hd2.rows (by simp) hx hs), All2.mono (fun row sv h => SvRow.fr h hf (fun x ob hs ho => .inr (.inr hs)) (fun x hx hx' => hx'.imp id (fun h => (hdd x h).elim id (fun h => by omega)))) hsr, hd, fun hy => ?_, hol, hos, hl3, hs3⟩
  rcases hdd _ hy with h | h
  · exact hdo2 h
  · have := hlv.lt (o := ol) rfl
    omega
theorem MSt.parts {H0 H : Hp} {a d : AV} {ol os : Nat} {s : Sr} {k t : AV} (h : MSt H0 H (.ag [a, .sl ol 0 3, .sl os 0 3, k, t, d]) s) : OwnE H0 H a s.top ∧ OwnI H0 H d s.tms ∧ ¬ d.of ol := by
  obtain ⟨a2, ol2, os2, d2, lr, sr, hv, ha2, hlv, hlr, hsv, hsr, hd2, hdo2, hol, hos, hl3, hs3⟩ := h
  simp only [stAV, hl3, hs3, AV.ag.injEq, List.cons.injEq, AV.sl.injEq, and_true, true_and] at hv
  obtain ⟨rfl, rfl, rfl, rfl, rfl, rfl⟩ := hv
  exact ⟨ha2, hd2, hdo2⟩
theorem l12Into_ret (n : Nat) (hn : n ≤ 2) (v r : AV) (s : Sr) (es : List Ent) (H0 H : Hp) (hs : MSt H0 H v s) (hle : HLe H0 H) (hr : Ents H r es) (hes : SmB es) (hl : ∀ l ∈ s.lev, SmB l) (ht : s.tms.length ≤ 1000) :
    AC Try.prog E 92 [v, .int .i64 ((2 - n : Nat) : Int), r] H (fun u H' => RetS H0 H' u (intoR n s es) ∧ Fr (stOf v) H H') := by
  refine AC.mono (l12Into_ok n hn v r s es H0 H hs hle hr hes hl ht) (fun u H' h => ?_)
  cases hi : intoR n s es with
  | none =>
    rw [hi] at h
    exact ⟨⟨hle.fr_le h.2 (fun x hx => (hs.obj x hx).1), h.1⟩, h.2⟩
  | some x =>
    rw [hi] at h
    obtain ⟨w, e, hm, _, hf⟩ := h
    exact ⟨⟨hle.fr_le hf (fun x hx => (hs.obj x hx).1), w, e, hm⟩, hf⟩

theorem l12Down_ok (v : AV) (s : Sr) (H0 H : Hp) (hs : MSt H0 H v s) (hle0 : HLe H0 H) (hb : Small s) :
    AC Try.prog E 90 [v] H (fun u H' => RetS H0 H' u (downR s) ∧ Fr (stOf v) H H') := by
  have hlt := fun x => hs.lt (x := x)
  have hobj := hs.obj
  obtain ⟨a, ol, os, d, rfl, ha1, hd1, hdi⟩ := hs.shape
  refine AC_by fol (tC_le tab2_ok) h_spec_l12Down ?_
  simp [c_spec_l12Down, ha1, hd1]
  obtain ⟨p1, p2, p3⟩ := hs.parts
  refine cg_ex (l12Into_ret 2 (by omega) _ a { s with top := [] } s.top H0 _ ((hs.le (HLe.self H _)).upd (tp := []) (ts := s.tms) s.time ⟨Own.obj (R := []) (by simp) rfl, fun x hx => by simp at hx; have := hle0.1; omega⟩ (p2.le (HLe.self _ _)) p3 (fun _ h => h)) (hle0.app _) (p1.ents.le (HLe.self _ _)) hb.1 hb.2.1 hb.2.2.1) ?_
  rintro v2 H2 ⟨hret, hF⟩
  obtain ⟨xa, xb, xc, xk, xt, xd, rfl, o1, o2, o3, o4, o5, o6⟩ := hret.shape
  have b1 := hF.2 (H.length + 1) ⟨[[.nils, .nils, .nils, .int .i64 0, .int .i64 0, .nils]], 6, 65, false⟩ (fun h => by have := hlt _ h; omega) (by simp)
  have u1 := Hp.at_lt b1
  simp [o1, o2, o3, o4, o5, o6, b1, Hp.at_set, u1]
  have hF2 := Fr.one H2 (H.length + 1) (some ⟨[[xa, xb, xc, xk, xt, xd]], 6, 65, false⟩)
  exact ⟨hret.fin (HLe.refl _) hF2 (fun x ob hx ho => by rw [hx, b1] at ho; cases ho; rfl) (fun x hx => by rw [hx]; have := hle0.1; omega), (((HLe.self H _).fr (S := stOf _)).same hF).trans hF2 (fun x hx => .inr (by rw [hx]; omega))⟩

end Go.Proofs.Ytkdnijiipegabaa.B

namespace Go.Proofs.Ytkdnijiipegabaa.B
open Go.RowKit Go.Proofs
set_option linter.unusedVariables false
set_option linter.unusedSimpArgs false
variable {E : Env}

theorem St.shape {H : Hp} {v : AV} {s : Sr} (h : St H v s) : ∃ a b c d, v = .ag [a, b, c, .int .i64 s.keep, .int .i64 s.time, d] ∧ one a = true ∧ one b = true ∧ one c = true ∧ one d = true ∧ Ents H a s.top ∧ Ints H d s.tms := by
  obtain ⟨a, b, c, d, lr, sr, rfl, ha, hb1, hlr, hc, hsr, hd⟩ := h
  exact ⟨a, b, c, d, rfl, ha.one, hb1.one, hc.one, hd.one, ha, hd⟩
theorem addR_no {s : Sr} {e : Ent} (h : (storeOk s && entOk e) = false) : addR s e = none := by simp [addR, h]

theorem l12Add_ok (v : AV) (s : Sr) (e : Ent) (H : Hp) (hs : St H v s) (hb : StB s) (hk : e.key.size < 4611686018427387904) :
    AC Try.prog E 89 [v, .ag (entRow e)] H (fun u H' => RetS H H' u (addR s e)) := by
  have hs0 := hs
  obtain ⟨a, b, c, d, rfl, n1, n2, n3, n4, hea, hed⟩ := hs.shape
  refine AC_by fol (tC_le tab2_ok) h_spec_l12Add ?_
  obtain ⟨H1, hH1⟩ : ∃ H1, H1 = H ++ [some ⟨[[a, b, c, .int .i64 s.keep, .int .i64 s.time, d]], 6, 65, false⟩, some ⟨[[.str e.key, .int .i64 e.val, .bool e.gone, .int .i64 e.time]], 4, 72, false⟩, some ⟨[[.nils, .nils, .nils, .int .i64 0, .int .i64 0, .nils]], 6, 65, false⟩] := ⟨_, rfl⟩
  have hle1 : HLe H H1 := by rw [hH1]; exact HLe.self _ _
  have b0 : H1.at H.length = some ⟨[[a, b, c, .int .i64 s.keep, .int .i64 s.time, d]], 6, 65, false⟩ := by rw [hH1]; simp
  have b1 : H1.at (H.length + 1) = some ⟨[[.str e.key, .int .i64 e.val, .bool e.gone, .int .i64 e.time]], 4, 72, false⟩ := by rw [hH1]; simp
  have b2 : H1.at (H.length + 2) = some ⟨[[.nils, .nils, .nils, .int .i64 0, .int .i64 0, .nils]], 6, 65, false⟩ := by rw [hH1]; simp
  have hl1 : H1.length = H.length + 3 := by rw [hH1]; simp
  have eR : entRow e = [.str e.key, .int .i64 e.val, .bool e.gone, .int .i64 e.time] := rfl
  have u2 := Hp.at_lt b2
  simp [c_spec_l12Add, n1, n2, n3, n4, ← hH1, b0, eR]
  refine cg_use (StoreOk_ok _ s H1 (hs0.le hle1) hb) ?_
  cases hso : storeOk s with
  | false =>
    simp [b2, Hp.at_set, u2, addR_no (e := e) (s := s) (by simp [hso]), RetS]
    exact hle1.set (by omega) _
  | true =>
  have eta : (⟨e.key, e.val, e.gone, e.time⟩ : Ent) = e := rfl
  simp [b1, tab2_ok1 _ _ _ _ _ _ _ _ _ _ _ hk]
  cases heo : entOk e with
  | false =>
    simp [heo, b2, Hp.at_set, u2, addR_no (e := e) (s := s) (by simp [heo]), RetS]
    exact hle1.set (by omega) _
  | true =>
  have hsm := storeOk_small hso
  simp [heo, b0]
  refine cg_ex (l12Copy_ok _ s H1 (hs0.le hle1) hb hsm.2.2.2.2.2.2.2.1 hsm.2.2.2.2.2.2.2.2) ?_
  rintro v2 H2 ⟨hle2, hm2⟩
  obtain ⟨xa, xl, xs, xd, rfl, xn1, xn2, xdi⟩ := hm2.shape
  have b02 := hle2.2 _ _ b0
  have b12 := hle2.2 _ _ b1
  have b22 := hle2.2 _ _ b2
  have u0 := Hp.at_lt b02
  have u1 := Hp.at_lt b12
  have u2 := Hp.at_lt b22
  have m02 : H.length ≠ H.length + 2 := by omega
  have m01 : H.length ≠ H.length + 1 := by omega
  have hp2 := hm2.parts
  simp [xn1, xn2, b02, Hp.at_set, u0, hp2.1.len, hp2.1.slc]
  obtain ⟨H3, hH3⟩ : ∃ H3 : Hp, H3 = List.set H2 H.length (some ⟨[[xa, .sl xl 0 3, .sl xs 0 3, .int .i64 s.keep, .int .i64 s.time, xd]], 6, 65, false⟩) := ⟨_, rfl⟩
  have hF3 : Fr (fun x => x = H.length) H2 H3 := by rw [hH3]; exact Fr.one _ _ _
  have hm3 := hm2.fr hF3 (fun x ob hx ho => by rw [hx, b02] at ho; cases ho; rfl)
  have hle3 : HLe H H3 := (hle1.trans hle2).fr_le hF3 (fun x hx => by rw [hx]; exact Nat.le_refl _)
  have b03 : H3.at H.length = some ⟨[[xa, .sl xl 0 3, .sl xs 0 3, .int .i64 s.keep, .int .i64 s.time, xd]], 6, 65, false⟩ := by rw [hH3]; exact Hp.at_set _ u0
  have b13 := hF3.2 _ _ m01.symm b12
  have b23 := hF3.2 _ _ m02.symm b22
  rw [← hH3]
  refine c_split (fun hq => ?_) (fun hq => ?_) <;> simp at hq
  · have hF13 := (hle2.fr (S := fun x => x = H.length)).same hF3
    simp [b03]
    refine cg_ex (l12Down_ok _ s H H3 (hm3.base hle1.1) hle3 hsm) ?_
    rintro v4 H4 ⟨hret, hF4⟩
    have n0 : ∀ y, y < H1.length → ¬ stOf (.ag [xa, .sl xl 0 3, .sl xs 0 3, .int .i64 s.keep, .int .i64 s.time, xd]) y := fun y h1 h3 => by have := (hm2.obj y h3).1; omega
    have b04 := hF4.2 _ _ (n0 _ (by omega)) b03
    have b14 := hF4.2 _ _ (n0 _ (by omega)) b13
    have b24 := hF4.2 _ _ (n0 _ (by omega)) b23
    have u04 := Hp.at_lt b04
    have u14 := Hp.at_lt b14
    have u24 := Hp.at_lt b24
    cases hd : downR s with
    | none =>
      have hadd : addR s e = none := by simp [addR, hso, heo, hd, show 4 ≤ s.top.length by omega]
      rw [hd] at hret
      obtain ⟨hle4, rfl⟩ := hret
      simp [b24, Hp.at_set, u24, Hp.at_app, set_in', hadd]
      exact ⟨(hle4.set (by omega) _).app _, rfl⟩
    | some x =>
      have hadd : addR s e = some { x with top := joinL [e] x.top, time := e.time } := by simp [addR, hso, heo, hd, show 4 ≤ s.top.length by omega]
      have hx0 : x.top = [] := (intoR_tms hd).2.1
      rw [hd] at hret
      obtain ⟨hle4, w4, rfl, hm4⟩ := hret
      obtain ⟨ya, yl, ys, yd, rfl, yn1, yn2, ydi⟩ := hm4.shape
      simp [yn1, yn2, b04, Hp.at_set, Hp.at_app, u04, set_in']
      obtain ⟨H4', hH4'⟩ : ∃ H4' : Hp, H4' = List.set H4 H.length (some ⟨[[ya, .sl yl 0 3, .sl ys 0 3, .int .i64 x.keep, .int .i64 x.time, yd]], 6, 65, false⟩) ++ [some ⟨[[ya, .sl yl 0 3, .sl ys 0 3, .int .i64 x.keep, .int .i64 x.time, yd]], 6, 65, false⟩] := ⟨_, rfl⟩
      rw [← hH4']
      have hF4' : Fr (fun y => y = H.length) H4 H4' := by rw [hH4']; exact (Fr.one _ _ _).app _
      have c03 : Hp.at H4' H.length = some ⟨[[ya, .sl yl 0 3, .sl ys 0 3, .int .i64 x.keep, .int .i64 x.time, yd]], 6, 65, false⟩ := by rw [hH4']; exact (Hp.at_app _ (by rw [List.length_set]; exact u04)).trans (Hp.at_set _ u04)
      have c13 := hF4'.2 _ _ m01.symm b14
      have c23 := hF4'.2 _ _ m02.symm b24
      have hm4' := hm4.fr hF4' (fun y ob hy ho => by rw [hy, b04] at ho; cases ho; rfl)
      have hle4' := hle4.fr_le hF4' (fun y hy => by rw [hy]; exact Nat.le_refl _)
      have hpk := hm4'.parts
      have t03 := Hp.at_lt c03
      have t13 := Hp.at_lt c13
      simp [c03, c13, Hp.at_app, t03, t13]
      have hlit : Ents (H4' ++ [some ⟨[[.str e.key, .int .i64 e.val, .bool e.gone, .int .i64 e.time]], 4, 72, false⟩]) (.sl H4'.length 0 1) [e] := Own.rows (ety := 72) (Own.obj (by simp; rfl) rfl)
      refine cg_ex (l11Join_ok (.sl H4'.length 0 1) ya [e] x.top _ hlit (hpk.1.ents.le (HLe.self _ _)) (by simp [hx0])) ?_
      rintro v5 H5 ⟨hle5, hj⟩
      have hle5' := (HLe.self H4' _).trans hle5
      have b05 := hle5'.2 _ _ c03
      have b15 := hle5'.2 _ _ c13
      have b25 := hle5'.2 _ _ c23
      have u05 := Hp.at_lt b05
      have u15 := Hp.at_lt b15
      have u25 := Hp.at_lt b25
      simp [hj.rows.one, hj.rows.cells1, hj.rows.cells, yn1, yn2, b05, b15, b25, Hp.at_set, Hp.at_set_ne, List.length_set, u05, u15, u25, m01, m02, m01.symm, m02.symm]
      
      have hF6 := ((Fr.refl (fun y => y = H.length ∨ y = H.length + 2) H5).set (o := H.length) (.inl (.inl rfl)) (some ⟨[[v5, .sl yl 0 3, .sl ys 0 3, .int .i64 x.keep, .int .i64 e.time, yd]], 6, 65, false⟩)).set (o := H.length + 2) (.inl (.inr rfl)) (some ⟨[[v5, .sl yl 0 3, .sl ys 0 3, .int .i64 x.keep, .int .i64 e.time, yd]], 6, 65, false⟩)
      rw [hadd]
      exact ⟨(hle4'.trans hle5').fr_le hF6 (fun y hy => by rcases hy with h | h <;> omega), _, rfl, MSt.fr ((hm4'.le hle5').upd (tp := joinL [e] x.top) (ts := x.tms) e.time (hj.base (by have := hle4'.1; simp; omega)) (hpk.2.1.le hle5') hpk.2.2 (fun _ h => h)) hF6 (fun y ob hy ho => by
        rcases hy with h | h
        · rw [h, b05] at ho; cases ho; rfl
        · rw [h, b25] at ho; cases ho; rfl)⟩
  · have z : 0 = 0 := rfl
    have hpk := (hm3.base hle1.1).parts
    have t03 := Hp.at_lt b03
    have t13 := Hp.at_lt b13
    simp [b03, b13, Hp.at_app, t03, t13]
    have hlit : Ents (H3 ++ [some ⟨[[.str e.key, .int .i64 e.val, .bool e.gone, .int .i64 e.time]], 4, 72, false⟩]) (.sl H3.length 0 1) [e] := Own.rows (ety := 72) (Own.obj (by simp; rfl) rfl)
    refine cg_ex (l11Join_ok (.sl H3.length 0 1) xa [e] s.top _ hlit (hpk.1.ents.le (HLe.self _ _)) (by simp; omega)) ?_
    rintro v5 H5 ⟨hle5, hj⟩
    have hle5' := (HLe.self H3 _).trans hle5
    have b05 := hle5'.2 _ _ b03
    have b15 := hle5'.2 _ _ b13
    have b25 := hle5'.2 _ _ b23
    have u05 := Hp.at_lt b05
    have u15 := Hp.at_lt b15
    have u25 := Hp.at_lt b25
    simp [hj.rows.one, hj.rows.cells1, hj.rows.cells, xn1, xn2, b05, b15, b25, Hp.at_set, Hp.at_set_ne, List.length_set, u05, u15, u25, m01, m02, m01.symm, m02.symm]
    have hadd : addR s e = some { s with top := joinL [e] s.top, time := e.time } := by simp [addR, hso, heo, show ¬ 4 ≤ s.top.length by omega]
    have hF6 := ((Fr.refl (fun y => y = H.length ∨ y = H.length + 2) H5).set (o := H.length) (.inl (.inl rfl)) (some ⟨[[v5, .sl xl 0 3, .sl xs 0 3, .int .i64 s.keep, .int .i64 e.time, xd]], 6, 65, false⟩)).set (o := H.length + 2) (.inl (.inr rfl)) (some ⟨[[v5, .sl xl 0 3, .sl xs 0 3, .int .i64 s.keep, .int .i64 e.time, xd]], 6, 65, false⟩)
    rw [hadd]
    exact ⟨(hle3.trans hle5').fr_le hF6 (fun y hy => by rcases hy with h | h <;> omega), _, rfl, MSt.fr (((hm3.base hle1.1).le hle5').upd (tp := joinL [e] s.top) (ts := s.tms) e.time (hj.base (by have := hle3.1; simp; omega)) (hpk.2.1.le hle5') hpk.2.2 (fun _ h => h)) hF6 (fun y ob hy ho => by
      rcases hy with h | h
      · rw [h, b05] at ho; cases ho; rfl
      · rw [h, b25] at ho; cases ho; rfl)⟩

end Go.Proofs.Ytkdnijiipegabaa.B

namespace Go.Proofs.Ytkdnijiipegabaa.B
open Go.RowKit Go.Proofs
set_option linter.unusedVariables false
set_option linter.unusedSimpArgs false
variable {E : Env}

theorem storeOk_time {s : Sr} (h : storeOk s = true) : IntKind.i64.wrap (s.time + 1) = s.time + 1 := by
  simp only [storeOk, headOk, Bool.and_eq_true, decide_eq_true_eq] at h
  obtain ⟨⟨⟨⟨⟨⟨h1, h2⟩, h3⟩, h4⟩, h5⟩, h7⟩, h9⟩ := h
  exact wrap64 (by omega) (by omega)
theorem addR_wrap (s : Sr) (f : Int → Ent) : addR s (f (IntKind.i64.wrap (s.time + 1))) = addR s (f (s.time + 1)) := by
  cases h : storeOk s with
  | false => simp [addR, h]
  | true => rw [storeOk_time h]
theorem StorePut_ok (v : AV) (s : Sr) (k : ByteArray) (val : Int) (H : Hp) (hs : St H v s) (hb : StB s) (hk : k.size < 4611686018427387904) :
    AC Try.prog E 78 [v, .str k, .int .i64 val] H (fun u H' => RetS H H' u (putR s k val)) := by
  have hs0 := hs
  obtain ⟨a, b, c, d, rfl, n1, n2, n3, n4, hea, hed⟩ := hs.shape
  refine AC_by fol (tC_le tab2_ok) h_spec_StorePut ?_
  simp [c_spec_StorePut, n1, n2, n3, n4]
  refine cg_ex (l12Add_ok _ s ⟨k, val, false, IntKind.i64.wrap (s.time + 1)⟩ _ (hs0.le (HLe.self _ _)) hb hk) ?_
  intro v2 H2 hret
  obtain ⟨xa, xb, xc, xk, xt, xd, rfl, o1, o2, o3, o4, o5, o6⟩ := hret.shape
  have b1 := hret.1.2 (H.length + 1) ⟨[[.nils, .nils, .nils, .int .i64 0, .int .i64 0, .nils]], 6, 65, false⟩ (by simp)
  have u1 := Hp.at_lt b1
  simp [o1, o2, o3, o4, o5, o6, b1, Hp.at_set, u1]
  have hF2 := Fr.one H2 (H.length + 1) (some ⟨[[xa, xb, xc, xk, xt, xd]], 6, 65, false⟩)
  have hr := hret.fin (H0 := H) (HLe.self _ _) hF2 (fun x ob hx ho => by rw [hx, b1] at ho; cases ho; rfl) (fun x hx => by rw [hx]; omega)
  have ew := addR_wrap s (fun t => ⟨k, val, false, t⟩)
  rw [ew] at hr ⊢
  exact hr
theorem StoreTake_ok (v : AV) (s : Sr) (k : ByteArray) (H : Hp) (hs : St H v s) (hb : StB s) (hk : k.size < 4611686018427387904) :
    AC Try.prog E 79 [v, .str k] H (fun u H' => RetS H H' u (takeR s k)) := by
  have hs0 := hs
  obtain ⟨a, b, c, d, rfl, n1, n2, n3, n4, hea, hed⟩ := hs.shape
  refine AC_by fol (tC_le tab2_ok) h_spec_StoreTake ?_
  simp [c_spec_StoreTake, n1, n2, n3, n4]
  refine cg_ex (l12Add_ok _ s ⟨k, 0, true, IntKind.i64.wrap (s.time + 1)⟩ _ (hs0.le (HLe.self _ _)) hb hk) ?_
  intro v2 H2 hret
  obtain ⟨xa, xb, xc, xk, xt, xd, rfl, o1, o2, o3, o4, o5, o6⟩ := hret.shape
  have b1 := hret.1.2 (H.length + 1) ⟨[[.nils, .nils, .nils, .int .i64 0, .int .i64 0, .nils]], 6, 65, false⟩ (by simp)
  have u1 := Hp.at_lt b1
  simp [o1, o2, o3, o4, o5, o6, b1, Hp.at_set, u1]
  have hF2 := Fr.one H2 (H.length + 1) (some ⟨[[xa, xb, xc, xk, xt, xd]], 6, 65, false⟩)
  have hr := hret.fin (H0 := H) (HLe.self _ _) hF2 (fun x ob hx ho => by rw [hx, b1] at ho; cases ho; rfl) (fun x hx => by rw [hx]; omega)
  have ew := addR_wrap s (fun t => ⟨k, 0, true, t⟩)
  rw [ew] at hr ⊢
  exact hr
theorem StoreDown_ok (v : AV) (s : Sr) (H : Hp) (hs : St H v s) (hb : StB s) :
    AC Try.prog E 82 [v] H (fun u H' => RetS H H' u (letR s)) := by
  have hs0 := hs
  obtain ⟨a, b, c, d, rfl, n1, n2, n3, n4, hea, hed⟩ := hs.shape
  refine AC_by fol (tC_le tab2_ok) h_spec_StoreDown ?_
  simp [c_spec_StoreDown, n1, n2, n3, n4]
  refine cg_use (StoreOk_ok _ s _ (hs0.le (HLe.self _ _)) hb) ?_
  cases hso : storeOk s with
  | false =>
    simp [letR, hso, RetS]
  | true =>
  have hsm := storeOk_small hso
  have hlr : letR s = downR s := by simp [letR, hso]
  simp [n1, n2, n3, n4]
  refine cg_ex (l12Copy_ok _ s _ (hs0.le (HLe.self _ _)) hb hsm.2.2.2.2.2.2.2.1 hsm.2.2.2.2.2.2.2.2) ?_
  rintro v2 H2 ⟨hle2, hm2⟩
  simp
  refine cg_ex (l12Down_ok v2 s _ H2 hm2 hle2 hsm) ?_
  rintro v3 H3 ⟨hret, hF3⟩
  obtain ⟨xa, xb, xc, xk, xt, xd, rfl, o1, o2, o3, o4, o5, o6⟩ := hret.shape
  have b1 := hret.1.2 (H.length + 1) ⟨[[.nils, .nils, .nils, .int .i64 0, .int .i64 0, .nils]], 6, 65, false⟩ (by simp)
  have u1 := Hp.at_lt b1
  simp [o1, o2, o3, o4, o5, o6, b1, Hp.at_set, u1]
  have hF2 := Fr.one H3 (H.length + 1) (some ⟨[[xa, xb, xc, xk, xt, xd]], 6, 65, false⟩)
  rw [hlr]
  exact hret.fin (H0 := H) (HLe.self _ _) hF2 (fun x ob hx ho => by rw [hx, b1] at ho; cases ho; rfl) (fun x hx => by rw [hx]; omega)

end Go.Proofs.Ytkdnijiipegabaa.B

namespace Go.Proofs.Ytkdnijiipegabaa.B
open Go.RowKit Go.Proofs
set_option linter.unusedVariables false
set_option linter.unusedSimpArgs false
variable {E : Env}

theorem MSt.lev {H0 H : Hp} {a d k t : AV} {ol os : Nat} {s : Sr} (h : MSt H0 H (.ag [a, .sl ol 0 3, .sl os 0 3, k, t, d]) s) (i : Nat) (hi : i < 3) : ∃ ob u, H.at ol = some ob ∧ ob.esz = 1 ∧ ob.rows[i]? = some [u] ∧ Ents H u (s.lev.getD i []) := by
  obtain ⟨a2, ol2, os2, d2, lr, sr, hv, ha2, hlv, hlr, hsv, hsr, hd2, hdo2, hol, hos, hl3, hs3⟩ := h
  simp only [stAV, hl3, hs3, AV.ag.injEq, List.cons.injEq, AV.sl.injEq, and_true, true_and] at hv
  obtain ⟨rfl, rfl, rfl, rfl, rfl, rfl⟩ := hv
  obtain ⟨e1, obl, k1, k2, k3, k4, k5, k6⟩ := hlv.ob
  have hlr3 : lr.length = 3 := by omega
  obtain ⟨u, hu, hue⟩ := hlr.get i (by omega) (by omega)
  refine ⟨obl, u, k1, k3, ?_, by rw [getD_get [] (by omega)]; exact hue⟩
  have : (obl.rows.take lr.length)[i]? = lr[i]? := by rw [k6]
  rw [List.getElem?_take, if_pos (by omega)] at this
  rw [this, List.getElem?_eq_getElem (by omega), hu]

theorem StoreJoin_ok (v : AV) (s : Sr) (l : Int) (H : Hp) (hs : St H v s) (hb : StB s) :
    AC Try.prog E 83 [v, .int .i64 l] H (fun u H' => RetS H H' u (joinR s l)) := by
  have hs0 := hs
  obtain ⟨a, b, c, d, rfl, n1, n2, n3, n4, hea, hed⟩ := hs.shape
  refine AC_by fol (tC_le tab2_ok) h_spec_StoreJoin ?_
  obtain ⟨H1, hH1⟩ : ∃ H1 : Hp, H1 = H ++ [some ⟨[[a, b, c, .int .i64 s.keep, .int .i64 s.time, d]], 6, 65, false⟩, some ⟨[[.nils, .nils, .nils, .int .i64 0, .int .i64 0, .nils]], 6, 65, false⟩] := ⟨_, rfl⟩
  have hle1 : HLe H H1 := by rw [hH1]; exact HLe.self _ _
  have b0 : H1.at H.length = some ⟨[[a, b, c, .int .i64 s.keep, .int .i64 s.time, d]], 6, 65, false⟩ := by rw [hH1]; simp
  have b1 : H1.at (H.length + 1) = some ⟨[[.nils, .nils, .nils, .int .i64 0, .int .i64 0, .nils]], 6, 65, false⟩ := by rw [hH1]; simp
  have hl1 : H1.length = H.length + 2 := by rw [hH1]; simp
  have u1 := Hp.at_lt b1
  simp [c_spec_StoreJoin, n1, n2, n3, n4, ← hH1, b0]
  refine cg_use (StoreOk_ok _ s H1 (hs0.le hle1) hb) ?_
  cases hso : storeOk s with
  | false =>
    simp [b1, Hp.at_set, u1, joinR, hso, RetS]
    exact hle1.set (by omega) _
  | true =>
  have hsm := storeOk_small hso
  simp
  refine c_split (fun hq => ?_) (fun hq => ?_) <;> simp at hq
  · have hj : joinR s l = none := by
      unfold joinR
      rw [if_neg (by omega)]
    simp [b1, Hp.at_set, u1, hj, RetS]
    exact hle1.set (by omega) _
  simp [b0]
  refine cg_ex (l12Copy_ok _ s H1 (hs0.le hle1) hb hsm.2.2.2.2.2.2.2.1 hsm.2.2.2.2.2.2.2.2) ?_
  rintro v2 H2 ⟨hle2, hm2⟩
  obtain ⟨xa, xl, xs, xd, rfl, xn1, xn2, xdi⟩ := hm2.shape
  have b02 := hle2.2 _ _ b0
  have b12 := hle2.2 _ _ b1
  have u0 := Hp.at_lt b02
  have m01 : H.length ≠ H.length + 1 := by omega
  obtain ⟨n, rfl⟩ : ∃ n : Nat, l = n := ⟨l.toNat, by omega⟩
  have hn : n ≤ 1 := by omega
  have hn3 : (n : Int) < 3 := by omega
  obtain ⟨H3, hH3⟩ : ∃ H3 : Hp, H3 = List.set H2 H.length (some ⟨[[xa, .sl xl 0 3, .sl xs 0 3, .int .i64 s.keep, .int .i64 s.time, xd]], 6, 65, false⟩) := ⟨_, rfl⟩
  have hF3 : Fr (fun x => x = H.length) H2 H3 := by rw [hH3]; exact Fr.one _ _ _
  have hm3 := (hm2.fr hF3 (fun x ob hx ho => by rw [hx, b02] at ho; cases ho; rfl)).base hle1.1
  have hle3 : HLe H H3 := (hle1.trans hle2).fr_le hF3 (fun x hx => by rw [hx]; exact Nat.le_refl _)
  have b03 : H3.at H.length = some ⟨[[xa, .sl xl 0 3, .sl xs 0 3, .int .i64 s.keep, .int .i64 s.time, xd]], 6, 65, false⟩ := by rw [hH3]; exact Hp.at_set _ u0
  have b13 := hF3.2 _ _ m01.symm b12
  obtain ⟨obl, u, k1, k2, k3, k4⟩ := hm3.lev n (by omega)
  simp [xn1, xn2, b02, Hp.at_set, u0, ← hH3, b03, k1, k2, k3, hn3]
  have hj : joinR s n = match setR s n [] with
    | none => none
    | some x => intoR (1 - n) x (s.lev.getD n []) := by
    unfold joinR
    rw [if_pos ⟨hso, by omega, by omega⟩]
    rfl
  have t03 := Hp.at_lt b03
  have t13 := Hp.at_lt b13
  have hlit : Ents (H3 ++ [some ⟨[], 4, 72, false⟩]) (.sl H3.length 0 0) [] := Own.rows (ety := 72) (Own.lit0 rfl)
  have n0 : ∀ y, H.length ≤ y → y < H1.length → ¬ stOf (.ag [xa, .sl xl 0 3, .sl xs 0 3, .int .i64 s.keep, .int .i64 s.time, xd]) y := fun y h0 h1 h3 => by have := (hm2.obj y h3).1; omega
  have ne4 := (hm3.le (HLe.self H3 [some ⟨[], 4, 72, false⟩])).ne4
  refine cg_ex (l12Set_ok _ (.sl H3.length 0 0) s n [] H _ (hm3.le (HLe.self _ _)) (hle3.app _) hlit ⟨by simp, fun e he => by simp at he⟩ (by omega)) ?_
  intro v4 H4 hp
  cases h1 : setR s n [] with
  | none =>
    rw [h1] at hp hj
    obtain ⟨rfl, hle4⟩ := hp
    have b14 := ((HLe.self _ _).trans hle4).2 _ _ b13
    have u14 := Hp.at_lt b14
    simp [b14, Hp.at_app, Hp.at_set, u14, set_in', hj, RetS]
    exact ((hle3.app _).trans hle4 |>.set (by omega) _).app _
  | some x =>
    rw [h1] at hp hj
    obtain ⟨w4, rfl, hm4, hst, hfr⟩ := hp
    obtain ⟨ya, yl, ys, yd, hy, yn1, yn2, ydi⟩ := hm4.shape
    subst hy
    have b14 := hfr.2 _ _ (n0 _ (by omega) (by omega)) ((HLe.self H3 _).2 _ _ b13)
    have u14 := Hp.at_lt b14
    have hu4 : Ents H4 u (s.lev.getD n []) := Rows.frz (k4.le (HLe.self _ _)) hfr ne4
    have hle4 : HLe H H4 := (hle3.app _).fr_le hfr (fun y hy => (hm3.obj y hy).1)
    have hwr : IntKind.i64.wrap ((n : Int) + 1) = ((2 - (1 - n) : Nat) : Int) := by
      rw [wrapN (by omega)]
      congr 1
      omega
    have hsx := setR_small hsm (by omega) (fun e he => by simp at he) h1
    simp [yn1, yn2, hwr]
    refine cg_ex (l12Into_ret (1 - n) (by omega) _ u x _ H _ (hm4.le (HLe.self _ _)) (hle4.app _) (hu4.le (HLe.self _ _)) (hsm.lv n) hsx.2.1 hsx.2.2.1) ?_
    rintro v5 H5 ⟨hret, hF5⟩
    obtain ⟨za, zb, zc, zk, zt, zd, rfl, o1, o2, o3, o4, o5, o6⟩ := hret.shape
    have b15 := hF5.2 _ _ (fun h => n0 _ (by omega) (by omega) (hst ▸ h)) ((HLe.self H4 _).2 _ _ b14)
    have u15 := Hp.at_lt b15
    simp [o1, o2, o3, o4, o5, o6, b15, Hp.at_set, u15]
    rw [hj]
    have hF6 := Fr.one H5 (H.length + 1) (some ⟨[[za, zb, zc, zk, zt, zd]], 6, 65, false⟩)
    exact hret.fin (H0 := H) (HLe.refl _) hF6 (fun y ob hy ho => by rw [hy, b15] at ho; cases ho; rfl) (fun y hy => by rw [hy]; omega)

end Go.Proofs.Ytkdnijiipegabaa.B

namespace Go.Proofs.Ytkdnijiipegabaa.B
open Go.RowKit Go.Proofs
set_option linter.unusedVariables false
set_option linter.unusedSimpArgs false
variable {E : Env}

def RetH (H0 H : Hp) (u : AV) (s : Sr) (o : Option Sr) : Prop := HLe H0 H ∧ match o with
  | some x => ∃ w, u = .tu [w, .int .i64 s.time, .bool true] ∧ MSt H0 H w x
  | none => u = .tu [zst, .int .i64 0, .bool false]

theorem StoreHold_ok (v : AV) (s : Sr) (H : Hp) (hs : St H v s) (hb : StB s) :
    AC Try.prog E 80 [v] H (fun u H' => RetH H H' u s (holdR s)) := by
  have hs0 := hs
  obtain ⟨a, b, c, d, rfl, n1, n2, n3, n4, hea, hed⟩ := hs.shape
  refine AC_by fol (tC_le tab2_ok) h_spec_StoreHold ?_
  obtain ⟨H1, hH1⟩ : ∃ H1 : Hp, H1 = H ++ [some ⟨[[a, b, c, .int .i64 s.keep, .int .i64 s.time, d]], 6, 65, false⟩, some ⟨[[.nils, .nils, .nils, .int .i64 0, .int .i64 0, .nils]], 6, 65, false⟩] := ⟨_, rfl⟩
  have hle1 : HLe H H1 := by rw [hH1]; exact HLe.self _ _
  have b0 : H1.at H.length = some ⟨[[a, b, c, .int .i64 s.keep, .int .i64 s.time, d]], 6, 65, false⟩ := by rw [hH1]; simp
  have b1 : H1.at (H.length + 1) = some ⟨[[.nils, .nils, .nils, .int .i64 0, .int .i64 0, .nils]], 6, 65, false⟩ := by rw [hH1]; simp
  have hl1 : H1.length = H.length + 2 := by rw [hH1]; simp
  have u1 := Hp.at_lt b1
  simp [c_spec_StoreHold, n1, n2, n3, n4, ← hH1, b0]
  refine cg_use (StoreOk_ok _ s H1 (hs0.le hle1) hb) ?_
  cases hso : storeOk s with
  | false =>
    simp [b1, Hp.at_set, u1, holdR, hso, RetH]
    exact hle1.set (by omega) _
  | true =>
  have hsm := storeOk_small hso
  simp [b0]
  refine cg_ex (l12Copy_ok _ s H1 (hs0.le hle1) hb hsm.2.2.2.2.2.2.2.1 hsm.2.2.2.2.2.2.2.2) ?_
  rintro v2 H2 ⟨hle2, hm2⟩
  obtain ⟨xa, xl, xs, xd, rfl, xn1, xn2, xdi⟩ := hm2.shape
  have b02 := hle2.2 _ _ b0
  have b12 := hle2.2 _ _ b1
  have u0 := Hp.at_lt b02
  have m01 : H.length ≠ H.length + 1 := by omega
  obtain ⟨H3, hH3⟩ : ∃ H3 : Hp, H3 = List.set H2 H.length (some ⟨[[xa, .sl xl 0 3, .sl xs 0 3, .int .i64 s.keep, .int .i64 s.time, xd]], 6, 65, false⟩) := ⟨_, rfl⟩
  have hF3 : Fr (fun x => x = H.length) H2 H3 := by rw [hH3]; exact Fr.one _ _ _
  have hm3 := (hm2.fr hF3 (fun x ob hx ho => by rw [hx, b02] at ho; cases ho; rfl)).base hle1.1
  have hle3 : HLe H H3 := (hle1.trans hle2).fr_le hF3 (fun x hx => by rw [hx]; exact Nat.le_refl _)
  have b03 : H3.at H.length = some ⟨[[xa, .sl xl 0 3, .sl xs 0 3, .int .i64 s.keep, .int .i64 s.time, xd]], 6, 65, false⟩ := by rw [hH3]; exact Hp.at_set _ u0
  have b13 := hF3.2 _ _ m01.symm b12
  have hp := hm3.parts
  have hti := hp.2.1.ints
  have xbd : ∀ y, xd.of y → H1.length ≤ y := fun y hy => xdi.2 y hy
  have hlen := hti.len
  have ts3 : s.tms.length ≤ 1000 := hsm.2.2.1
  have app : ∀ (F : CallP → Nat → Prop), True := fun _ => trivial
  by_cases hlast : s.tms.getLast? = some s.time
  · have hhold : holdR s = if timesR s.tms s.time = true then some { s with tms := s.tms } else none := by simp [holdR, hso, hlast]
    have hpos : 0 < s.tms.length := by
      rcases Nat.eq_zero_or_pos s.tms.length with h | h
      · rw [List.length_eq_zero_iff.1 h] at hlast
        cases hlast
      · exact h
    have hne : s.tms ≠ [] := fun h => by rw [h] at hpos; simp at hpos
    have hlast' : s.tms[s.tms.length - 1]'(by omega) = s.time := by
      rw [List.getLast?_eq_getElem?, List.getElem?_eq_getElem (by omega)] at hlast
      exact Option.some.inj hlast
    have hw : IntKind.i64.wrap ((s.tms.length : Int) - 1) = ((s.tms.length - 1 : Nat) : Int) := by rw [wrap64 (by omega) (by omega)]; omega
    obtain ⟨o1, i1, ob1, rfl, a1, a2, a3⟩ := hti.get (j := s.tms.length - 1) (by omega)
    simp [xn1, xn2, b02, Hp.at_set, u0, ← hH3, b03, hlen, hti.slc, hne, hw, a1, a2, a3, hlast']
    refine ⟨by omega, ?_⟩
    have uk := Hp.at_lt b13
    refine cg_use (l12Times_ok (.sl o1 i1 s.tms.length) s.tms s.time H3 (hp.2.1).ints (by (try simp only [List.length_append, List.length_singleton]); omega)) ?_
    cases htt : timesR s.tms s.time with
    | false =>
      have hh : holdR s = none := by rw [hhold]; simp [htt]
      simp [b13, Hp.at_set, uk, hh, RetH]
      exact (hle3).set (by omega) _
    | true =>
      have hh : holdR s = some { s with tms := s.tms } := by rw [hhold]; simp [htt]
      have hon := (hp.2.1).rows.one
      simp [b03, b13, Hp.at_set, Hp.at_set_ne, uk, xn1, hon, hh, RetH, m01, m01.symm]
      have hF := Fr.one H3 (H.length + 1) (some ⟨[[xa, .sl xl 0 3, .sl xs 0 3, .int .i64 s.keep, .int .i64 s.time, (.sl o1 i1 s.tms.length)]], 6, 65, false⟩)
      exact ⟨(hle3).fr_le hF (fun y hy => by rw [hy]; omega), MSt.fr hm3 hF (fun y ob hy ho => by rw [hy, b13] at ho; cases ho; rfl)⟩
  · have hhold : holdR s = if timesR (s.tms ++ [s.time]) s.time = true then some { s with tms := s.tms ++ [s.time] } else none := by simp [holdR, hso, hlast]
    by_cases hne : s.tms = []
    · simp [xn1, xn2, b02, Hp.at_set, u0, ← hH3, b03, hlen, hti.slc, hne]
      refine appG_add (y := s.time) (bytes := 8) (row := intRow) (H0 := H) hp.2.1 hle3 (by omega) rfl (fun v4 H4 g1 g2 g3 g4 => ?_)
      have b04 := g3.2 _ _ (fun h => by have := xbd _ h; omega) b03
      have b14 := g3.2 _ _ (fun h => by have := xbd _ h; omega) b13
      have u04 := Hp.at_lt b04
      have hm4 := hm3.app (ts := s.tms ++ [s.time]) g3 g2 g4
      simp [b04, g2.rows.one, g2.rows.cells, g2.rows.cells1, Hp.at_set, u04]
      obtain ⟨H5, hH5⟩ : ∃ H5 : Hp, H5 = List.set H4 H.length (some ⟨[[xa, .sl xl 0 3, .sl xs 0 3, .int .i64 s.keep, .int .i64 s.time, v4]], 6, 65, false⟩) := ⟨_, rfl⟩
      have hF5 : Fr (fun x => x = H.length) H4 H5 := by rw [hH5]; exact Fr.one _ _ _
      have hm5 := hm4.fr hF5 (fun y ob hy ho => by rw [hy, b04] at ho; cases ho; rfl)
      have hle5 : HLe H H5 := g1.fr_le hF5 (fun x hx => by rw [hx]; exact Nat.le_refl _)
      have c03 : H5.at H.length = some ⟨[[xa, .sl xl 0 3, .sl xs 0 3, .int .i64 s.keep, .int .i64 s.time, v4]], 6, 65, false⟩ := by rw [hH5]; exact Hp.at_set _ u04
      have c13 := hF5.2 _ _ m01.symm b14
      rw [← hH5]
      have uk := Hp.at_lt c13
      refine cg_use (l12Times_ok v4 (s.tms ++ [s.time]) s.time H5 (hm5.parts.2.1).ints (by (try simp only [List.length_append, List.length_singleton]); omega)) ?_
      cases htt : timesR (s.tms ++ [s.time]) s.time with
      | false =>
        have hh : holdR s = none := by rw [hhold]; simp [htt]
        simp [c13, Hp.at_set, uk, hh, RetH]
        exact (hle5).set (by omega) _
      | true =>
        have hh : holdR s = some { s with tms := (s.tms ++ [s.time]) } := by rw [hhold]; simp [htt]
        have hon := (hm5.parts.2.1).rows.one
        simp [c03, c13, Hp.at_set, Hp.at_set_ne, uk, xn1, hon, hh, RetH, m01, m01.symm]
        have hF := Fr.one H5 (H.length + 1) (some ⟨[[xa, .sl xl 0 3, .sl xs 0 3, .int .i64 s.keep, .int .i64 s.time, v4]], 6, 65, false⟩)
        exact ⟨(hle5).fr_le hF (fun y hy => by rw [hy]; omega), MSt.fr hm5 hF (fun y ob hy ho => by rw [hy, c13] at ho; cases ho; rfl)⟩
    have hpos : 0 < s.tms.length := List.length_pos_iff.2 hne
    have hlast' : s.tms[s.tms.length - 1]'(by omega) ≠ s.time := by
      rw [List.getLast?_eq_getElem?, List.getElem?_eq_getElem (by omega)] at hlast
      exact fun h => hlast (congrArg some h)
    have hw : IntKind.i64.wrap ((s.tms.length : Int) - 1) = ((s.tms.length - 1 : Nat) : Int) := by rw [wrap64 (by omega) (by omega)]; omega
    obtain ⟨o1, i1, ob1, hxe, a1, a2, a3⟩ := hti.get (j := s.tms.length - 1) (by omega)
    have hxe' := hxe
    subst hxe'
    simp [xn1, xn2, b02, Hp.at_set, u0, ← hH3, b03, hlen, hti.slc, hne, hw, a1, a2, a3, hlast']
    refine ⟨by omega, ?_⟩
    refine appG_add (y := s.time) (bytes := 8) (row := intRow) (H0 := H) hp.2.1 hle3 (by omega) rfl (fun v4 H4 g1 g2 g3 g4 => ?_)
    have b04 := g3.2 _ _ (fun h => by have := xbd _ h; omega) b03
    have b14 := g3.2 _ _ (fun h => by have := xbd _ h; omega) b13
    have u04 := Hp.at_lt b04
    have hm4 := hm3.app (ts := s.tms ++ [s.time]) g3 g2 g4
    simp [b04, g2.rows.one, g2.rows.cells, g2.rows.cells1, Hp.at_set, u04]
    obtain ⟨H5, hH5⟩ : ∃ H5 : Hp, H5 = List.set H4 H.length (some ⟨[[xa, .sl xl 0 3, .sl xs 0 3, .int .i64 s.keep, .int .i64 s.time, v4]], 6, 65, false⟩) := ⟨_, rfl⟩
    have hF5 : Fr (fun x => x = H.length) H4 H5 := by rw [hH5]; exact Fr.one _ _ _
    have hm5 := hm4.fr hF5 (fun y ob hy ho => by rw [hy, b04] at ho; cases ho; rfl)
    have hle5 : HLe H H5 := g1.fr_le hF5 (fun x hx => by rw [hx]; exact Nat.le_refl _)
    have c03 : H5.at H.length = some ⟨[[xa, .sl xl 0 3, .sl xs 0 3, .int .i64 s.keep, .int .i64 s.time, v4]], 6, 65, false⟩ := by rw [hH5]; exact Hp.at_set _ u04
    have c13 := hF5.2 _ _ m01.symm b14
    rw [← hH5]
    have uk := Hp.at_lt c13
    refine cg_use (l12Times_ok v4 (s.tms ++ [s.time]) s.time H5 (hm5.parts.2.1).ints (by (try simp only [List.length_append, List.length_singleton]); omega)) ?_
    cases htt : timesR (s.tms ++ [s.time]) s.time with
    | false =>
      have hh : holdR s = none := by rw [hhold]; simp [htt]
      simp [c13, Hp.at_set, uk, hh, RetH]
      exact (hle5).set (by omega) _
    | true =>
      have hh : holdR s = some { s with tms := (s.tms ++ [s.time]) } := by rw [hhold]; simp [htt]
      have hon := (hm5.parts.2.1).rows.one
      simp [c03, c13, Hp.at_set, Hp.at_set_ne, uk, xn1, hon, hh, RetH, m01, m01.symm]
      have hF := Fr.one H5 (H.length + 1) (some ⟨[[xa, .sl xl 0 3, .sl xs 0 3, .int .i64 s.keep, .int .i64 s.time, v4]], 6, 65, false⟩)
      exact ⟨(hle5).fr_le hF (fun y hy => by rw [hy]; omega), MSt.fr hm5 hF (fun y ob hy ho => by rw [hy, c13] at ho; cases ho; rfl)⟩

end Go.Proofs.Ytkdnijiipegabaa.B

namespace Go.Proofs.Ytkdnijiipegabaa.B
open Go.RowKit Go.Proofs
set_option linter.unusedVariables false
set_option linter.unusedSimpArgs false
variable {E : Env}

/-- The times but one. -/
def leftR (t : Int) (ts : List Int) : List Int := ts.filter fun x => !decide (x = t)
theorem leftR_step {t : Int} {ts : List Int} {i : Nat} (hi : i < ts.length) : leftR t (ts.take (i + 1)) = if ts[i] = t then leftR t (ts.take i) else leftR t (ts.take i) ++ [ts[i]] := by
  rw [List.take_succ_eq_append_getElem hi, leftR, List.filter_append]
  by_cases h : ts[i] = t <;> simp [h, leftR]
theorem StoreFree_ok (v : AV) (s : Sr) (tt : Int) (H : Hp) (hs : St H v s) (hb : StB s) :
    AC Try.prog E 81 [v, .int .i64 tt] H (fun u H' => RetS H H' u (freeR s tt)) := by
  have hs0 := hs
  obtain ⟨a, b, c, d, rfl, n1, n2, n3, n4, hea, hed⟩ := hs.shape
  refine AC_by fol (tC_le tab2_ok) h_spec_StoreFree ?_
  obtain ⟨H1, hH1⟩ : ∃ H1 : Hp, H1 = H ++ [some ⟨[[a, b, c, .int .i64 s.keep, .int .i64 s.time, d]], 6, 65, false⟩, some ⟨[[.nils, .nils, .nils, .int .i64 0, .int .i64 0, .nils]], 6, 65, false⟩] := ⟨_, rfl⟩
  have hle1 : HLe H H1 := by rw [hH1]; exact HLe.self _ _
  have b0 : H1.at H.length = some ⟨[[a, b, c, .int .i64 s.keep, .int .i64 s.time, d]], 6, 65, false⟩ := by rw [hH1]; simp
  have b1 : H1.at (H.length + 1) = some ⟨[[.nils, .nils, .nils, .int .i64 0, .int .i64 0, .nils]], 6, 65, false⟩ := by rw [hH1]; simp
  have hl1 : H1.length = H.length + 2 := by rw [hH1]; simp
  have u1 := Hp.at_lt b1
  simp [c_spec_StoreFree, n1, n2, n3, n4, ← hH1, b0]
  refine cg_use (StoreOk_ok _ s H1 (hs0.le hle1) hb) ?_
  cases hso : storeOk s with
  | false =>
    simp [b1, Hp.at_set, u1, freeR, hso, RetS]
    exact hle1.set (by omega) _
  | true =>
  have hsm := storeOk_small hso
  simp [b0]
  refine cg_ex (l12Copy_ok _ s H1 (hs0.le hle1) hb hsm.2.2.2.2.2.2.2.1 hsm.2.2.2.2.2.2.2.2) ?_
  rintro v2 H2 ⟨hle2, hm2⟩
  obtain ⟨xa, xl, xs, xd, rfl, xn1, xn2, xdi⟩ := hm2.shape
  have b02 := hle2.2 _ _ b0
  have b12 := hle2.2 _ _ b1
  have u0 := Hp.at_lt b02
  have m01 : H.length ≠ H.length + 1 := by omega
  obtain ⟨H3, hH3⟩ : ∃ H3 : Hp, H3 = List.set H2 H.length (some ⟨[[xa, .sl xl 0 3, .sl xs 0 3, .int .i64 s.keep, .int .i64 s.time, xd]], 6, 65, false⟩) := ⟨_, rfl⟩
  have hF3 : Fr (fun x => x = H.length) H2 H3 := by rw [hH3]; exact Fr.one _ _ _
  have hm3 := (hm2.fr hF3 (fun x ob hx ho => by rw [hx, b02] at ho; cases ho; rfl)).base hle1.1
  have hle3 : HLe H H3 := (hle1.trans hle2).fr_le hF3 (fun x hx => by rw [hx]; exact Nat.le_refl _)
  have b03 : H3.at H.length = some ⟨[[xa, .sl xl 0 3, .sl xs 0 3, .int .i64 s.keep, .int .i64 s.time, xd]], 6, 65, false⟩ := by rw [hH3]; exact Hp.at_set _ u0
  have b13 := hF3.2 _ _ m01.symm b12
  have hp := hm3.parts
  have hti := hp.2.1.ints
  have xbd : ∀ y, xd.of y → H1.length ≤ y := fun y hy => xdi.2 y hy
  have hlen := hti.len
  have ts3 : s.tms.length ≤ 1000 := hsm.2.2.1
  simp [xn1, xn2, b02, Hp.at_set, u0, ← hH3, b03, hlen, hti.slc]
  refine W_for (fun m t H' => ∃ (i : Nat) (left : AV), i + m = s.tms.length ∧ t 1 = .int .i64 tt ∧ t 2 = .pt H.length 0 0 ∧ t 4 = .pt (H.length + 1) 0 0 ∧ t 6 = left ∧ t 7 = .int .i64 i ∧ HLe H3 H' ∧ OwnI H3 H' left (leftR tt (s.tms.take i))) s.tms.length ?_ (tC_mono AC_mono) ?_
  · exact ⟨0, .sl H3.length 0 0, by omega, by simp, by simp, by simp, by simp, by simp, HLe.self _ _, by simpa [leftR] using (OwnM.lit0 (HLe.refl H3) : OwnI H3 _ _ [])⟩
  rintro m t H' ⟨i, left, him, h1, h2, h4, h6, h7, hle', hown⟩
  have b0' := hle'.2 _ _ b03
  have hti' := hti.le hle'
  simp [h1, h2, h4, h6, h7, b0', hlen, hti.slc]
  refine c_split (fun hq => ?_) (fun hq => ?_) <;> simp at hq
  · have hi : i < s.tms.length := by omega
    obtain ⟨o1, i1, ob1, rfl, a1, a2, a3⟩ := hti'.get hi
    have hw := wrapN (i := i) (by omega)
    simp [h1, h2, h4, h6, h7, b0', a1, a2, a3, hi]
    refine c_split (fun hq2 => ?_) (fun hq2 => ?_) <;> simp at hq2 <;> simp [h1, h2, h4, h6, h7, b0', a1, a2, a3, hi, hw]
    · have hll : (leftR tt (s.tms.take i)).length ≤ i := Nat.le_trans (List.length_filter_le _ _) (by simp; omega)
      refine appG_add (y := s.tms[i]) (bytes := 8) (row := intRow) (H0 := H3) hown hle' (by omega) rfl (fun v5 H5 g1 g2 g3 g4 => ?_)
      simp [h1, h2, h4, h6, h7, hw]
      refine ⟨m - 1, by omega, i + 1, by omega, by omega, g1, ?_⟩
      rw [leftR_step hi, if_neg hq2]
      exact g2
    · have hx : s.tms[i] = tt := by omega
      refine ⟨m - 1, by omega, i + 1, by omega, by omega, hle', ?_⟩
      rw [leftR_step hi, if_pos hx]
      exact hown
  · have hie : i = s.tms.length := by omega
    subst hie
    rw [List.take_of_length_le (Nat.le_refl _)] at hown
    have hll : (leftR tt s.tms).length ≤ s.tms.length := List.length_filter_le _ _
    have b1' := hle'.2 _ _ b13
    have u1' := Hp.at_lt b1'
    have hfr : freeR s tt = if (leftR tt s.tms).length = s.tms.length then none else some { s with tms := leftR tt s.tms } := by
      unfold freeR
      rw [if_pos hso]
      rfl
    simp [h1, h2, h4, h6, h7, b0', hown.len, hown.slc, hlen, hti.slc]
    refine c_split (fun hq2 => ?_) (fun hq2 => ?_) <;> simp at hq2
    · rw [if_pos (by omega)] at hfr
      simp [h4, b1', Hp.at_set, u1', hfr, RetS]
      exact (hle3.trans hle').set (by omega) _
    · rw [if_neg (by omega)] at hfr
      have hm4 := hm3.app (ts := leftR tt s.tms) (hle'.fr (S := xd.of)) (hown.base hle3.1) (fun y hy => .inr (hown.2 y hy))
      have u0' := Hp.at_lt b0'
      simp [h2, h4, h6, b0', b1', Hp.at_set, Hp.at_set_ne, List.length_set, u0', u1', m01, m01.symm, hfr, hown.rows.one, hown.rows.cells, hown.rows.cells1, xn1]
      have hF := ((Fr.refl (fun y => y = H.length ∨ y = H.length + 1) H').set (o := H.length) (.inl (.inl rfl)) (some ⟨[[xa, .sl xl 0 3, .sl xs 0 3, .int .i64 s.keep, .int .i64 s.time, left]], 6, 65, false⟩)).set (o := H.length + 1) (.inl (.inr rfl)) (some ⟨[[xa, .sl xl 0 3, .sl xs 0 3, .int .i64 s.keep, .int .i64 s.time, left]], 6, 65, false⟩)
      exact ⟨(hle3.trans hle').fr_le hF (fun y hy => by rcases hy with h | h <;> omega), _, rfl, MSt.fr hm4 hF (fun y ob hy ho => by
        rcases hy with h | h
        · rw [h, b0'] at ho; cases ho; rfl
        · rw [h, b1'] at ho; cases ho; rfl)⟩

end Go.Proofs.Ytkdnijiipegabaa.B

namespace Go.Proofs.Ytkdnijiipegabaa.B
open Go.RowKit Go.Proofs
set_option linter.unusedVariables false
set_option linter.unusedSimpArgs false
variable {E : Env}

theorem RetH.toS {H0 H : Hp} {u : AV} {s : Sr} {o : Option Sr} (h : RetH H0 H u s o) : ∃ w n ok, u = .tu [w, n, ok] ∧ RetS H0 H (.tu [w, ok]) o := by
  obtain ⟨h1, h2⟩ := h
  cases o with
  | none => exact ⟨_, _, _, h2, h1, rfl⟩
  | some x =>
    obtain ⟨w, e, hm⟩ := h2
    exact ⟨_, _, _, e, h1, w, rfl, hm⟩
def ddAV (d : Dd) : AV := .ag [.int .i64 d.kind, .str d.key, .int .i64 d.num]
theorem l13Do_ok (v : AV) (s : Sr) (e : Dd) (H : Hp) (hs : St H v s) (hb : StB s) (hk : e.key.size < 4611686018427387904) :
    AC Try.prog E 68 [v, ddAV e] H (fun u H' => RetS H H' u (doR s e)) := by
  have hs0 := hs
  obtain ⟨a, b, c, d, rfl, n1, n2, n3, n4, hea, hed⟩ := hs.shape
  refine AC_by fol (tC_le tab2_ok) h_spec_l13Do ?_
  obtain ⟨H1, hH1⟩ : ∃ H1 : Hp, H1 = H ++ [some ⟨[[a, b, c, .int .i64 s.keep, .int .i64 s.time, d]], 6, 65, false⟩, some ⟨[[.int .i64 e.kind, .str e.key, .int .i64 e.num]], 3, 107, false⟩, some ⟨[[.nils, .nils, .nils, .int .i64 0, .int .i64 0, .nils]], 6, 65, false⟩] := ⟨_, rfl⟩
  have hle1 : HLe H H1 := by rw [hH1]; exact HLe.self _ _
  have b0 : H1.at H.length = some ⟨[[a, b, c, .int .i64 s.keep, .int .i64 s.time, d]], 6, 65, false⟩ := by rw [hH1]; simp
  have b1 : H1.at (H.length + 1) = some ⟨[[.int .i64 e.kind, .str e.key, .int .i64 e.num]], 3, 107, false⟩ := by rw [hH1]; simp
  have b2 : H1.at (H.length + 2) = some ⟨[[.nils, .nils, .nils, .int .i64 0, .int .i64 0, .nils]], 6, 65, false⟩ := by rw [hH1]; simp
  have hl1 : H1.length = H.length + 3 := by rw [hH1]; simp
  have u2 := Hp.at_lt b2
  have hs1 := hs0.le hle1
  simp [c_spec_l13Do, ddAV, n1, n2, n3, n4, ← hH1, b1]
  refine c_split (fun q0 => ?_) (fun q0 => ?_) <;> simp at q0
  · have hd : doR s e = putR s e.key e.num := by simp [doR, q0]
    simp [b0, b1]
    refine cg_ex (StorePut_ok _ s e.key e.num H1 hs1 hb hk) ?_
    intro v2 H2 hret
    obtain ⟨xa, xb, xc, xk, xt, xd, rfl, o1, o2, o3, o4, o5, o6⟩ := hret.shape
    have b22 := hret.1.2 _ _ b2
    have u22 := Hp.at_lt b22
    simp [o1, o2, o3, o4, o5, o6, b22, Hp.at_set, u22]
    rw [hd]
    have hF := Fr.one H2 (H.length + 2) (some ⟨[[xa, xb, xc, xk, xt, xd]], 6, 65, false⟩)
    exact hret.fin hle1 hF (fun x ob hx ho => by rw [hx, b22] at ho; cases ho; rfl) (fun x hx => by rw [hx]; omega)
  simp
  refine c_split (fun q1 => ?_) (fun q1 => ?_) <;> simp at q1
  · have hd : doR s e = takeR s e.key := by simp [doR, q1]
    simp [b0, b1]
    refine cg_ex (StoreTake_ok _ s e.key H1 hs1 hb hk) ?_
    intro v2 H2 hret
    obtain ⟨xa, xb, xc, xk, xt, xd, rfl, o1, o2, o3, o4, o5, o6⟩ := hret.shape
    have b22 := hret.1.2 _ _ b2
    have u22 := Hp.at_lt b22
    simp [o1, o2, o3, o4, o5, o6, b22, Hp.at_set, u22]
    rw [hd]
    have hF := Fr.one H2 (H.length + 2) (some ⟨[[xa, xb, xc, xk, xt, xd]], 6, 65, false⟩)
    exact hret.fin hle1 hF (fun x ob hx ho => by rw [hx, b22] at ho; cases ho; rfl) (fun x hx => by rw [hx]; omega)
  simp
  refine c_split (fun q2 => ?_) (fun q2 => ?_) <;> simp at q2
  · have hd : doR s e = holdR s := by simp [doR, q2]
    simp [b0, b1]
    refine cg_ex (StoreHold_ok _ s H1 hs1 hb) ?_
    intro v2 H2 hret
    obtain ⟨w, n, ok, hv2, hret'⟩ := hret.toS
    subst hv2
    clear hret
    have hret := hret'
    clear hret'
    obtain ⟨xa, xb, xc, xk, xt, xd, hw, o1, o2, o3, o4, o5, o6⟩ := hret.shape
    cases hw
    have b22 := hret.1.2 _ _ b2
    have u22 := Hp.at_lt b22
    simp [o1, o2, o3, o4, o5, o6, b22, Hp.at_set, u22, Hp.at_app, set_in']
    rw [hd]
    have hF := (Fr.one H2 (H.length + 2) (some ⟨[[xa, xb, xc, xk, xt, xd]], 6, 65, false⟩)).app [some ⟨[[xa, xb, xc, xk, xt, xd]], 6, 65, false⟩]
    exact hret.fin hle1 hF (fun x ob hx ho => by rw [hx, b22] at ho; cases ho; rfl) (fun x hx => by rw [hx]; omega)
  simp
  refine c_split (fun q3 => ?_) (fun q3 => ?_) <;> simp at q3
  · have hd : doR s e = freeR s e.num := by simp [doR, q3]
    simp [b0, b1]
    refine cg_ex (StoreFree_ok _ s e.num H1 hs1 hb) ?_
    intro v2 H2 hret
    obtain ⟨xa, xb, xc, xk, xt, xd, rfl, o1, o2, o3, o4, o5, o6⟩ := hret.shape
    have b22 := hret.1.2 _ _ b2
    have u22 := Hp.at_lt b22
    simp [o1, o2, o3, o4, o5, o6, b22, Hp.at_set, u22]
    rw [hd]
    have hF := Fr.one H2 (H.length + 2) (some ⟨[[xa, xb, xc, xk, xt, xd]], 6, 65, false⟩)
    exact hret.fin hle1 hF (fun x ob hx ho => by rw [hx, b22] at ho; cases ho; rfl) (fun x hx => by rw [hx]; omega)
  simp
  refine c_split (fun q4 => ?_) (fun q4 => ?_) <;> simp at q4
  · have hd : doR s e = letR s := by simp [doR, q4]
    simp [b0, b1]
    refine cg_ex (StoreDown_ok _ s H1 hs1 hb) ?_
    intro v2 H2 hret
    obtain ⟨xa, xb, xc, xk, xt, xd, rfl, o1, o2, o3, o4, o5, o6⟩ := hret.shape
    have b22 := hret.1.2 _ _ b2
    have u22 := Hp.at_lt b22
    simp [o1, o2, o3, o4, o5, o6, b22, Hp.at_set, u22]
    rw [hd]
    have hF := Fr.one H2 (H.length + 2) (some ⟨[[xa, xb, xc, xk, xt, xd]], 6, 65, false⟩)
    exact hret.fin hle1 hF (fun x ob hx ho => by rw [hx, b22] at ho; cases ho; rfl) (fun x hx => by rw [hx]; omega)
  simp
  refine c_split (fun q5 => ?_) (fun q5 => ?_) <;> simp at q5
  · have hd : doR s e = joinR s e.num := by simp [doR, q5]
    simp [b0, b1]
    refine cg_ex (StoreJoin_ok _ s e.num H1 hs1 hb) ?_
    intro v2 H2 hret
    obtain ⟨xa, xb, xc, xk, xt, xd, rfl, o1, o2, o3, o4, o5, o6⟩ := hret.shape
    have b22 := hret.1.2 _ _ b2
    have u22 := Hp.at_lt b22
    simp [o1, o2, o3, o4, o5, o6, b22, Hp.at_set, u22]
    rw [hd]
    have hF := Fr.one H2 (H.length + 2) (some ⟨[[xa, xb, xc, xk, xt, xd]], 6, 65, false⟩)
    exact hret.fin hle1 hF (fun x ob hx ho => by rw [hx, b22] at ho; cases ho; rfl) (fun x hx => by rw [hx]; omega)
  have hd : doR s e = none := by simp [doR, q0, q1, q2, q3, q4, q5]
  simp [b2, Hp.at_set, u2, hd, RetS]
  exact hle1.set (by omega) _

end Go.Proofs.Ytkdnijiipegabaa.B

namespace Go.Proofs.Ytkdnijiipegabaa.B
open Go.RowKit Go.Proofs
set_option linter.unusedVariables false
set_option linter.unusedSimpArgs false
variable {E : Env}

def ddRow (d : Dd) : List AV := [.int .i64 d.kind, .str d.key, .int .i64 d.num]
def Dds (H : Hp) (v : AV) (ds : List Dd) : Prop := Rows 3 H v (ds.map ddRow)
theorem Dds.get {H : Hp} {v : AV} {ds : List Dd} (h : Dds H v ds) {j : Nat} (hj : j < ds.length) : ∃ o i ob, v = .sl o i ds.length ∧ H.at o = some ob ∧ ob.esz = 3 ∧ ob.rows[i + j]? = some [.int .i64 ds[j].kind, .str ds[j].key, .int .i64 ds[j].num] := by
  obtain ⟨o, i, ob, h1, h2, h3, h4⟩ := Rows.get h (j := j) (by simpa using hj)
  exact ⟨o, i, ob, by simpa using h1, h2, h3, by simpa [ddRow] using h4⟩
theorem doAll_step (s : Sr) (ds : List Dd) {i : Nat} (hi : i < ds.length) : doAll s (ds.take (i + 1)) = (doR (doAll s (ds.take i)) ds[i]).getD (doAll s (ds.take i)) := by
  rw [List.take_succ_eq_append_getElem hi, doAll, List.foldl_append]
  rfl

theorem PastDo_ok (v u : AV) (s : Sr) (ds : List Dd) (H : Hp) (hs : St H v s) (hb : StB s) (hu : Dds H u ds) (hk : ∀ d ∈ ds, d.key.size < 4611686018427387904) :
    AC Try.prog E 54 [v, u] H (fun w H' => RetS H H' w (pastR s ds)) := by
  have hs0 := hs
  obtain ⟨a, b, c, d, rfl, n1, n2, n3, n4, hea, hed⟩ := hs.shape
  refine AC_by fol (tC_le tab2_ok) h_spec_PastDo ?_
  obtain ⟨H1, hH1⟩ : ∃ H1 : Hp, H1 = H ++ [some ⟨[[a, b, c, .int .i64 s.keep, .int .i64 s.time, d]], 6, 65, false⟩, some ⟨[[.nils, .nils, .nils, .int .i64 0, .int .i64 0, .nils]], 6, 65, false⟩] := ⟨_, rfl⟩
  have hle1 : HLe H H1 := by rw [hH1]; exact HLe.self _ _
  have b0 : H1.at H.length = some ⟨[[a, b, c, .int .i64 s.keep, .int .i64 s.time, d]], 6, 65, false⟩ := by rw [hH1]; simp
  have b1 : H1.at (H.length + 1) = some ⟨[[.nils, .nils, .nils, .int .i64 0, .int .i64 0, .nils]], 6, 65, false⟩ := by rw [hH1]; simp
  have hl1 : H1.length = H.length + 2 := by rw [hH1]; simp
  have u1 := Hp.at_lt b1
  have hlen : lenV u = .int .i64 ds.length := by simpa using Rows.len hu
  have hslc : slC u := Rows.slc hu
  simp [c_spec_PastDo, n1, n2, n3, n4, ← hH1, b0]
  refine cg_use (StoreOk_ok _ s H1 (hs0.le hle1) hb) ?_
  cases hso : storeOk s with
  | false =>
    simp [b1, Hp.at_set, u1, pastR, hso, RetS]
    exact hle1.set (by omega) _
  | true =>
  have hsm := storeOk_small hso
  simp [hlen, hslc]
  refine c_split (fun hq => ?_) (fun hq => ?_) <;> simp at hq
  · have hp : pastR s ds = none := by simp [pastR, hso]; omega
    simp [b1, Hp.at_set, u1, hp, RetS]
    exact hle1.set (by omega) _
  have hp : pastR s ds = some (doAll s ds) := by simp [pastR, hso]; omega
  simp [b0]
  refine cg_ex (l12Copy_ok _ s H1 (hs0.le hle1) hb hsm.2.2.2.2.2.2.2.1 hsm.2.2.2.2.2.2.2.2) ?_
  rintro v2 H2 ⟨hle2, hm2⟩
  obtain ⟨xa, xl, xs, xd, rfl, xn1, xn2, xdi⟩ := hm2.shape
  have b02 := hle2.2 _ _ b0
  have b12 := hle2.2 _ _ b1
  have u0 := Hp.at_lt b02
  have m01 : H.length ≠ H.length + 1 := by omega
  obtain ⟨H3, hH3⟩ : ∃ H3 : Hp, H3 = List.set H2 H.length (some ⟨[[xa, .sl xl 0 3, .sl xs 0 3, .int .i64 s.keep, .int .i64 s.time, xd]], 6, 65, false⟩) := ⟨_, rfl⟩
  have hF3 : Fr (fun x => x = H.length) H2 H3 := by rw [hH3]; exact Fr.one _ _ _
  have hm3 := (hm2.fr hF3 (fun x ob hx ho => by rw [hx, b02] at ho; cases ho; rfl)).base hle1.1
  have hle3 : HLe H H3 := (hle1.trans hle2).fr_le hF3 (fun x hx => by rw [hx]; exact Nat.le_refl _)
  have b03 : H3.at H.length = some ⟨[[xa, .sl xl 0 3, .sl xs 0 3, .int .i64 s.keep, .int .i64 s.time, xd]], 6, 65, false⟩ := by rw [hH3]; exact Hp.at_set _ u0
  have b13 := hF3.2 _ _ m01.symm b12
  simp [xn1, xn2, b02, Hp.at_set, u0, ← hH3]
  refine W_for (fun m t H' => ∃ (i : Nat) (x : Sr) (wa : AV) (wl ws : Nat) (wd : AV), i + m = ds.length ∧ t 1 = u ∧ t 2 = .pt H.length 0 0 ∧ t 4 = .pt (H.length + 1) 0 0 ∧ t 6 = .int .i64 i ∧ HLe H H' ∧
    H'.at H.length = some ⟨[[wa, .sl wl 0 3, .sl ws 0 3, .int .i64 x.keep, .int .i64 x.time, wd]], 6, 65, false⟩ ∧ H'.at (H.length + 1) = some ⟨[[.nils, .nils, .nils, .int .i64 0, .int .i64 0, .nils]], 6, 65, false⟩ ∧
    one wa = true ∧ one wd = true ∧ MSt H H' (.ag [wa, .sl wl 0 3, .sl ws 0 3, .int .i64 x.keep, .int .i64 x.time, wd]) x ∧ Small x ∧ x = doAll s (ds.take i)) ds.length ?_ (tC_mono AC_mono) ?_
  · exact ⟨0, s, xa, xl, xs, xd, by omega, by simp, by simp, by simp, by simp, hle3, b03, b13, xn1, xn2, hm3, hsm, by simp [doAll]⟩
  rintro m t H' ⟨i, x, wa, wl, ws, wd, him, h1, h2, h4, h6, hle', c0, c1, wn1, wn2, hm, hsx, hx⟩
  have t0 := Hp.at_lt c0
  have t1 := Hp.at_lt c1
  simp [h1, h2, h4, h6, hlen, hslc]
  refine c_split (fun hq2 => ?_) (fun hq2 => ?_) <;> simp at hq2
  · have hi : i < ds.length := by omega
    obtain ⟨o1, i1, ob1, rfl, a1, a2, a3⟩ := Dds.get (Rows.le hu hle') hi
    have hw := wrapN (i := i) (by omega)
    simp [h1, h2, h4, h6, c0, a1, a2, a3, hi]
    refine ⟨?_, ?_⟩
    · refine cg_ex (l13Do_ok _ x (ds[i]) H' (hm.st) hsx.stB (hk _ (List.getElem_mem hi))) ?_
      rintro v5 H5 hret
      have hle5 : HLe H' H5 := hret.1
      have c05 := hle5.2 _ _ c0
      have c15 := hle5.2 _ _ c1
      have a15 := hle5.2 _ _ a1
      have t05 := Hp.at_lt c05
      have t15 := Hp.at_lt c15
      have ta5 := Hp.at_lt a15
      cases hd : doR x ds[i] with
      | none =>
        rw [hd] at hret
        obtain ⟨hle5', rfl⟩ := hret
        simp [h1, h2, h4, h6, c05, c15, a15, a2, a3, hi, hw, Hp.at_app, Hp.at_set, Hp.at_set_ne, List.length_set, t05, t15, ta5, m01, m01.symm, set_in']
        refine ⟨m - 1, by omega, i + 1, by omega, by omega, (hle'.trans hle5').app _, x, wa, wl, ws, wd, by simp, wn1, wn2, (hm.le hle5').le (HLe.self _ _), hsx, ?_⟩
        rw [doAll_step s ds hi, ← hx, hd]
        rfl
      | some y =>
        rw [hd] at hret
        obtain ⟨hle5', w5, rfl, hm5⟩ := hret
        obtain ⟨ya, yl, ys, yd, hy, yn1, yn2, ydi⟩ := hm5.shape
        subst hy
        simp [yn1, yn2, h1, h2, h4, h6, c05, c15, a15, a2, a3, hi, hw, Hp.at_app, Hp.at_set, Hp.at_set_ne, List.length_set, t05, t15, ta5, m01, m01.symm, set_in']
        have hF := (Fr.one H5 H.length (some ⟨[[ya, .sl yl 0 3, .sl ys 0 3, .int .i64 y.keep, .int .i64 y.time, yd]], 6, 65, false⟩)).app [some ⟨[[ya, .sl yl 0 3, .sl ys 0 3, .int .i64 y.keep, .int .i64 y.time, yd]], 6, 65, false⟩]
        refine ⟨m - 1, by omega, i + 1, by omega, by omega, (hle'.trans hle5').fr_le hF (fun z hz => by rw [hz]; exact Nat.le_refl _), y, ya, yl, ys, yd, by simp, yn1, yn2, (hm5.fr hF (fun z ob hz ho => by rw [hz, c05] at ho; cases ho; rfl)).base hle'.1, doR_small hd, ?_⟩
        rw [doAll_step s ds hi, ← hx, hd]
        rfl
      
    · have ta := Hp.at_lt a1
      simp [Hp.at_app, t0, t1, ta, c0, a1, a2, a3, hi]
      refine cg_ex (l13Do_ok _ x (ds[i]) _ ((hm.le (HLe.self _ _)).st) hsx.stB (hk _ (List.getElem_mem hi))) ?_
      rintro v5 H5 hret
      have hle5 : HLe H' H5 := (HLe.self H' _).trans hret.1
      have c05 := hle5.2 _ _ c0
      have c15 := hle5.2 _ _ c1
      have a15 := hle5.2 _ _ a1
      have t05 := Hp.at_lt c05
      have t15 := Hp.at_lt c15
      have ta5 := Hp.at_lt a15
      have c75 := hret.1.2 _ _ (Hp.at_app_0.trans Hp.at_0)
      have t75 := Hp.at_lt c75
      have m70 : H'.length ≠ H.length := by omega
      have m71 : H'.length ≠ H.length + 1 := by omega
      have m7a : H'.length ≠ o1 := by have := Hp.at_lt a1; omega
      cases hd : doR x ds[i] with
      | none =>
        rw [hd] at hret
        obtain ⟨hle5', rfl⟩ := hret
        simp [h1, h2, h4, h6, c05, c15, a15, a2, a3, hi, hw, Hp.at_app, Hp.at_set, Hp.at_set_ne, List.length_set, t05, t15, ta5, m01, m01.symm, c75, t75, m70, m71, m7a, m70.symm, m71.symm, m7a.symm]
        have hF := Fr.one H5 H'.length (some ⟨[[.nils, .nils, .nils, .int .i64 0, .int .i64 0, .nils]], 6, 65, false⟩)
        refine ⟨m - 1, by omega, i + 1, by omega, by omega, (hle'.trans hle5).fr_le hF (fun z hz => by rw [hz]; exact hle'.1), x, wa, wl, ws, wd, by simp, wn1, wn2, (hm.le hle5).fr hF (fun z ob hz ho => by rw [hz, c75] at ho; cases ho; rfl), hsx, ?_⟩
        rw [doAll_step s ds hi, ← hx, hd]
        rfl
      | some y =>
        rw [hd] at hret
        obtain ⟨hle5', w5, rfl, hm5⟩ := hret
        obtain ⟨ya, yl, ys, yd, hy, yn1, yn2, ydi⟩ := hm5.shape
        subst hy
        simp [yn1, yn2, h1, h2, h4, h6, c05, c15, a15, a2, a3, hi, hw, Hp.at_app, Hp.at_set, Hp.at_set_ne, List.length_set, t05, t15, ta5, m01, m01.symm, c75, t75, m70, m71, m7a, m70.symm, m71.symm, m7a.symm]
        have hF := ((Fr.refl (fun z => z = H'.length ∨ z = H.length) H5).set (o := H'.length) (.inl (.inl rfl)) (some ⟨[[ya, .sl yl 0 3, .sl ys 0 3, .int .i64 y.keep, .int .i64 y.time, yd]], 6, 65, false⟩)).set (o := H.length) (.inl (.inr rfl)) (some ⟨[[ya, .sl yl 0 3, .sl ys 0 3, .int .i64 y.keep, .int .i64 y.time, yd]], 6, 65, false⟩)
        refine ⟨m - 1, by omega, i + 1, by omega, by omega, (hle'.trans hle5).fr_le hF (fun z hz => by have := hle'.1; rcases hz with h | h <;> omega), y, ya, yl, ys, yd, by simp, yn1, yn2, (hm5.fr hF (fun z ob hz ho => by rcases hz with h | h <;> rw [h] at ho <;> simp only [c75, c05] at ho <;> cases ho <;> rfl)).base (Nat.le_trans hle'.1 (by simp)), doR_small hd, ?_⟩
        rw [doAll_step s ds hi, ← hx, hd]
        rfl
      
  · have hie : i = ds.length := by omega
    subst hie
    rw [List.take_of_length_le (Nat.le_refl _)] at hx
    simp [h2, h4, c0, c1, wn1, wn2, Hp.at_set, t1, hp, ← hx]
    have hF := Fr.one H' (H.length + 1) (some ⟨[[wa, .sl wl 0 3, .sl ws 0 3, .int .i64 x.keep, .int .i64 x.time, wd]], 6, 65, false⟩)
    exact ⟨hle'.fr_le hF (fun y hy => by rw [hy]; omega), _, rfl, MSt.fr hm hF (fun y ob hy ho => by rw [hy, c1] at ho; cases ho; rfl)⟩

end Go.Proofs.Ytkdnijiipegabaa.B

namespace Go.Proofs.Ytkdnijiipegabaa.B
open Go.RowKit Go.Proofs
set_option linter.unusedVariables false
set_option linter.unusedSimpArgs false
variable {E : Env}

/-- A box is written behind a reader. -/
theorem Rd.box {H : Hp} {o N n : Nat} (h : Rd H o N) (X : Option Ob) (hne : n ≠ o) (h1 : ∀ ob, H.at n = some ob → ob.esz ≠ 1) : Rd (List.set H n X) o N :=
  h.fr (Fr.one H n X) (fun e => hne e.symm) (fun x ob hx ho => by subst hx; exact h1 ob ho)

theorem l71Deed_ok (o N : Nat) (kv : AV) (ks : List ByteArray) (H : Hp) (hr : Rd H o N) (hk : Strs H kv ks) (hkl : ks.length < 1099511627776) (hks : ∀ s ∈ ks, s.size ≤ 5) (hN : N < 137438953472) :
    AC Try.prog E 69 [.pt o 0 0, kv] H (fun v H' => ∃ d, v = ddAV d ∧ d.key.size ≤ 5 ∧ Dr o H H' ∧ Rd H' o (N + 9)) := by
  refine AC_by fol (tC_le tab2_ok) h_spec_l71Deed ?_
  have hol := hr.lt
  have m0 : H.length ≠ o := by omega
  simp [c_spec_l71Deed]
  refine cg_ex (pick_ok o N 10 _ (hr.le (HLe.self _ _)) (by omega) (by omega)) ?_
  rintro v H1 ⟨n, rfl, hn, hd1, hr1, hlen⟩
  have b1 := hd1.2 H.length ⟨[[.int .i64 0, .str ⟨#[]⟩, .int .i64 0]], 3, 107, false⟩ (by omega) (by simp)
  have hD : Dr o H H1 := (Fr.app (Fr.refl _ H) _).same hd1
  have hk1 : Strs H1 kv ks := (Rows.dr (hr.le (HLe.self _ _)) (hk.le (HLe.self _ _)) (by decide) hd1)
  have fin : ∀ (H2 : Hp) (d : Dd) (M : Nat), d.key.size ≤ 5 → Dr o H1 H2 → Rd H2 o M → M ≤ N + 9 → ∃ d', ddAV d = ddAV d' ∧ d'.key.size ≤ 5 ∧ Dr o H (List.set H2 H.length (some ⟨[[.int .i64 d.kind, .str d.key, .int .i64 d.num]], 3, 107, false⟩)) ∧ Rd (List.set H2 H.length (some ⟨[[.int .i64 d.kind, .str d.key, .int .i64 d.num]], 3, 107, false⟩)) o (N + 9) := by
    intro H2 d M h1 h2 h3 h4
    have b2 := h2.2 _ _ m0 b1
    exact ⟨d, rfl, h1, (hD.same h2).set (.inr (Nat.le_refl _)) _, (h3.box _ m0 (fun ob ho => by rw [b2] at ho; cases ho; simp)).mono h4⟩
  have hcase : n = 0 ∨ n = 1 ∨ n = 2 ∨ n = 3 ∨ n = 4 ∨ n = 5 ∨ n = 6 ∨ n = 7 ∨ n = 8 ∨ n = 9 := by omega
  have u1 := Hp.at_lt b1
  have put : ∀ t : Tm, True := fun _ => trivial
  simp
  refine c_split (fun q0 => ?_) (fun q0 => ?_) <;> simp at q0
  · simp [q0]
    refine cg_ex (l71Near_ok o _ kv ks _ hr1 hk1 hkl hks (by omega)) ?_
    rintro _ H2 ⟨k, rfl, hk5, hd2, hr2⟩
    simp
    refine cg_ex (pick_ok o _ 100 _ hr2 (by omega) (by omega)) ?_
    rintro _ H3 ⟨m, rfl, hm, hd3, hr3, -⟩
    have hb := (hd2.same hd3).2 _ _ m0 b1
    simp [hb, Hp.at_set, Hp.at_lt hb]
    exact fin _ ⟨1, k, m⟩ _ hk5 (hd2.same hd3) hr3 (by omega)
  simp
  refine c_split (fun q1 => ?_) (fun q1 => ?_) <;> simp at q1
  · simp [q1]
    refine cg_ex (l71Near_ok o _ kv ks _ hr1 hk1 hkl hks (by omega)) ?_
    rintro _ H2 ⟨k, rfl, hk5, hd2, hr2⟩
    simp
    refine cg_ex (pick_ok o _ 100 _ hr2 (by omega) (by omega)) ?_
    rintro _ H3 ⟨m, rfl, hm, hd3, hr3, -⟩
    have hb := (hd2.same hd3).2 _ _ m0 b1
    simp [hb, Hp.at_set, Hp.at_lt hb]
    exact fin _ ⟨1, k, m⟩ _ hk5 (hd2.same hd3) hr3 (by omega)
  simp
  refine c_split (fun q2 => ?_) (fun q2 => ?_) <;> simp at q2
  · simp [q2]
    refine cg_ex (l71Near_ok o _ kv ks _ hr1 hk1 hkl hks (by omega)) ?_
    rintro _ H2 ⟨k, rfl, hk5, hd2, hr2⟩
    simp
    refine cg_ex (pick_ok o _ 100 _ hr2 (by omega) (by omega)) ?_
    rintro _ H3 ⟨m, rfl, hm, hd3, hr3, -⟩
    have hb := (hd2.same hd3).2 _ _ m0 b1
    simp [hb, Hp.at_set, Hp.at_lt hb]
    exact fin _ ⟨1, k, m⟩ _ hk5 (hd2.same hd3) hr3 (by omega)
  simp
  refine c_split (fun q3 => ?_) (fun q3 => ?_) <;> simp at q3
  · simp [q3]
    refine cg_ex (l71Near_ok o _ kv ks _ hr1 hk1 hkl hks (by omega)) ?_
    rintro _ H2 ⟨k, rfl, hk5, hd2, hr2⟩
    simp
    refine cg_ex (pick_ok o _ 100 _ hr2 (by omega) (by omega)) ?_
    rintro _ H3 ⟨m, rfl, hm, hd3, hr3, -⟩
    have hb := (hd2.same hd3).2 _ _ m0 b1
    simp [hb, Hp.at_set, Hp.at_lt hb]
    exact fin _ ⟨1, k, m⟩ _ hk5 (hd2.same hd3) hr3 (by omega)
  simp
  refine c_split (fun q4 => ?_) (fun q4 => ?_) <;> simp at q4
  · simp [q4]
    refine cg_ex (l71Near_ok o _ kv ks _ hr1 hk1 hkl hks (by omega)) ?_
    rintro _ H2 ⟨k, rfl, hk5, hd2, hr2⟩
    simp
    refine cg_ex (pick_ok o _ 100 _ hr2 (by omega) (by omega)) ?_
    rintro _ H3 ⟨m, rfl, hm, hd3, hr3, -⟩
    have hb := (hd2.same hd3).2 _ _ m0 b1
    simp [hb, Hp.at_set, Hp.at_lt hb]
    exact fin _ ⟨1, k, m⟩ _ hk5 (hd2.same hd3) hr3 (by omega)
  simp [q4]
  refine c_split (fun q5 => ?_) (fun q5 => ?_) <;> simp at q5
  · simp
    refine cg_ex (l71Near_ok o _ kv ks _ hr1 hk1 hkl hks (by omega)) ?_
    rintro _ H2 ⟨k, rfl, hk5, hd2, hr2⟩
    have hb := hd2.2 _ _ m0 b1
    simp [hb, Hp.at_set, Hp.at_lt hb]
    exact fin _ ⟨2, k, 0⟩ _ hk5 hd2 hr2 (by omega)
  simp
  refine c_split (fun q6 => ?_) (fun q6 => ?_) <;> simp at q6
  · simp [b1, Hp.at_set, u1]
    exact fin H1 ⟨3, ⟨#[]⟩, 0⟩ _ (by decide) (Fr.refl _ _) hr1 (by omega)
  simp
  refine c_split (fun q7 => ?_) (fun q7 => ?_) <;> simp at q7
  · simp
    refine cg_ex (pick_ok o _ 20 _ hr1 (by omega) (by omega)) ?_
    rintro _ H3 ⟨m, rfl, hm, hd3, hr3, -⟩
    have hb := hd3.2 _ _ m0 b1
    simp [hb, Hp.at_set, Hp.at_lt hb]
    exact fin _ ⟨4, ⟨#[]⟩, m⟩ _ (by show 0 ≤ 5; omega) hd3 hr3 (by omega)
  simp
  refine c_split (fun q8 => ?_) (fun q8 => ?_) <;> simp at q8
  · simp [b1, Hp.at_set, u1]
    exact fin H1 ⟨5, ⟨#[]⟩, 0⟩ _ (by decide) (Fr.refl _ _) hr1 (by omega)
  simp
  refine cg_ex (pick_ok o _ 3 _ hr1 (by omega) (by omega)) ?_
  rintro _ H3 ⟨m, rfl, hm, hd3, hr3, -⟩
  have hb := hd3.2 _ _ m0 b1
  simp [hb, Hp.at_set, Hp.at_lt hb]
  exact fin _ ⟨6, ⟨#[]⟩, m⟩ _ (by show 0 ≤ 5; omega) hd3 hr3 (by omega)

end Go.Proofs.Ytkdnijiipegabaa.B

namespace Go.Proofs.Ytkdnijiipegabaa.B
open Go.RowKit Go.Proofs
set_option linter.unusedVariables false
set_option linter.unusedSimpArgs false
variable {E : Env}

def sv0 (keep : Int) : Sv := ⟨⟨#[]⟩, ⟨#[]⟩, ⟨#[]⟩, [], keep⟩
theorem StoreNew_ok (keep : Int) (H : Hp) : AC Try.prog E 53 [.int .i64 keep] H (fun u H' => RetS H H' u (newR keep)) := by
  refine AC_by fol (tC_le tab2_ok) h_spec_StoreNew ?_
  simp [c_spec_StoreNew]
  refine c_split (fun hq => ?_) (fun hq => ?_) <;> simp at hq
  · have hn : newR keep = none := by unfold newR; rw [if_neg (by omega)]
    simp [hn, RetS]
  have hn : newR keep = some ⟨[], List.replicate 3 [], List.replicate 3 (sv0 keep), keep, 0, []⟩ := by
    unfold newR
    rw [if_pos (by omega)]
    rfl
  simp
  refine W_for (fun m t H' => ∃ i lv sv lr sr, i + m = 3 ∧ t 0 = .int .i64 keep ∧ t 2 = .pt H.length 0 0 ∧ t 4 = .pt (H.length + 3) 0 0 ∧ t 5 = .int .i64 (i : Nat) ∧ HLe H H' ∧
    H'.at H.length = some ⟨[[.nils, .nils, .nils, .int .i64 0, .int .i64 0, .nils]], 6, 65, false⟩ ∧
    H'.at (H.length + 3) = some ⟨[[.sl (H.length + 1) 0 0, lv, sv, .int .i64 keep, .int .i64 0, .sl (H.length + 2) 0 0]], 6, 65, false⟩ ∧
    OwnE H H' (.sl (H.length + 1) 0 0) [] ∧ OwnI H H' (.sl (H.length + 2) 0 0) [] ∧ Own 1 55 H' lv lr ∧ (∀ x, lv.of x → H.length + 4 ≤ x) ∧ All2 (LvRow H') lr (List.replicate i []) ∧
    Own 5 103 H' sv sr ∧ (∀ x, sv.of x → H.length + 4 ≤ x) ∧ All2 (SvRow H' (fun x => lv.of x ∨ H.length + 2 = x)) sr (List.replicate i (sv0 keep))) 3 ?_ (tC_mono AC_mono) ?_
  · refine ⟨0, .nils, .nils, [], [], rfl, by simp, by simp, by simp, by simp, HLe.self _ _, by simp, by simp, ⟨Own.obj (R := []) (by simp) rfl, fun x hx => by simp at hx; omega⟩, ⟨Own.obj (R := []) (by simp) rfl, fun x hx => by simp at hx; omega⟩, Own.nils, fun x hx => hx.elim, trivial, Own.nils, fun x hx => hx.elim, trivial⟩
  rintro m t H' ⟨i, lv, sv, lr, sr, him, h0, h2, h4, h5, hle, k0, k3, htop, htms, hlv, hlva, hlvr, hsv, hsva, hsvr⟩
  simp [h0, h2, h4, h5]
  refine c_split (fun hq2 => ?_) (fun hq2 => ?_) <;> simp at hq2
  · have hi3 : i < 3 := by omega
    have hw := wrapN (i := i) (by omega)
    have u0 := Hp.at_lt k0
    have u3 := Hp.at_lt k3
    simp [h0, h2, h4, h5, k3, Hp.at_app, u3]
    rw [List.append_cons]
    have hA : HLe H' (H' ++ [some ⟨[], 4, 72, false⟩]) := HLe.self _ _
    refine appG_one' (bytes := 24) (R := lr) (by simp) (hlv.le hA) (by have := All2.length hlvr; simp at this; omega) (fun v5 H5 g1 g2 g3 => ?_)
    have hF5 : Fr lv.of H' H5 := (hA.fr (S := lv.of)).same g2
    have nlv : ∀ x, x < H.length + 4 → ¬ lv.of x := fun x h1 h2 => by have := hlva x h2; omega
    have k05 := hF5.2 _ _ (nlv _ (by omega)) k0
    have k35 := hF5.2 _ _ (nlv _ (by omega)) k3
    have ktop := g2.2 H'.length _ (fun h => by have := hlv.lt h; omega) (Hp.at_app_0.trans Hp.at_0)
    have u05 := Hp.at_lt k05
    have u35 := Hp.at_lt k35
    have m03 : H.length ≠ H.length + 3 := by omega
    have hl5 := g2.1
    simp at hl5
    simp [h0, h2, h4, h5, k35, g1.rows.one, g1.rows.cells, g1.rows.cells1, Hp.at_set, Hp.at_app, List.length_set, u35]
    obtain ⟨X, hX⟩ : ∃ X : Option Ob, X = some ⟨[[.sl (H.length + 1) 0 0, v5, sv, .int .i64 keep, .int .i64 0, .sl (H.length + 2) 0 0]], 6, 65, false⟩ := ⟨_, rfl⟩
    rw [← hX]
    obtain ⟨G5, hG5⟩ : ∃ G5 : Hp, G5 = List.set H5 (H.length + 3) X := ⟨_, rfl⟩
    have hGl : H5.length = G5.length := by rw [hG5]; simp
    have hG : Fr (fun x => x = H.length + 3) H5 G5 := by rw [hG5]; exact Fr.one _ _ _
    have kG3 : G5.at (H.length + 3) = X := by rw [hG5]; exact Hp.at_set _ u35
    rw [← hG5, hGl, List.append_cons]
    have hB : HLe G5 (G5 ++ [some ⟨[], 1, 9, false⟩]) := HLe.self _ _
    have hsv5 : Own 5 103 H5 sv sr := hsv.fr hF5 (fun x hx h => hlv.rows.apart hsv.rows (by simp) h hx)
    have hsvG : Own 5 103 G5 sv sr := hsv5.fr hG (fun x hx => by have := hsva x hx; omega)
    refine appG_one' (bytes := 80) (R := sr) (by simp) (hsvG.le hB) (by have := All2.length hsvr; simp at this; omega) (fun v7 H7 p1 p2 p3 => ?_)
    have hF7 : Fr sv.of G5 H7 := (hB.fr (S := sv.of)).same p2
    have nsv : ∀ x, x < H.length + 4 → ¬ sv.of x := fun x h1 h2 => by have := hsva x h2; omega
    have kG0 := hG.2 _ _ m03 k05
    have k07 := hF7.2 _ _ (nsv _ (by omega)) kG0
    have k37 := hF7.2 _ _ (nsv _ (by omega)) (kG3.trans hX)
    have u37 := Hp.at_lt k37
    have hl7 := hF7.1
    have hsvl : ∀ x, sv.of x → x < H'.length := fun x hx => hsv.lt hx
    have hlvl : ∀ x, lv.of x → x < H'.length := fun x hx => hlv.lt hx
    have ktG := hG.2 _ _ (show H'.length ≠ H.length + 3 by omega) ktop
    have kt7 := hF7.2 _ _ (fun h => by have := hsvl _ h; omega) ktG
    have ks7 := p2.2 G5.length _ (fun h => by have := hsvl _ h; omega) (Hp.at_app_0.trans Hp.at_0)
    simp [h0, h2, h4, h5, k37, p1.rows.one, p1.rows.cells, p1.rows.cells1, hw]
    obtain ⟨Z, hZ⟩ : ∃ Z : Option Ob, Z = some ⟨[[.sl (H.length + 1) 0 0, v5, v7, .int .i64 keep, .int .i64 0, .sl (H.length + 2) 0 0]], 6, 65, false⟩ := ⟨_, rfl⟩
    rw [← hZ]
    have hS := Fr.one H7 (H.length + 3) Z
    have hF58 : Fr (fun x => x = H.length + 3 ∨ sv.of x) H5 (List.set H7 (H.length + 3) Z) := ((hG.mono (fun x hx => .inl (.inl hx))).trans hF7 (fun x hx => .inl (.inr hx))).trans hS (fun x hx => .inl (.inl hx))
    have hF8 : Fr (fun x => lv.of x ∨ sv.of x ∨ x = H.length + 3) H' (List.set H7 (H.length + 3) Z) := (hF5.mono (fun x hx => .inl (.inl hx))).trans hF58 (fun x hx => hx.elim (fun h => .inl (.inr (.inr h))) (fun h => .inl (.inr (.inl h))))
    have ns4 : ∀ x ob, (lv.of x ∨ sv.of x ∨ x = H.length + 3) → H'.at x = some ob → ob.esz ≠ 4 := fun x ob hs ho => by
      rcases hs with h | h | h
      · rw [hlv.esz h ho]; decide
      · rw [hsv.esz h ho]; decide
      · subst h; rw [k3] at ho; cases ho; simp
    have v5a : ∀ x, v5.of x → lv.of x ∨ H'.length ≤ x := fun x hx => (g3 x hx).imp id (fun h => by simp at h; omega)
    have v7a : ∀ x, v7.of x → sv.of x ∨ H5.length ≤ x := fun x hx => (p3 x hx).imp id (fun h => by simp at h; omega)
    have k0F := hS.2 _ _ m03 k07
    have ktF := hS.2 _ _ (show H'.length ≠ H.length + 3 by omega) kt7
    have ksF := hS.2 _ _ (show G5.length ≠ H.length + 3 by omega) ks7
    refine ⟨m - 1, by omega, i + 1, by omega, by omega, hle.fr_le hF8 (fun x hx => by rcases hx with h | h | h; (have := hlva x h; omega); (have := hsva x h; omega); omega), k0F, v5, v7, (Hp.at_set _ u37).trans hZ, ?_, ?_, lr ++ [[.sl H'.length 0 0]], ?_, ?_, ?_, sr ++ [[.str ⟨#[]⟩, .str ⟨#[]⟩, .str ⟨#[]⟩, .sl G5.length 0 0, .int .i64 keep]], ?_, ?_, ?_⟩
    · exact htop.fr hF8 (fun x hx hs => by
        have hx' : H.length + 1 = x := hx
        rcases hs with h | h | h
        · have := hlva x h; omega
        · have := hsva x h; omega
        · omega)
    · exact htms.fr hF8 (fun x hx hs => by
        have hx' : H.length + 2 = x := hx
        rcases hs with h | h | h
        · have := hlva x h; omega
        · have := hsva x h; omega
        · omega)
    · exact g1.fr hF58 (fun x hx hs => by
        rcases hs with h | h
        · rcases v5a x hx with hh | hh
          · have := hlva x hh; omega
          · omega
        · exact g1.rows.apart hsv5.rows (by simp) hx h)
    · intro x hx
      rcases v5a x hx with h | h
      · exact hlva x h
      · omega
    · rw [List.replicate_succ']
      exact (All2.mono (fun row es h => h.fr hF8 ns4) hlvr).append ⟨⟨_, rfl, Own.rows (ety := 72) (Own.obj (R := []) ktF rfl)⟩, trivial⟩
    · exact p1.fr hS (fun x hx => by
        rcases v7a x hx with h | h
        · have := hsva x h; omega
        · omega)
    · intro x hx
      rcases v7a x hx with h | h
      · exact hsva x h
      · omega
    · rw [List.replicate_succ']
      refine (All2.mono (fun row sv' h => ?_) hsvr).append ⟨⟨.sl G5.length 0 0, rfl, Own.rows (ety := 9) (Own.obj (R := []) ksF rfl), fun x hx h => ?_⟩, trivial⟩
      · refine SvRow.fr (X' := fun x => v5.of x ∨ H.length + 2 = x) h hF8 (fun x ob hs ho => ?_) (fun x hx hx' => hx'.elim (fun h => (v5a x h).elim .inl (fun h => by omega)) .inr)
        rcases hs with h | h | h
        · exact .inr (.inl h)
        · exact .inl (by rw [hsv.esz h ho]; decide)
        · exact .inl (by subst h; rw [k3] at ho; cases ho; simp)
      · have hx' : G5.length = x := hx
        rcases h with h | h
        · have := g1.lt h; omega
        · omega
  · have hi3 : i = 3 := by omega
    subst hi3
    have u0 := Hp.at_lt k0
    obtain ⟨ol, rfl⟩ := hlv.sl (by rw [hlvr.length]; simp)
    obtain ⟨os, rfl⟩ := hsv.sl (by rw [hsvr.length]; simp)
    have hl3 : lr.length = 3 := by rw [hlvr.length]; simp
    have hs3 : sr.length = 3 := by rw [hsvr.length]; simp
    rw [hl3] at hlv k3
    rw [hs3] at hsv k3
    simp [h2, h4, k0, k3, Hp.at_set, u0, hn]
    have hF := Fr.one H' H.length (some ⟨[[.sl (H.length + 1) 0 0, .sl ol 0 3, .sl os 0 3, .int .i64 keep, .int .i64 0, .sl (H.length + 2) 0 0]], 6, 65, false⟩)
    have hm : MSt H H' (.ag [.sl (H.length + 1) 0 0, .sl ol 0 3, .sl os 0 3, .int .i64 keep, .int .i64 0, .sl (H.length + 2) 0 0]) ⟨[], List.replicate 3 [], List.replicate 3 (sv0 keep), keep, 0, []⟩ :=
      ⟨.sl (H.length + 1) 0 0, ol, os, .sl (H.length + 2) 0 0, lr, sr, rfl, htop, hlv, hlvr, hsv, All2.mono (fun _ _ h => by
        obtain ⟨r, e1, e2, e3⟩ := h
        rw [hl3] at e3
        exact ⟨r, e1, e2, e3⟩) hsvr, htms, fun hx => by have := hlva ol rfl; simp at hx; omega, by have := hlva ol rfl; omega, by have := hsva os rfl; omega, rfl, rfl⟩
    exact ⟨hle.fr_le hF (fun x hx => by rw [hx]; exact Nat.le_refl _), _, rfl, hm.fr hF (fun y ob hy ho => by rw [hy, k0] at ho; cases ho; rfl)⟩

end Go.Proofs.Ytkdnijiipegabaa.B

namespace Go.Proofs.Ytkdnijiipegabaa.B
open Go.RowKit Go.Proofs
set_option linter.unusedVariables false
set_option linter.unusedSimpArgs false
variable {E : Env}

abbrev OwnD := OwnM (α := Dd) 3 107 ddRow
theorem l71Deeds_ok (o N : Nat) (most : Nat) (H : Hp) (hr : Rd H o N) (hm : most < 1000) (hN : N < 68719476736) :
    AC Try.prog E 55 [.pt o 0 0, .int .i64 most] H (fun v H' => ∃ ds, OwnD H H' v ds ∧ ds.length ≤ most + 1 ∧ (∀ d ∈ ds, d.key.size ≤ 5) ∧ Dr o H H' ∧ Rd H' o (N + 39 + 10 * most)) := by
  refine AC_by fol (tC_le tab2_ok) h_spec_l71Deeds ?_
  have hw0 := wrapN (i := most) (by omega)
  simp [c_spec_l71Deeds, hw0]
  refine cg_ex (l71Keys_ok o N 5 H hr (by omega) (by omega)) ?_
  rintro kv H1 ⟨ks, hks, hkl, hksz, hd1, hr1⟩
  simp [hw0]
  refine cg_ex (pick_ok o _ ((most : Int) + 1) _ (hr1.le (HLe.self _ _)) (by omega) (by omega)) ?_
  rintro v H2 ⟨n, rfl, hn, hd2, hr2, hlen⟩
  have hd0 : Dr o H H2 := (hd1.app _).same hd2
  have hn1 : n ≤ most := by omega
  have hks2 : OwnS H H2 kv ks := OwnM.dr (hr1.le (HLe.self _ _)) (hks.le (HLe.self _ _)) (by decide) hd2
  simp
  refine W_for (fun m t H' => ∃ ds v, m ≤ most ∧ t 0 = .pt o 0 0 ∧ t 5 = kv ∧ t 6 = v ∧ t 7 = .int .i64 m ∧ OwnD H H' v ds ∧ OwnS H H' kv ks ∧ ds.length + m ≤ most ∧ (∀ d ∈ ds, d.key.size ≤ 5) ∧ Dr o H H' ∧ Rd H' o (N + 37 + 10 * (most - m))) n ?_ (tC_mono AC_mono) ?_
  · refine ⟨[], _, hn1, by simp, by simp, by simp; rfl, by simp, ?_, hks2, by simpa using hn1, by simp, hd0, hr2.mono (by omega)⟩
    exact (OwnM.dr (hr1.le (HLe.self _ _)) (OwnM.lit0 (HLe.refl H1)) (by decide) hd2).base hd1.len
  rintro m t H' ⟨ds, v, hm5, h0, h5, h6, h7, hv, hkv, hdl, hdk, hd, hr⟩
  simp [h0, h5, h6, h7]
  refine c_split (fun hq => ?_) (fun hq => ?_) <;> simp at hq
  · have hw : IntKind.i64.wrap ((m : Int) - 1) = ((m - 1 : Nat) : Int) := by rw [wrap64 (by omega) (by omega)]; omega
    simp [h0, h5, h6, h7]
    refine cg_ex (l71Deed_ok o _ kv ks H' hr hkv.strs (by omega) hksz (by omega)) ?_
    rintro _ H2 ⟨e, rfl, hk5, hd2, hr2⟩
    have hkv2 := OwnM.dr hr hkv (by decide) hd2
    have hv2 := OwnM.dr hr hv (by decide) hd2
    simp [h0, h5, h6, h7, ddAV]
    have hla := hd.len
    have hl2a := hd2.len
    refine appG_one' (bytes := 32) (R := ds.map ddRow) rfl hv2.1 (by simp; omega) (fun v5 H5 g1 g2 g3 => ?_)
    have hv5 : OwnD H H5 v5 (ds ++ [e]) := ⟨by simpa [ddRow] using g1, fun x hx => (g3 x hx).elim (hv2.2 x) (fun h => by omega)⟩
    have hr5 := (hr2.fr g2 (fun h => hr2.ne hv2.rows (by decide) h rfl) (fun x ob hx ho => by rw [hv2.1.esz hx ho]; decide))
    have hd5 : Dr o H H5 := (hd.same hd2).trans g2 (fun x hx => .inr (hv2.2 x hx))
    have hkv5 := hkv2.fr g2 (fun x hx hs => hkv2.rows.apart hv2.rows (by simp) hx hs)
    simp [h0, h5, h6, h7, hw]
    refine ⟨m - 1, by omega, by omega, rfl, ds ++ [e], hv5, hkv5, by simp; omega, fun d hd => ?_, hd5, hr5.mono (by omega)⟩
    rcases List.mem_append.1 hd with h | h
    · exact hdk d h
    · rw [List.mem_singleton.1 h]; exact hk5
  · have : m = 0 := by omega
    subst this
    simp [h0, h6]
    refine cg_ex (pick_ok o _ 24 _ hr (by omega) (by omega)) ?_
    rintro _ H2 ⟨c, rfl, hc, hd2, hr2, -⟩
    have hv2 := OwnM.dr hr hv (by decide) hd2
    simp [h0, h6]
    refine c_split (fun hq => ?_) (fun hq => ?_) <;> simp at hq
    · simp [h0, h6]
      refine cg_ex (pick_ok o _ 9 _ hr2 (by omega) (by omega)) ?_
      rintro _ H3 ⟨q, rfl, hq9, hd3, hr3, -⟩
      have hv3 := OwnM.dr hr2 hv2 (by decide) hd3
      simp [h0, h6]
      have hlb := hd.len
      have hl2b := hd2.len
      have hl3b := hd3.len
      refine appG_one' (bytes := 32) (R := ds.map ddRow) rfl hv3.1 (by simp; omega) (fun v5 H5 g1 g2 g3 => ?_)
      have hv5 : OwnD H H5 v5 (ds ++ [⟨IntKind.i64.wrap ((q : Int) - 1), ⟨#[120]⟩, -1⟩]) := ⟨by simpa [ddRow] using g1, fun x hx => (g3 x hx).elim (hv3.2 x) (fun h => by omega)⟩
      have hr5 := (hr3.fr g2 (fun h => hr3.ne hv3.rows (by decide) h rfl) (fun x ob hx ho => by rw [hv3.1.esz hx ho]; decide))
      have hd5 : Dr o H H5 := ((hd.same hd2).same hd3).trans g2 (fun x hx => .inr (hv3.2 x hx))
      simp
      refine ⟨_, hv5, by simp; omega, fun d hd => ?_, hd5, hr5.mono (by omega)⟩
      rcases List.mem_append.1 hd with h | h
      · exact hdk d h
      · rw [List.mem_singleton.1 h]; show 1 ≤ 5; omega
    · simp [h0, h6]
      exact ⟨ds, hv2, by omega, hdk, hd.same hd2, hr2.mono (by omega)⟩

end Go.Proofs.Ytkdnijiipegabaa.B

namespace Go.Proofs.Ytkdnijiipegabaa.B
open Go.RowKit Go.Proofs
set_option linter.unusedVariables false
set_option linter.unusedSimpArgs false
variable {E : Env}

theorem MSt.frn {S : Nat → Prop} {H0 H H' : Hp} {v : AV} {s : Sr} (h : MSt H0 H v s) (hf : Fr S H H') (hS : ∀ x ob, S x → H.at x = some ob → ob.esz = 2 ∨ ob.esz = 6) : MSt H0 H' v s := by
  obtain ⟨a, ol, os, d, lr, sr, rfl, ha, hlv, hlr, hsv, hsr, hd, hdo, hol, hos, hl3, hs3⟩ := h
  have no : ∀ {esz ety : Nat} {v : AV} {R : List (List AV)}, esz ≠ 2 ∧ esz ≠ 6 → Own esz ety H v R → ∀ x, v.of x → ¬ S x := by
    intro esz ety v R hne ho x hx hs
    rcases ho with ⟨rfl, _⟩ | ⟨rfl, _⟩ | ⟨o', ob, rfl, a2, a3, a4, _⟩
    · exact hx.elim
    · exact hx.elim
    · have : o' = x := hx
      subst this
      rcases hS _ _ hs a2 with h | h
      · exact hne.1 (a4.symm.trans h)
      · exact hne.2 (a4.symm.trans h)
  refine ⟨a, ol, os, d, lr, sr, rfl, ha.fr hf (no (by omega) ha.1), hlv.fr hf (no (by omega) hlv), All2.mono (fun _ _ h => h.fr hf (fun x ob hs ho => by have := hS x ob hs ho; omega)) hlr, hsv.fr hf (no (by omega) hsv),
    All2.mono (fun _ _ h => h.fr hf (fun x ob hs ho => .inl (by have := hS x ob hs ho; omega)) (fun _ _ h => h)) hsr, hd.fr hf (no (by omega) hd.1), hdo, hol, hos, hl3, hs3⟩
theorem St.zero (H : Hp) : ∃ s, St H zst s ∧ StB s := ⟨⟨[], [], [], 0, 0, []⟩, ⟨.nils, .nils, .nils, .nils, [], [], rfl, Rows.nil, Rows.nil, trivial, Rows.nil, trivial, Rows.nil⟩,
  ⟨by simp, fun e he => by simp at he⟩, by simp, by simp, by simp, by simp, by simp, ⟨by simp, by simp⟩, ⟨by simp, by simp⟩, by simp⟩
/-- What came back is a store. -/
theorem RetS.st {S : Nat → Prop} {H1 H2 H3 : Hp} {w ok : AV} {o : Option Sr} (h : RetS H1 H2 (.tu [w, ok]) o) (hf : Fr S H2 H3) (hS : ∀ x ob, S x → H2.at x = some ob → ob.esz = 2 ∨ ob.esz = 6) (hs : ∀ x, o = some x → Small x) : ∃ s, St H3 w s ∧ StB s := by
  obtain ⟨_, h⟩ := h
  cases o with
  | none =>
    simp at h
    rw [h.1]
    exact St.zero H3
  | some x =>
    obtain ⟨w', e, hm⟩ := h
    simp at e
    rw [e.1]
    exact ⟨x, (hm.frn hf hS).st, (hs x rfl).stB⟩
theorem doAll_small : ∀ (ds : List Dd) {s : Sr}, Small s → Small (doAll s ds)
  | [], s, h => h
  | d :: ds, s, h => by
    have : doAll s (d :: ds) = doAll ((doR s d).getD s) ds := rfl
    rw [this]
    refine doAll_small ds ?_
    cases hd : doR s d with
    | none => exact h
    | some x => exact doR_small hd
theorem pastR_small {s x : Sr} {ds : List Dd} (h : pastR s ds = some x) : Small x := by
  unfold pastR at h
  split at h
  · rename_i hc
    cases h
    simp only [Bool.and_eq_true] at hc
    exact doAll_small ds (storeOk_small hc.1)
  · cases h

theorem l71Store_ok (o N : Nat) (H : Hp) (hr : Rd H o N) (hN : N < 34359738368) :
    AC Try.prog E 40 [.pt o 0 0] H (fun v H' => ∃ s, St H' v s ∧ StB s ∧ Dr o H H' ∧ Rd H' o (N + 400)) := by
  refine AC_by fol (tC_le tab2_ok) h_spec_l71Store ?_
  have hol := hr.lt
  simp [c_spec_l71Store]
  refine cg_ex (pick_ok o N 5 _ (hr.le (HLe.self _ _)) (by omega) (by omega)) ?_
  rintro v H1 ⟨n, rfl, hn, hd1, hr1, hlen⟩
  have b0 := hd1.2 H.length ⟨[[.nils, .nils, .nils, .int .i64 0, .int .i64 0, .nils]], 6, 65, false⟩ (by omega) (by simp)
  have bl := hd1.2 (H.length + 1) ⟨[[.int .i64 0], [.int .i64 1], [.int .i64 1], [.int .i64 2], [.int .i64 5]], 1, 3, false⟩ (by omega) (by simp)
  have hD1 : Dr o H H1 := (Fr.app (Fr.refl _ H) _).same hd1
  have hn5 : n < 5 := by omega
  have hnI : (n : Int) < 5 := by omega
  have hrow : ∃ k, ([[.int .i64 0], [.int .i64 1], [.int .i64 1], [.int .i64 2], [.int .i64 5]] : List (List AV))[n]? = some [.int .i64 k] := by
    have : n = 0 ∨ n = 1 ∨ n = 2 ∨ n = 3 ∨ n = 4 := by omega
    rcases this with rfl | rfl | rfl | rfl | rfl <;> exact ⟨_, rfl⟩
  obtain ⟨k, hk⟩ := hrow
  simp [bl, hk, hnI]
  refine cg_ex (StoreNew_ok k H1) ?_
  intro v2 H2 hret
  obtain ⟨xa, xb, xc, xk, xt, xd, rfl, o1, o2, o3, o4, o5, o6⟩ := hret.shape
  simp [o1, o2, o3, o4, o5, o6]
  have hr2 := hr1.le hret.1
  have hl2 := hret.1.1
  have hl1 := hD1.len
  have hB := HLe.self H2 [some ⟨[[xa, xb, xc, xk, xt, xd]], 6, 65, false⟩]
  refine cg_ex (l71Deeds_ok o _ 30 _ (hr2.le hB) (by omega) (by omega)) ?_
  rintro dv H3 ⟨ds, hds, hdl, hdk, hd3, hr3⟩
  have esz2 : ∀ x ob, x = o → H2.at x = some ob → ob.esz = 2 ∨ ob.esz = 6 := by
    intro x ob hx ho
    obtain ⟨b, bs, p, h1, _⟩ := hr2
    rw [hx, h1] at ho
    cases ho
    exact .inl rfl
  obtain ⟨s, hs, hsb⟩ := hret.st (S := fun x => x = o) ((Fr.app (Fr.refl _ H2) _).same hd3) esz2 (fun x hx => newR_small hx)
  have c3 := hd3.2 H2.length _ (show ¬ H2.length = o by omega) (Hp.at_app_0.trans Hp.at_0)
  have b03 := hd3.2 H.length _ (show ¬ H.length = o by omega) (hB.2 _ _ (hret.1.2 _ _ b0))
  simp [c3]
  refine cg_ex (PastDo_ok _ dv s ds H3 hs hsb hds.rows (fun d hd => by have := hdk d hd; omega)) ?_
  intro v4 H4 hret4
  obtain ⟨ya, yb, yc, yk, yt, yd, rfl, p1, p2, p3, p4, p5, p6⟩ := hret4.shape
  have c4 := hret4.1.2 _ _ c3
  have b04 := hret4.1.2 _ _ b03
  have u4 := Hp.at_lt c4
  have u04 := Hp.at_lt b04
  have hl1' := Hp.at_lt b0
  have m0 : H2.length ≠ H.length := by omega
  simp [p1, p2, p3, p4, p5, p6, c4, b04, Hp.at_set, Hp.at_set_ne, List.length_set, u4, u04, m0, m0.symm]
  obtain ⟨W, hW⟩ : ∃ W : Option Ob, W = some ⟨[[ya, yb, yc, yk, yt, yd]], 6, 65, false⟩ := ⟨_, rfl⟩
  rw [← hW]
  have hF := ((Fr.refl (fun x => x = H2.length ∨ x = H.length) H4).set (o := H2.length) (.inl (.inl rfl)) W).set (o := H.length) (.inl (.inr rfl)) W
  have e6 : ∀ x ob, (x = H2.length ∨ x = H.length) → H4.at x = some ob → ob.esz = 2 ∨ ob.esz = 6 := by
    intro x ob hx ho
    rcases hx with h | h
    · rw [h, c4] at ho; cases ho; exact .inr rfl
    · rw [h, b04] at ho; cases ho; exact .inr rfl
  obtain ⟨s', hs', hsb'⟩ := hret4.st hF e6 (fun x hx => pastR_small hx)
  refine ⟨s', hs', hsb', ((((hD1.le_fr hret.1).app _).same hd3).le_fr hret4.1).trans hF (fun x hx => .inr (by rcases hx with h | h <;> omega)), Rd.mono ((hr3.le hret4.1).fr hF (by omega) (fun x ob hx ho => by have := e6 x ob hx ho; omega)) (by omega)⟩

end Go.Proofs.Ytkdnijiipegabaa.B

namespace Go.Proofs.Ytkdnijiipegabaa.B
open Go.RowKit Go.Proofs
set_option linter.unusedVariables false
set_option linter.unusedSimpArgs false
variable {E : Env}

def sealT (t : ByteArray) : ByteArray := t ++ lit1 33 ++ dec (sumB t)
def blockT (r : List Ent) : ByteArray := if runOk r = true then (if (sealT (runText r)).size ≤ 400 then sealT (runText r) else ⟨#[]⟩) else ⟨#[]⟩
theorem l21Seal_ok (t : ByteArray) (H : Hp) (ht : t.size < 1099511627776) : AC Try.prog E 66 [.str t] H (fun v H' => v = .str (sealT t) ∧ H' = H) := by
  refine AC_byp (tC_le tab2_ok) h_spec_l21Seal (by simp) ?_
  simp [c_spec_l21Seal]
  have h1 : (ByteArray.mk #[33]).size = 1 := rfl
  refine ⟨by omega, ?_⟩
  refine cg_use (specSum_ok t H (by omega)) ?_
  simp
  refine cg_use (l6Dec_ok (sumB t) H (by have := sumB_bound t; omega)) ?_
  have h2 := dec_size (sumB t) (by have := sumB_bound t; omega)
  simp [sealT, lit1]
  omega
theorem BlockText_ok (a : AV) (r : List Ent) (H : Hp) (ha : Ents H a r) (hs : Short r) (hn : r.length < 1099511627776) : AC Try.prog E 51 [a] H (fun v H' => v = .str (blockT r) ∧ H' = H) := by
  refine AC_byp (tC_le tab2_ok) h_spec_BlockText (by simp) ?_
  simp [c_spec_BlockText]
  refine cg_use (RunOk_ok a r H ha hs (by omega)) ?_
  cases hro : runOk r with
  | false => simp [blockT, hro]
  | true =>
  have hf := runOk_fits hro
  have hrs := runText_size r (fun e he => ⟨hf.1 e he, by have := hf.2.2 e he; omega⟩) r.length (Nat.le_refl _)
  rw [List.take_of_length_le (Nat.le_refl _)] at hrs
  simp
  refine cg_use (l21Run_ok a r H ha (fun e he => ⟨hf.1 e he, by have := hf.2.2 e he; omega⟩) hn) ?_
  simp
  refine cg_use (l21Seal_ok (runText r) H (by omega)) ?_
  simp
  refine c_split (fun hq => ?_) (fun hq => ?_) <;> simp at hq
  · simp [blockT, hro]
    intro h
    omega
  · simp [blockT, hro]
    intro h
    omega

end Go.Proofs.Ytkdnijiipegabaa.B

namespace Go.Proofs.Ytkdnijiipegabaa.B
open Go.RowKit Go.Proofs
set_option linter.unusedVariables false
set_option linter.unusedSimpArgs false
variable {E : Env}

/-- Cut from a place on: so many bytes are left, the part began there. -/
def split1 (c : Int) (s : ByteArray) : Nat → Nat → Nat → List ByteArray
  | 0, f, i => [s.extract f s.size]
  | n + 1, f, i => if (bt s i : Int) = c then s.extract f i :: split1 c s n (i + 1) (i + 1) else split1 c s n f (i + 1)
def splitB (c : Int) (s : ByteArray) : List ByteArray := split1 c s s.size 0 0
theorem split1_len (c : Int) (s : ByteArray) : ∀ (n f i : Nat), (split1 c s n f i).length ≤ n + 1 ∧ 1 ≤ (split1 c s n f i).length
  | 0, f, i => by simp [split1]
  | n + 1, f, i => by
    have h1 := split1_len c s n (i + 1) (i + 1)
    have h2 := split1_len c s n f (i + 1)
    unfold split1
    split
    · simp only [List.length_cons]; omega
    · omega
theorem split1_size (c : Int) (s : ByteArray) : ∀ (n f i : Nat), ∀ x ∈ split1 c s n f i, x.size ≤ s.size
  | 0, f, i, x, h => by
    simp [split1] at h
    rw [h, ByteArray.size_extract]
    omega
  | n + 1, f, i, x, h => by
    unfold split1 at h
    split at h
    · rcases List.mem_cons.1 h with h | h
      · rw [h, ByteArray.size_extract]
        omega
      · exact split1_size c s n _ _ x h
    · exact split1_size c s n _ _ x h

theorem l21Split_ok (s : ByteArray) (c : Int) (H : Hp) (hs : s.size < 1099511627776) :
    AC Try.prog E 86 [.str s, .int .u8 c] H (fun v H' => HLe H H' ∧ OwnS H H' v (splitB c s)) := by
  refine AC_by fol (tC_le tab2_ok) h_spec_l21Split ?_
  simp [c_spec_l21Split]
  refine W_for (fun m t H' => ∃ (i f : Nat) (xs : List ByteArray) (v : AV), i + m = s.size ∧ f ≤ i ∧ t 0 = .str s ∧ t 1 = .int .u8 c ∧ t 5 = v ∧ t 6 = .int .i64 f ∧ t 7 = .int .i64 i ∧ HLe H H' ∧ OwnS H H' v xs ∧ xs.length ≤ i ∧ xs ++ split1 c s m f i = splitB c s) s.size ?_ (tC_mono AC_mono) ?_
  · exact ⟨0, 0, [], .sl H.length 0 0, by omega, by omega, by simp, by simp, by simp, by simp, by simp, HLe.self _ _, OwnM.lit0 (HLe.refl H), by simp, rfl⟩
  rintro m t H' ⟨i, f, xs, v, him, hfi, h0, h1, h5, h6, h7, hle, hv, hxl, hI⟩
  simp [h0, h1, h5, h6, h7]
  refine c_split (fun hq => ?_) (fun hq => ?_) <;> simp at hq
  · have hi : i < s.size := by omega
    have hw := wrapN (i := i) (by omega)
    obtain ⟨m, rfl⟩ : ∃ k, m = k + 1 := ⟨m - 1, by omega⟩
    simp [h0, h1, h5, h6, h7, hi]
    refine c_split (fun hq2 => ?_) (fun hq2 => ?_) <;> simp at hq2
    · simp [h0, h1, h5, h6, h7, hi]
      refine ⟨⟨hfi, by omega⟩, ?_⟩
      refine appG_add (y := s.extract f i) (bytes := 16) (row := strRow) (H0 := H) hv hle (by omega) rfl (fun v5 H5 g1 g2 g3 g4 => ?_)
      simp [h0, h1, h5, h6, h7, hw]
      refine ⟨m, by omega, i + 1, by omega, i + 1, by omega, by omega, by omega, g1, xs ++ [s.extract f i], g2, by simp; omega, ?_⟩
      rw [← hI, split1, if_pos hq2]
      simp
    · simp [h0, h1, h5, h6, h7, hi, hw]
      refine ⟨m, by omega, i + 1, by omega, f, by omega, rfl, by omega, hle, xs, hv, by omega, ?_⟩
      rw [← hI, split1, if_neg hq2]
  · have : m = 0 := by omega
    subst this
    simp [h0, h1, h5, h6, h7]
    refine ⟨by omega, ?_⟩
    refine appG_add (y := s.extract f s.size) (bytes := 16) (row := strRow) (H0 := H) hv hle (by omega) rfl (fun v5 H5 g1 g2 g3 g4 => ?_)
    simp
    refine ⟨g1, ?_⟩
    rw [← hI]
    exact g2

end Go.Proofs.Ytkdnijiipegabaa.B

namespace Go.Proofs.Ytkdnijiipegabaa.B
open Go.RowKit Go.Proofs
set_option linter.unusedVariables false
set_option linter.unusedSimpArgs false
variable {E : Env}

def num1 (s : ByteArray) : Nat → Nat → Int → Int
  | 0, i, n => n
  | k + 1, i, n => if n < 100000 then num1 s k (i + 1) (if 48 ≤ (bt s i : Int) ∧ (bt s i : Int) ≤ 57 then n * 10 + ((bt s i : Int) - 48) else n) else n
def numB (s : ByteArray) : Int := num1 s s.size 0 0
theorem num1_stop {s : ByteArray} {n : Int} (h : ¬ n < 100000) : ∀ k i, num1 s k i n = n
  | 0, i => rfl
  | k + 1, i => by rw [num1, if_neg h]
theorem num1_bound (s : ByteArray) : ∀ (k i : Nat) (n : Int), 0 ≤ n → n < 1000000 → 0 ≤ num1 s k i n ∧ num1 s k i n < 1000000
  | 0, i, n, h0, h1 => ⟨h0, h1⟩
  | k + 1, i, n, h0, h1 => by
    unfold num1
    split
    · refine num1_bound s k (i + 1) _ ?_ ?_ <;> split <;> omega
    · exact ⟨h0, h1⟩

theorem l21Num_ok (s : ByteArray) (H : Hp) (hs : s.size < 1099511627776) :
    AC Try.prog E 87 [.str s] H (fun v H' => v = .int .i64 (numB s) ∧ H' = H) := by
  refine AC_byp (tC_le tab2_ok) h_spec_l21Num (by simp) ?_
  simp [c_spec_l21Num]
  refine W_for (fun m t H' => ∃ (i : Nat) (n : Int), i + m = s.size ∧ 0 ≤ n ∧ n < 1000000 ∧ t 0 = .str s ∧ t 3 = .int .i64 n ∧ t 4 = .int .i64 i ∧ H' = H ∧ num1 s m i n = numB s) s.size ?_ (tC_mono AC_mono) ?_
  · exact ⟨0, 0, by omega, by omega, by omega, by simp, by simp, by simp, rfl, rfl⟩
  rintro m t H' ⟨i, n, him, hn0, hn1, h0, h3, h4, rfl, hI⟩
  simp [h0, h3, h4]
  refine g_split (fun hq => ?_) (fun hq => ?_) (by simp) <;> simp at hq <;> simp [hq, h0, h3, h4]
  · have hi : i < s.size := by omega
    have hw := wrapN (i := i) (by omega)
    obtain ⟨m, rfl⟩ : ∃ k, m = k + 1 := ⟨m - 1, by omega⟩
    refine c_split (fun hq2 => ?_) (fun hq2 => ?_) <;> simp at hq2
    · simp [h0, h3, h4, hi]
      refine g_split (fun hq3 => ?_) (fun hq3 => ?_) (by simp) <;> simp at hq3 <;> simp [hq3, h0, h3, h4, hi, hw]
      · refine c_split (fun hq4 => ?_) (fun hq4 => ?_) <;> simp at hq4
        · have hm : IntKind.i64.wrap (n * 10) = n * 10 := wrap64 (by omega) (by omega)
          have hu : IntKind.u8.wrap (bt s (i : Int) - 48) = bt s (i : Int) - 48 := by rw [IntKind.wrap_u8]; omega
          have h64 : IntKind.i64.wrap (bt s (i : Int) - 48) = bt s (i : Int) - 48 := wrap64 (by omega) (by omega)
          have hs2 : IntKind.i64.wrap (n * 10 + (bt s (i : Int) - 48)) = n * 10 + (bt s (i : Int) - 48) := wrap64 (by omega) (by omega)
          simp [h0, h3, h4, hi, hw, hm, hu, h64, hs2]
          refine ⟨m, by omega, i + 1, by omega, n * 10 + (bt s (i : Int) - 48), by omega, by omega, rfl, by omega, ?_⟩
          rw [num1, if_pos hq2, if_pos ⟨hq3, hq4⟩] at hI
          exact hI
        · simp [h0, h3, h4, hi, hw]
          refine ⟨m, by omega, i + 1, by omega, n, by omega, by omega, rfl, by omega, ?_⟩
          rw [num1, if_pos hq2, if_neg (by omega)] at hI
          exact hI
      · refine ⟨m, by omega, i + 1, by omega, n, by omega, by omega, rfl, by omega, ?_⟩
        rw [num1, if_pos hq2, if_neg (by omega)] at hI
        exact hI
    · simp [h0, h3, h4]
      rw [num1_stop (by omega)] at hI
      exact hI
  · have : m = 0 := by omega
    subst this
    exact hI

end Go.Proofs.Ytkdnijiipegabaa.B

namespace Go.Proofs.Ytkdnijiipegabaa.B
open Go.RowKit Go.Proofs
set_option linter.unusedVariables false
set_option linter.unusedSimpArgs false
variable {E : Env}

def hearE (s : ByteArray) : Ent :=
  match splitB 45 s with
  | [a, b] => match splitB 61 a with
    | [k, v] => ⟨k, numB v, false, numB b⟩
    | _ => ⟨a, 0, true, numB b⟩
  | _ => ⟨⟨#[]⟩, 0, false, 0⟩
theorem two {α : Type} {xs : List α} (h : xs.length = 2) : ∃ a b, xs = [a, b] := by
  match xs, h with
  | [a, b], _ => exact ⟨a, b, rfl⟩
theorem splitB_len (c : Int) (s : ByteArray) : (splitB c s).length ≤ s.size + 1 ∧ 1 ≤ (splitB c s).length := split1_len c s s.size 0 0
theorem splitB_size (c : Int) (s : ByteArray) : ∀ x ∈ splitB c s, x.size ≤ s.size := split1_size c s s.size 0 0

theorem l21Hear_ok (s : ByteArray) (H : Hp) (hs : s.size < 1099511627776) :
    AC Try.prog E 88 [.str s] H (fun v H' => v = .ag (entRow (hearE s)) ∧ H' = H) := by
  refine AC_byp (tC_le tab2_ok) h_spec_l21Hear (by simp [entRow]) ?_
  obtain ⟨H1, hH1⟩ : ∃ H1 : Hp, H1 = H ++ [some ⟨[[.str ⟨#[]⟩, .int .i64 0, .bool false, .int .i64 0]], 4, 72, false⟩] := ⟨_, rfl⟩
  have hle1 : HLe H H1 := by rw [hH1]; exact HLe.self _ _
  have b0 : H1.at H.length = some ⟨[[.str ⟨#[]⟩, .int .i64 0, .bool false, .int .i64 0]], 4, 72, false⟩ := by rw [hH1]; simp
  simp [c_spec_l21Hear, ← hH1]
  refine cg_ex (l21Split_ok s 45 H1 hs) ?_
  rintro wv H2 ⟨hle2, hw⟩
  have b02 := hle2.2 _ _ b0
  have u02 := Hp.at_lt b02
  simp [hw.len, hw.slc]
  refine c_split (fun hq => ?_) (fun hq => ?_) <;> simp at hq
  · have he : hearE s = ⟨⟨#[]⟩, 0, false, 0⟩ := by
      unfold hearE
      split
      · rename_i h
        rw [h] at hq
        exact absurd rfl hq
      · rfl
    simp [b02, Hp.at_set, u02, he, entRow]
    exact (hle1.trans hle2).set (by omega) _
  · obtain ⟨x, y, hxy⟩ := two (by omega : (splitB 45 s).length = 2)
    rw [hxy] at hw
    have hxs : x.size ≤ s.size := splitB_size 45 s x (by rw [hxy]; simp)
    have hys : y.size ≤ s.size := splitB_size 45 s y (by rw [hxy]; simp)
    obtain ⟨o1, i1, ob1, rfl, a1, a2, a3⟩ := hw.strs.get (j := 0) (by simp)
    obtain ⟨o1', i1', ob1', e1, a4, a5, a6⟩ := hw.strs.get (j := 1) (by simp)
    cases e1
    rw [a1] at a4
    cases a4
    simp at a3 a6
    simp [a1, a2, a3]
    refine cg_ex (l21Split_ok x 61 H2 (by omega)) ?_
    rintro vv H3 ⟨hle3, hv⟩
    have b03 := hle3.2 _ _ b02
    have u03 := Hp.at_lt b03
    have a13 := hle3.2 _ _ a1
    have hle13 := (hle1.trans hle2).trans hle3
    simp [hv.len, hv.slc]
    refine c_split (fun hq2 => ?_) (fun hq2 => ?_) <;> simp at hq2
    · obtain ⟨k, z, hkz⟩ := two (by omega : (splitB 61 x).length = 2)
      rw [hkz] at hv
      have hzs : z.size ≤ x.size := splitB_size 61 x z (by rw [hkz]; simp)
      have he : hearE s = ⟨k, numB z, false, numB y⟩ := by
        unfold hearE
        rw [hxy]
        simp only [hkz]
      obtain ⟨o2, i2, ob2, rfl, c1, c2, c3⟩ := hv.strs.get (j := 0) (by simp)
      obtain ⟨o2', i2', ob2', e2, c4, c5, c6⟩ := hv.strs.get (j := 1) (by simp)
      cases e2
      rw [c1] at c4
      cases c4
      simp at c3 c6
      simp [a13, a2, a6, c1, c2, c3, c6]
      refine cg_use (l21Num_ok z H3 (by omega)) ?_
      simp [a13, a2, a6, c1, c2, c3, c6]
      refine cg_use (l21Num_ok y H3 (by omega)) ?_
      simp [a13, a2, a6, c1, c2, c3, c6, b03, Hp.at_set, u03, he, entRow]
      exact hle13.set (by omega) _
    · have he : hearE s = ⟨x, 0, true, numB y⟩ := by
        unfold hearE
        rw [hxy]
        simp only
        split
        · rename_i h
          rw [h] at hq2
          exact absurd rfl hq2
        · rfl
      simp [a13, a2, a3, a6]
      refine cg_use (l21Num_ok y H3 (by omega)) ?_
      simp [a13, a2, a3, a6, b03, Hp.at_set, u03, he, entRow]
      exact hle13.set (by omega) _

end Go.Proofs.Ytkdnijiipegabaa.B

namespace Go.Proofs.Ytkdnijiipegabaa.B
open Go.RowKit Go.Proofs
set_option linter.unusedVariables false
set_option linter.unusedSimpArgs false
variable {E : Env}

def linesB (t : ByteArray) : List ByteArray := splitB 59 ((splitB 33 t).headD ⟨#[]⟩)
def readE (t : ByteArray) : List Ent := ((linesB t).take ((linesB t).length - 1)).map hearE
def blockR (t : ByteArray) : Option (List Ent) := if t.size ≤ 400 ∧ t ≠ ⟨#[]⟩ ∧ blockT (readE t) = t then some (readE t) else none
theorem hearE_size (s : ByteArray) : (hearE s).key.size ≤ s.size := by
  unfold hearE
  split
  · rename_i a b h
    have ha : a.size ≤ s.size := splitB_size 45 s a (by rw [h]; simp)
    split
    · rename_i k v h2
      have hk : k.size ≤ a.size := splitB_size 61 a k (by rw [h2]; simp)
      dsimp only
      omega
    · exact ha
  · exact Nat.zero_le _

theorem headD_get {xs : List ByteArray} {d : ByteArray} (h : 0 < xs.length) : xs.headD d = xs[0] := by
  cases xs with
  | nil => simp at h
  | cons a b => rfl
theorem readE_short (t : ByteArray) (ht : t.size < 1099511627776) : Short (readE t) ∧ (readE t).length ≤ t.size := by
  have h1 := splitB_len 33 t
  have h2 : ((splitB 33 t).headD ⟨#[]⟩).size ≤ t.size := by
    rw [headD_get (by omega)]
    exact splitB_size 33 t _ (List.getElem_mem _)
  have h3 := splitB_len 59 ((splitB 33 t).headD ⟨#[]⟩)
  refine ⟨fun e he => ?_, ?_⟩
  · obtain ⟨x, hx, rfl⟩ := List.mem_map.1 he
    have := splitB_size 59 ((splitB 33 t).headD ⟨#[]⟩) x (List.mem_of_mem_take hx)
    have := hearE_size x
    omega
  · simp only [readE, linesB, List.length_map, List.length_take]
    omega
theorem BlockRead_ok (t : ByteArray) (H : Hp) (ht : t.size < 1099511627776) :
    AC Try.prog E 77 [.str t] H (fun v H' => HLe H H' ∧ ∃ w, v = .tu [w, .bool (blockR t).isSome] ∧ OwnE H H' w ((blockR t).getD [])) := by
  refine AC_by fol (tC_le tab2_ok) h_spec_BlockRead ?_
  simp [c_spec_BlockRead]
  refine c_split (fun hq => ?_) (fun hq => ?_) <;> simp at hq
  · have hn : blockR t = none := by unfold blockR; rw [if_neg (by omega)]
    simp [hn]
    exact OwnM.lit0 (HLe.refl H)
  simp
  refine cg_ex (l21Split_ok t 33 _ ht) ?_
  rintro wv H1 ⟨hle1, hw⟩
  have hl := splitB_len 33 t
  obtain ⟨o1, i1, ob1, rfl, a1, a2, a3⟩ := hw.strs.get (j := 0) (by omega)
  obtain ⟨h, hh⟩ : ∃ h, h = (splitB 33 t)[0]'(by omega) := ⟨_, rfl⟩
  have hhd : (splitB 33 t).headD ⟨#[]⟩ = h := by
    rw [hh]
    exact headD_get (by omega)
  have hhs : h.size ≤ t.size := splitB_size 33 t h (by rw [hh]; exact List.getElem_mem _)
  rw [← hh] at a3
  simp at a3
  have hpos : 0 < (splitB 33 t).length := by omega
  have hposI : (0 : Int) < ((splitB 33 t).length : Int) := by omega
  simp [a1, a2, a3, hpos, hposI]
  refine cg_ex (l21Split_ok h 59 H1 (by omega)) ?_
  rintro lv H2 ⟨hle2, hv⟩
  have hL : linesB t = splitB 59 h := by rw [linesB, hhd]
  rw [← hL] at hv
  have hll : (linesB t).length ≤ h.size + 1 ∧ 1 ≤ (linesB t).length := by rw [hL]; exact splitB_len 59 h
  have hls : ∀ x ∈ linesB t, x.size ≤ h.size := by rw [hL]; exact splitB_size 59 h
  simp
  refine W_for (fun m tt H' => ∃ (i : Nat) (v : AV), i + m = (linesB t).length - 1 ∧ tt 0 = .str t ∧ tt 4 = v ∧ tt 5 = lv ∧ tt 6 = .int .i64 i ∧ HLe H H' ∧ Strs H' lv (linesB t) ∧ OwnE H H' v (((linesB t).take i).map hearE)) ((linesB t).length - 1) ?_ (tC_mono AC_mono) ?_
  · exact ⟨0, .sl H.length 0 0, by omega, by simp, by simp, by simp, by simp, (HLe.self H _).trans (hle1.trans hle2), hv.strs, by simpa using ((OwnM.lit0 (HLe.refl H) : OwnE H _ _ []).le (hle1.trans hle2))⟩
  rintro m tt H' ⟨i, v, him, h0, h4, h5, h6, hle, hv', hown⟩
  have hw2 := wrapN (i := i) (by omega)
  simp [h0, h4, h5, h6, hw2, hv'.len, hv'.slc]
  refine c_split (fun hq2 => ?_) (fun hq2 => ?_) <;> simp at hq2
  · have hi : i < (linesB t).length := by omega
    obtain ⟨o2, i2, ob2, rfl, c1, c2, c3⟩ := hv'.get hi
    simp [h0, h4, h5, h6, hw2, c1, c2, c3, hi]
    refine cg_use (l21Hear_ok _ H' (by have := hls _ (List.getElem_mem hi); omega)) ?_
    simp [h0, h4, h5, h6, entRow]
    refine appG_add (y := hearE (linesB t)[i]) (bytes := 40) (row := entRow) (H0 := H) hown hle (by simp; omega) rfl (fun v5 H5 g1 g2 g3 g4 => ?_)
    have hv5 : Strs H5 (.sl o2 i2 (linesB t).length) (linesB t) := Rows.fr hv' g3 (fun x hx hs => Rows.apart hv' hown.rows (by simp) hx hs)
    simp [h0, h4, h5, h6, hw2]
    refine ⟨m - 1, by omega, i + 1, by omega, by omega, g1, hv5, ?_⟩
    rw [List.take_succ_eq_append_getElem (by simpa using hi), ← List.map_take, List.getElem_map]
    exact g2
  · have hie : i = (linesB t).length - 1 := by omega
    subst hie
    obtain ⟨hsh, hrl⟩ := readE_short t ht
    change OwnE H H' v (readE t) at hown
    simp [h0, h4, h5, h6]
    refine g_split (fun hq3 => ?_) (fun hq3 => ?_) (by simp) <;> simp at hq3 <;> simp [hq3, h0, h4]
    · have hn : blockR ⟨#[]⟩ = none := by
        unfold blockR
        rw [if_neg (fun h => h.2.1 rfl)]
      rw [hn]
      exact ⟨hle.app _, _, ⟨rfl, rfl⟩, OwnM.lit0 hle⟩
    · refine cg_use (BlockText_ok v (readE t) H' hown.ents hsh (by omega)) ?_
      simp [h0, h4]
      refine c_split (fun hq4 => ?_) (fun hq4 => ?_) <;> simp at hq4 <;> simp [h4]
      · have hn : blockR t = none := by
          unfold blockR
          rw [if_neg (fun h => hq4 h.2.2)]
        rw [hn]
        exact ⟨hle.app _, _, ⟨rfl, rfl⟩, OwnM.lit0 hle⟩
      · have hn : blockR t = some (readE t) := by
          unfold blockR
          rw [if_pos ⟨by omega, hq3, hq4⟩]
        rw [hn]
        exact ⟨hle, _, ⟨rfl, rfl⟩, hown⟩

end Go.Proofs.Ytkdnijiipegabaa.B

namespace Go.Proofs.Ytkdnijiipegabaa.B
open Go.RowKit Go.Proofs
set_option linter.unusedVariables false
set_option linter.unusedSimpArgs false
variable {E : Env}

structure Hr where
  num : Int
  keep : Int
  time : Int
  tms : List Int
  at' : List Int
deriving DecidableEq, Inhabited
def HrR (H : Hp) (v : AV) (h : Hr) : Prop := ∃ d a, v = .ag [.int .i64 h.num, .int .i64 h.keep, .int .i64 h.time, d, a] ∧ Ints H d h.tms ∧ Ints H a h.at'
def HrB (h : Hr) : Prop := I64 h.num ∧ I64 h.keep ∧ I64 h.time ∧ h.tms.length ≤ 100000 ∧ h.at'.length ≤ 100000 ∧ (∀ t ∈ h.tms, I64 t) ∧ (∀ t ∈ h.at', I64 t)
def atT (s : ByteArray) (ns : List Int) : ByteArray := ns.foldl (fun s n => s ++ lit1 44 ++ dec n) s
def tmT (s : ByteArray) (ns : List Int) : ByteArray := ns.foldl (fun s n => s ++ dec n ++ lit1 44) s
def head3 (h : Hr) : ByteArray := dec h.num ++ lit1 44 ++ dec h.keep ++ lit1 44 ++ dec h.time
def sayT (h : Hr) : ByteArray := sealT (tmT (atT (head3 h) h.at' ++ lit1 47) h.tms)
theorem lit1_size (c : UInt8) : (lit1 c).size = 1 := rfl
theorem atT_step (s : ByteArray) (ns : List Int) {i : Nat} (h : i < ns.length) : atT s (ns.take (i + 1)) = atT s (ns.take i) ++ lit1 44 ++ dec ns[i] := by
  rw [List.take_succ_eq_append_getElem h, atT, List.foldl_append]
  rfl
theorem tmT_step (s : ByteArray) (ns : List Int) {i : Nat} (h : i < ns.length) : tmT s (ns.take (i + 1)) = tmT s (ns.take i) ++ dec ns[i] ++ lit1 44 := by
  rw [List.take_succ_eq_append_getElem h, tmT, List.foldl_append]
  rfl
theorem atT_size (s : ByteArray) (ns : List Int) (hb : ∀ t ∈ ns, I64 t) : ∀ i, i ≤ ns.length → (atT s (ns.take i)).size ≤ s.size + 21 * i
  | 0, _ => by simp [atT]
  | i + 1, h => by
    have h1 := atT_size s ns hb i (by omega)
    have h2 := dec_size ns[i] (hb _ (List.getElem_mem _))
    have h3 := lit1_size 44
    rw [atT_step s ns h]
    simp only [ByteArray.size_append]
    omega
theorem tmT_size (s : ByteArray) (ns : List Int) (hb : ∀ t ∈ ns, I64 t) : ∀ i, i ≤ ns.length → (tmT s (ns.take i)).size ≤ s.size + 21 * i
  | 0, _ => by simp [tmT]
  | i + 1, h => by
    have h1 := tmT_size s ns hb i (by omega)
    have h2 := dec_size ns[i] (hb _ (List.getElem_mem _))
    have h3 := lit1_size 44
    rw [tmT_step s ns h]
    simp only [ByteArray.size_append]
    omega
theorem head3_size {h : Hr} (hb : HrB h) : (head3 h).size ≤ 62 := by
  have h1 := dec_size h.num hb.1
  have h2 := dec_size h.keep hb.2.1
  have h3 := dec_size h.time hb.2.2.1
  have h4 := lit1_size 44
  simp only [head3, ByteArray.size_append]
  omega

theorem l22Say_ok (v : AV) (h : Hr) (H : Hp) (hv : HrR H v h) (hb : HrB h) : AC Try.prog E 52 [v] H (fun u H' => u = .str (sayT h) ∧ H' = H) := by
  obtain ⟨d, a, rfl, hd, ha⟩ := hv
  refine AC_byp (tC_le tab2_ok) h_spec_l22Say (by simp) ?_
  have ld := hd.len
  have la := ha.len
  obtain ⟨H1, hH1⟩ : ∃ H1 : Hp, H1 = H ++ [some ⟨[[.int .i64 h.num, .int .i64 h.keep, .int .i64 h.time, d, a]], 5, 80, false⟩] := ⟨_, rfl⟩
  have hle1 : HLe H H1 := by rw [hH1]; exact HLe.self _ _
  have b0 : H1.at H.length = some ⟨[[.int .i64 h.num, .int .i64 h.keep, .int .i64 h.time, d, a]], 5, 80, false⟩ := by rw [hH1]; simp
  simp [c_spec_l22Say, ← hH1, hd.one, ha.one, b0]
  refine cg_use (l6Dec_ok h.num H1 hb.1) ?_
  have h1 := dec_size h.num hb.1
  have h2 := dec_size h.keep hb.2.1
  have h3 := dec_size h.time hb.2.2.1
  have hc : (ByteArray.mk #[44]).size = 1 := rfl
  simp [b0]
  refine ⟨by omega, ?_⟩
  refine cg_use (l6Dec_ok h.keep H1 hb.2.1) ?_
  simp [b0]
  refine ⟨by omega, by omega, cg_use (l6Dec_ok h.time H1 hb.2.2.1) ?_⟩
  simp [b0]
  refine ⟨by omega, ?_⟩
  have hsz := head3_size hb
  have hab := hb.2.2.2.2.2.2
  have htb := hb.2.2.2.2.2.1
  have e3 : dec h.num ++ { data := #[44] } ++ dec h.keep ++ { data := #[44] } ++ dec h.time = head3 h := rfl
  refine W_for (fun m t H' => ∃ i : Nat, i + m = h.at'.length ∧ t 1 = .pt H.length 0 0 ∧ t 3 = .str (atT (head3 h) (h.at'.take i)) ∧ t 4 = .int .i64 i ∧ H1 = H') h.at'.length ?_ (tC_mono AC_mono) ?_
  · exact ⟨0, by omega, by simp, by simp [atT, e3], by simp, rfl⟩
  rintro m t H' ⟨i, him, t1, t3, t4, rfl⟩
  have ha1 := ha.le hle1
  simp [t1, t3, t4, b0, la, ha.slc]
  refine c_split (fun hq => ?_) (fun hq => ?_) <;> simp at hq
  · have hi : i < h.at'.length := by omega
    have hw := wrapN (i := i) (by have := hb.2.2.2.2.1; omega)
    obtain ⟨o1, i1, ob1, rfl, a1, a2, a3⟩ := ha1.get hi
    have hz := atT_size (head3 h) h.at' hab i (by omega)
    have hd1 := dec_size h.at'[i] (hab _ (List.getElem_mem hi))
    have hbl := hb.2.2.2.2.1
    simp [t1, t3, t4, b0, a1, a2, a3, hi]
    refine ⟨by omega, ?_⟩
    refine cg_use (l6Dec_ok h.at'[i] H1 (hab _ (List.getElem_mem hi))) ?_
    have hst := atT_step (head3 h) h.at' hi
    rw [lit1] at hst
    simp [t1, t3, t4, hw, ← hst]
    exact ⟨by omega, m - 1, by omega, i + 1, by omega, rfl, by omega⟩
  · have hie : i = h.at'.length := by omega
    subst hie
    rw [List.take_of_length_le (Nat.le_refl _)] at t3
    have hz := atT_size (head3 h) h.at' hab h.at'.length (Nat.le_refl _)
    rw [List.take_of_length_le (Nat.le_refl _)] at hz
    have hbl := hb.2.2.2.2.1
    have hbt := hb.2.2.2.1
    have hc7 : (ByteArray.mk #[47]).size = 1 := rfl
    obtain ⟨S, hS⟩ : ∃ S, S = atT (head3 h) h.at' ++ lit1 47 := ⟨_, rfl⟩
    have hSs : S.size ≤ 63 + 21 * h.at'.length := by
      rw [hS, ByteArray.size_append]
      have := lit1_size 47
      omega
    have hS' : atT (head3 h) h.at' ++ { data := #[47] } = S := hS.symm
    simp [t1, t3, hS']
    refine ⟨by omega, ?_⟩
    refine W_for (fun m t H' => ∃ i : Nat, i + m = h.tms.length ∧ t 1 = .pt H.length 0 0 ∧ t 3 = .str (tmT S (h.tms.take i)) ∧ t 5 = .int .i64 i ∧ H1 = H') h.tms.length ?_ (tC_mono AC_mono) ?_
    · exact ⟨0, by omega, by simp [t1], by simp [tmT], by simp, rfl⟩
    rintro m t H' ⟨i, him, t1, t3, t5, rfl⟩
    have hd1 := hd.le hle1
    simp [t1, t3, t5, b0, ld, hd.slc]
    refine c_split (fun hq => ?_) (fun hq => ?_) <;> simp at hq
    · have hi : i < h.tms.length := by omega
      have hw := wrapN (i := i) (by omega)
      obtain ⟨o1, i1, ob1, rfl, a1, a2, a3⟩ := hd1.get hi
      have hz := tmT_size S h.tms htb i (by omega)
      have hdd := dec_size h.tms[i] (htb _ (List.getElem_mem hi))
      simp [t1, t3, t5, b0, a1, a2, a3, hi]
      refine cg_use (l6Dec_ok h.tms[i] H1 (htb _ (List.getElem_mem hi))) ?_
      have hst := tmT_step S h.tms hi
      rw [lit1] at hst
      simp [t1, t3, t5, hw, ← hst]
      exact ⟨by omega, by omega, m - 1, by omega, i + 1, by omega, rfl, by omega⟩
    · have hie : i = h.tms.length := by omega
      subst hie
      have hz := tmT_size S h.tms htb h.tms.length (Nat.le_refl _)
      rw [List.take_of_length_le (Nat.le_refl _)] at t3 hz
      simp [t3]
      refine cg_use (l21Seal_ok (tmT S h.tms) H1 (by omega)) ?_
      simp [hle1, sayT, hS]

end Go.Proofs.Ytkdnijiipegabaa.B

namespace Go.Proofs.Ytkdnijiipegabaa.B
open Go.RowKit Go.Proofs
set_option linter.unusedVariables false
set_option linter.unusedSimpArgs false
variable {E : Env}

theorem numB_bound (s : ByteArray) : 0 ≤ numB s ∧ numB s < 1000000 := num1_bound s s.size 0 0 (by omega) (by omega)
theorem numB_64 (s : ByteArray) : I64 (numB s) := by
  have := numB_bound s
  exact ⟨by omega, by omega⟩
theorem HrR.zero (H : Hp) : ∃ h, HrR H (.ag [.int .i64 0, .int .i64 0, .int .i64 0, .nils, .nils]) h ∧ HrB h := ⟨⟨0, 0, 0, [], []⟩, ⟨.nils, .nils, rfl, Rows.nil, Rows.nil⟩, ⟨by simp, by simp⟩, ⟨by simp, by simp⟩, ⟨by simp, by simp⟩, by simp, by simp, by simp, by simp⟩

set_option maxHeartbeats 1000000 in
theorem l22Hear_ok (t : ByteArray) (H : Hp) (ht : t.size ≤ 100000) :
    AC Try.prog E 76 [.str t] H (fun u H' => HLe H H' ∧ ∃ h w ok, u = .tu [w, .bool ok] ∧ HrR H' w h ∧ HrB h ∧ (ok = true → h.at'.length = 4)) := by
  refine AC_by fol (tC_le tab2_ok) h_spec_l22Hear ?_
  obtain ⟨H1, hH1⟩ : ∃ H1 : Hp, H1 = H ++ [some ⟨[[.int .i64 0, .int .i64 0, .int .i64 0, .nils, .nils]], 5, 80, false⟩] := ⟨_, rfl⟩
  have hle1 : HLe H H1 := by rw [hH1]; exact HLe.self _ _
  have b0 : H1.at H.length = some ⟨[[.int .i64 0, .int .i64 0, .int .i64 0, .nils, .nils]], 5, 80, false⟩ := by rw [hH1]; simp
  simp [c_spec_l22Hear, ← hH1]
  refine cg_ex (l21Split_ok t 33 H1 (by omega)) ?_
  rintro av H2 ⟨hle2, hA⟩
  have hlA := splitB_len 33 t
  obtain ⟨o1, i1, ob1, rfl, a1, a2, a3⟩ := hA.strs.get (j := 0) (by omega)
  obtain ⟨x, hx⟩ : ∃ x, x = (splitB 33 t)[0]'(by omega) := ⟨_, rfl⟩
  have hxs : x.size ≤ t.size := splitB_size 33 t x (by rw [hx]; exact List.getElem_mem _)
  rw [← hx] at a3
  simp at a3
  have hposA : 0 < (splitB 33 t).length := by omega
  have hposAI : (0 : Int) < ((splitB 33 t).length : Int) := by omega
  simp [a1, a2, a3, hposA, hposAI]
  refine cg_ex (l21Split_ok x 47 H2 (by omega)) ?_
  rintro wv H3 ⟨hle3, hW⟩
  have b03 := hle3.2 _ _ (hle2.2 _ _ b0)
  have u03 := Hp.at_lt b03
  have hle13 := (hle1.trans hle2).trans hle3
  simp [hW.len, hW.slc]
  have bad : HLe H (List.set H3 H.length (some ⟨[[.int .i64 0, .int .i64 0, .int .i64 0, .nils, .nils]], 5, 80, false⟩)) := hle13.set (Nat.le_refl _) _
  refine c_split (fun hq => ?_) (fun hq => ?_) <;> simp at hq
  · simp [b03, Hp.at_set, u03]
    exact ⟨bad, HrR.zero _⟩
  obtain ⟨y, z, hyz⟩ := two (by omega : (splitB 47 x).length = 2)
  rw [hyz] at hW
  have hys : y.size ≤ x.size := splitB_size 47 x y (by rw [hyz]; simp)
  have hzs : z.size ≤ x.size := splitB_size 47 x z (by rw [hyz]; simp)
  obtain ⟨o2, i2, ob2, rfl, c1, c2, c3⟩ := hW.strs.get (j := 0) (by simp)
  obtain ⟨o2', i2', ob2', e2, c4, c5, c6⟩ := hW.strs.get (j := 1) (by simp)
  cases e2
  rw [c1] at c4
  cases c4
  simp at c3 c6
  simp [c1, c2, c3]
  refine cg_ex (l21Split_ok y 44 H3 (by omega)) ?_
  rintro nv H4 ⟨hle4, hN⟩
  have b04 := hle4.2 _ _ b03
  have u04 := Hp.at_lt b04
  have c14 := hle4.2 _ _ c1
  have hle14 := hle13.trans hle4
  simp [hN.len, hN.slc]
  refine c_split (fun hq2 => ?_) (fun hq2 => ?_) <;> simp at hq2
  · simp [b04, Hp.at_set, u04]
    exact ⟨hle14.set (Nat.le_refl _) _, HrR.zero _⟩
  have h7 : (splitB 44 y).length = 7 := by omega
  obtain ⟨o3, i3, ob3, rfl, d1, d2, d3⟩ := hN.strs.get (j := 0) (by omega)
  have dj : ∀ j (hj : j < 7), ob3.rows[i3 + j]? = some [.str ((splitB 44 y)[j]'(by omega))] := by
    intro j hj
    obtain ⟨o', i', ob', e, f1, f2, f3⟩ := hN.strs.get (j := j) (by omega)
    cases e
    rw [d1] at f1
    cases f1
    exact f3
  have d5 := dj 1 (by omega)
  have d6 := dj 2 (by omega)
  simp at d3
  rw [h7]
  simp [d1, d2, d3, d5, d6]
  have s0 : ((splitB 44 y)[0]'(by omega)).size < 1099511627776 := by have := splitB_size 44 y _ (List.getElem_mem (show 0 < (splitB 44 y).length by omega)); omega
  have s1 : ((splitB 44 y)[1]'(by omega)).size < 1099511627776 := by have := splitB_size 44 y _ (List.getElem_mem (show 1 < (splitB 44 y).length by omega)); omega
  have s2 : ((splitB 44 y)[2]'(by omega)).size < 1099511627776 := by have := splitB_size 44 y _ (List.getElem_mem (show 2 < (splitB 44 y).length by omega)); omega
  have u3 := Hp.at_lt d1
  refine ⟨cg_use (l21Num_ok _ H4 s0) ?_, ?_⟩
  · simp [d1, d2, d3, d5, d6]
    refine ⟨cg_use (l21Num_ok _ H4 s1) ?_, ?_⟩
    · simp [d1, d2, d3, d5, d6]
      refine ⟨cg_use (l21Num_ok _ H4 s2) ?_, ?_⟩
      · simp [d1, d2, d3, d5, d6, Hp.at_app, u3]
        obtain ⟨k0, hk0⟩ : ∃ k0, k0 = numB ((splitB 44 y)[0]'(by omega)) := ⟨_, rfl⟩
        obtain ⟨k1, hk1⟩ : ∃ k1, k1 = numB ((splitB 44 y)[1]'(by omega)) := ⟨_, rfl⟩
        obtain ⟨k2, hk2⟩ : ∃ k2, k2 = numB ((splitB 44 y)[2]'(by omega)) := ⟨_, rfl⟩
        have q0 : I64 k0 := hk0 ▸ numB_64 _
        have q1 : I64 k1 := hk1 ▸ numB_64 _
        have q2 : I64 k2 := hk2 ▸ numB_64 _
        rw [← hk0, ← hk1, ← hk2]
        refine W_for (fun m tt H' => ∃ (i : Nat) (a : AV) (ns : List Int), i + m = 7 ∧ 3 ≤ i ∧ tt 0 = .str t ∧ tt 2 = .pt H.length 0 0 ∧ tt 4 = .sl o2 i2 2 ∧ tt 5 = .sl o3 i3 7 ∧ tt 6 = .pt H4.length 0 0 ∧ tt 7 = .int .i64 i ∧ HLe H4 H' ∧
          H'.at H4.length = some ⟨[[.int .i64 k0, .int .i64 k1, .int .i64 k2, .nils, a]], 5, 80, false⟩ ∧ OwnI H4 H' a ns ∧ (∀ x, a.of x → H4.length < x) ∧ ns.length + 3 = i ∧ (∀ n ∈ ns, I64 n)) 4 ?_ (tC_mono AC_mono) ?_
        · exact ⟨3, .nils, [], by omega, by omega, by simp, by simp, by simp, by simp [h7], by simp, by simp, HLe.self _ _, by simp, OwnM.nils, fun x hx => hx.elim, rfl, by simp⟩
        rintro m tt H' ⟨i, a, ns, him, hi3, t0, t2, t4, t5, t6, t7, hle', bh, hown, hab, hnl, hnb⟩
        have d1' := hle'.2 _ _ d1
        have hw := wrapN (i := i) (by omega)
        simp [t0, t2, t4, t5, t6, t7]
        refine c_split (fun hq3 => ?_) (fun hq3 => ?_) <;> simp at hq3
        · have hi : i < 7 := by omega
          have hiI : (i : Int) < 7 := by omega
          have dI := dj i hi
          simp [t0, t2, t4, t5, t6, t7, bh, d1', d2, dI, hi, hiI]
          refine cg_use (l21Num_ok _ H' (by have := splitB_size 44 y _ (List.getElem_mem (show i < (splitB 44 y).length by omega)); omega)) ?_
          have ubh := Hp.at_lt bh
          simp [t0, t2, t4, t5, t6, t7, bh, Hp.at_app, ubh]
          refine appG_add (y := numB ((splitB 44 y)[i]'(by omega))) (bytes := 8) (row := intRow) (H0 := H4) hown hle' (by omega) rfl (fun v5 H5 g1 g2 g3 g4 => ?_)
          have bh5 := g3.2 _ _ (fun h => by have := hab _ h; omega) bh
          have ubh5 := Hp.at_lt bh5
          simp [t0, t2, t4, t5, t6, t7, bh5, g2.rows.one, g2.rows.cells, g2.rows.cells1, hw]
          refine ⟨m - 1, by omega, i + 1, by omega, by omega, by omega, g1.set (Nat.le_refl _) _, v5, Hp.at_set _ ubh5, ns ++ [numB ((splitB 44 y)[i]'(by omega))], ?_, ?_, ?_, ?_⟩
          · exact g2.fr (Fr.one H5 H4.length _) (fun x hx hh => by rcases g4 x hx with h | h; (have := hab x h; omega); omega)
          · intro x hx
            rcases g4 x hx with h | h
            · exact hab x h
            · omega
          · simp
            omega
          · intro n hn
            rcases List.mem_append.1 hn with h | h
            · exact hnb n h
            · rw [List.mem_singleton.1 h]
              exact numB_64 _
        · have c1' := hle'.2 _ _ c14
          simp [t0, t2, t4, t5, t6, t7, c1', c2, c6]
          refine cg_ex (l21Split_ok z 44 H' (by omega)) ?_
          rintro tv H6 ⟨hle6, hT⟩
          simp
          have bh6 := hle6.2 _ _ bh
          have hlT := splitB_len 44 z
          have l46 : H4.length < H6.length := Hp.at_lt bh6
          have hl6 := hle6.1
          refine W_for (fun m tt H' => ∃ (j : Nat) (d : AV) (ts : List Int), j + m = (splitB 44 z).length - 1 ∧ tt 0 = .str t ∧ tt 2 = .pt H.length 0 0 ∧ tt 6 = .pt H4.length 0 0 ∧ tt 8 = tv ∧ tt 9 = .int .i64 j ∧ H6.length ≤ H'.length ∧ HLe H4 H' ∧
            H'.at H4.length = some ⟨[[.int .i64 k0, .int .i64 k1, .int .i64 k2, d, a]], 5, 80, false⟩ ∧ Ints H' a ns ∧ OwnI H6 H' d ts ∧ Strs H' tv (splitB 44 z) ∧ ts.length = j ∧ (∀ n ∈ ts, I64 n)) ((splitB 44 z).length - 1) ?_ (tC_mono AC_mono) ?_
          · exact ⟨0, .nils, [], by omega, by simp [t0], by simp [t2], by simp [t6], by simp, by simp, Nat.le_refl _, hle'.trans hle6, bh6, (hown.le hle6).ints, OwnM.nils, hT.strs, rfl, by simp⟩
          have haL : ∀ x, a.of x → x < H6.length := fun x hx => by have := hown.1.lt hx; omega
          have htL : ∀ x, tv.of x → x < H6.length := fun x hx => hT.1.lt hx
          rintro m2 tt2 H7 ⟨j, d, ts, hjm, t0, t2, t6, t8, t9, hl67, hle7, bh7, ha7, hd7, hT7, htl, htb⟩
          have hw2 := wrapN (i := j) (by omega)
          have ubh7 := Hp.at_lt bh7
          simp [t0, t2, t6, t8, t9, hw2, hT7.len, hT7.slc]
          refine c_split (fun hq4 => ?_) (fun hq4 => ?_) <;> simp at hq4
          · have hj : j < (splitB 44 z).length := by omega
            obtain ⟨o4, i4, ob4, rfl, f1, f2, f3⟩ := hT7.get hj
            simp [t0, t2, t6, t8, t9, bh7, f1, f2, f3, hj]
            refine cg_use (l21Num_ok _ H7 (by have := splitB_size 44 z _ (List.getElem_mem hj); omega)) ?_
            simp [t0, t2, t6, t8, t9, bh7, Hp.at_app, ubh7]
            refine appG_one' (bytes := 8) (R := ts.map intRow) rfl hd7.1 (by simp; omega) (fun v5 H8 g1 g2 g3 => ?_)
            have bh8 := g2.2 _ _ (fun h => by have := hd7.2 _ h; omega) bh7
            have ubh8 := Hp.at_lt bh8
            simp [t0, t2, t6, t8, t9, bh8, g1.rows.one, g1.rows.cells, g1.rows.cells1, hw2]
            have hl8 := g2.1
            have hF8 := Fr.one H8 H4.length (some ⟨[[.int .i64 k0, .int .i64 k1, .int .i64 k2, v5, a]], 5, 80, false⟩)
            have v5L : ∀ x, v5.of x → H6.length ≤ x := fun x hx => (g3 x hx).elim (hd7.2 x) (fun h => by omega)
            refine ⟨m2 - 1, by omega, j + 1, by omega, by omega, by omega, (hle7.fr_le g2 (fun x hx => by have := hd7.2 x hx; omega)).set (Nat.le_refl _) _, v5, Hp.at_set _ ubh8, ?_, ts ++ [numB ((splitB 44 z)[j]'(by omega))], ?_, ?_, ?_, ?_⟩
            · exact Rows.fr (Rows.fr ha7 g2 (fun x hx h => by have := haL x hx; have := hd7.2 x h; omega)) hF8 (fun x hx h => by have := hab x hx; omega)
            · exact ⟨by simpa [intRow] using g1.fr hF8 (fun x hx h => by have := v5L x hx; omega), v5L⟩
            · exact Rows.fr (Rows.fr hT7 g2 (fun x hx h => by have := htL x hx; have := hd7.2 x h; omega)) hF8 (fun x hx h => by rw [h] at hx; exact absurd rfl (Rows.ne_of hT7 bh7 (by simp) hx))
            · simp
              omega
            · intro n hn
              rcases List.mem_append.1 hn with h | h
              · exact htb n h
              · rw [List.mem_singleton.1 h]
                exact numB_64 _
          · simp [t0, t2, t6, bh7]
            refine cg_use (l22Say_ok _ ⟨k0, k1, k2, ts, ns⟩ H7 ⟨d, a, rfl, hd7.ints, ha7⟩ ⟨q0, q1, q2, by dsimp only; omega, by dsimp only; omega, htb, hnb⟩) ?_
            have b07 := hle7.2 _ _ b04
            have u07 := Hp.at_lt b07
            simp [t0, t2, t6, bh7, b07, Hp.at_set, u07, hd7.rows.one, ha7.one]
            have hG := Fr.one H7 H.length (some ⟨[[.int .i64 k0, .int .i64 k1, .int .i64 k2, d, a]], 5, 80, false⟩)
            have hR : HrR (List.set H7 H.length (some ⟨[[.int .i64 k0, .int .i64 k1, .int .i64 k2, d, a]], 5, 80, false⟩)) (.ag [.int .i64 k0, .int .i64 k1, .int .i64 k2, d, a]) ⟨k0, k1, k2, ts, ns⟩ :=
              ⟨d, a, rfl, Rows.fr hd7.ints hG (fun x hx h => by have := hd7.2 x hx; omega), Rows.fr ha7 hG (fun x hx h => by have := hab x hx; omega)⟩
            have hBB : HrB ⟨k0, k1, k2, ts, ns⟩ := ⟨q0, q1, q2, by dsimp only; omega, by dsimp only; omega, htb, hnb⟩
            refine ⟨(hle14.trans hle7).set (Nat.le_refl _) _, ⟨k0, k1, k2, ts, ns⟩, .ag [.int .i64 k0, .int .i64 k1, .int .i64 k2, d, a], ?_⟩
            by_cases hs : sayT ⟨k0, k1, k2, ts, ns⟩ = t
            · exact .inr ⟨⟨rfl, hs⟩, hR, hBB, by dsimp only; omega⟩
            · exact .inl ⟨⟨rfl, hs⟩, hR, hBB⟩
      · simp [d1, d2, d3, d5, d6, Hp.at_app, u3]
        refine cg_use (l21Num_ok _ _ s2) ?_
        simp [d1, d2, d3, d5, d6, Hp.at_app, u3]
        obtain ⟨k0, hk0⟩ : ∃ k0, k0 = numB ((splitB 44 y)[0]'(by omega)) := ⟨_, rfl⟩
        obtain ⟨k1, hk1⟩ : ∃ k1, k1 = numB ((splitB 44 y)[1]'(by omega)) := ⟨_, rfl⟩
        obtain ⟨k2, hk2⟩ : ∃ k2, k2 = numB ((splitB 44 y)[2]'(by omega)) := ⟨_, rfl⟩
        have q0 : I64 k0 := hk0 ▸ numB_64 _
        have q1 : I64 k1 := hk1 ▸ numB_64 _
        have q2 : I64 k2 := hk2 ▸ numB_64 _
        rw [← hk0, ← hk1, ← hk2]
        refine W_for (fun m tt H' => ∃ (i : Nat) (a : AV) (ns : List Int), i + m = 7 ∧ 3 ≤ i ∧ tt 0 = .str t ∧ tt 2 = .pt H.length 0 0 ∧ tt 4 = .sl o2 i2 2 ∧ tt 5 = .sl o3 i3 7 ∧ tt 6 = .pt H4.length 0 0 ∧ tt 7 = .int .i64 i ∧ HLe H4 H' ∧
          H'.at H4.length = some ⟨[[.int .i64 k0, .int .i64 k1, .int .i64 k2, .nils, a]], 5, 80, false⟩ ∧ OwnI H4 H' a ns ∧ (∀ x, a.of x → H4.length < x) ∧ ns.length + 3 = i ∧ (∀ n ∈ ns, I64 n)) 4 ?_ (tC_mono AC_mono) ?_
        · exact ⟨3, .nils, [], by omega, by omega, by simp, by simp, by simp, by simp [h7], by simp, by simp, HLe.self _ _, by simp, OwnM.nils, fun x hx => hx.elim, rfl, by simp⟩
        rintro m tt H' ⟨i, a, ns, him, hi3, t0, t2, t4, t5, t6, t7, hle', bh, hown, hab, hnl, hnb⟩
        have d1' := hle'.2 _ _ d1
        have hw := wrapN (i := i) (by omega)
        simp [t0, t2, t4, t5, t6, t7]
        refine c_split (fun hq3 => ?_) (fun hq3 => ?_) <;> simp at hq3
        · have hi : i < 7 := by omega
          have hiI : (i : Int) < 7 := by omega
          have dI := dj i hi
          simp [t0, t2, t4, t5, t6, t7, bh, d1', d2, dI, hi, hiI]
          refine cg_use (l21Num_ok _ H' (by have := splitB_size 44 y _ (List.getElem_mem (show i < (splitB 44 y).length by omega)); omega)) ?_
          have ubh := Hp.at_lt bh
          simp [t0, t2, t4, t5, t6, t7, bh, Hp.at_app, ubh]
          refine appG_add (y := numB ((splitB 44 y)[i]'(by omega))) (bytes := 8) (row := intRow) (H0 := H4) hown hle' (by omega) rfl (fun v5 H5 g1 g2 g3 g4 => ?_)
          have bh5 := g3.2 _ _ (fun h => by have := hab _ h; omega) bh
          have ubh5 := Hp.at_lt bh5
          simp [t0, t2, t4, t5, t6, t7, bh5, g2.rows.one, g2.rows.cells, g2.rows.cells1, hw]
          refine ⟨m - 1, by omega, i + 1, by omega, by omega, by omega, g1.set (Nat.le_refl _) _, v5, Hp.at_set _ ubh5, ns ++ [numB ((splitB 44 y)[i]'(by omega))], ?_, ?_, ?_, ?_⟩
          · exact g2.fr (Fr.one H5 H4.length _) (fun x hx hh => by rcases g4 x hx with h | h; (have := hab x h; omega); omega)
          · intro x hx
            rcases g4 x hx with h | h
            · exact hab x h
            · omega
          · simp
            omega
          · intro n hn
            rcases List.mem_append.1 hn with h | h
            · exact hnb n h
            · rw [List.mem_singleton.1 h]
              exact numB_64 _
        · have c1' := hle'.2 _ _ c14
          simp [t0, t2, t4, t5, t6, t7, c1', c2, c6]
          refine cg_ex (l21Split_ok z 44 H' (by omega)) ?_
          rintro tv H6 ⟨hle6, hT⟩
          simp
          have bh6 := hle6.2 _ _ bh
          have hlT := splitB_len 44 z
          have l46 : H4.length < H6.length := Hp.at_lt bh6
          have hl6 := hle6.1
          refine W_for (fun m tt H' => ∃ (j : Nat) (d : AV) (ts : List Int), j + m = (splitB 44 z).length - 1 ∧ tt 0 = .str t ∧ tt 2 = .pt H.length 0 0 ∧ tt 6 = .pt H4.length 0 0 ∧ tt 8 = tv ∧ tt 9 = .int .i64 j ∧ H6.length ≤ H'.length ∧ HLe H4 H' ∧
            H'.at H4.length = some ⟨[[.int .i64 k0, .int .i64 k1, .int .i64 k2, d, a]], 5, 80, false⟩ ∧ Ints H' a ns ∧ OwnI H6 H' d ts ∧ Strs H' tv (splitB 44 z) ∧ ts.length = j ∧ (∀ n ∈ ts, I64 n)) ((splitB 44 z).length - 1) ?_ (tC_mono AC_mono) ?_
          · exact ⟨0, .nils, [], by omega, by simp [t0], by simp [t2], by simp [t6], by simp, by simp, Nat.le_refl _, hle'.trans hle6, bh6, (hown.le hle6).ints, OwnM.nils, hT.strs, rfl, by simp⟩
          have haL : ∀ x, a.of x → x < H6.length := fun x hx => by have := hown.1.lt hx; omega
          have htL : ∀ x, tv.of x → x < H6.length := fun x hx => hT.1.lt hx
          rintro m2 tt2 H7 ⟨j, d, ts, hjm, t0, t2, t6, t8, t9, hl67, hle7, bh7, ha7, hd7, hT7, htl, htb⟩
          have hw2 := wrapN (i := j) (by omega)
          have ubh7 := Hp.at_lt bh7
          simp [t0, t2, t6, t8, t9, hw2, hT7.len, hT7.slc]
          refine c_split (fun hq4 => ?_) (fun hq4 => ?_) <;> simp at hq4
          · have hj : j < (splitB 44 z).length := by omega
            obtain ⟨o4, i4, ob4, rfl, f1, f2, f3⟩ := hT7.get hj
            simp [t0, t2, t6, t8, t9, bh7, f1, f2, f3, hj]
            refine cg_use (l21Num_ok _ H7 (by have := splitB_size 44 z _ (List.getElem_mem hj); omega)) ?_
            simp [t0, t2, t6, t8, t9, bh7, Hp.at_app, ubh7]
            refine appG_one' (bytes := 8) (R := ts.map intRow) rfl hd7.1 (by simp; omega) (fun v5 H8 g1 g2 g3 => ?_)
            have bh8 := g2.2 _ _ (fun h => by have := hd7.2 _ h; omega) bh7
            have ubh8 := Hp.at_lt bh8
            simp [t0, t2, t6, t8, t9, bh8, g1.rows.one, g1.rows.cells, g1.rows.cells1, hw2]
            have hl8 := g2.1
            have hF8 := Fr.one H8 H4.length (some ⟨[[.int .i64 k0, .int .i64 k1, .int .i64 k2, v5, a]], 5, 80, false⟩)
            have v5L : ∀ x, v5.of x → H6.length ≤ x := fun x hx => (g3 x hx).elim (hd7.2 x) (fun h => by omega)
            refine ⟨m2 - 1, by omega, j + 1, by omega, by omega, by omega, (hle7.fr_le g2 (fun x hx => by have := hd7.2 x hx; omega)).set (Nat.le_refl _) _, v5, Hp.at_set _ ubh8, ?_, ts ++ [numB ((splitB 44 z)[j]'(by omega))], ?_, ?_, ?_, ?_⟩
            · exact Rows.fr (Rows.fr ha7 g2 (fun x hx h => by have := haL x hx; have := hd7.2 x h; omega)) hF8 (fun x hx h => by have := hab x hx; omega)
            · exact ⟨by simpa [intRow] using g1.fr hF8 (fun x hx h => by have := v5L x hx; omega), v5L⟩
            · exact Rows.fr (Rows.fr hT7 g2 (fun x hx h => by have := htL x hx; have := hd7.2 x h; omega)) hF8 (fun x hx h => by rw [h] at hx; exact absurd rfl (Rows.ne_of hT7 bh7 (by simp) hx))
            · simp
              omega
            · intro n hn
              rcases List.mem_append.1 hn with h | h
              · exact htb n h
              · rw [List.mem_singleton.1 h]
                exact numB_64 _
          · simp [t0, t2, t6, bh7]
            refine cg_use (l22Say_ok _ ⟨k0, k1, k2, ts, ns⟩ H7 ⟨d, a, rfl, hd7.ints, ha7⟩ ⟨q0, q1, q2, by dsimp only; omega, by dsimp only; omega, htb, hnb⟩) ?_
            have b07 := hle7.2 _ _ b04
            have u07 := Hp.at_lt b07
            simp [t0, t2, t6, bh7, b07, Hp.at_set, u07, hd7.rows.one, ha7.one]
            have hG := Fr.one H7 H.length (some ⟨[[.int .i64 k0, .int .i64 k1, .int .i64 k2, d, a]], 5, 80, false⟩)
            have hR : HrR (List.set H7 H.length (some ⟨[[.int .i64 k0, .int .i64 k1, .int .i64 k2, d, a]], 5, 80, false⟩)) (.ag [.int .i64 k0, .int .i64 k1, .int .i64 k2, d, a]) ⟨k0, k1, k2, ts, ns⟩ :=
              ⟨d, a, rfl, Rows.fr hd7.ints hG (fun x hx h => by have := hd7.2 x hx; omega), Rows.fr ha7 hG (fun x hx h => by have := hab x hx; omega)⟩
            have hBB : HrB ⟨k0, k1, k2, ts, ns⟩ := ⟨q0, q1, q2, by dsimp only; omega, by dsimp only; omega, htb, hnb⟩
            refine ⟨(hle14.trans hle7).set (Nat.le_refl _) _, ⟨k0, k1, k2, ts, ns⟩, .ag [.int .i64 k0, .int .i64 k1, .int .i64 k2, d, a], ?_⟩
            by_cases hs : sayT ⟨k0, k1, k2, ts, ns⟩ = t
            · exact .inr ⟨⟨rfl, hs⟩, hR, hBB, by dsimp only; omega⟩
            · exact .inl ⟨⟨rfl, hs⟩, hR, hBB⟩
    · simp [d1, d2, d3, d5, d6, Hp.at_app, u3]
      refine cg_use (l21Num_ok _ _ s1) ?_
      simp [d1, d2, d3, d5, d6, Hp.at_app, u3]
      refine cg_use (l21Num_ok _ _ s2) ?_
      simp [d1, d2, d3, d5, d6, Hp.at_app, u3]
      obtain ⟨k0, hk0⟩ : ∃ k0, k0 = numB ((splitB 44 y)[0]'(by omega)) := ⟨_, rfl⟩
      obtain ⟨k1, hk1⟩ : ∃ k1, k1 = numB ((splitB 44 y)[1]'(by omega)) := ⟨_, rfl⟩
      obtain ⟨k2, hk2⟩ : ∃ k2, k2 = numB ((splitB 44 y)[2]'(by omega)) := ⟨_, rfl⟩
      have q0 : I64 k0 := hk0 ▸ numB_64 _
      have q1 : I64 k1 := hk1 ▸ numB_64 _
      have q2 : I64 k2 := hk2 ▸ numB_64 _
      rw [← hk0, ← hk1, ← hk2]
      refine W_for (fun m tt H' => ∃ (i : Nat) (a : AV) (ns : List Int), i + m = 7 ∧ 3 ≤ i ∧ tt 0 = .str t ∧ tt 2 = .pt H.length 0 0 ∧ tt 4 = .sl o2 i2 2 ∧ tt 5 = .sl o3 i3 7 ∧ tt 6 = .pt H4.length 0 0 ∧ tt 7 = .int .i64 i ∧ HLe H4 H' ∧
        H'.at H4.length = some ⟨[[.int .i64 k0, .int .i64 k1, .int .i64 k2, .nils, a]], 5, 80, false⟩ ∧ OwnI H4 H' a ns ∧ (∀ x, a.of x → H4.length < x) ∧ ns.length + 3 = i ∧ (∀ n ∈ ns, I64 n)) 4 ?_ (tC_mono AC_mono) ?_
      · exact ⟨3, .nils, [], by omega, by omega, by simp, by simp, by simp, by simp [h7], by simp, by simp, HLe.self _ _, by simp, OwnM.nils, fun x hx => hx.elim, rfl, by simp⟩
      rintro m tt H' ⟨i, a, ns, him, hi3, t0, t2, t4, t5, t6, t7, hle', bh, hown, hab, hnl, hnb⟩
      have d1' := hle'.2 _ _ d1
      have hw := wrapN (i := i) (by omega)
      simp [t0, t2, t4, t5, t6, t7]
      refine c_split (fun hq3 => ?_) (fun hq3 => ?_) <;> simp at hq3
      · have hi : i < 7 := by omega
        have hiI : (i : Int) < 7 := by omega
        have dI := dj i hi
        simp [t0, t2, t4, t5, t6, t7, bh, d1', d2, dI, hi, hiI]
        refine cg_use (l21Num_ok _ H' (by have := splitB_size 44 y _ (List.getElem_mem (show i < (splitB 44 y).length by omega)); omega)) ?_
        have ubh := Hp.at_lt bh
        simp [t0, t2, t4, t5, t6, t7, bh, Hp.at_app, ubh]
        refine appG_add (y := numB ((splitB 44 y)[i]'(by omega))) (bytes := 8) (row := intRow) (H0 := H4) hown hle' (by omega) rfl (fun v5 H5 g1 g2 g3 g4 => ?_)
        have bh5 := g3.2 _ _ (fun h => by have := hab _ h; omega) bh
        have ubh5 := Hp.at_lt bh5
        simp [t0, t2, t4, t5, t6, t7, bh5, g2.rows.one, g2.rows.cells, g2.rows.cells1, hw]
        refine ⟨m - 1, by omega, i + 1, by omega, by omega, by omega, g1.set (Nat.le_refl _) _, v5, Hp.at_set _ ubh5, ns ++ [numB ((splitB 44 y)[i]'(by omega))], ?_, ?_, ?_, ?_⟩
        · exact g2.fr (Fr.one H5 H4.length _) (fun x hx hh => by rcases g4 x hx with h | h; (have := hab x h; omega); omega)
        · intro x hx
          rcases g4 x hx with h | h
          · exact hab x h
          · omega
        · simp
          omega
        · intro n hn
          rcases List.mem_append.1 hn with h | h
          · exact hnb n h
          · rw [List.mem_singleton.1 h]
            exact numB_64 _
      · have c1' := hle'.2 _ _ c14
        simp [t0, t2, t4, t5, t6, t7, c1', c2, c6]
        refine cg_ex (l21Split_ok z 44 H' (by omega)) ?_
        rintro tv H6 ⟨hle6, hT⟩
        simp
        have bh6 := hle6.2 _ _ bh
        have hlT := splitB_len 44 z
        have l46 : H4.length < H6.length := Hp.at_lt bh6
        have hl6 := hle6.1
        refine W_for (fun m tt H' => ∃ (j : Nat) (d : AV) (ts : List Int), j + m = (splitB 44 z).length - 1 ∧ tt 0 = .str t ∧ tt 2 = .pt H.length 0 0 ∧ tt 6 = .pt H4.length 0 0 ∧ tt 8 = tv ∧ tt 9 = .int .i64 j ∧ H6.length ≤ H'.length ∧ HLe H4 H' ∧
          H'.at H4.length = some ⟨[[.int .i64 k0, .int .i64 k1, .int .i64 k2, d, a]], 5, 80, false⟩ ∧ Ints H' a ns ∧ OwnI H6 H' d ts ∧ Strs H' tv (splitB 44 z) ∧ ts.length = j ∧ (∀ n ∈ ts, I64 n)) ((splitB 44 z).length - 1) ?_ (tC_mono AC_mono) ?_
        · exact ⟨0, .nils, [], by omega, by simp [t0], by simp [t2], by simp [t6], by simp, by simp, Nat.le_refl _, hle'.trans hle6, bh6, (hown.le hle6).ints, OwnM.nils, hT.strs, rfl, by simp⟩
        have haL : ∀ x, a.of x → x < H6.length := fun x hx => by have := hown.1.lt hx; omega
        have htL : ∀ x, tv.of x → x < H6.length := fun x hx => hT.1.lt hx
        rintro m2 tt2 H7 ⟨j, d, ts, hjm, t0, t2, t6, t8, t9, hl67, hle7, bh7, ha7, hd7, hT7, htl, htb⟩
        have hw2 := wrapN (i := j) (by omega)
        have ubh7 := Hp.at_lt bh7
        simp [t0, t2, t6, t8, t9, hw2, hT7.len, hT7.slc]
        refine c_split (fun hq4 => ?_) (fun hq4 => ?_) <;> simp at hq4
        · have hj : j < (splitB 44 z).length := by omega
          obtain ⟨o4, i4, ob4, rfl, f1, f2, f3⟩ := hT7.get hj
          simp [t0, t2, t6, t8, t9, bh7, f1, f2, f3, hj]
          refine cg_use (l21Num_ok _ H7 (by have := splitB_size 44 z _ (List.getElem_mem hj); omega)) ?_
          simp [t0, t2, t6, t8, t9, bh7, Hp.at_app, ubh7]
          refine appG_one' (bytes := 8) (R := ts.map intRow) rfl hd7.1 (by simp; omega) (fun v5 H8 g1 g2 g3 => ?_)
          have bh8 := g2.2 _ _ (fun h => by have := hd7.2 _ h; omega) bh7
          have ubh8 := Hp.at_lt bh8
          simp [t0, t2, t6, t8, t9, bh8, g1.rows.one, g1.rows.cells, g1.rows.cells1, hw2]
          have hl8 := g2.1
          have hF8 := Fr.one H8 H4.length (some ⟨[[.int .i64 k0, .int .i64 k1, .int .i64 k2, v5, a]], 5, 80, false⟩)
          have v5L : ∀ x, v5.of x → H6.length ≤ x := fun x hx => (g3 x hx).elim (hd7.2 x) (fun h => by omega)
          refine ⟨m2 - 1, by omega, j + 1, by omega, by omega, by omega, (hle7.fr_le g2 (fun x hx => by have := hd7.2 x hx; omega)).set (Nat.le_refl _) _, v5, Hp.at_set _ ubh8, ?_, ts ++ [numB ((splitB 44 z)[j]'(by omega))], ?_, ?_, ?_, ?_⟩
          · exact Rows.fr (Rows.fr ha7 g2 (fun x hx h => by have := haL x hx; have := hd7.2 x h; omega)) hF8 (fun x hx h => by have := hab x hx; omega)
          · exact ⟨by simpa [intRow] using g1.fr hF8 (fun x hx h => by have := v5L x hx; omega), v5L⟩
          · exact Rows.fr (Rows.fr hT7 g2 (fun x hx h => by have := htL x hx; have := hd7.2 x h; omega)) hF8 (fun x hx h => by rw [h] at hx; exact absurd rfl (Rows.ne_of hT7 bh7 (by simp) hx))
          · simp
            omega
          · intro n hn
            rcases List.mem_append.1 hn with h | h
            · exact htb n h
            · rw [List.mem_singleton.1 h]
              exact numB_64 _
        · simp [t0, t2, t6, bh7]
          refine cg_use (l22Say_ok _ ⟨k0, k1, k2, ts, ns⟩ H7 ⟨d, a, rfl, hd7.ints, ha7⟩ ⟨q0, q1, q2, by dsimp only; omega, by dsimp only; omega, htb, hnb⟩) ?_
          have b07 := hle7.2 _ _ b04
          have u07 := Hp.at_lt b07
          simp [t0, t2, t6, bh7, b07, Hp.at_set, u07, hd7.rows.one, ha7.one]
          have hG := Fr.one H7 H.length (some ⟨[[.int .i64 k0, .int .i64 k1, .int .i64 k2, d, a]], 5, 80, false⟩)
          have hR : HrR (List.set H7 H.length (some ⟨[[.int .i64 k0, .int .i64 k1, .int .i64 k2, d, a]], 5, 80, false⟩)) (.ag [.int .i64 k0, .int .i64 k1, .int .i64 k2, d, a]) ⟨k0, k1, k2, ts, ns⟩ :=
            ⟨d, a, rfl, Rows.fr hd7.ints hG (fun x hx h => by have := hd7.2 x hx; omega), Rows.fr ha7 hG (fun x hx h => by have := hab x hx; omega)⟩
          have hBB : HrB ⟨k0, k1, k2, ts, ns⟩ := ⟨q0, q1, q2, by dsimp only; omega, by dsimp only; omega, htb, hnb⟩
          refine ⟨(hle14.trans hle7).set (Nat.le_refl _) _, ⟨k0, k1, k2, ts, ns⟩, .ag [.int .i64 k0, .int .i64 k1, .int .i64 k2, d, a], ?_⟩
          by_cases hs : sayT ⟨k0, k1, k2, ts, ns⟩ = t
          · exact .inr ⟨⟨rfl, hs⟩, hR, hBB, by dsimp only; omega⟩
          · exact .inl ⟨⟨rfl, hs⟩, hR, hBB⟩
  · simp [d1, d2, d3, d5, d6, Hp.at_app, u3]
    refine cg_use (l21Num_ok _ _ s0) ?_
    simp [d1, d2, d3, d5, d6, Hp.at_app, u3]
    refine cg_use (l21Num_ok _ _ s1) ?_
    simp [d1, d2, d3, d5, d6, Hp.at_app, u3]
    refine cg_use (l21Num_ok _ _ s2) ?_
    simp [d1, d2, d3, d5, d6, Hp.at_app, u3]
    obtain ⟨k0, hk0⟩ : ∃ k0, k0 = numB ((splitB 44 y)[0]'(by omega)) := ⟨_, rfl⟩
    obtain ⟨k1, hk1⟩ : ∃ k1, k1 = numB ((splitB 44 y)[1]'(by omega)) := ⟨_, rfl⟩
    obtain ⟨k2, hk2⟩ : ∃ k2, k2 = numB ((splitB 44 y)[2]'(by omega)) := ⟨_, rfl⟩
    have q0 : I64 k0 := hk0 ▸ numB_64 _
    have q1 : I64 k1 := hk1 ▸ numB_64 _
    have q2 : I64 k2 := hk2 ▸ numB_64 _
    rw [← hk0, ← hk1, ← hk2]
    refine W_for (fun m tt H' => ∃ (i : Nat) (a : AV) (ns : List Int), i + m = 7 ∧ 3 ≤ i ∧ tt 0 = .str t ∧ tt 2 = .pt H.length 0 0 ∧ tt 4 = .sl o2 i2 2 ∧ tt 5 = .sl o3 i3 7 ∧ tt 6 = .pt H4.length 0 0 ∧ tt 7 = .int .i64 i ∧ HLe H4 H' ∧
      H'.at H4.length = some ⟨[[.int .i64 k0, .int .i64 k1, .int .i64 k2, .nils, a]], 5, 80, false⟩ ∧ OwnI H4 H' a ns ∧ (∀ x, a.of x → H4.length < x) ∧ ns.length + 3 = i ∧ (∀ n ∈ ns, I64 n)) 4 ?_ (tC_mono AC_mono) ?_
    · exact ⟨3, .nils, [], by omega, by omega, by simp, by simp, by simp, by simp [h7], by simp, by simp, HLe.self _ _, by simp, OwnM.nils, fun x hx => hx.elim, rfl, by simp⟩
    rintro m tt H' ⟨i, a, ns, him, hi3, t0, t2, t4, t5, t6, t7, hle', bh, hown, hab, hnl, hnb⟩
    have d1' := hle'.2 _ _ d1
    have hw := wrapN (i := i) (by omega)
    simp [t0, t2, t4, t5, t6, t7]
    refine c_split (fun hq3 => ?_) (fun hq3 => ?_) <;> simp at hq3
    · have hi : i < 7 := by omega
      have hiI : (i : Int) < 7 := by omega
      have dI := dj i hi
      simp [t0, t2, t4, t5, t6, t7, bh, d1', d2, dI, hi, hiI]
      refine cg_use (l21Num_ok _ H' (by have := splitB_size 44 y _ (List.getElem_mem (show i < (splitB 44 y).length by omega)); omega)) ?_
      have ubh := Hp.at_lt bh
      simp [t0, t2, t4, t5, t6, t7, bh, Hp.at_app, ubh]
      refine appG_add (y := numB ((splitB 44 y)[i]'(by omega))) (bytes := 8) (row := intRow) (H0 := H4) hown hle' (by omega) rfl (fun v5 H5 g1 g2 g3 g4 => ?_)
      have bh5 := g3.2 _ _ (fun h => by have := hab _ h; omega) bh
      have ubh5 := Hp.at_lt bh5
      simp [t0, t2, t4, t5, t6, t7, bh5, g2.rows.one, g2.rows.cells, g2.rows.cells1, hw]
      refine ⟨m - 1, by omega, i + 1, by omega, by omega, by omega, g1.set (Nat.le_refl _) _, v5, Hp.at_set _ ubh5, ns ++ [numB ((splitB 44 y)[i]'(by omega))], ?_, ?_, ?_, ?_⟩
      · exact g2.fr (Fr.one H5 H4.length _) (fun x hx hh => by rcases g4 x hx with h | h; (have := hab x h; omega); omega)
      · intro x hx
        rcases g4 x hx with h | h
        · exact hab x h
        · omega
      · simp
        omega
      · intro n hn
        rcases List.mem_append.1 hn with h | h
        · exact hnb n h
        · rw [List.mem_singleton.1 h]
          exact numB_64 _
    · have c1' := hle'.2 _ _ c14
      simp [t0, t2, t4, t5, t6, t7, c1', c2, c6]
      refine cg_ex (l21Split_ok z 44 H' (by omega)) ?_
      rintro tv H6 ⟨hle6, hT⟩
      simp
      have bh6 := hle6.2 _ _ bh
      have hlT := splitB_len 44 z
      have l46 : H4.length < H6.length := Hp.at_lt bh6
      have hl6 := hle6.1
      refine W_for (fun m tt H' => ∃ (j : Nat) (d : AV) (ts : List Int), j + m = (splitB 44 z).length - 1 ∧ tt 0 = .str t ∧ tt 2 = .pt H.length 0 0 ∧ tt 6 = .pt H4.length 0 0 ∧ tt 8 = tv ∧ tt 9 = .int .i64 j ∧ H6.length ≤ H'.length ∧ HLe H4 H' ∧
        H'.at H4.length = some ⟨[[.int .i64 k0, .int .i64 k1, .int .i64 k2, d, a]], 5, 80, false⟩ ∧ Ints H' a ns ∧ OwnI H6 H' d ts ∧ Strs H' tv (splitB 44 z) ∧ ts.length = j ∧ (∀ n ∈ ts, I64 n)) ((splitB 44 z).length - 1) ?_ (tC_mono AC_mono) ?_
      · exact ⟨0, .nils, [], by omega, by simp [t0], by simp [t2], by simp [t6], by simp, by simp, Nat.le_refl _, hle'.trans hle6, bh6, (hown.le hle6).ints, OwnM.nils, hT.strs, rfl, by simp⟩
      have haL : ∀ x, a.of x → x < H6.length := fun x hx => by have := hown.1.lt hx; omega
      have htL : ∀ x, tv.of x → x < H6.length := fun x hx => hT.1.lt hx
      rintro m2 tt2 H7 ⟨j, d, ts, hjm, t0, t2, t6, t8, t9, hl67, hle7, bh7, ha7, hd7, hT7, htl, htb⟩
      have hw2 := wrapN (i := j) (by omega)
      have ubh7 := Hp.at_lt bh7
      simp [t0, t2, t6, t8, t9, hw2, hT7.len, hT7.slc]
      refine c_split (fun hq4 => ?_) (fun hq4 => ?_) <;> simp at hq4
      · have hj : j < (splitB 44 z).length := by omega
        obtain ⟨o4, i4, ob4, rfl, f1, f2, f3⟩ := hT7.get hj
        simp [t0, t2, t6, t8, t9, bh7, f1, f2, f3, hj]
        refine cg_use (l21Num_ok _ H7 (by have := splitB_size 44 z _ (List.getElem_mem hj); omega)) ?_
        simp [t0, t2, t6, t8, t9, bh7, Hp.at_app, ubh7]
        refine appG_one' (bytes := 8) (R := ts.map intRow) rfl hd7.1 (by simp; omega) (fun v5 H8 g1 g2 g3 => ?_)
        have bh8 := g2.2 _ _ (fun h => by have := hd7.2 _ h; omega) bh7
        have ubh8 := Hp.at_lt bh8
        simp [t0, t2, t6, t8, t9, bh8, g1.rows.one, g1.rows.cells, g1.rows.cells1, hw2]
        have hl8 := g2.1
        have hF8 := Fr.one H8 H4.length (some ⟨[[.int .i64 k0, .int .i64 k1, .int .i64 k2, v5, a]], 5, 80, false⟩)
        have v5L : ∀ x, v5.of x → H6.length ≤ x := fun x hx => (g3 x hx).elim (hd7.2 x) (fun h => by omega)
        refine ⟨m2 - 1, by omega, j + 1, by omega, by omega, by omega, (hle7.fr_le g2 (fun x hx => by have := hd7.2 x hx; omega)).set (Nat.le_refl _) _, v5, Hp.at_set _ ubh8, ?_, ts ++ [numB ((splitB 44 z)[j]'(by omega))], ?_, ?_, ?_, ?_⟩
        · exact Rows.fr (Rows.fr ha7 g2 (fun x hx h => by have := haL x hx; have := hd7.2 x h; omega)) hF8 (fun x hx h => by have := hab x hx; omega)
        · exact ⟨by simpa [intRow] using g1.fr hF8 (fun x hx h => by have := v5L x hx; omega), v5L⟩
        · exact Rows.fr (Rows.fr hT7 g2 (fun x hx h => by have := htL x hx; have := hd7.2 x h; omega)) hF8 (fun x hx h => by rw [h] at hx; exact absurd rfl (Rows.ne_of hT7 bh7 (by simp) hx))
        · simp
          omega
        · intro n hn
          rcases List.mem_append.1 hn with h | h
          · exact htb n h
          · rw [List.mem_singleton.1 h]
            exact numB_64 _
      · simp [t0, t2, t6, bh7]
        refine cg_use (l22Say_ok _ ⟨k0, k1, k2, ts, ns⟩ H7 ⟨d, a, rfl, hd7.ints, ha7⟩ ⟨q0, q1, q2, by dsimp only; omega, by dsimp only; omega, htb, hnb⟩) ?_
        have b07 := hle7.2 _ _ b04
        have u07 := Hp.at_lt b07
        simp [t0, t2, t6, bh7, b07, Hp.at_set, u07, hd7.rows.one, ha7.one]
        have hG := Fr.one H7 H.length (some ⟨[[.int .i64 k0, .int .i64 k1, .int .i64 k2, d, a]], 5, 80, false⟩)
        have hR : HrR (List.set H7 H.length (some ⟨[[.int .i64 k0, .int .i64 k1, .int .i64 k2, d, a]], 5, 80, false⟩)) (.ag [.int .i64 k0, .int .i64 k1, .int .i64 k2, d, a]) ⟨k0, k1, k2, ts, ns⟩ :=
          ⟨d, a, rfl, Rows.fr hd7.ints hG (fun x hx h => by have := hd7.2 x hx; omega), Rows.fr ha7 hG (fun x hx h => by have := hab x hx; omega)⟩
        have hBB : HrB ⟨k0, k1, k2, ts, ns⟩ := ⟨q0, q1, q2, by dsimp only; omega, by dsimp only; omega, htb, hnb⟩
        refine ⟨(hle14.trans hle7).set (Nat.le_refl _) _, ⟨k0, k1, k2, ts, ns⟩, .ag [.int .i64 k0, .int .i64 k1, .int .i64 k2, d, a], ?_⟩
        by_cases hs : sayT ⟨k0, k1, k2, ts, ns⟩ = t
        · exact .inr ⟨⟨rfl, hs⟩, hR, hBB, by dsimp only; omega⟩
        · exact .inl ⟨⟨rfl, hs⟩, hR, hBB⟩

end Go.Proofs.Ytkdnijiipegabaa.B

namespace Go.Proofs.Ytkdnijiipegabaa.B
open Go.RowKit Go.Proofs
set_option linter.unusedVariables false
set_option linter.unusedSimpArgs false
variable {E : Env}

def k_s2 : CC := (.seq (.plan (.st (some 105) (.lda 6 (.t 13)) none [] (.st (some 106) (.lda 5 (.t 7)) none [] (.st (some 107) (.lda 6 (.t 13)) none [] (.st (some 108) (.call 48 [(.t 107)]) none [((some 106), ((.lda 5 (.t 7)), none)), ((some 105), ((.lda 6 (.t 13)), none))] (.st none (.st 6 (.t 4) (.t 105)) none [((some 106), ((.lda 5 (.t 7)), none))] (.st none (.st 5 (.t 5) (.t 106)) none [] (.st (some 6) (.mv (.t 108)) none [] .fin)))))))) .ret)
def k_s3 : CC := (.plan (.st (some 99) (.fa 2 (.t 13)) none [] (.st (some 100) (.ld (.t 99)) none [] (.st (some 101) (.lda 5 (.t 15)) none [] (.st (some 102) (.lit 103 5 1 [(.str ⟨#[]⟩), (.str ⟨#[]⟩), (.str ⟨#[]⟩), .nils, (.int .i64 0)] [(0, (5, (.t 101)))]) none [] (.st (some 103) (.app 103 5 80 (.t 100) (.t 102)) none [] (.st (some 104) (.fa 2 (.t 13)) none [] (.st none (.st 1 (.t 104) (.t 103)) none [] .fin))))))))
def k_s1 : CC := (.seq (.seq (.plan (.st (some 14) (.mv (.c (.int .i64 0))) none [] .fin)) (.block 2 (.loop (.seq (.seq (.plan (.st (some 80) (.mv (.t 14)) none [] (.st (some 81) (.fa 1 (.t 13)) none [] (.st (some 82) (.ld (.t 81)) none [] (.st (some 83) (.len (.t 82)) none [] (.st (some 84) (.bin .lss (.t 80) (.t 83)) none [] .fin)))))) (.cond (.t 84) .skip (.exit 2))) (.seq (.block 3 (.seq (.plan (.st (some 88) (.fa 1 (.t 13)) none [] (.st (some 89) (.ld (.t 88)) none [] (.st (some 90) (.mv (.t 14)) none [] (.st (some 91) (.ia 1 (.t 89) (.t 90)) none [] (.st (some 92) (.ld (.t 91)) none [] (.st (some 94) (.fa 3 (.t 13)) none [] (.st (some 95) (.ld (.t 94)) none [] (.both (.st (some 93) (.call 73 [(.t 92)]) none [((some 95), ((.ld (.t 94)), none))] (.both (.st (some 96) (.call 72 [(.t 93), (.t 95)]) none [] (.st (some 87) (.mv (.t 96)) none [] (.st (some 97) (.ext 0 (.t 87)) none [] (.st (some 98) (.ext 1 (.t 87)) none [] (.st (some 15) (.alloc 103 [(.str ⟨#[]⟩), (.str ⟨#[]⟩), (.str ⟨#[]⟩), .nils, (.int .i64 0)]) none [((some 95), ((.ld (.t 94)), none)), ((some 92), ((.ld (.t 91)), none)), ((some 91), ((.ia 1 (.t 89) (.t 90)), none)), ((some 89), ((.ld (.t 88)), none))] (.st none (.st 5 (.t 15) (.t 97)) none [] (.st (some 16) (.mv (.t 98)) none [] .fin))))))) (.st (some 15) (.alloc 103 [(.str ⟨#[]⟩), (.str ⟨#[]⟩), (.str ⟨#[]⟩), .nils, (.int .i64 0)]) none [((some 95), ((.ld (.t 94)), none)), ((some 92), ((.ld (.t 91)), none)), ((some 91), ((.ia 1 (.t 89) (.t 90)), none)), ((some 89), ((.ld (.t 88)), none))] (.st (some 96) (.call 72 [(.t 93), (.t 95)]) none [] (.st (some 87) (.mv (.t 96)) none [] (.st (some 97) (.ext 0 (.t 87)) none [] (.st (some 98) (.ext 1 (.t 87)) none [] (.st none (.st 5 (.t 15) (.t 97)) none [] (.st (some 16) (.mv (.t 98)) none [] .fin))))))))) (.st (some 15) (.alloc 103 [(.str ⟨#[]⟩), (.str ⟨#[]⟩), (.str ⟨#[]⟩), .nils, (.int .i64 0)]) none [((some 95), ((.ld (.t 94)), none)), ((some 92), ((.ld (.t 91)), none)), ((some 91), ((.ia 1 (.t 89) (.t 90)), none)), ((some 89), ((.ld (.t 88)), none))] (.st (some 93) (.call 73 [(.t 92)]) none [((some 95), ((.ld (.t 94)), none))] (.st (some 96) (.call 72 [(.t 93), (.t 95)]) none [] (.st (some 87) (.mv (.t 96)) none [] (.st (some 97) (.ext 0 (.t 87)) none [] (.st (some 98) (.ext 1 (.t 87)) none [] (.st none (.st 5 (.t 15) (.t 97)) none [] (.st (some 16) (.mv (.t 98)) none [] .fin))))))))))))))))) k_s3)) (.plan (.st (some 85) (.mv (.t 14)) none [] (.st (some 86) (.bin .add (.t 85) (.c (.int .i64 1))) none [] (.st (some 14) (.mv (.t 86)) none [] .fin))))))))) k_s2)
def k_s0 : CC := (.block 0 (.loop (.seq (.seq (.plan (.st (some 30) (.mv (.t 10)) none [] (.st (some 31) (.fa 4 (.t 7)) none [] (.st (some 32) (.ld (.t 31)) none [] (.st (some 33) (.len (.t 32)) none [] (.st (some 34) (.bin .lss (.t 30) (.t 33)) none [] .fin)))))) (.cond (.t 34) .skip (.exit 0))) (.seq (.block 1 (.seq (.seq (.plan (.st (some 37) (.fa 4 (.t 7)) none [] (.st (some 38) (.ld (.t 37)) none [] (.st (some 39) (.mv (.t 10)) none [] (.st (some 40) (.ia 1 (.t 38) (.t 39)) none [] (.st (some 41) (.ld (.t 40)) none [] (.st (some 42) (.call 29 [(.t 41), (.c (.int .i64 2)), (.c (.int .i64 9))]) none [] (.st (some 43) (.not (.t 42)) none [] .fin)))))))) (.cond (.t 43) (.seq (.plan (.st (some 44) (.build [.nils, .nils, .nils, (.int .i64 0), (.int .i64 0), .nils] []) none [] (.st (some 45) (.lda 5 (.t 7)) none [] (.st none (.st 6 (.t 4) (.t 44)) none [((some 45), ((.lda 5 (.t 7)), none))] (.st none (.st 5 (.t 5) (.t 45)) none [] (.st (some 6) (.mv (.c (.bool false))) none [] .fin)))))) .ret) .skip)) (.seq (.plan (.st (some 47) (.mv (.t 0)) none [] (.st (some 48) (.fa 4 (.t 7)) none [] (.st (some 49) (.ld (.t 48)) none [] (.st (some 50) (.mv (.t 10)) none [] (.st (some 51) (.ia 1 (.t 49) (.t 50)) none [] (.st (some 52) (.ld (.t 51)) none [] (.st (some 53) (.ia 1 (.t 47) (.t 52)) none [] (.st (some 54) (.ld (.t 53)) none [] (.st (some 55) (.call 77 [(.t 54)]) none [] (.st (some 46) (.mv (.t 55)) none [] (.st (some 56) (.ext 0 (.t 46)) none [] (.st (some 57) (.ext 1 (.t 46)) none [] (.st (some 11) (.mv (.t 56)) none [] (.st (some 12) (.mv (.t 57)) none [] .fin))))))))))))))) (.seq (.seq (.plan (.st (some 58) (.mv (.t 12)) none [] (.st (some 59) (.not (.t 58)) none [] .fin))) (.cond (.t 59) (.seq (.plan (.st (some 60) (.build [.nils, .nils, .nils, (.int .i64 0), (.int .i64 0), .nils] []) none [] (.st (some 61) (.lda 5 (.t 7)) none [] (.st none (.st 6 (.t 4) (.t 60)) none [((some 61), ((.lda 5 (.t 7)), none))] (.st none (.st 5 (.t 5) (.t 61)) none [] (.st (some 6) (.mv (.c (.bool false))) none [] .fin)))))) .ret) .skip)) (.plan (.st (some 62) (.mv (.t 9)) none [] (.st (some 63) (.mv (.t 11)) none [] (.st (some 64) (.lit 55 1 1 [.nils] [(0, (1, (.t 63)))]) none [] (.st (some 65) (.app 55 1 24 (.t 62) (.t 64)) none [] (.st (some 9) (.mv (.t 65)) none [] .fin)))))))))) (.plan (.st (some 35) (.mv (.t 10)) none [] (.st (some 36) (.bin .add (.t 35) (.c (.int .i64 1))) none [] (.st (some 10) (.mv (.t 36)) none [] .fin))))))))

theorem blockR_run {t : ByteArray} {r : List Ent} (h : blockR t = some r) : runOk r = true := by
  unfold blockR at h
  split at h
  · rename_i hc
    cases h
    obtain ⟨-, h2, h3⟩ := hc
    unfold blockT at h3
    split at h3
    · rename_i hc
      exact hc
    · exact absurd h3.symm h2
  · cases h
theorem blockR_EsB (t : ByteArray) : EsB ((blockR t).getD []) := by
  cases h : blockR t with
  | none => exact ⟨by simp, fun e he => by simp at he⟩
  | some r =>
    obtain ⟨h1, h2, h3⟩ := runOk_fits (blockR_run h)
    exact ⟨by simp; omega, h1⟩
theorem SvRet.sv {H H' : Hp} {v : AV} {o : Option Sv} (h : SvRet H H' v o) : ∃ (x : Sv) (r : AV) (b : Bool), v = .tu [svAV x r, .bool b] ∧ Strs H' r x.r ∧ x.r.length ≤ 12000 := by
  cases o with
  | none =>
    have h : v = _ := h
    exact ⟨⟨⟨#[]⟩, ⟨#[]⟩, ⟨#[]⟩, [], 0⟩, .nils, false, h, Rows.nil, by simp⟩
  | some x =>
    obtain ⟨r, h1, h2, h3⟩ := h
    exact ⟨x, r, true, h1, h2.strs, h3⟩

theorem l22s3_ok {C : CallP} {Q : Ex → Tm → Hp → Prop} {t : Tm} {H : Hp} {p q : Nat} {a lv sv k tm d r : AV} {x : Sv} {sr : List (List AV)}
    (t13 : t 13 = .pt p 0 0) (t15 : t 15 = .pt q 0 0) (hp : H.at p = some ⟨[[a, lv, sv, k, tm, d]], 6, 65, false⟩)
    (hq : H.at q = some ⟨[[.str x.l, .str x.m, .str x.f, r, .int .i64 x.k]], 5, 103, false⟩) (hr : one r = true) (hsv : Own 5 103 H sv sr) (hl : sr.length ≤ 1000) (hpn : ¬ sv.of p)
    (hk : ∀ t' H' v, t' 4 = t 4 → t' 5 = t 5 → t' 7 = t 7 → t' 13 = t 13 → t' 14 = t 14 → Fr (fun x => sv.of x ∨ x = p) H H' → H'.at p = some ⟨[[a, lv, v, k, tm, d]], 6, 65, false⟩ →
      Own 5 103 H' v (sr ++ [[.str x.l, .str x.m, .str x.f, r, .int .i64 x.k]]) → (∀ x, v.of x → sv.of x ∨ H.length ≤ x) → Q .normal t' H') : W C k_s3 Q t H := by
  have up := Hp.at_lt hp
  have uq := Hp.at_lt hq
  simp [k_s3, t13, t15, hp, hq, Hp.at_app, up, hr]
  refine appG_one' (bytes := 80) (R := sr) rfl hsv (by omega) (fun v5 H5 g1 g2 g3 => ?_)
  have hp5 := g2.2 _ _ hpn hp
  have up5 := Hp.at_lt hp5
  simp [t13, hp5, g1.rows.one, g1.rows.cells, g1.rows.cells1]
  have hS := Fr.one H5 p (some ⟨[[a, lv, v5, k, tm, d]], 6, 65, false⟩)
  refine hk _ _ v5 (by simp) (by simp) (by simp) (by simp [t13]) (by simp) ((g2.mono (fun x hx => .inl (.inl hx))).trans hS (fun x hx => .inl (.inr hx))) (Hp.at_set _ up5) (g1.fr hS (fun x hx => ?_)) g3
  exact g1.rows.ne_of hp5 (by simp) hx

/-- What holds while the sieves are made. -/
def s1I (a4 a5 a7 p : Nat) (a lv d : AV) (k tm : Int) (es1 : List (List AV)) (Hs : Hp) (m : Nat) (t : Tm) (H : Hp) : Prop :=
  ∃ (i : Nat) (sv : AV) (sr : List (List AV)) (svs : List Sv), i + m = 3 ∧ t 4 = .pt a4 0 0 ∧ t 5 = .pt a5 0 0 ∧ t 7 = .pt a7 0 0 ∧ t 13 = .pt p 0 0 ∧ t 14 = .int .i64 i ∧ Fr (fun x => x = p) Hs H ∧
    H.at p = some ⟨[[a, lv, sv, .int .i64 k, .int .i64 tm, d]], 6, 65, false⟩ ∧ Own 5 103 H sv sr ∧ (∀ x, sv.of x → Hs.length ≤ x) ∧ All2 (SvRow H (fun _ => False)) sr svs ∧ svs.length = i ∧ (∀ x ∈ svs, x.r.length ≤ 12000)

theorem s1I_step {a4 a5 a7 p : Nat} {a lv d : AV} {k tm : Int} {es1 : List (List AV)} {Hs : Hp} {m i : Nat} {t' : Tm} {H G H' : Hp} {sv v r : AV} {sr : List (List AV)} {svs : List Sv} {x : Sv}
    (him : i + m = 3) (hi : i < 3) (h4 : t' 4 = .pt a4 0 0) (h5 : t' 5 = .pt a5 0 0) (h7 : t' 7 = .pt a7 0 0) (h13 : t' 13 = .pt p 0 0) (h14 : t' 14 = .int .i64 ((i : Int) + 1))
    (hfr : Fr (fun x => x = p) Hs H) (hp : H.at p = some ⟨[[a, lv, sv, .int .i64 k, .int .i64 tm, d]], 6, 65, false⟩) (hsv : Own 5 103 H sv sr) (hsva : ∀ x, sv.of x → Hs.length ≤ x) (hsr : All2 (SvRow H (fun _ => False)) sr svs)
    (hl : svs.length = i) (hb : ∀ x ∈ svs, x.r.length ≤ 12000) (hle : HLe H G) (hr : Strs G r x.r) (hrl : x.r.length ≤ 12000) (f1 : Fr (fun x => sv.of x ∨ x = p) G H')
    (f2 : H'.at p = some ⟨[[a, lv, v, .int .i64 k, .int .i64 tm, d]], 6, 65, false⟩) (f3 : Own 5 103 H' v (sr ++ [[.str x.l, .str x.m, .str x.f, r, .int .i64 x.k]])) (f4 : ∀ x, v.of x → sv.of x ∨ G.length ≤ x) :
    ∃ k', k' < m ∧ s1I a4 a5 a7 p a lv d k tm es1 Hs k' t' H' := by
  have ns1 : ∀ x ob, (sv.of x ∨ x = p) → G.at x = some ob → ob.esz ≠ 1 := fun x ob hs ho => by
    rcases hs with h | h
    · rw [(hsv.le hle).esz h ho]; decide
    · subst h; rw [hle.2 _ _ hp] at ho; cases ho; simp
  refine ⟨m - 1, by omega, i + 1, v, sr ++ [[.str x.l, .str x.m, .str x.f, r, .int .i64 x.k]], svs ++ [x], by omega, h4, h5, h7, h13, by rw [h14]; rfl, ?_, f2, f3, ?_, ?_, by simp [hl], ?_⟩
  · exact (hfr.trans (hle.fr (S := fun x => x = p)) (fun _ h => .inl h)).trans f1 (fun x hx => hx.elim (fun h => .inr (hsva x h)) .inl)
  · intro y hy
    rcases f4 y hy with h | h
    · exact hsva y h
    · have := hle.1; have := hfr.1; omega
  · exact (All2.mono (fun row s h => SvRow.fr (h.le hle) f1 (fun y ob hs ho => .inl (ns1 y ob hs ho)) (fun _ _ h => h)) hsr).append ⟨⟨r, rfl, Rows.frz hr f1 ns1, fun _ _ h => h⟩, trivial⟩
  · intro y hy
    rcases List.mem_append.1 hy with h | h
    · exact hb y h
    · rw [List.mem_singleton.1 h]
      exact hrl

end Go.Proofs.Ytkdnijiipegabaa.B

namespace Go.Proofs.Ytkdnijiipegabaa.B
open Go.RowKit Go.Proofs
set_option linter.unusedVariables false
set_option linter.unusedSimpArgs false
variable {E : Env}

theorem l22s1_ok {Q : Ex → Tm → Hp → Prop} {t : Tm} {H : Hp} {a4 a5 a7 p : Nat} {a lv d hd7 ha7 : AV} {h : Hr} {top : List Ent} {lev : List (List Ent)} {tms : List Int} {lr : List (List AV)} {k tm : Int}
    (t4 : t 4 = .pt a4 0 0) (t5 : t 5 = .pt a5 0 0) (t7 : t 7 = .pt a7 0 0) (t13 : t 13 = .pt p 0 0) (n45 : a4 < a5) (n57 : a5 < a7) (n7p : a7 < p)
    (b4 : H.at a4 = some ⟨[[.nils, .nils, .nils, .int .i64 0, .int .i64 0, .nils]], 6, 65, false⟩)
    (b5 : H.at a5 = some ⟨[[.int .i64 0, .int .i64 0, .int .i64 0, .nils, .nils]], 5, 80, false⟩)
    (b7 : H.at a7 = some ⟨[[.int .i64 h.num, .int .i64 h.keep, .int .i64 h.time, hd7, ha7]], 5, 80, false⟩)
    (bp : H.at p = some ⟨[[a, lv, .nils, .int .i64 k, .int .i64 tm, d]], 6, 65, false⟩)
    (hR1 : Ints H hd7 h.tms) (hR2 : Ints H ha7 h.at') (ha : Ents H a top) (hlv : Rows 1 H lv lr) (hlr : All2 (LvRow H) lr lev) (hl3 : lev.length = 3) (hd : Ints H d tms)
    (hB : EsB top) (hBl : ∀ es ∈ lev, EsB es) (hkb : I64 k) (htb : I64 tm) (hdl : tms.length < 1099511627776) (hdb : ∀ x ∈ tms, I64 x)
    (hQ : ∀ t' H' xa xb xc xd b, t' 4 = .pt a4 0 0 → t' 5 = .pt a5 0 0 → t' 6 = .bool b → Fr (fun x => x = a4 ∨ x = a5 ∨ x = p) H H' → one xa = true → one xb = true → one xc = true → one xd = true →
      H'.at a4 = some ⟨[[xa, xb, xc, .int .i64 k, .int .i64 tm, xd]], 6, 65, false⟩ → H'.at a5 = some ⟨[[.int .i64 h.num, .int .i64 h.keep, .int .i64 h.time, hd7, ha7]], 5, 80, false⟩ → Q .ret t' H') :
    W (tC tab2 (AC Try.prog E)) k_s1 Q t H := by
  have hlr3 : lr.length = 3 := by rw [hlr.length]; exact hl3
  simp [k_s1]
  refine W_for (s1I a4 a5 a7 p a lv d k tm lr H) 3 ?_ (tC_mono AC_mono) ?_
  · exact ⟨0, .nils, [], [], rfl, by simp [t4], by simp [t5], by simp [t7], by simp [t13], by simp, Fr.refl _ _, bp, Own.nils, fun x hx => hx.elim, trivial, rfl, by simp⟩
  rintro m t' H1 ⟨i, sv, sr, svs, him, h4, h5, h7, h13, h14, hfr, hp, hsv, hsva, hsr, hsl, hsb⟩
  have np : ∀ {esz : Nat} {v : AV} {R : List (List AV)}, esz ≠ 6 → Rows esz H v R → Rows esz H1 v R := fun hne hv => Rows.frz hv hfr (fun x ob hx ho => by rw [hx, bp] at ho; cases ho; exact hne.symm)
  have hlv1 := np (by decide) hlv
  have hlr1 : All2 (LvRow H1) lr lev := All2.mono (fun _ _ h => h.fr hfr (fun x ob hx ho => by rw [hx, bp] at ho; cases ho; simp)) hlr
  have l1 := hlv1.len
  rw [hlr3] at l1
  have up := Hp.at_lt hp
  have upH := Hp.at_lt bp
  simp [h4, h5, h7, h13, h14, hp, l1, hlv1.slc]
  refine c_split (fun hq => ?_) (fun hq => ?_) <;> simp at hq
  · have hi : i < 3 := by omega
    have hiI : (i : Int) < 3 := by omega
    have hw := wrapN (i := i) (by omega)
    have hsrl : sr.length ≤ 1000 := by rw [hsr.length]; omega
    have hspn : ¬ sv.of p := fun h => by have := hsva p h; omega
    obtain ⟨o1, i1, ob1, rfl, c1, c2, c3⟩ := hlv1.get (j := i) (by omega)
    obtain ⟨u, hu, hue⟩ := hlr1.get i (by omega) (by omega)
    have hes := hBl _ (List.getElem_mem (show i < lev.length by omega))
    generalize lev[i] = es at hue hes
    rw [hu] at c3
    have hks := keysR_short hes.2
    have hkl := keysR_len es
    have hkb2 : (keysR es).length < 4611686018427387904 := by have := hes.1; omega
    have uc1 := Hp.at_lt c1
    rw [hlr3] at hp ⊢
    simp [h4, h5, h7, h13, h14, hp, c1, c2, c3, hlr3, hi, hiI, hue.one]
    refine ⟨cg_ex (l11Keys_ok u es H1 hue hes.1) ?_, ?_⟩
    · rintro v2 H2 ⟨hle2, hk2⟩
      have hp2 := hle2.2 _ _ hp
      have c12 := hle2.2 _ _ c1
      simp [h13, hp2, c12]
      refine ⟨cg_ex (SieveOf_ok v2 (keysR es) k H2 hk2.strs hks hkb2) ?_, ?_⟩
      · rintro v3 H3 ⟨hle3, hret⟩
        obtain ⟨x, r, b, rfl, hr, hrl⟩ := hret.sv
        have hp3 := hle3.2 _ _ hp2
        have c13 := hle3.2 _ _ c12
        have up3 := Hp.at_lt hp3
        have uc3 := Hp.at_lt c13
        simp [svAV, hr.one, h13, h14, hp3, c13, Hp.at_app, up3, uc3, c2, c3, hi, hiI, hue.one, hlr3]
        refine l22s3_ok (p := p) (q := H3.length) (x := x) (r := r) (by simp [h13]) (by simp) (Hp.at_app _ up3 |>.trans hp3) (by simp) hr.one (hsv.le ((hle2.trans hle3).app _)) hsrl hspn (fun t6 H6 v g4 g5 g7 g13 g14 f1 f2 f3 f4 => ?_)
        simp [g4, g5, g7, g13, g14, h4, h5, h7, h13, h14, hw]
        exact s1I_step him hi (by simp [g4, h4]) (by simp [g5, h5]) (by simp [g7, h7]) (by simp [g13, h13]) (by simp) hfr hp hsv hsva hsr hsl hsb ((hle2.trans hle3).app _) (hr.le (HLe.self _ _)) hrl f1 f2 f3 f4
      · have up2 := Hp.at_lt hp2
        have uc2 := Hp.at_lt c12
        simp [h13, h14, hp2, c12, Hp.at_app, up2, uc2, c2, c3, hi, hiI, hue.one, hlr3]
        refine cg_ex (SieveOf_ok v2 (keysR es) k _ (Rows.le hk2.strs (HLe.self _ _)) hks hkb2) ?_
        rintro v3 H3 ⟨hle3, hret⟩
        obtain ⟨x, r, b, rfl, hr, hrl⟩ := hret.sv
        have hbx := hle3.2 H2.length _ (Hp.at_app_0.trans Hp.at_0)
        have ubx := Hp.at_lt hbx
        have hp3 := hle3.2 _ _ ((HLe.self _ _).2 _ _ hp2)
        have npx : H2.length ≠ p := by omega
        have hlen2 := hle2.1
        simp [svAV, hr.one, h13, h14, hbx]
        refine l22s3_ok (p := p) (q := H2.length) (x := x) (r := r) (by simp [h13]) (by simp) ((Hp.at_set_ne npx).trans hp3) (Hp.at_set _ ubx) hr.one (hsv.le (((hle2.app _).trans hle3).set (o := H2.length) (by omega) _)) hsrl hspn (fun t6 H6 v g4 g5 g7 g13 g14 f1 f2 f3 f4 => ?_)
        simp [g4, g5, g7, g13, g14, h4, h5, h7, h13, h14, hw]
        exact s1I_step him hi (by simp [g4, h4]) (by simp [g5, h5]) (by simp [g7, h7]) (by simp [g13, h13]) (by simp) hfr hp hsv hsva hsr hsl hsb (((hle2.app _).trans hle3).set (o := H2.length) (by omega) _) (Rows.fr hr (Fr.one H3 H2.length _) (fun y hy h => hr.ne_of hbx (by simp) hy h)) hrl f1 f2 f3 f4
    · simp [h13, h14, hp, c1, Hp.at_app, up, uc1, c2, c3, hi, hiI, hue.one, hlr3]
      refine cg_ex (l11Keys_ok u es _ (hue.le (HLe.self _ _)) hes.1) ?_
      rintro v2 H2 ⟨hle2, hk2⟩
      have hp2 := hle2.2 _ _ ((HLe.self _ _).2 _ _ hp)
      simp [h13, hp2]
      refine cg_ex (SieveOf_ok v2 (keysR es) k H2 hk2.strs hks hkb2) ?_
      rintro v3 H3 ⟨hle3, hret⟩
      obtain ⟨x, r, b, rfl, hr, hrl⟩ := hret.sv
      have hbx := hle3.2 _ _ (hle2.2 H1.length _ (Hp.at_app_0.trans Hp.at_0))
      have ubx := Hp.at_lt hbx
      have hp3 := hle3.2 _ _ hp2
      have npx : H1.length ≠ p := by omega
      simp [svAV, hr.one, h13, h14, hbx]
      refine l22s3_ok (p := p) (q := H1.length) (x := x) (r := r) (by simp [h13]) (by simp) ((Hp.at_set_ne npx).trans hp3) (Hp.at_set _ ubx) hr.one (hsv.le ((((HLe.self H1 _).trans hle2).trans hle3).set (o := H1.length) (Nat.le_refl _) _)) hsrl hspn (fun t6 H6 v g4 g5 g7 g13 g14 f1 f2 f3 f4 => ?_)
      simp [g4, g5, g7, g13, g14, h4, h5, h7, h13, h14, hw]
      exact s1I_step him hi (by simp [g4, h4]) (by simp [g5, h5]) (by simp [g7, h7]) (by simp [g13, h13]) (by simp) hfr hp hsv hsva hsr hsl hsb ((((HLe.self H1 _).trans hle2).trans hle3).set (o := H1.length) (Nat.le_refl _) _) (Rows.fr hr (Fr.one H3 H1.length _) (fun y hy h => hr.ne_of hbx (by simp) hy h)) hrl f1 f2 f3 f4
  · have hi3 : i = 3 := by omega
    subst hi3
    have nb : ∀ {x : Nat} {ob : Ob}, x ≠ p → H.at x = some ob → H1.at x = some ob := fun h ho => hfr.2 _ _ h ho
    have b41 := nb (by omega) b4
    have b51 := nb (by omega) b5
    have b71 := nb (by omega) b7
    have u4 := Hp.at_lt b41
    have u5 := Hp.at_lt b51
    have e45 : a4 ≠ a5 := by omega
    have e47 : a4 ≠ a7 := by omega
    have hst : St H1 (stAV a lv sv ⟨top, lev, svs, k, tm, tms⟩ d) ⟨top, lev, svs, k, tm, tms⟩ := ⟨a, lv, sv, d, lr, sr, rfl, np (by decide) ha, hlv1, hlr1, hsv.rows, hsr, np (by decide) hd⟩
    have ha1 := np (by decide) ha
    have hd1 := np (by decide) hd
    have hr1 := np (by decide) hR1
    have hr2 := np (by decide) hR2
    have hstb : StB ⟨top, lev, svs, k, tm, tms⟩ := ⟨hB, hBl, by dsimp only; omega, by dsimp only; omega, hdl, fun x hx => by have := hsb x hx; omega, htb, hkb, hdb⟩
    simp [k_s2, h4, h5, h7, h13, hp, b71]
    refine cg_use (StoreOk_ok (stAV a lv sv ⟨top, lev, svs, k, tm, tms⟩ d) ⟨top, lev, svs, k, tm, tms⟩ H1 hst hstb) ?_
    simp [h4, h5, h7, h13, hp, b71, b41, b51, u4, u5, Hp.at_set, Hp.at_set_ne, List.length_set, e45, e47, e45.symm, e47.symm, ha1.one, hd1.one, hlv1.one, hsv.rows.one, hr1.one, hr2.one]
    refine hQ _ _ a lv sv d (storeOk ⟨top, lev, svs, k, tm, tms⟩) (by simp [h4]) (by simp [h5]) (by simp) ?_ ha1.one hlv1.one hsv.rows.one hd1.one ?_ ?_
    · exact (((hfr.mono (S' := fun x => x = a4 ∨ x = a5 ∨ x = p) (fun x hx => .inl (.inr (.inr hx)))).set (.inl (.inl rfl)) _).set (.inl (.inr (.inl rfl))) _)
    · simp [Hp.at_set, Hp.at_set_ne, u4, u5, List.length_set, e45, e45.symm]
    · simp [Hp.at_set, Hp.at_set_ne, u4, u5, List.length_set, e45, e45.symm]

end Go.Proofs.Ytkdnijiipegabaa.B

namespace Go.Proofs.Ytkdnijiipegabaa.B
open Go.RowKit Go.Proofs
set_option linter.unusedVariables false
set_option linter.unusedSimpArgs false
variable {E : Env}

theorem l22s0_ok {Q : Ex → Tm → Hp → Prop} {t : Tm} {Hb H : Hp} {a4 a5 a7 : Nat} {dv rv hd7 ha7 : AV} {xs : List ByteArray} {h : Hr}
    (t0 : t 0 = dv) (t4 : t 4 = .pt a4 0 0) (t5 : t 5 = .pt a5 0 0) (t7 : t 7 = .pt a7 0 0) (t9 : t 9 = rv) (t10 : t 10 = .int .i64 0) (n45 : a4 < a5) (n57 : a5 < a7)
    (hle0 : HLe Hb H) (hrv : Own 1 55 H rv []) (hrva : ∀ x, rv.of x → Hb.length ≤ x)
    (b4 : Hb.at a4 = some ⟨[[.nils, .nils, .nils, .int .i64 0, .int .i64 0, .nils]], 6, 65, false⟩)
    (b5 : Hb.at a5 = some ⟨[[.int .i64 0, .int .i64 0, .int .i64 0, .nils, .nils]], 5, 80, false⟩)
    (b7 : Hb.at a7 = some ⟨[[.int .i64 h.num, .int .i64 h.keep, .int .i64 h.time, hd7, ha7]], 5, 80, false⟩)
    (hR1 : Ints Hb hd7 h.tms) (hR2 : Ints Hb ha7 h.at') (hal : h.at'.length = 4) (hx : Strs Hb dv xs) (hxl : xs.length = 10) (hxs : ∀ s ∈ xs, s.size ≤ 100000)
    (hN : ∀ t' H' rv rr runs, t' 0 = dv → t' 4 = .pt a4 0 0 → t' 5 = .pt a5 0 0 → t' 7 = .pt a7 0 0 → t' 9 = rv → HLe Hb H' → Own 1 55 H' rv rr → (∀ x, rv.of x → Hb.length ≤ x) → All2 (LvRow H') rr runs → runs.length = 4 →
      (∀ es ∈ runs, EsB es) → (∀ n ∈ h.at', 2 ≤ n ∧ n ≤ 9) → Q .normal t' H')
    (hQ : ∀ t' H', t' 4 = .pt a4 0 0 → t' 5 = .pt a5 0 0 → t' 6 = .bool false → Fr (fun x => x = a4 ∨ x = a5) Hb H' → 
      H'.at a4 = some ⟨[[.nils, .nils, .nils, .int .i64 0, .int .i64 0, .nils]], 6, 65, false⟩ → H'.at a5 = some ⟨[[.int .i64 h.num, .int .i64 h.keep, .int .i64 h.time, hd7, ha7]], 5, 80, false⟩ → Q .ret t' H') :
    W (tC tab2 (AC Try.prog E)) k_s0 Q t H := by
  refine W_for (fun m t H' => ∃ (i : Nat) (rv : AV) (rr : List (List AV)) (runs : List (List Ent)), i + m = 4 ∧ t 0 = dv ∧ t 4 = .pt a4 0 0 ∧ t 5 = .pt a5 0 0 ∧ t 7 = .pt a7 0 0 ∧ t 9 = rv ∧ t 10 = .int .i64 i ∧ HLe Hb H' ∧
    Own 1 55 H' rv rr ∧ (∀ x, rv.of x → Hb.length ≤ x) ∧ All2 (LvRow H') rr runs ∧ runs.length = i ∧ (∀ es ∈ runs, EsB es) ∧ ∀ j (hj : j < h.at'.length), j < i → 2 ≤ h.at'[j] ∧ h.at'[j] ≤ 9) 4 ?_ (tC_mono AC_mono) ?_
  · exact ⟨0, rv, [], [], rfl, t0, t4, t5, t7, t9, t10, hle0, hrv, hrva, trivial, rfl, by simp, fun j hj h => by omega⟩
  rintro m t' H1 ⟨i, rv, rr, runs, him, h0, h4, h5, h7, h9, h10, hle, hrv, hrva, hrr, hrl, hrb, hat⟩
  have b71 := hle.2 _ _ b7
  have ha1 := Ints.le hR2 hle
  have hd1 := Ints.le hR1 hle
  have la := ha1.len
  rw [hal] at la
  have b41 := hle.2 _ _ b4
  have b51 := hle.2 _ _ b5
  have u4 := Hp.at_lt b41
  have u5 := Hp.at_lt b51
  have e45 : a4 ≠ a5 := by omega
  have e47 : a4 ≠ a7 := by omega
  simp [h0, h4, h5, h7, h9, h10, b71, la, ha1.slc]
  refine c_split (fun hq => ?_) (fun hq => ?_) <;> simp at hq
  · have hi : i < 4 := by omega
    have hiI : (i : Int) < 4 := by omega
    have hw := wrapN (i := i) (by omega)
    have hia : i < h.at'.length := by omega
    obtain ⟨o1, i1, ob1, rfl, c1, c2, c3⟩ := ha1.get hia
    obtain ⟨n, hn⟩ : ∃ n, n = h.at'[i] := ⟨_, rfl⟩
    rw [← hn] at c3
    rw [hal] at b71
    simp [h0, h4, h5, h7, h9, h10, b71, c1, c2, c3, hal, hi, hiI]
    refine c_split (fun hq2 => ?_) (fun hq2 => ?_) <;> simp at hq2
    · simp [h0, h4, h5, h7, h9, h10, b71, b41, b51, u4, u5, Hp.at_set, Hp.at_set_ne, List.length_set, e45, e47, e45.symm, e47.symm, ha1.one, hd1.one]
      refine hQ _ _ (by simp [h4]) (by simp [h5]) (by simp) (((hle.fr (S := fun x => x = a4 ∨ x = a5)).set (.inl (.inl rfl)) _).set (.inl (.inr rfl)) _) ?_ ?_
      · simp [Hp.at_set, Hp.at_set_ne, u4, u5, List.length_set, e45, e45.symm]
      · simp [Hp.at_set, Hp.at_set_ne, u4, u5, List.length_set, e45, e45.symm, hal]
    · obtain ⟨n', rfl⟩ : ∃ n' : Nat, n = n' := ⟨n.toNat, by omega⟩
      have hnl : n' < xs.length := by omega
      have hnI : (n' : Int) < 10 := by omega
      obtain ⟨o2, i2, ob2, rfl, d1, d2, d3⟩ := (hx.le hle).get hnl
      obtain ⟨s, hs⟩ : ∃ s, s = xs[n'] := ⟨_, rfl⟩
      have hss := hxs s (by rw [hs]; exact List.getElem_mem _)
      rw [← hs] at d3
      simp [h0, h4, h5, h7, h9, h10, b71, c1, c2, c3, d1, d2, d3, hal, hi, hiI, hxl, hnI]
      refine cg_ex (BlockRead_ok s H1 (by omega)) ?_
      rintro v2 H2 ⟨hle2, w, rfl, hw2⟩
      simp
      refine c_split (fun hq3 => ?_) (fun hq3 => ?_) <;> simp at hq3
      · have b42 := hle2.2 _ _ b41
        have b52 := hle2.2 _ _ b51
        have b72 := hle2.2 _ _ b71
        have u42 := Hp.at_lt b42
        have u52 := Hp.at_lt b52
        simp [h0, h4, h5, h7, h9, h10, b72, b42, b52, u42, u52, Hp.at_set, Hp.at_set_ne, List.length_set, e45, e47, e45.symm, e47.symm, hd1.one]
        refine hQ _ _ (by simp [h4]) (by simp [h5]) (by simp) ((((hle.trans hle2).fr (S := fun x => x = a4 ∨ x = a5)).set (.inl (.inl rfl)) _).set (.inl (.inr rfl)) _) ?_ ?_
        · simp [Hp.at_set, Hp.at_set_ne, u42, u52, List.length_set, e45, e45.symm]
        · simp [Hp.at_set, Hp.at_set_ne, u42, u52, List.length_set, e45, e45.symm, hal]
      · simp [h0, h4, h5, h7, h9, h10, hw2.rows.one, hw2.rows.cells, hw2.rows.cells1]
        refine appG_one' (bytes := 24) (R := rr) rfl (hrv.le hle2) (by rw [hrr.length]; omega) (fun v5 H5 g1 g2 g3 => ?_)
        have hl2 := hle.1
        have hl3 := hle2.1
        have hE := blockR_EsB s
        have ns4 : ∀ x ob, rv.of x → H2.at x = some ob → ob.esz ≠ 4 := fun x ob hs ho => by rw [(hrv.le hle2).esz hs ho]; decide
        simp [h0, h4, h5, h7, h9, h10, hw]
        refine ⟨m - 1, by omega, i + 1, by omega, by omega, by omega, (hle.trans hle2).fr_le g2 (fun x hx => by have := hrva x hx; omega), rr ++ [[w]], g1, ?_, runs ++ [(blockR s).getD []], ?_, by simp [hrl], ?_, ?_⟩
        · intro x hx
          rcases g3 x hx with h | h
          · exact hrva x h
          · omega
        · exact (All2.mono (fun row es h => (h.le hle2).fr g2 ns4) hrr).append ⟨⟨w, rfl, Rows.frz hw2.rows g2 ns4⟩, trivial⟩
        · intro es hes
          rcases List.mem_append.1 hes with h | h
          · exact hrb es h
          · rw [List.mem_singleton.1 h]
            exact hE
        · intro j hj hji
          rcases Nat.lt_or_ge j i with h | h
          · exact hat j (by omega) h
          · have : j = i := by omega
            subst this
            rw [← hn]
            omega
  · have hi4 : i = 4 := by omega
    subst hi4
    refine hN _ _ rv rr runs (by simp [h0]) (by simp [h4]) (by simp [h5]) (by simp [h7]) (by simp [h9]) hle hrv hrva hrr hrl hrb (fun n hn => ?_)
    obtain ⟨j, hj, rfl⟩ := List.mem_iff_getElem.1 hn
    exact hat j hj (by omega)

end Go.Proofs.Ytkdnijiipegabaa.B

namespace Go.Proofs.Ytkdnijiipegabaa.B
open Go.RowKit Go.Proofs
set_option linter.unusedVariables false
set_option linter.unusedSimpArgs false
variable {E : Env}

theorem e_spec_l22Store : c_spec_l22Store = ⟨109, (.seq (.plan (.st (some 4) (.alloc 65 [.nils, .nils, .nils, (.int .i64 0), (.int .i64 0), .nils]) none [] (.st (some 5) (.alloc 80 [(.int .i64 0), (.int .i64 0), (.int .i64 0), .nils, .nils]) none [] (.st (some 6) (.mv (.c (.bool false))) none [] .fin)))) (.seq (.plan (.st (some 18) (.mv (.t 0)) none [] (.st (some 19) (.mv (.t 1)) none [] (.st (some 20) (.ia 1 (.t 18) (.t 19)) none [] (.st (some 21) (.ld (.t 20)) none [] (.st (some 22) (.call 76 [(.t 21)]) none [] (.st (some 17) (.mv (.t 22)) none [] (.st (some 23) (.ext 0 (.t 17)) none [] (.st (some 24) (.ext 1 (.t 17)) none [] (.st (some 7) (.alloc 80 [(.int .i64 0), (.int .i64 0), (.int .i64 0), .nils, .nils]) none [] (.st none (.st 5 (.t 7) (.t 23)) none [] (.st (some 8) (.mv (.t 24)) none [] .fin)))))))))))) (.seq (.seq (.plan (.st (some 25) (.mv (.t 8)) none [] (.st (some 26) (.not (.t 25)) none [] .fin))) (.cond (.t 26) (.seq (.plan (.st (some 27) (.build [.nils, .nils, .nils, (.int .i64 0), (.int .i64 0), .nils] []) none [] (.st (some 28) (.lda 5 (.t 7)) none [] (.st none (.st 6 (.t 4) (.t 27)) none [((some 28), ((.lda 5 (.t 7)), none))] (.st none (.st 5 (.t 5) (.t 28)) none [] (.st (some 6) (.mv (.c (.bool false))) none [] .fin)))))) .ret) .skip)) (.seq (.plan (.st (some 29) (.lit 55 1 0 [] []) none [] (.st (some 9) (.mv (.t 29)) none [] .fin))) (.seq (.seq (.plan (.st (some 10) (.mv (.c (.int .i64 0))) none [] .fin)) k_s0) (.seq (.plan (.st (some 66) (.mv (.t 9)) none [] (.st (some 67) (.ia 1 (.t 66) (.c (.int .i64 0))) none [] (.st (some 68) (.ld (.t 67)) none [] (.st (some 69) (.mv (.t 9)) none [] (.st (some 70) (.cut 1 (.t 69) (some (.c (.int .i64 1))) none) none [] (.st (some 71) (.fa 1 (.t 7)) none [] (.st (some 72) (.ld (.t 71)) none [] (.st (some 73) (.fa 2 (.t 7)) none [] (.st (some 74) (.ld (.t 73)) none [] (.st (some 76) (.fa 3 (.t 7)) none [] (.st (some 77) (.ld (.t 76)) none [] (.both (.st (some 75) (.lit 3 1 0 [] []) none [((some 77), ((.ld (.t 76)), none)), ((some 74), ((.ld (.t 73)), none)), ((some 72), ((.ld (.t 71)), none)), ((some 70), ((.cut 1 (.t 69) (some (.c (.int .i64 1))) none), none)), ((some 68), ((.ld (.t 67)), none)), ((some 67), ((.ia 1 (.t 66) (.c (.int .i64 0))), none))] (.both (.st (some 78) (.app 3 1 8 (.t 75) (.t 77)) none [((some 74), ((.ld (.t 73)), none)), ((some 72), ((.ld (.t 71)), none)), ((some 70), ((.cut 1 (.t 69) (some (.c (.int .i64 1))) none), none)), ((some 68), ((.ld (.t 67)), none)), ((some 67), ((.ia 1 (.t 66) (.c (.int .i64 0))), none))] (.st (some 79) (.build [.nils, .nils, .nils, (.int .i64 0), (.int .i64 0), .nils] [(0, (1, (.t 68))), (1, (1, (.t 70))), (3, (1, (.t 72))), (4, (1, (.t 74))), (5, (1, (.t 78)))]) none [] (.st (some 13) (.alloc 65 [.nils, .nils, .nils, (.int .i64 0), (.int .i64 0), .nils]) none [((some 77), ((.ld (.t 76)), none)), ((some 74), ((.ld (.t 73)), none)), ((some 72), ((.ld (.t 71)), none)), ((some 70), ((.cut 1 (.t 69) (some (.c (.int .i64 1))) none), none)), ((some 68), ((.ld (.t 67)), none)), ((some 67), ((.ia 1 (.t 66) (.c (.int .i64 0))), none))] (.st none (.st 6 (.t 13) (.t 79)) none [] .fin)))) (.st (some 13) (.alloc 65 [.nils, .nils, .nils, (.int .i64 0), (.int .i64 0), .nils]) none [((some 77), ((.ld (.t 76)), none)), ((some 74), ((.ld (.t 73)), none)), ((some 72), ((.ld (.t 71)), none)), ((some 70), ((.cut 1 (.t 69) (some (.c (.int .i64 1))) none), none)), ((some 68), ((.ld (.t 67)), none)), ((some 67), ((.ia 1 (.t 66) (.c (.int .i64 0))), none))] (.st (some 78) (.app 3 1 8 (.t 75) (.t 77)) none [((some 74), ((.ld (.t 73)), none)), ((some 72), ((.ld (.t 71)), none)), ((some 70), ((.cut 1 (.t 69) (some (.c (.int .i64 1))) none), none)), ((some 68), ((.ld (.t 67)), none)), ((some 67), ((.ia 1 (.t 66) (.c (.int .i64 0))), none))] (.st (some 79) (.build [.nils, .nils, .nils, (.int .i64 0), (.int .i64 0), .nils] [(0, (1, (.t 68))), (1, (1, (.t 70))), (3, (1, (.t 72))), (4, (1, (.t 74))), (5, (1, (.t 78)))]) none [] (.st none (.st 6 (.t 13) (.t 79)) none [] .fin)))))) (.st (some 13) (.alloc 65 [.nils, .nils, .nils, (.int .i64 0), (.int .i64 0), .nils]) none [((some 77), ((.ld (.t 76)), none)), ((some 74), ((.ld (.t 73)), none)), ((some 72), ((.ld (.t 71)), none)), ((some 70), ((.cut 1 (.t 69) (some (.c (.int .i64 1))) none), none)), ((some 68), ((.ld (.t 67)), none)), ((some 67), ((.ia 1 (.t 66) (.c (.int .i64 0))), none))] (.st (some 75) (.lit 3 1 0 [] []) none [((some 77), ((.ld (.t 76)), none)), ((some 74), ((.ld (.t 73)), none)), ((some 72), ((.ld (.t 71)), none)), ((some 70), ((.cut 1 (.t 69) (some (.c (.int .i64 1))) none), none)), ((some 68), ((.ld (.t 67)), none)), ((some 67), ((.ia 1 (.t 66) (.c (.int .i64 0))), none))] (.st (some 78) (.app 3 1 8 (.t 75) (.t 77)) none [((some 74), ((.ld (.t 73)), none)), ((some 72), ((.ld (.t 71)), none)), ((some 70), ((.cut 1 (.t 69) (some (.c (.int .i64 1))) none), none)), ((some 68), ((.ld (.t 67)), none)), ((some 67), ((.ia 1 (.t 66) (.c (.int .i64 0))), none))] (.st (some 79) (.build [.nils, .nils, .nils, (.int .i64 0), (.int .i64 0), .nils] [(0, (1, (.t 68))), (1, (1, (.t 70))), (3, (1, (.t 72))), (4, (1, (.t 74))), (5, (1, (.t 78)))]) none [] (.st none (.st 6 (.t 13) (.t 79)) none [] .fin)))))))))))))))))) k_s1)))))), [(.ca 4 6), (.ca 5 5), (.t 6)]⟩ := rfl

theorem l22Ok_ok (dv : AV) (xs : List ByteArray) (H : Hp) (hx : Strs H dv xs) : AC Try.prog E 47 [dv] H (fun u H' => u = .bool (decide (xs.length = 10)) ∧ H' = H) := by
  refine AC_byp (tC_le tab2_ok) h_spec_l22Ok (by simp) ?_
  simp [c_spec_l22Ok, hx.len, hx.slc]
  omega

/-- What l22Store returns, as far as it matters here. -/
def HeadR (H H' : Hp) (st w : AV) (ok : Bool) : Prop := HLe H H' ∧ ∃ xa xb xc xk xt xd h, st = .ag [xa, xb, xc, xk, xt, xd] ∧ one xa = true ∧ one xb = true ∧ one xc = true ∧ one xk = true ∧ one xt = true ∧ one xd = true ∧ HrR H' w h ∧ HrB h ∧ (ok = true → h.at'.length = 4 ∧ ∀ n ∈ h.at', 2 ≤ n ∧ n ≤ 9)

theorem l22Store_ok (dv : AV) (xs : List ByteArray) (b : Nat) (H : Hp) (hx : Strs H dv xs) (hxl : xs.length = 10) (hxs : ∀ s ∈ xs, s.size ≤ 100000) (hb : b < 10) :
    AC Try.prog E 64 [dv, .int .i64 b] H (fun u H' => ∃ st w ok, u = .tu [st, w, .bool ok] ∧ HeadR H H' st w ok) := by
  refine AC_by fol (tC_le tab2_ok) h_spec_l22Store ?_
  rw [e_spec_l22Store]
  obtain ⟨H1, hH1⟩ : ∃ H1 : Hp, H1 = H ++ [some ⟨[[.nils, .nils, .nils, .int .i64 0, .int .i64 0, .nils]], 6, 65, false⟩, some ⟨[[.int .i64 0, .int .i64 0, .int .i64 0, .nils, .nils]], 5, 80, false⟩] := ⟨_, rfl⟩
  have hle1 : HLe H H1 := by rw [hH1]; exact HLe.self _ _
  have b0 : H1.at H.length = some ⟨[[.nils, .nils, .nils, .int .i64 0, .int .i64 0, .nils]], 6, 65, false⟩ := by rw [hH1]; simp
  have b1 : H1.at (H.length + 1) = some ⟨[[.int .i64 0, .int .i64 0, .int .i64 0, .nils, .nils]], 5, 80, false⟩ := by rw [hH1]; simp
  obtain ⟨o1, i1, ob1, rfl, c1, c2, c3⟩ := (hx.le hle1).get (j := b) (by omega)
  obtain ⟨s, hs⟩ : ∃ s, s = xs[b] := ⟨_, rfl⟩
  have hss := hxs s (by rw [hs]; exact List.getElem_mem _)
  rw [← hs] at c3
  have hbI : (b : Int) < 10 := by omega
  simp [← hH1, c1, c2, c3, hb, hbI, hxl]
  refine cg_ex (l22Hear_ok s H1 (by omega)) ?_
  rintro v2 H2 ⟨hle2, h, w, ok, rfl, hw, hhB, hok⟩
  obtain ⟨dd, aa, rfl, hdd, haa⟩ := hw
  have b02 := hle2.2 _ _ b0
  have b12 := hle2.2 _ _ b1
  have u02 := Hp.at_lt b02
  have u12 := Hp.at_lt b12
  have hl1 := hle1.1
  have hl2 := hle2.1
  have e01 : H.length ≠ H.length + 1 := by omega
  obtain ⟨H3, hH3⟩ : ∃ H3 : Hp, H3 = H2 ++ [some ⟨[[.int .i64 h.num, .int .i64 h.keep, .int .i64 h.time, dd, aa]], 5, 80, false⟩] := ⟨_, rfl⟩
  have hle3 : HLe H2 H3 := by rw [hH3]; exact HLe.self _ _
  have b03 := hle3.2 _ _ b02
  have b13 := hle3.2 _ _ b12
  have b23 : H3.at H2.length = some ⟨[[.int .i64 h.num, .int .i64 h.keep, .int .i64 h.time, dd, aa]], 5, 80, false⟩ := by rw [hH3]; simp
  have u03 := Hp.at_lt b03
  have u13 := Hp.at_lt b13
  have hle13 : HLe H H3 := (hle1.trans hle2).trans hle3
  simp [hdd.one, haa.one, ← hH3]
  have e20 : H2.length ≠ H.length := by omega
  have e21 : H2.length ≠ H.length + 1 := by omega
  have fin : ∀ (H' : Hp) (g : Bool) (xa xb xc xk xt xd : AV), Fr (fun x => x = H.length ∨ x = H.length + 1) H3 H' → one xa = true → one xb = true → one xc = true → one xk = true → one xt = true → one xd = true → (g = true → h.at'.length = 4 ∧ ∀ n ∈ h.at', 2 ≤ n ∧ n ≤ 9) →
      HeadR H H' (.ag [xa, xb, xc, xk, xt, xd]) (.ag [.int .i64 h.num, .int .i64 h.keep, .int .i64 h.time, dd, aa]) g := by
    intro H' g xa xb xc xk xt xd hf o1 o2 o3 o4 o5 o6 hg
    have ne1 : ∀ x ob, (x = H.length ∨ x = H.length + 1) → H3.at x = some ob → ob.esz ≠ 1 := by
      intro x ob hx ho
      rcases hx with rfl | rfl
      · rw [b03] at ho; cases ho; simp
      · rw [b13] at ho; cases ho; simp
    exact ⟨hle13.fr_le hf (fun x hx => by rcases hx with h | h <;> omega), xa, xb, xc, xk, xt, xd, h, rfl, o1, o2, o3, o4, o5, o6, ⟨dd, aa, rfl, Rows.frz (Rows.le hdd hle3) hf ne1, Rows.frz (Rows.le haa hle3) hf ne1⟩, hhB, hg⟩
  refine c_split (fun hq => ?_) (fun hq => ?_) <;> simp at hq
  · simp [b03, b13, b23, u03, u13, Hp.at_set, Hp.at_set_ne, List.length_set, e01, e01.symm, e20, e21, e20.symm, e21.symm, hdd.one, haa.one]
    exact ⟨_, _, ⟨rfl, rfl⟩, fin _ false _ _ _ _ _ _ (((Fr.refl _ H3).set (.inl (.inl rfl)) _).set (.inl (.inr rfl)) _) rfl rfl rfl rfl rfl rfl (fun h => by cases h)⟩
  have h4 := hok hq
  have hx3 : Strs H3 (.sl o1 i1 10) xs := by
    rw [hxl] at hx
    exact hx.le hle13
  simp
  refine l22s0_ok (Hb := H3) (a4 := H.length) (a5 := H.length + 1) (a7 := H2.length) (h := h) (hd7 := dd) (ha7 := aa) (rv := .sl H3.length 0 0) (xs := xs) (dv := .sl o1 i1 10) (by simp) (by simp) (by simp) (by simp) (by simp) (by simp) (by omega) (by omega) (HLe.self _ _) (Own.lit0 rfl) (fun x hx => by have hx' : H3.length = x := hx; omega) b03 b13 b23 (Rows.le hdd hle3) (Rows.le haa hle3) h4 hx3 hxl hxs ?_ ?_
  · intro t H5 rv rr runs t0 t4 t5 t7 t9 hle5 hrv hrva hrr hrl hrb hat
    have b05 := hle5.2 _ _ b03
    have b15 := hle5.2 _ _ b13
    have b25 := hle5.2 _ _ b23
    obtain ⟨os, rfl⟩ := hrv.sl (by rw [hrr.length]; omega)
    have hr4 : rr.length = 4 := by rw [hrr.length]; exact hrl
    rw [hr4] at hrv t9
    cases runs with
    | nil => simp at hrl
    | cons r0 rl =>
    cases rr with
    | nil => simp at hr4
    | cons row rr' =>
    obtain ⟨⟨u, rfl, hue⟩, hrest⟩ := hrr
    obtain ⟨obs, k1, k2, k3, k4⟩ : ∃ obs, H5.at os = some obs ∧ obs.esz = 1 ∧ 4 ≤ obs.rows.length ∧ obs.rows.take 4 = [u] :: rr' := by
      rcases hrv with ⟨h, _⟩ | ⟨h, _⟩ | ⟨o', ob', h, q2, q3, q4, q5, q6, q7⟩
      · cases h
      · cases h
      · obtain ⟨rfl, -⟩ : os = o' ∧ _ := by simpa using h
        rw [hr4] at q6 q7
        exact ⟨ob', q2, q4, q6, q7⟩
    have k5 : obs.rows[0]? = some [u] := by
      have : (obs.rows.take 4)[0]? = some [u] := by rw [k4]; rfl
      rwa [List.getElem?_take_of_lt (by omega)] at this
    have k7 : (obs.rows.drop 1).take 3 = rr' := by
      have : (obs.rows.take 4).drop 1 = rr' := by rw [k4]; rfl
      rw [List.drop_take] at this
      exact this
    have hlv5 : Rows 1 H5 (.sl os 1 3) rr' := .inr (.inr ⟨os, 1, obs, by simp at hr4; rw [hr4], k1, k2, by simp at hr4; omega, by simp at hr4; rw [hr4]; exact k7⟩)
    have hdd5 : Ints H5 dd h.tms := Rows.le hdd (hle3.trans hle5)
    have haa5 : Ints H5 aa h.at' := Rows.le haa (hle3.trans hle5)
    have u25 := Hp.at_lt b25
    have uos := Hp.at_lt k1
    have hl5 := hle5.1
    have hl3 := hle3.1
    have htl := hhB.2.2.2.1
    simp [t4, t5, t7, t9, k1, k2, k5, b25, cutG, optK, Hp.at_app, u25, uos, hdd.one, haa.one, hue.one, Hp.at_app_ge]
    refine ⟨⟨?_, ?_⟩, ?_⟩
    · refine appG_cat (row := intRow) (xs := []) (ys := h.tms) (H0 := H5) ⟨Own.lit0 rfl, fun x hx => by have hx' : H5.length = x := hx; omega⟩ (Rows.le hdd5 (HLe.self _ _)) (HLe.self _ _) (by simp; omega) (fun v6 H6 g1 g2 g3 g4 => ?_)
      have b26 := g1.2 _ _ b25
      have k16 := g1.2 _ _ k1
      have u26 := Hp.at_lt b26
      have u16 := Hp.at_lt k16
      have hl6 := g1.1
      simp [t4, t5, t7, t9, k16, k2, k5, b26, Hp.at_app, u26, u16, hdd.one, haa.one, hue.one, g2.rows.one, Rows.cells hue, Rows.cells1 hue, g2.rows.cells, g2.rows.cells1, cutG, optK]
      refine l22s1_ok (a4 := H.length) (a5 := H.length + 1) (a7 := H2.length) (p := H6.length) (a := u) (lv := .sl os 1 3) (d := v6) (hd7 := dd) (ha7 := aa) (h := h) (top := r0) (lev := rl) (tms := h.tms) (lr := rr') (k := h.keep) (tm := h.time) (by simp [t4]) (by simp [t5]) (by simp [t7]) (by simp) (by omega) (by omega) (by omega) ((g1.app _).2 _ _ b05) ((g1.app _).2 _ _ b15) ((g1.app _).2 _ _ b25) (by simp) (Rows.le hdd5 (g1.app _)) (Rows.le haa5 (g1.app _)) (Rows.le hue (g1.app _)) (Rows.le hlv5 (g1.app _)) (All2.mono (fun _ _ => LvRow.le (g1.app _)) hrest) (by simpa using hrl) (Rows.le g2.rows (HLe.self _ _)) (hrb _ (by simp)) (fun es he => hrb _ (by simp [he])) hhB.2.1 hhB.2.2.1 (by have := hhB.2.2.2.1; omega) hhB.2.2.2.2.2.1 ?_
      intro t8 H8 xa xb xc xd g x4 x5 x6 f1 o1 o2 o3 o4 f2 f3
      simp [x4, x5, x6, f2, f3, o1, o2, o3, o4, hdd.one, haa.one]
      have hfin := fin H8 g xa xb xc (.int .i64 h.keep) (.int .i64 h.time) xd (((hle5.trans (g1.app _)).fr (S := fun x => x = H.length ∨ x = H.length + 1)).trans f1 (fun x hx => by rcases hx with h | h | h; exact .inl (.inl h); exact .inl (.inr h); exact .inr (by omega))) o1 o2 o3 rfl rfl o4 (fun _ => ⟨h4, hat⟩)
      cases g
      · exact ⟨_, _, .inl ⟨⟨rfl, rfl, rfl⟩, hfin⟩⟩
      · exact ⟨_, _, .inr ⟨⟨rfl, rfl, rfl⟩, hfin⟩⟩
    · refine appG_cat (row := intRow) (xs := []) (ys := h.tms) (H0 := H5) ⟨Own.obj (R := []) (by simp) rfl, fun x hx => by have hx' : H5.length = x := hx; omega⟩ (Rows.le hdd5 (HLe.self _ _)) (HLe.self _ _) (by simp; omega) (fun v6 H6 g1 g2 g3 g4 => ?_)
      have b26 := g1.2 _ _ b25
      have k16 := g1.2 _ _ k1
      have bp6 := g3.2 (H5.length + 1) _ (fun h => by have hx' : H5.length = H5.length + 1 := h; omega) (show Hp.at _ _ = some ⟨[[.nils, .nils, .nils, .int .i64 0, .int .i64 0, .nils]], 6, 65, false⟩ by simp)
      have u26 := Hp.at_lt b26
      have u16 := Hp.at_lt k16
      have up6 := Hp.at_lt bp6
      have hl6 := g1.1
      simp [t4, t5, t7, t9, k16, k2, k5, b26, bp6, Hp.at_app, u26, u16, hdd.one, haa.one, hue.one, g2.rows.one, Rows.cells hue, Rows.cells1 hue, g2.rows.cells, g2.rows.cells1, cutG, optK]
      refine l22s1_ok (a4 := H.length) (a5 := H.length + 1) (a7 := H2.length) (p := H5.length + 1) (a := u) (lv := .sl os 1 3) (d := v6) (hd7 := dd) (ha7 := aa) (h := h) (top := r0) (lev := rl) (tms := h.tms) (lr := rr') (k := h.keep) (tm := h.time) (by simp [t4]) (by simp [t5]) (by simp [t7]) (by simp) (by omega) (by omega) (by omega) ((g1.set (o := H5.length + 1) (by omega) _).2 _ _ b05) ((g1.set (o := H5.length + 1) (by omega) _).2 _ _ b15) ((g1.set (o := H5.length + 1) (by omega) _).2 _ _ b25) (Hp.at_set _ up6) (Rows.le hdd5 (g1.set (o := H5.length + 1) (by omega) _)) (Rows.le haa5 (g1.set (o := H5.length + 1) (by omega) _)) (Rows.le hue (g1.set (o := H5.length + 1) (by omega) _)) (Rows.le hlv5 (g1.set (o := H5.length + 1) (by omega) _)) (All2.mono (fun _ _ => LvRow.le (g1.set (o := H5.length + 1) (by omega) _)) hrest) (by simpa using hrl) (Rows.fr g2.rows (Fr.one H6 (H5.length + 1) _) (fun x hx h => g2.rows.ne_of bp6 (by simp) hx h)) (hrb _ (by simp)) (fun es he => hrb _ (by simp [he])) hhB.2.1 hhB.2.2.1 (by have := hhB.2.2.2.1; omega) hhB.2.2.2.2.2.1 ?_
      intro t8 H8 xa xb xc xd g x4 x5 x6 f1 o1 o2 o3 o4 f2 f3
      simp [x4, x5, x6, f2, f3, o1, o2, o3, o4, hdd.one, haa.one]
      have hfin := fin H8 g xa xb xc (.int .i64 h.keep) (.int .i64 h.time) xd (((hle5.trans (g1.set (o := H5.length + 1) (by omega) _)).fr (S := fun x => x = H.length ∨ x = H.length + 1)).trans f1 (fun x hx => by rcases hx with h | h | h; exact .inl (.inl h); exact .inl (.inr h); exact .inr (by omega))) o1 o2 o3 rfl rfl o4 (fun _ => ⟨h4, hat⟩)
      cases g
      · exact ⟨_, _, .inl ⟨⟨rfl, rfl, rfl⟩, hfin⟩⟩
      · exact ⟨_, _, .inr ⟨⟨rfl, rfl, rfl⟩, hfin⟩⟩
    · refine appG_cat (row := intRow) (xs := []) (ys := h.tms) (H0 := H5) ⟨Own.obj (R := []) (by simp) rfl, fun x hx => by have hx' : H5.length + 1 = x := hx; omega⟩ (Rows.le hdd5 (HLe.self _ _)) (HLe.self _ _) (by simp; omega) (fun v6 H6 g1 g2 g3 g4 => ?_)
      have b26 := g1.2 _ _ b25
      have k16 := g1.2 _ _ k1
      have bp6 := g3.2 (H5.length) _ (fun h => by have hx' : H5.length + 1 = H5.length := h; omega) (show Hp.at _ _ = some ⟨[[.nils, .nils, .nils, .int .i64 0, .int .i64 0, .nils]], 6, 65, false⟩ by simp)
      have u26 := Hp.at_lt b26
      have u16 := Hp.at_lt k16
      have up6 := Hp.at_lt bp6
      have hl6 := g1.1
      simp [t4, t5, t7, t9, k16, k2, k5, b26, bp6, Hp.at_app, u26, u16, hdd.one, haa.one, hue.one, g2.rows.one, Rows.cells hue, Rows.cells1 hue, g2.rows.cells, g2.rows.cells1, cutG, optK]
      refine l22s1_ok (a4 := H.length) (a5 := H.length + 1) (a7 := H2.length) (p := H5.length) (a := u) (lv := .sl os 1 3) (d := v6) (hd7 := dd) (ha7 := aa) (h := h) (top := r0) (lev := rl) (tms := h.tms) (lr := rr') (k := h.keep) (tm := h.time) (by simp [t4]) (by simp [t5]) (by simp [t7]) (by simp) (by omega) (by omega) (by omega) ((g1.set (o := H5.length) (by omega) _).2 _ _ b05) ((g1.set (o := H5.length) (by omega) _).2 _ _ b15) ((g1.set (o := H5.length) (by omega) _).2 _ _ b25) (Hp.at_set _ up6) (Rows.le hdd5 (g1.set (o := H5.length) (by omega) _)) (Rows.le haa5 (g1.set (o := H5.length) (by omega) _)) (Rows.le hue (g1.set (o := H5.length) (by omega) _)) (Rows.le hlv5 (g1.set (o := H5.length) (by omega) _)) (All2.mono (fun _ _ => LvRow.le (g1.set (o := H5.length) (by omega) _)) hrest) (by simpa using hrl) (Rows.fr g2.rows (Fr.one H6 (H5.length) _) (fun x hx h => g2.rows.ne_of bp6 (by simp) hx h)) (hrb _ (by simp)) (fun es he => hrb _ (by simp [he])) hhB.2.1 hhB.2.2.1 (by have := hhB.2.2.2.1; omega) hhB.2.2.2.2.2.1 ?_
      intro t8 H8 xa xb xc xd g x4 x5 x6 f1 o1 o2 o3 o4 f2 f3
      simp [x4, x5, x6, f2, f3, o1, o2, o3, o4, hdd.one, haa.one]
      have hfin := fin H8 g xa xb xc (.int .i64 h.keep) (.int .i64 h.time) xd (((hle5.trans (g1.set (o := H5.length) (by omega) _)).fr (S := fun x => x = H.length ∨ x = H.length + 1)).trans f1 (fun x hx => by rcases hx with h | h | h; exact .inl (.inl h); exact .inl (.inr h); exact .inr (by omega))) o1 o2 o3 rfl rfl o4 (fun _ => ⟨h4, hat⟩)
      cases g
      · exact ⟨_, _, .inl ⟨⟨rfl, rfl, rfl⟩, hfin⟩⟩
      · exact ⟨_, _, .inr ⟨⟨rfl, rfl, rfl⟩, hfin⟩⟩
  · intro t H5 t4 t5 t6 hf f4 f5
    simp [t4, t5, t6, f4, f5, hdd.one, haa.one]
    exact ⟨_, _, ⟨rfl, rfl⟩, fin _ false _ _ _ _ _ _ hf rfl rfl rfl rfl rfl rfl (fun h => by cases h)⟩

end Go.Proofs.Ytkdnijiipegabaa.B

namespace Go.Proofs.Ytkdnijiipegabaa.B
open Go.RowKit Go.Proofs
set_option linter.unusedVariables false
set_option linter.unusedSimpArgs false
variable {E : Env}

theorem l22Last_ok (dv : AV) (xs : List ByteArray) (H : Hp) (hx : Strs H dv xs) (hxl : xs.length = 10) (hxs : ∀ s ∈ xs, s.size ≤ 100000) :
    AC Try.prog E 49 [dv] H (fun u H' => ∃ st w, ∃ b : Nat, ∃ ok, u = .tu [st, w, .int .i64 b, .bool ok] ∧ b ≤ 1 ∧ HeadR H H' st w ok) := by
  refine AC_by fol (tC_le tab2_ok) h_spec_l22Last ?_
  obtain ⟨H1, hH1⟩ : ∃ H1 : Hp, H1 = H ++ [some ⟨[[.nils, .nils, .nils, .int .i64 0, .int .i64 0, .nils]], 6, 65, false⟩, some ⟨[[.int .i64 0, .int .i64 0, .int .i64 0, .nils, .nils]], 5, 80, false⟩] := ⟨_, rfl⟩
  have hle1 : HLe H H1 := by rw [hH1]; exact HLe.self _ _
  have b0 : H1.at H.length = some ⟨[[.nils, .nils, .nils, .int .i64 0, .int .i64 0, .nils]], 6, 65, false⟩ := by rw [hH1]; simp
  have b1 : H1.at (H.length + 1) = some ⟨[[.int .i64 0, .int .i64 0, .int .i64 0, .nils, .nils]], 5, 80, false⟩ := by rw [hH1]; simp
  simp [c_spec_l22Last, ← hH1]
  refine cg_ex (l22Store_ok dv xs 0 H1 (hx.le hle1) hxl hxs (by omega)) ?_
  rintro v2 H2 ⟨st, w, ok, rfl, hle2, xa, xb, xc, xk, xt, xd, h, rfl, o1, o2, o3, o4, o5, o6, ⟨dd, aa, rfl, hdd, haa⟩, hhB, hok⟩
  obtain ⟨H3, hH3⟩ : ∃ H3 : Hp, H3 = H2 ++ [some ⟨[[xa, xb, xc, xk, xt, xd]], 6, 65, false⟩, some ⟨[[.int .i64 h.num, .int .i64 h.keep, .int .i64 h.time, dd, aa]], 5, 80, false⟩] := ⟨_, rfl⟩
  have hle3 : HLe H2 H3 := by rw [hH3]; exact HLe.self _ _
  have q0 : H3.at H2.length = some ⟨[[xa, xb, xc, xk, xt, xd]], 6, 65, false⟩ := by rw [hH3]; simp
  have q1 : H3.at (H2.length + 1) = some ⟨[[.int .i64 h.num, .int .i64 h.keep, .int .i64 h.time, dd, aa]], 5, 80, false⟩ := by rw [hH3]; simp
  simp [o1, o2, o3, o4, o5, o6, hdd.one, haa.one, ← hH3]
  refine cg_ex (l22Store_ok dv xs 1 H3 (hx.le ((hle1.trans hle2).trans hle3)) hxl hxs (by omega)) ?_
  rintro v4 H4 ⟨st, w, ok2, rfl, hle4, ya, yb, yc, yk, yt, yd, g, rfl, p1, p2, p3, p4, p5, p6, ⟨ee, bb, rfl, hee, hbb⟩, hgB, hok2⟩
  obtain ⟨H5, hH5⟩ : ∃ H5 : Hp, H5 = H4 ++ [some ⟨[[ya, yb, yc, yk, yt, yd]], 6, 65, false⟩, some ⟨[[.int .i64 g.num, .int .i64 g.keep, .int .i64 g.time, ee, bb]], 5, 80, false⟩] := ⟨_, rfl⟩
  have hle5 : HLe H4 H5 := by rw [hH5]; exact HLe.self _ _
  have r0 : H5.at H4.length = some ⟨[[ya, yb, yc, yk, yt, yd]], 6, 65, false⟩ := by rw [hH5]; simp
  have r1 : H5.at (H4.length + 1) = some ⟨[[.int .i64 g.num, .int .i64 g.keep, .int .i64 g.time, ee, bb]], 5, 80, false⟩ := by rw [hH5]; simp
  have hle15 : HLe H1 H5 := ((hle2.trans hle3).trans hle4).trans hle5
  have hleH : HLe H H5 := hle1.trans hle15
  have b05 := hle15.2 _ _ b0
  have b15 := hle15.2 _ _ b1
  have q05 := (hle4.trans hle5).2 _ _ q0
  have q15 := (hle4.trans hle5).2 _ _ q1
  have u0 := Hp.at_lt b05
  have u1 := Hp.at_lt b15
  have l1 := Hp.at_lt b1
  have l2 := hle2.1
  have l3 := hle3.1
  have l4 := hle4.1
  have l3' := Hp.at_lt q1
  have n01 : H.length ≠ H.length + 1 := by omega
  have n02 : H.length ≠ H2.length + 1 := by omega
  have n04 : H.length ≠ H4.length + 1 := by omega
  have hf : ∀ X Y : Option Ob, Fr (fun x => x = H.length ∨ x = H.length + 1) H5 ((List.set H5 H.length X).set (H.length + 1) Y) := fun X Y => ((Fr.refl _ H5).set (.inl (.inl rfl)) X).set (.inl (.inr rfl)) Y
  have ne1 : ∀ x ob, (x = H.length ∨ x = H.length + 1) → H5.at x = some ob → ob.esz ≠ 1 := by
    intro x ob hx ho
    rcases hx with rfl | rfl
    · rw [b05] at ho; cases ho; simp
    · rw [b15] at ho; cases ho; simp
  have fin1 : ∀ X Y, ok = true → HeadR H ((List.set H5 H.length X).set (H.length + 1) Y) (.ag [xa, xb, xc, xk, xt, xd]) (.ag [.int .i64 h.num, .int .i64 h.keep, .int .i64 h.time, dd, aa]) true := fun X Y e =>
    ⟨hleH.fr_le (hf X Y) (fun x hx => by rcases hx with h | h <;> omega), xa, xb, xc, xk, xt, xd, h, rfl, o1, o2, o3, o4, o5, o6, ⟨dd, aa, rfl, Rows.frz (Rows.le hdd ((hle3.trans hle4).trans hle5)) (hf X Y) ne1, Rows.frz (Rows.le haa ((hle3.trans hle4).trans hle5)) (hf X Y) ne1⟩, hhB, fun _ => hok e⟩
  have fin2 : ∀ X Y, HeadR H ((List.set H5 H.length X).set (H.length + 1) Y) (.ag [ya, yb, yc, yk, yt, yd]) (.ag [.int .i64 g.num, .int .i64 g.keep, .int .i64 g.time, ee, bb]) ok2 := fun X Y =>
    ⟨hleH.fr_le (hf X Y) (fun x hx => by rcases hx with h | h <;> omega), ya, yb, yc, yk, yt, yd, g, rfl, p1, p2, p3, p4, p5, p6, ⟨ee, bb, rfl, Rows.frz (Rows.le hee hle5) (hf X Y) ne1, Rows.frz (Rows.le hbb hle5) (hf X Y) ne1⟩, hgB, hok2⟩
  simp [p1, p2, p3, p4, p5, p6, hee.one, hbb.one, ← hH5]
  cases ok with
  | false =>
    cases ok2 with
    | false =>
      simp [q05, q15, r0, r1, b05, b15, u0, u1, n01, n01.symm, n02, n02.symm, n04, n04.symm, Hp.at_set, Hp.at_set_ne, List.length_set, o1, o2, o3, o4, o5, o6, p1, p2, p3, p4, p5, p6, hdd.one, haa.one, hee.one, hbb.one]
      exact ⟨_, _, 1, ⟨rfl, rfl, rfl⟩, by omega, fin2 _ _⟩
    | true =>
      simp [q05, q15, r0, r1, b05, b15, u0, u1, n01, n01.symm, n02, n02.symm, n04, n04.symm, Hp.at_set, Hp.at_set_ne, List.length_set, o1, o2, o3, o4, o5, o6, p1, p2, p3, p4, p5, p6, hdd.one, haa.one, hee.one, hbb.one]
      exact ⟨_, _, 1, ⟨rfl, rfl, rfl⟩, by omega, fin2 _ _⟩
  | true =>
    cases ok2 with
    | false =>
      simp [q05, q15, r0, r1, b05, b15, u0, u1, n01, n01.symm, n02, n02.symm, n04, n04.symm, Hp.at_set, Hp.at_set_ne, List.length_set, o1, o2, o3, o4, o5, o6, p1, p2, p3, p4, p5, p6, hdd.one, haa.one, hee.one, hbb.one]
      exact ⟨_, _, 0, ⟨rfl, rfl, rfl⟩, by omega, fin1 _ _ rfl⟩
    | true =>
      simp [q05, q15, r0, r1, b05, b15, u0, u1, n01, n01.symm, n02, n02.symm, n04, n04.symm, Hp.at_set, Hp.at_set_ne, List.length_set, o1, o2, o3, o4, o5, o6, p1, p2, p3, p4, p5, p6, hdd.one, haa.one, hee.one, hbb.one]
      refine c_split (fun hq => ?_) (fun hq => ?_) <;> simp at hq
      · simp [q05, q15, r0, r1, b05, b15, u0, u1, n01, n01.symm, n02, n02.symm, n04, n04.symm, Hp.at_set, Hp.at_set_ne, List.length_set, o1, o2, o3, o4, o5, o6, p1, p2, p3, p4, p5, p6, hdd.one, haa.one, hee.one, hbb.one]
        exact ⟨_, _, 0, ⟨rfl, rfl, rfl⟩, by omega, fin1 _ _ rfl⟩
      · simp [q05, q15, r0, r1, b05, b15, u0, u1, n01, n01.symm, n02, n02.symm, n04, n04.symm, Hp.at_set, Hp.at_set_ne, List.length_set, o1, o2, o3, o4, o5, o6, p1, p2, p3, p4, p5, p6, hdd.one, haa.one, hee.one, hbb.one]
        exact ⟨_, _, 1, ⟨rfl, rfl, rfl⟩, by omega, fin2 _ _⟩

end Go.Proofs.Ytkdnijiipegabaa.B
