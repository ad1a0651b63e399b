/- The reference's draws: deeds. -/
import Derived.Test.YtkdnijiipegabaaDoorGa
import Derived.Test.YtkdnijiipegabaaDoorEe
namespace Go.Proofs.YtkdnijiipegabaaDoor.B
open Go.RowKit Go.Proofs
set_option linter.unusedVariables false
set_option linter.unusedSimpArgs false
variable {E : Env}

/-- A box is written behind a reader. -/
theorem Rd.box {H : Hp} {o N n : Nat} (h : Rd H o N) (X : Option Ob) (hne : n ≠ o) (h1 : ∀ ob, H.at n = some ob → ob.esz ≠ 1) : Rd (List.set H n X) o N :=
  h.fr (Fr.one H n X) (fun e => hne e.symm) (fun x ob hx ho => by subst hx; exact h1 ob ho)

theorem l71Deed_ok (o N : Nat) (kv : AV) (ks : List ByteArray) (H : Hp) (hr : Rd H o N) (hk : Strs H kv ks) (hkl : ks.length < 1099511627776) (hks : ∀ s ∈ ks, s.size ≤ 5) (hN : N < 137438953472) :
    AC Tryd.prog E 27 [.pt o 0 0, kv] H (fun v H' => ∃ d, v = ddAV d ∧ d.key.size ≤ 5 ∧ Dr o H H' ∧ Rd H' o (N + 9)) := by
  refine AC_by fol (tC_le tab2_ok) h_spec_l71Deed ?_
  have hol := hr.lt
  have m0 : H.length ≠ o := by omega
  simp [c_spec_l71Deed]
  refine cg_ex (pick_ok o N 10 _ (hr.le (HLe.self _ _)) (by omega) (by omega)) ?_
  rintro v H1 ⟨n, rfl, hn, hd1, hr1, hlen⟩
  have b1 := hd1.2 H.length ⟨[[.int .i64 0, .str ⟨#[]⟩, .int .i64 0]], 3, 26, false⟩ (by omega) (by simp)
  have hD : Dr o H H1 := (Fr.app (Fr.refl _ H) _).same hd1
  have hk1 : Strs H1 kv ks := (Rows.dr (hr.le (HLe.self _ _)) (hk.le (HLe.self _ _)) (by decide) hd1)
  have fin : ∀ (H2 : Hp) (d : Dd) (M : Nat), d.key.size ≤ 5 → Dr o H1 H2 → Rd H2 o M → M ≤ N + 9 → ∃ d', ddAV d = ddAV d' ∧ d'.key.size ≤ 5 ∧ Dr o H (List.set H2 H.length (some ⟨[[.int .i64 d.kind, .str d.key, .int .i64 d.num]], 3, 26, false⟩)) ∧ Rd (List.set H2 H.length (some ⟨[[.int .i64 d.kind, .str d.key, .int .i64 d.num]], 3, 26, false⟩)) o (N + 9) := by
    intro H2 d M h1 h2 h3 h4
    have b2 := h2.2 _ _ m0 b1
    exact ⟨d, rfl, h1, (hD.same h2).set (.inr (Nat.le_refl _)) _, (h3.box _ m0 (fun ob ho => by rw [b2] at ho; cases ho; simp)).mono h4⟩
  have hcase : n = 0 ∨ n = 1 ∨ n = 2 ∨ n = 3 ∨ n = 4 ∨ n = 5 ∨ n = 6 ∨ n = 7 ∨ n = 8 ∨ n = 9 := by omega
  have u1 := Hp.at_lt b1
  have put : ∀ t : Tm, True := fun _ => trivial
  simp
  refine c_split (fun q0 => ?_) (fun q0 => ?_) <;> simp at q0
  · simp [q0]
    refine cg_ex (l71Near_ok o _ kv ks _ hr1 hk1 hkl hks (by omega)) ?_
    rintro _ H2 ⟨k, rfl, hk5, hd2, hr2⟩
    simp
    refine cg_ex (pick_ok o _ 100 _ hr2 (by omega) (by omega)) ?_
    rintro _ H3 ⟨m, rfl, hm, hd3, hr3, -⟩
    have hb := (hd2.same hd3).2 _ _ m0 b1
    simp [hb, Hp.at_set, Hp.at_lt hb]
    exact fin _ ⟨1, k, m⟩ _ hk5 (hd2.same hd3) hr3 (by omega)
  simp
  refine c_split (fun q1 => ?_) (fun q1 => ?_) <;> simp at q1
  · simp [q1]
    refine cg_ex (l71Near_ok o _ kv ks _ hr1 hk1 hkl hks (by omega)) ?_
    rintro _ H2 ⟨k, rfl, hk5, hd2, hr2⟩
    simp
    refine cg_ex (pick_ok o _ 100 _ hr2 (by omega) (by omega)) ?_
    rintro _ H3 ⟨m, rfl, hm, hd3, hr3, -⟩
    have hb := (hd2.same hd3).2 _ _ m0 b1
    simp [hb, Hp.at_set, Hp.at_lt hb]
    exact fin _ ⟨1, k, m⟩ _ hk5 (hd2.same hd3) hr3 (by omega)
  simp
  refine c_split (fun q2 => ?_) (fun q2 => ?_) <;> simp at q2
  · simp [q2]
    refine cg_ex (l71Near_ok o _ kv ks _ hr1 hk1 hkl hks (by omega)) ?_
    rintro _ H2 ⟨k, rfl, hk5, hd2, hr2⟩
    simp
    refine cg_ex (pick_ok o _ 100 _ hr2 (by omega) (by omega)) ?_
    rintro _ H3 ⟨m, rfl, hm, hd3, hr3, -⟩
    have hb := (hd2.same hd3).2 _ _ m0 b1
    simp [hb, Hp.at_set, Hp.at_lt hb]
    exact fin _ ⟨1, k, m⟩ _ hk5 (hd2.same hd3) hr3 (by omega)
  simp
  refine c_split (fun q3 => ?_) (fun q3 => ?_) <;> simp at q3
  · simp [q3]
    refine cg_ex (l71Near_ok o _ kv ks _ hr1 hk1 hkl hks (by omega)) ?_
    rintro _ H2 ⟨k, rfl, hk5, hd2, hr2⟩
    simp
    refine cg_ex (pick_ok o _ 100 _ hr2 (by omega) (by omega)) ?_
    rintro _ H3 ⟨m, rfl, hm, hd3, hr3, -⟩
    have hb := (hd2.same hd3).2 _ _ m0 b1
    simp [hb, Hp.at_set, Hp.at_lt hb]
    exact fin _ ⟨1, k, m⟩ _ hk5 (hd2.same hd3) hr3 (by omega)
  simp
  refine c_split (fun q4 => ?_) (fun q4 => ?_) <;> simp at q4
  · simp [q4]
    refine cg_ex (l71Near_ok o _ kv ks _ hr1 hk1 hkl hks (by omega)) ?_
    rintro _ H2 ⟨k, rfl, hk5, hd2, hr2⟩
    simp
    refine cg_ex (pick_ok o _ 100 _ hr2 (by omega) (by omega)) ?_
    rintro _ H3 ⟨m, rfl, hm, hd3, hr3, -⟩
    have hb := (hd2.same hd3).2 _ _ m0 b1
    simp [hb, Hp.at_set, Hp.at_lt hb]
    exact fin _ ⟨1, k, m⟩ _ hk5 (hd2.same hd3) hr3 (by omega)
  simp [q4]
  refine c_split (fun q5 => ?_) (fun q5 => ?_) <;> simp at q5
  · simp
    refine cg_ex (l71Near_ok o _ kv ks _ hr1 hk1 hkl hks (by omega)) ?_
    rintro _ H2 ⟨k, rfl, hk5, hd2, hr2⟩
    have hb := hd2.2 _ _ m0 b1
    simp [hb, Hp.at_set, Hp.at_lt hb]
    exact fin _ ⟨2, k, 0⟩ _ hk5 hd2 hr2 (by omega)
  simp
  refine c_split (fun q6 => ?_) (fun q6 => ?_) <;> simp at q6
  · simp [b1, Hp.at_set, u1]
    exact fin H1 ⟨3, ⟨#[]⟩, 0⟩ _ (by decide) (Fr.refl _ _) hr1 (by omega)
  simp
  refine c_split (fun q7 => ?_) (fun q7 => ?_) <;> simp at q7
  · simp
    refine cg_ex (pick_ok o _ 20 _ hr1 (by omega) (by omega)) ?_
    rintro _ H3 ⟨m, rfl, hm, hd3, hr3, -⟩
    have hb := hd3.2 _ _ m0 b1
    simp [hb, Hp.at_set, Hp.at_lt hb]
    exact fin _ ⟨4, ⟨#[]⟩, m⟩ _ (by show 0 ≤ 5; omega) hd3 hr3 (by omega)
  simp
  refine c_split (fun q8 => ?_) (fun q8 => ?_) <;> simp at q8
  · simp [b1, Hp.at_set, u1]
    exact fin H1 ⟨5, ⟨#[]⟩, 0⟩ _ (by decide) (Fr.refl _ _) hr1 (by omega)
  simp
  refine cg_ex (pick_ok o _ 3 _ hr1 (by omega) (by omega)) ?_
  rintro _ H3 ⟨m, rfl, hm, hd3, hr3, -⟩
  have hb := hd3.2 _ _ m0 b1
  simp [hb, Hp.at_set, Hp.at_lt hb]
  exact fin _ ⟨6, ⟨#[]⟩, m⟩ _ (by show 0 ≤ 5; omega) hd3 hr3 (by omega)

end Go.Proofs.YtkdnijiipegabaaDoor.B
