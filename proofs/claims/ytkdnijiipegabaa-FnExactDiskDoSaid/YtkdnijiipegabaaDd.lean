/- The law FnExactDiskDo. -/
import Derived.Test.YtkdnijiipegabaaDc
import Derived.Test.YtkdnijiipegabaaBu
namespace Go.Proofs.Ytkdnijiipegabaa.B
open Go.RowKit Go.Proofs
set_option linter.unusedVariables false
set_option linter.unusedSimpArgs false
variable {E : Env}

theorem Ty.mvs {H : Hp} {v : AV} (h : Ty H (.kl [.ki .i64, .ks]) v) : ∃ xs : List Mv, Mvs H v xs ∧ xs.length ≤ 140737488351232 ∧ ∀ s ∈ xs, s.2.size ≤ 140737488351232 := by
  obtain ⟨rows, h1, h2, h3⟩ := h.sl
  obtain ⟨xs, rfl, hq⟩ := rows_map (f := mvRow) (Q := fun s => s.2.size ≤ 140737488351232) (fun r hr => by
    obtain ⟨v, us, rfl, a1, a2⟩ := (h3 r hr).cons
    obtain ⟨w, us, rfl, b1, b2⟩ := a2.cons
    obtain ⟨n, rfl, _⟩ := a1.int
    obtain ⟨s, rfl, hs⟩ := b1.str
    rw [b2.nil]
    exact ⟨(n, s), rfl, hs⟩)
  exact ⟨xs, h1, by simpa using h2, hq⟩

theorem exactDiskDo_ok (a b : AV) (xs : List ByteArray) (ms : List Mv) (bytes : Int) (H : Hp) (ha : Strs H a xs) (hb : Mvs H b ms)
    (hx : xs.length < 4611686018427387904) (hs : ∀ s ∈ xs, s.size < 4611686018427387904) (hm : ms.length < 4611686018427387904) (hms : ∀ s ∈ ms, s.2.size < 4611686018427387904) :
    AC Try.prog E 5 [a, b, .int .i64 bytes] H (fun v H' => v = .bool true) := by
  refine AC_by fol (CLe.refl _) h_laws_FnExactDiskDo ?_
  simp [c_laws_FnExactDiskDo]
  refine callG_use (szStringS_ok a xs _ H ha (by omega) hx hs) ?_
  simp
  refine c_split (fun hq => ?_) (fun hq => ?_) <;> simp at hq <;> simp
  have hq1 : (xs.length : Int) + szL xs ≤ 1048576 := by
    split at hq
    · assumption
    · omega
  rw [if_pos hq1] at hq
  simp [hq1]
  refine callG_use (szMoveS_ok b ms _ H hb ⟨by omega, by omega⟩ hm hms) ?_
  simp
  refine c_split (fun hq2 => ?_) (fun hq2 => ?_) <;> simp at hq2 <;> simp
  have hq3 : (ms.length : Int) + szM ms ≤ 1048576 := by
    split at hq2 <;> omega
  refine callG_ex (toStringS_ok a xs H ha (by omega)) ?_
  rintro v1 H1 ⟨hle1, o1, rfl, ho1, hat1⟩
  simp
  refine callG_ex (toMoveS_ok b ms H1 (hb.le hle1) (by omega)) ?_
  rintro v2 H2 ⟨hle2, o2, rfl, ho2, hat2⟩
  simp
  have hat12 := hle2.2 _ _ hat1
  have hMs2 : Mvs H2 (.sl o2 0 ms.length) ms := by simpa [Mvs] using Rows.whole hat2
  refine callG_ex (specDo_ok o1 xs 9 false _ ms bytes H2 hat12 (by omega) hMs2 (by omega)) ?_
  rintro v3 H3 ⟨hle3, o3, rfl, ho3, hat3⟩
  simp
  have haH3 : Strs H3 a xs := ha.le ((hle1.trans hle2).trans hle3)
  refine callG_ex (toStringS_ok a xs H3 haH3 (by omega)) ?_
  rintro v4 H4 ⟨hle4, o4, rfl, ho4, hat4⟩
  simp
  have hbH4 : Mvs H4 b ms := hb.le (((hle1.trans hle2).trans hle3).trans hle4)
  refine callG_ex (toMoveS_ok b ms H4 hbH4 (by omega)) ?_
  rintro v5 H5 ⟨hle5, o5, rfl, ho5, hat5⟩
  simp
  have hat45 := hle5.2 _ _ hat4
  have hMs5 : Mvs H5 (.sl o5 0 ms.length) ms := by simpa [Mvs] using Rows.whole hat5
  refine callG_ex (implDo_ok o4 xs 9 false _ ms bytes H5 hat45 (by omega) hMs5 (by omega)) ?_
  rintro v6 H6 hg
  simp
  have hle6 : HLe H5 H6 := by
    rcases hg with ⟨_, _, h⟩ | h
    · exact h
    · exact h.1
  have hD := doTo_len bytes ms xs ms.length
  have hgS : Strs H6 v6 (doTo bytes ms xs ms.length) := by
    rcases hg with ⟨h1, rfl, _⟩ | ⟨_, o6, rfl, _, hat6⟩
    · exact .inl ⟨rfl, by subst h1; simp at hD; simp [hD]⟩
    · have := Rows.whole hat6
      exact this
  have hwS3 : Strs H3 (.sl o3 0 (doTo bytes ms xs ms.length).length) (doTo bytes ms xs ms.length) := by
    have := Rows.whole hat3
    simp only [List.length_map] at this
    exact this
  have hwS6 := hwS3.le ((hle4.trans hle5).trans hle6)
  refine callG_use (eqStringS_ok _ _ _ _ H6 hgS hwS6 (by omega)) ?_
  simp
  have hle06 : HLe H H6 := ((((hle1.trans hle2).trans hle3).trans hle4).trans hle5).trans hle6
  have hx0S4 : Strs H4 (.sl o4 0 xs.length) xs := by
    have := Rows.whole hat4
    simp only [List.length_map] at this
    exact this
  refine callG_ex (toStringS_ok a xs H6 (ha.le hle06) (by omega)) ?_
  rintro v7 H7 ⟨hle7, o7, rfl, ho7, hat7⟩
  simp
  have hx7 : Strs H7 (.sl o7 0 xs.length) xs := by
    have := Rows.whole hat7
    simp only [List.length_map] at this
    exact this
  refine callG_use (eqStringS_ok _ _ _ _ H7 (hx0S4.le ((hle5.trans hle6).trans hle7)) hx7 (by omega)) ?_
  simp
  refine callG_ex (toMoveS_ok b ms H7 (hb.le (hle06.trans hle7)) (by omega)) ?_
  rintro v8 H8 ⟨hle8, o8, rfl, ho8, hat8⟩
  simp
  have hM8 : Mvs H8 (.sl o8 0 ms.length) ms := by simpa [Mvs] using Rows.whole hat8
  refine callG_use (eqMoveS_ok _ _ _ _ H8 (hMs5.le ((hle6.trans hle7).trans hle8)) hM8 (by omega)) ?_
  simp
  have l34 := hle4.1
  have b1 := Hp.at_lt hat1
  have b2 := Hp.at_lt hat2
  have b3 := Hp.at_lt hat3
  have b4 := Hp.at_lt hat4
  have b5 := Hp.at_lt hat5
  have k2 := hle2.1
  have k3 := hle3.1
  have k5 := hle5.1
  have k6 := hle6.1
  have k7 := hle7.1
  have k8 := hle8.1
  have hle48 := (hle5.trans hle6).trans (hle7.trans hle8)
  have hle58 := hle6.trans (hle7.trans hle8)
  have own4 : OwnR 1 9 H8 (.sl o4 0 xs.length) (xs.map strRow) := .inr ⟨o4, by simp, hle48.2 _ _ hat4⟩
  refine callG_ex (markStringS_own _ _ _ 1 H8 own4 (by simp [strRow]) (by omega) (by simp; omega)) ?_
  rintro u9 H9 ⟨rfl, b9, -⟩
  simp
  have own5 : OwnR 2 44 H9 (.sl o5 0 ms.length) (ms.map mvRow) := OwnR.but (.inr ⟨o5, by simp, hle58.2 _ _ hat5⟩) b9 (fun o => by simp only [AV.of]; omega)
  refine callG_ex (markMoveS_own _ _ _ _ H9 own5 (by intro r hr; obtain ⟨m, _, rfl⟩ := List.mem_map.1 hr; rfl) (by omega) (by simp; omega)) ?_
  rintro u10 H10 ⟨rfl, b10⟩
  simp
  have hnn : ¬ ((1 : Int) + xs.length + 2 * ms.length < 0) := by omega
  simp [hnn]
  have hg8 : OwnR 1 9 H6 v6 ((doTo bytes ms xs ms.length).map strRow) ∧ ∀ o, v6.of o → H5.length ≤ o := by
    rcases hg with ⟨h1, rfl, _⟩ | ⟨_, o6, rfl, ho6, hat6⟩
    · exact ⟨.inl ⟨rfl, by subst h1; simp at hD; simp [hD]⟩, fun o h => h.elim⟩
    · exact ⟨.inr ⟨o6, by simp, hat6⟩, fun o h => by simp only [AV.of] at h; omega⟩
  obtain ⟨own6, fr6⟩ := hg8
  have n46 : ∀ o, (AV.sl o4 0 xs.length).of o → ¬ v6.of o := fun o h h2 => by have := fr6 o h2; simp only [AV.of] at h; omega
  have n56 : ∀ o, (AV.sl o5 0 ms.length).of o → ¬ v6.of o := fun o h h2 => by have := fr6 o h2; simp only [AV.of] at h; omega
  have own10 : OwnR 1 9 H10 v6 ((doTo bytes ms xs ms.length).map strRow) := ((own6.le (hle7.trans hle8)).but b9 n46).but b10 n56
  have hw10 : Strs H10 (.sl o3 0 (doTo bytes ms xs ms.length).length) (doTo bytes ms xs ms.length) :=
    ((hwS6.le (hle7.trans hle8)).but b9 (fun o h h2 => by simp only [AV.of] at h h2; omega)).but b10 (fun o h h2 => by simp only [AV.of] at h h2; omega)
  refine callG_use (eqStringS_ok _ _ _ _ H10 own10.rows hw10 (by omega)) ?_
  simp
  refine callG_ex (markStringS_own _ _ _ 1 H10 own10 (by simp [strRow]) (by omega) (by simp; omega)) ?_
  rintro u11 H11 ⟨rfl, b11, own11⟩
  simp at own11
  simp
  have hmk : Strs H11 v6 ((List.range (doTo bytes ms xs ms.length).length).map fun j => markT (1 + (j : Nat))) := by
    have := own11.rows
    have e : (fun j : Nat => [AV.str (markT (1 + (j : Int)))]) = markR 1 := rfl
    simpa [Strs, Function.comp_def, e] using this
  have hheld := heldStringS_ok (E := E) v6 _ 1 H11 hmk (by omega) (by simp; omega) (by intro j hj; simp)
  simp only [List.length_map, List.length_range] at hheld
  refine callG_use hheld ?_
  have hn2 : ¬ ((1 : Int) + (doTo bytes ms xs ms.length).length < 0) := by omega
  simp [hn2]
  have hle11 : HLe H H11 := ((((hle06.trans hle7).trans hle8 |> b9.le) (fun o h => by simp only [AV.of] at h; omega) |> b10.le) (fun o h => by simp only [AV.of] at h; omega) |> b11.le) (fun o h => by have := fr6 o h; omega)
  refine callG_ex (toStringS_ok a xs H11 (ha.le hle11) (by omega)) ?_
  rintro v12 H12 ⟨hle12, o12, rfl, ho12, hat12'⟩
  simp
  refine callG_ex (toMoveS_ok b ms H12 (hb.le (hle11.trans hle12)) (by omega)) ?_
  rintro v13 H13 ⟨hle13, o13, rfl, ho13, hat13⟩
  simp
  have hMs13 : Mvs H13 (.sl o13 0 ms.length) ms := by simpa [Mvs] using Rows.whole hat13
  refine callG_ex (implDo_ok o12 xs 9 false _ ms bytes H13 (hle13.2 _ _ hat12') (by omega) hMs13 (by omega)) ?_
  rintro v14 H14 hh
  simp
  have hle14 : HLe H13 H14 := by
    rcases hh with ⟨_, _, h⟩ | h
    · exact h
    · exact h.1
  have hhS : Strs H14 v14 (doTo bytes ms xs ms.length) := by
    rcases hh with ⟨h1, rfl, _⟩ | ⟨_, o6, rfl, _, hat6⟩
    · exact .inl ⟨rfl, by subst h1; simp at hD; simp [hD]⟩
    · have := Rows.whole hat6
      exact this
  have hw11 : Strs H11 (.sl o3 0 (doTo bytes ms xs ms.length).length) (doTo bytes ms xs ms.length) := hw10.but b11 (fun o h h2 => by have := fr6 o h; simp only [AV.of] at h2; omega)
  refine callG_use (eqStringS_ok _ _ _ _ H14 hhS (hw11.le ((hle12.trans hle13).trans hle14)) (by omega)) ?_
  simp
  have hheld2 := heldStringS_ok (E := E) v6 _ 1 H14 (hmk.le ((hle12.trans hle13).trans hle14)) (by omega) (by simp; omega) (by intro j hj; simp)
  simp only [List.length_map, List.length_range] at hheld2
  refine callG_use hheld2 ?_
  simp [hn2]

end Go.Proofs.Ytkdnijiipegabaa.B
