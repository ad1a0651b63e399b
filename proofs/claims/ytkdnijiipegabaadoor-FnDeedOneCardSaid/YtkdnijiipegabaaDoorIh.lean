/- The law FnDeedOne. -/
import Derived.Test.YtkdnijiipegabaaDoorIe
import Derived.Test.YtkdnijiipegabaaDoorIg
import Derived.Test.YtkdnijiipegabaaDoorGu
namespace Go.Proofs.YtkdnijiipegabaaDoor.B
open Go.RowKit Go.Proofs
set_option linter.unusedVariables false
set_option linter.unusedSimpArgs false
variable {E : Env}

theorem DrawDeedText_ok (c : AV) (bs : List Int) (H : Hp) (hc : Bytes H c bs) (hn : bs.length < 4611686018427387904) :
    AC Tryd.prog E 10 [c] H (fun v H' => ∃ d, v = ddAV d ∧ d.key.size ≤ 5 ∧ HLe H H') := by
  refine AC_by fol (tC_le tab2_ok) h_spec_DrawDeedText ?_
  obtain ⟨H1, hH1⟩ : ∃ H1 : Hp, H1 = H ++ [some ⟨[[.int .i64 0, .str ⟨#[]⟩, .int .i64 0]], 3, 26, false⟩] := ⟨_, rfl⟩
  have hle1 : HLe H H1 := by rw [hH1]; exact HLe.self _ _
  have b0 : H1.at H.length = some ⟨[[.int .i64 0, .str ⟨#[]⟩, .int .i64 0]], 3, 26, false⟩ := by rw [hH1]; simp
  simp [c_spec_DrawDeedText, ← hH1]
  refine cg_ex (l6Open_ok c bs H1 ⟨Rows.le hc.1 hle1, hc.2⟩ hn) ?_
  rintro v H2 ⟨r, rfl, hr1, hle2, hr2⟩
  simp
  have b02 := hle2.2 _ _ b0
  have l1 := hle1.1
  have l1' := Hp.at_lt b0
  have hrl := hr2.lt
  refine cg_ex (l71Deed_ok r 0 _ [] _ (hr2.le (HLe.self _ _)) (by exact .inr (.inr ⟨_, 0, _, rfl, Hp.at_app_0.trans Hp.at_0, rfl, by simp, by simp⟩)) (by simp) (by simp) (by omega)) ?_
  rintro v H3 ⟨d, rfl, hdk, hd3, hr3⟩
  have b03 := hd3.2 _ _ (show ¬ H.length = r by omega) ((HLe.self _ _).2 _ _ b02)
  have hl3 := hd3.len
  simp at hl3
  obtain ⟨H4, hH4⟩ : ∃ H4 : Hp, H4 = H3 ++ [some ⟨[[.int .i64 d.kind, .str d.key, .int .i64 d.num]], 3, 26, false⟩] := ⟨_, rfl⟩
  have hle4 : HLe H3 H4 := by rw [hH4]; exact HLe.self _ _
  have b1 : H4.at H3.length = some ⟨[[.int .i64 d.kind, .str d.key, .int .i64 d.num]], 3, 26, false⟩ := by rw [hH4]; simp
  have b04 := hle4.2 _ _ b03
  have hr4 := hr3.le hle4
  have hleD : HLe H H4 := by
    refine (((hle1.trans hle2).app _).fr_le hd3 (fun x hx => by omega)).trans hle4
  simp [ddAV, ← hH4]
  refine cg_ex (pick_ok r _ 12 H4 hr4 (by omega) (by omega)) ?_
  rintro v H5 ⟨k, rfl, hk, hd5, hr5, hlen5⟩
  have b05 := hd5.2 _ _ (show ¬ H.length = r by omega) b04
  have b15 := hd5.2 _ _ (show ¬ H3.length = r by omega) b1
  have hleE : HLe H H5 := hleD.fr_le hd5 (fun x hx => by omega)
  have u0 := Hp.at_lt b05
  have u1 := Hp.at_lt b15
  have n01 : H.length ≠ H3.length := by omega
  have fin : ∀ (G : Hp) (e : Dd) (X : Option Ob), HLe H G → HLe H (List.set G H.length X) := fun G e X h => h.set (Nat.le_refl _) X
  simp
  refine c_split (fun hq => ?_) (fun hq => ?_) <;> simp at hq
  · simp
    obtain ⟨L, hL⟩ : ∃ L : Hp, L = [some ⟨[[.int .i64 (-1)], [.int .i64 1000], [.int .i64 5]], 1, 3, false⟩] := ⟨_, rfl⟩
    rw [← hL]
    refine cg_ex (pick_ok r _ 3 _ (hr5.le (HLe.self H5 L)) (by omega) (by omega)) ?_
    rintro v H6 ⟨n2, rfl, hn2, hd6, hr6, hlen6⟩
    have b3 := hd6.2 H5.length _ (show ¬ H5.length = r by omega) (Hp.at_app_0.trans (by rw [hL]; exact Hp.at_0))
    have c0 := hd6.2 _ _ (show ¬ H.length = r by omega) ((HLe.self H5 L).2 _ _ b05)
    have c1 := hd6.2 _ _ (show ¬ H3.length = r by omega) ((HLe.self H5 L).2 _ _ b15)
    have hrow : ∃ k, ([[.int .i64 (-1)], [.int .i64 1000], [.int .i64 5]] : List (List AV))[n2]? = some [.int .i64 k] := by
      have : n2 = 0 ∨ n2 = 1 ∨ n2 = 2 := by omega
      rcases this with rfl | rfl | rfl <;> exact ⟨_, rfl⟩
    obtain ⟨k2, hk2⟩ := hrow
    have hI : (n2 : Int) < 3 := by omega
    have w0 := Hp.at_lt c0
    have w1 := Hp.at_lt c1
    simp [b3, hk2, hI, c0, c1, Hp.at_set, Hp.at_set_ne, List.length_set, w0, w1, n01, n01.symm]
    exact ⟨⟨d.kind, d.key, k2⟩, ⟨rfl, rfl, rfl⟩, hdk, (((hleE.app L).fr_le hd6 (fun x hx => by omega)).set (o := H3.length) (by omega) _).set (o := H.length) (Nat.le_refl _) _⟩
  · simp
    refine c_split (fun hq2 => ?_) (fun hq2 => ?_) <;> simp at hq2
    · simp
      have hl : Strs (H5 ++ [some ⟨[[.str ⟨#[120]⟩], [.str ⟨#[97]⟩]], 1, 9, false⟩]) (.sl H5.length 0 2) [⟨#[120]⟩, ⟨#[97]⟩] := Strs.at (e := 9) (ro := false) (by simp [strRow]) rfl
      refine cg_ex (of_ok r _ _ _ _ (hr5.le (HLe.self _ _)) hl (by simp) (by simp) (by omega)) ?_
      rintro v H6 ⟨s, hs, rfl, hd6, hr6, hlen6⟩
      have c0 := hd6.2 _ _ (show ¬ H.length = r by omega) ((HLe.self H5 _).2 _ _ b05)
      have c1 := hd6.2 _ _ (show ¬ H3.length = r by omega) ((HLe.self H5 _).2 _ _ b15)
      have hss : s.size ≤ 5 := by
        simp at hs
        rcases hs with h | h <;> rw [h] <;> decide
      have w0 := Hp.at_lt c0
      have w1 := Hp.at_lt c1
      simp [c0, c1, Hp.at_set, Hp.at_set_ne, List.length_set, w0, w1, n01, n01.symm]
      exact ⟨⟨d.kind, s, d.num⟩, ⟨rfl, rfl, rfl⟩, hss, (((hleE.app _).fr_le hd6 (fun x hx => by omega)).set (o := H3.length) (by omega) _).set (o := H.length) (Nat.le_refl _) _⟩
    · simp
      refine c_split (fun hq3 => ?_) (fun hq3 => ?_) <;> simp at hq3
      · simp
        refine cg_ex (pick_ok r _ 9 _ hr5 (by omega) (by omega)) ?_
        rintro v H6 ⟨n2, rfl, hn2, hd6, hr6, hlen6⟩
        have c0 := hd6.2 _ _ (show ¬ H.length = r by omega) b05
        have c1 := hd6.2 _ _ (show ¬ H3.length = r by omega) b15
        have w0 := Hp.at_lt c0
        have w1 := Hp.at_lt c1
        simp [c0, c1, Hp.at_set, Hp.at_set_ne, List.length_set, w0, w1, n01, n01.symm]
        exact ⟨⟨IntKind.i64.wrap ((n2 : Int) - 1), d.key, d.num⟩, ⟨rfl, rfl, rfl⟩, hdk, ((hleE.fr_le hd6 (fun x hx => by omega)).set (o := H3.length) (by omega) _).set (o := H.length) (Nat.le_refl _) _⟩
      · simp [b05, b15, Hp.at_set, Hp.at_set_ne, List.length_set, u0, u1, n01, n01.symm]
        exact ⟨⟨d.kind, d.key, d.num⟩, ⟨rfl, rfl, rfl⟩, hdk, hleE.set (o := H.length) (Nat.le_refl _) _⟩

theorem lawDeedOne_ok (hE : Tab10 E) (a b : AV) (xs ys : List Int) (H : Hp) (ha : Bytes H a xs) (hb : Bytes H b ys) (hx : xs.length < 4611686018427387904) (hy : ys.length < 4611686018427387904) :
    AC Tryd.prog E 4 [a, b] H (fun v H' => v = .bool true) := by
  refine AC_by fol (tC_le tabI_ok) h_laws_FnDeedOne ?_
  have l1 := ha.len
  have l2 := hb.len
  simp [c_laws_FnDeedOne, l1, l2, ha.1.slc, hb.1.slc]
  refine g_split (fun hq => ?_) (fun hq => ?_) (by simp) <;> simp at hq <;> simp [hq, l1, l2, ha.1.slc, hb.1.slc]
  refine c_split (fun hq2 => ?_) (fun hq2 => ?_) <;> simp at hq2 <;> simp
  refine cg_ex (DrawDeedText_ok a xs H ha hx) ?_
  rintro v H1 ⟨d, rfl, hdk, hle1⟩
  simp [ddAV]
  refine cg_ex (DrawDeedText_ok b ys _ ⟨Rows.le hb.1 (hle1.app _), hb.2⟩ hy) ?_
  rintro v H2 ⟨e, rfl, hek, hle2⟩
  have c0 := hle2.2 _ _ (Hp.at_app_0.trans Hp.at_0)
  have u0 := Hp.at_lt c0
  obtain ⟨H3, hH3⟩ : ∃ H3 : Hp, H3 = H2 ++ [some ⟨[[.int .i64 e.kind, .str e.key, .int .i64 e.num]], 3, 26, false⟩] := ⟨_, rfl⟩
  have hle3 : HLe H2 H3 := by rw [hH3]; exact HLe.self _ _
  have b1 : H3.at H2.length = some ⟨[[.int .i64 e.kind, .str e.key, .int .i64 e.num]], 3, 26, false⟩ := by rw [hH3]; simp
  have b0 := hle3.2 _ _ c0
  simp [ddAV, ← hH3, b0, b1]
  refine cg_use (implDeedText_ok hE d H3 (by omega)) ?_
  simp [b0, b1]
  refine cg_use (implDeedText_ok hE e H3 (by omega)) ?_
  simp [b0, b1]
  refine cg_use (specDeedText_ok d H3 (by omega)) ?_
  simp [b0, b1]
  refine cg_use (specDeedText_ok e H3 (by omega)) ?_
  simp [b0, b1]
  have bad : ∀ {Q : Prop}, Q → Q := fun h => h
  refine g_split (fun hq3 => ?_) (fun hq3 => ?_) (by simp) <;> simp at hq3
  · simp [hq3, b0, b1]
    refine cg_use (specDeedText_ok d H3 (by omega)) ?_
    simp [hq3, b0, b1]
    refine cg_use (specDeedText_ok e H3 (by omega)) ?_
    simp
  · simp [hq3, b0, b1]
    refine c_split (fun hq4 => ?_) (fun hq4 => ?_) <;> simp at hq4
    · simp [hq4, b0, b1]
      refine cg_use (specDeedText_ok d H3 (by omega)) ?_
      simp [hq4, b0, b1]
      refine cg_use (specDeedText_ok e H3 (by omega)) ?_
      simp [hq4]
    · have hd := deedT_nil hq3
      have he := deedT_nil hq4
      have hinj : deedT d = deedT e ↔ d = e := ⟨deedT_inj hd he, fun h => by rw [h]⟩
      simp [hq4, b0, b1]
      have e1 : decide (deedT d = deedT e) = decide (d = e) := by rw [decide_eq_decide]; exact hinj
      rw [toList_beq, e1]
      obtain ⟨k, ka, m⟩ := d
      obtain ⟨l, lb, n⟩ := e
      rw [Bool.eq_iff_iff]
      simp

end Go.Proofs.YtkdnijiipegabaaDoor.B
