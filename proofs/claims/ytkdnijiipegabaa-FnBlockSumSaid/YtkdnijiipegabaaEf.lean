/- The law FnBlockSum. -/
import Derived.Test.YtkdnijiipegabaaEe
namespace Go.Proofs.Ytkdnijiipegabaa.B
open Go.RowKit Go.Proofs
set_option linter.unusedVariables false
set_option linter.unusedSimpArgs false
variable {E : Env}

theorem runText_le {r : List Ent} (h : runOk r = true) : (runText r).size ≤ 41720 := by
  obtain ⟨h1, h2, h3⟩ := runOk_fits h
  have := runText_size r (fun e he => ⟨h1 e he, by have := h3 e he; omega⟩) r.length (Nat.le_refl _)
  rw [List.take_length] at this
  omega

theorem DrawBlockSum_ok (c : AV) (bs : List Int) (H : Hp) (hc : Bytes H c bs) (hn : bs.length < 4611686018427387904) :
    AC Try.prog E 24 [c] H (fun v H' => ∃ s, v = .str s ∧ s.size ≤ 50000 ∧ HLe H H') := by
  refine AC_by fol (tC_le tab2_ok) h_spec_DrawBlockSum ?_
  simp [c_spec_DrawBlockSum]
  refine cg_ex (l6Open_ok c bs H hc hn) ?_
  rintro v H1 ⟨o, rfl, ho, hle1, hr1⟩
  simp
  refine cg_ex (l71Run_ok o 0 8 H1 hr1 (by omega) (by omega)) ?_
  rintro v H2 ⟨es, hv, hok, hd2, hr2⟩
  obtain ⟨f1, f2, f3⟩ := runOk_fits hok
  have hsz := runText_le hok
  simp
  refine cg_use (l21Run_ok v es H2 hv.ents (fun e he => ⟨f1 e he, by have := f3 e he; omega⟩) (by omega)) ?_
  simp
  have hl : Strs (H2 ++ [some ⟨[[.str ⟨#[]⟩], [.str ⟨#[97]⟩], [.str ⟨#[98]⟩], [.str ⟨#[33]⟩], [.str ⟨#[48]⟩]], 1, 9, false⟩]) (.sl H2.length 0 5) [⟨#[]⟩, ⟨#[97]⟩, ⟨#[98]⟩, ⟨#[33]⟩, ⟨#[48]⟩] := Strs.at (e := 9) (ro := false) (by simp [strRow]) rfl
  refine cg_ex (of_ok o _ _ _ _ (hr2.le (HLe.self _ _)) hl (by simp) (by simp) (by omega)) ?_
  rintro v H3 ⟨s, hs, rfl, hd3, hr3, -⟩
  have hs1 : s.size ≤ 1 := by
    simp at hs
    rcases hs with h | h | h | h | h <;> rw [h] <;> first | exact Nat.le_refl _ | exact Nat.zero_le _
  simp
  exact ⟨by omega, by omega, ((hle1.fr_le hd2 (fun x hx => by omega)).app _).fr_le hd3 (fun x hx => by omega)⟩

/-- Another byte, another sum. -/
theorem fold_ne (l : List UInt8) : ∀ a b : Int, 0 ≤ a ∧ a < 9973 → 0 ≤ b ∧ b < 9973 → a ≠ b → l.foldl (fun n b => (n * 31 + (b.toNat : Int) + 1) % 9973) a ≠ l.foldl (fun n b => (n * 31 + (b.toNat : Int) + 1) % 9973) b := by
  induction l with
  | nil => intro a b _ _ h; exact h
  | cons x l ih =>
    intro a b ha hb h
    exact ih _ _ (by dsimp only; omega) (by dsimp only; omega) (by dsimp only; omega)
theorem fold_bd (l : List UInt8) : ∀ a : Int, 0 ≤ a ∧ a < 9973 → 0 ≤ l.foldl (fun n b => (n * 31 + (b.toNat : Int) + 1) % 9973) a ∧ l.foldl (fun n b => (n * 31 + (b.toNat : Int) + 1) % 9973) a < 9973 := by
  induction l with
  | nil => intro a h; exact h
  | cons x l ih =>
    intro a ha
    exact ih _ (by dsimp only; omega)
theorem sumB_other (s : ByteArray) (i : Nat) (hi : i < s.size) (c : UInt8) (hc : (c.toNat : Int) ≠ bt s i) : sumB (s.extract 0 i ++ lit1 c ++ s.extract (i + 1) s.size) ≠ sumB s := by
  have hl : s.data.toList.length = s.size := Array.length_toList
  have e1 : s.data.toList = s.data.toList.take i ++ s.data.toList[i] :: s.data.toList.drop (i + 1) := by
    rw [← List.drop_eq_getElem_cons (by omega), List.take_append_drop]
  have e2 : (s.extract 0 i ++ lit1 c ++ s.extract (i + 1) s.size).data.toList = s.data.toList.take i ++ c :: s.data.toList.drop (i + 1) := by
    have h9 : s.data.size = s.size := rfl
    simp [lit1, ByteArray.data_append, ByteArray.data_extract, Array.toList_extract, List.extract_eq_take_drop]
    rw [List.take_of_length_le (by simp)]
  unfold sumB
  rw [e2]
  conv => rhs; rw [e1]
  rw [List.foldl_append, List.foldl_append, List.foldl_cons, List.foldl_cons]
  have hb := bt_at (s := s) (i := i) (by omega)
  have f := fold_bd (s.data.toList.take i) 7 (by omega)
  have c1 := c.toNat_lt
  have c2 := (s.data.toList[i]).toNat_lt
  refine fold_ne _ _ _ (by omega) (by omega) ?_
  omega

theorem lawBlockSum_ok (a b : AV) (xs ys : List Int) (H : Hp) (ha : Bytes H a xs) (hb : Bytes H b ys) (hx : xs.length < 4611686018427387904) (hy : ys.length < 4611686018427387904) :
    AC Try.prog E 6 [a, b] H (fun v H' => v = .bool true) := by
  refine AC_by fol (tC_le tab2_ok) h_laws_FnBlockSum ?_
  have l1 := ha.len
  have l2 := hb.len
  simp [c_laws_FnBlockSum, l1, l2, ha.1.slc, hb.1.slc]
  have main : ∀ (t : Tm), True := fun _ => trivial
  refine g_split (fun hq => ?_) (fun hq => ?_) (by simp) <;> simp at hq <;> simp [hq, l1, l2, ha.1.slc, hb.1.slc]
  refine c_split (fun hq2 => ?_) (fun hq2 => ?_) <;> simp at hq2 <;> simp
  refine cg_ex (DrawBlockSum_ok a xs H ha hx) ?_
  rintro v H1 ⟨s, rfl, hs, hle⟩
  simp
  refine cg_use (implSum_ok s _ (by omega)) ?_
  simp
  refine cg_use (specSum_ok s _ (by omega)) ?_
  simp
  refine c_split (fun hq3 => ?_) (fun hq3 => ?_) <;> simp at hq3 <;> simp
  · refine cg_use (specSum_ok s _ (by omega)) ?_
    simp
  · have hpos : 0 < s.size := Nat.pos_of_ne_zero (fun h => hq3 (by simpa using h))
    have hm : (ys.length : Int).tmod (s.size : Int) = ((ys.length % s.size : Nat) : Int) := by
      rw [Int.tmod_eq_emod_of_nonneg (by omega)]
      exact (Int.natCast_emod _ _).symm
    have hi : ys.length % s.size < s.size := Nat.mod_lt _ hpos
    generalize ys.length % s.size = i at hm hi
    have hw := wrapN (i := i) (by omega)
    have hw2 : IntKind.i64.wrap ((i : Int) + 1) = (i : Int) + 1 := wrap64 (by omega) (by omega)
    have hb0 := sumB_bound s
    have ht : ((i : Int) + 1).toNat = i + 1 := by omega
    have e1 : ∀ c : UInt8, (⟨#[c]⟩ : ByteArray).size = 1 := fun _ => rfl
    simp [l2, hb.1.slc, hm, hi, hq3]
    refine c_split (fun hq4 => ?_) (fun hq4 => ?_) <;> simp at hq4
    · have ne := sumB_other s i hi 98 (by rw [hq4]; decide)
      simp [hb0.1, hb0.2, hi, hw2, ht, e1]
      refine ⟨by omega, by omega, by omega, by omega, ?_⟩
      refine cg_use (implSum_ok _ _ (by simp [e1]; omega)) ?_
      simp
      exact fun h => ne h
    · have ne := sumB_other s i hi 97 (fun h => hq4 h.symm)
      simp [hb0.1, hb0.2, hi, hw2, ht, e1]
      refine ⟨by omega, by omega, by omega, by omega, ?_⟩
      refine cg_use (implSum_ok _ _ (by simp [e1]; omega)) ?_
      simp
      exact fun h => ne h

theorem Ty.bytes {H : Hp} {v : AV} (h : Ty H (.kl [.ki .u8]) v) : ∃ bs : List Int, Bytes H v bs ∧ bs.length ≤ 140737488351232 := by
  obtain ⟨rows, h1, h2, h3⟩ := h.sl
  obtain ⟨xs, rfl, hq⟩ := rows_map (f := byteRow) (Q := fun n => 0 ≤ n ∧ n < 256) (fun r hr => by
    obtain ⟨v, us, rfl, a1, a2⟩ := (h3 r hr).cons
    obtain ⟨n, rfl, hn⟩ := a1.u8
    rw [a2.nil]
    exact ⟨n, rfl, hn⟩)
  exact ⟨xs, ⟨h1, hq⟩, by simpa using h2⟩

end Go.Proofs.Ytkdnijiipegabaa.B
