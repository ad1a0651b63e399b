/- The law FnBlockSum. -/
import Derived.Test.YtkdnijiipegabaaDoorEe
namespace Go.Proofs.YtkdnijiipegabaaDoor.B
open Go.RowKit Go.Proofs
set_option linter.unusedVariables false
set_option linter.unusedSimpArgs false
variable {E : Env}

theorem runText_le {r : List Ent} (h : runOk r = true) : (runText r).size ≤ 41720 := by
  obtain ⟨h1, h2, h3⟩ := runOk_fits h
  have := runText_size r (fun e he => ⟨h1 e he, by have := h3 e he; omega⟩) r.length (Nat.le_refl _)
  rw [List.take_length] at this
  omega

/-- Another byte, another sum. -/
theorem fold_ne (l : List UInt8) : ∀ a b : Int, 0 ≤ a ∧ a < 9973 → 0 ≤ b ∧ b < 9973 → a ≠ b → l.foldl (fun n b => (n * 31 + (b.toNat : Int) + 1) % 9973) a ≠ l.foldl (fun n b => (n * 31 + (b.toNat : Int) + 1) % 9973) b := by
  induction l with
  | nil => intro a b _ _ h; exact h
  | cons x l ih =>
    intro a b ha hb h
    exact ih _ _ (by dsimp only; omega) (by dsimp only; omega) (by dsimp only; omega)
theorem fold_bd (l : List UInt8) : ∀ a : Int, 0 ≤ a ∧ a < 9973 → 0 ≤ l.foldl (fun n b => (n * 31 + (b.toNat : Int) + 1) % 9973) a ∧ l.foldl (fun n b => (n * 31 + (b.toNat : Int) + 1) % 9973) a < 9973 := by
  induction l with
  | nil => intro a h; exact h
  | cons x l ih =>
    intro a ha
    exact ih _ (by dsimp only; omega)
theorem sumB_other (s : ByteArray) (i : Nat) (hi : i < s.size) (c : UInt8) (hc : (c.toNat : Int) ≠ bt s i) : sumB (s.extract 0 i ++ lit1 c ++ s.extract (i + 1) s.size) ≠ sumB s := by
  have hl : s.data.toList.length = s.size := Array.length_toList
  have e1 : s.data.toList = s.data.toList.take i ++ s.data.toList[i] :: s.data.toList.drop (i + 1) := by
    rw [← List.drop_eq_getElem_cons (by omega), List.take_append_drop]
  have e2 : (s.extract 0 i ++ lit1 c ++ s.extract (i + 1) s.size).data.toList = s.data.toList.take i ++ c :: s.data.toList.drop (i + 1) := by
    have h9 : s.data.size = s.size := rfl
    simp [lit1, ByteArray.data_append, ByteArray.data_extract, Array.toList_extract, List.extract_eq_take_drop]
    rw [List.take_of_length_le (by simp)]
  unfold sumB
  rw [e2]
  conv => rhs; rw [e1]
  rw [List.foldl_append, List.foldl_append, List.foldl_cons, List.foldl_cons]
  have hb := bt_at (s := s) (i := i) (by omega)
  have f := fold_bd (s.data.toList.take i) 7 (by omega)
  have c1 := c.toNat_lt
  have c2 := (s.data.toList[i]).toNat_lt
  refine fold_ne _ _ _ (by omega) (by omega) ?_
  omega

theorem Ty.bytes {H : Hp} {v : AV} (h : Ty H (.kl [.ki .u8]) v) : ∃ bs : List Int, Bytes H v bs ∧ bs.length ≤ 140737488351232 := by
  obtain ⟨rows, h1, h2, h3⟩ := h.sl
  obtain ⟨xs, rfl, hq⟩ := rows_map (f := byteRow) (Q := fun n => 0 ≤ n ∧ n < 256) (fun r hr => by
    obtain ⟨v, us, rfl, a1, a2⟩ := (h3 r hr).cons
    obtain ⟨n, rfl, hn⟩ := a1.u8
    rw [a2.nil]
    exact ⟨n, rfl, hn⟩)
  exact ⟨xs, ⟨h1, hq⟩, by simpa using h2⟩

end Go.Proofs.YtkdnijiipegabaaDoor.B
