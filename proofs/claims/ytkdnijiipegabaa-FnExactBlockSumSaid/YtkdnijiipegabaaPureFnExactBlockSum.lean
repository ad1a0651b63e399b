/- The program's BlockSum and the reference's BlockSum return the same number for every text; no condition beyond the statement's own. -/
import Derived.Test.YtkdnijiipegabaaPFnExactBlockSumx1
namespace Go.Proofs.Ytkdnijiipegabaa.Pure
open Go.RowKit Go.Proofs.Ytkdnijiipegabaa.PFnExactBlockSum Go.Proofs.YtkdnijiipegabaaW.PrintWords Go.Proofs.YtkdnijiipegabaaW.PrintLast

theorem sum_same (a : ByteArray) : ∀ (k : Nat) (s i : Int), spec_BlockSum.l0 k a s i = impl_BlockSum.l0 k a s (a.size : Int) i := by
  intro k
  induction k with
  | zero => intro s i; simp only [spec_BlockSum.l0, impl_BlockSum.l0]
  | succ k ih =>
    intro s i
    simp only [spec_BlockSum.l0, impl_BlockSum.l0]
    by_cases h : i < (a.size : Int)
    · rw [if_pos h, if_pos h, if_pos h, ih, Int.mul_comm s 31]
    · rw [if_neg h, if_neg h]

theorem sum_ends (a : ByteArray) (ha : a.size ≤ 140737488351232) : ∀ (d : Nat) (s i : Int), 0 ≤ i → (a.size : Int) - i ≤ d → ∃ r, spec_BlockSum.l0 (d + 1) a s i = some r := by
  intro d
  induction d with
  | zero =>
    intro s i h0 h
    exact ⟨s, by simp only [spec_BlockSum.l0]; rw [if_neg (by omega)]⟩
  | succ d ih =>
    intro s i h0 h
    rw [spec_BlockSum.l0]
    by_cases hi : i < (a.size : Int)
    · have hw : wrap64 (i + 1) = i + 1 := by unfold wrap64; omega
      rw [if_pos hi, if_pos h0, hw]
      exact ih _ _ (by omega) (by omega)
    · exact ⟨s, by rw [if_neg hi]⟩

theorem FnExactBlockSum : laws_FnExactBlockSum.Pure := by
  intro a ha
  obtain ⟨r, hr⟩ := sum_ends a ha a.size 7 0 (by omega) (by omega)
  refine ⟨a.size + 1, ?_⟩
  have h2 : impl_BlockSum.f (a.size + 1) a = some r := by unfold impl_BlockSum.f; rw [← sum_same]; exact hr
  unfold laws_FnExactBlockSum.f spec_BlockSum.f
  split
  · rfl
  · rw [hr, Option.bind_some, h2, Option.bind_some, if_pos rfl]

end Go.Proofs.Ytkdnijiipegabaa.Pure
