/- The program's small functions, and a table of calls that touch no memory. -/
import Derived.Test.YtkdnijiipegabaaDoorEb
namespace Go.Proofs.YtkdnijiipegabaaDoor.B
open Go.RowKit Go.Proofs
set_option linter.unusedVariables false
set_option linter.unusedSimpArgs false
variable {E : Env}

theorem in_ok (n l h : Int) (H : Hp) : AC Tryd.prog E 20 [.int .i64 n, .int .i64 l, .int .i64 h] H (fun v H' => v = .bool (decide (l ≤ n ∧ n ≤ h)) ∧ H' = H) := by
  refine AC_by fol (CLe.refl (AC Tryd.prog E)) h_impl_in ?_
  simp [c_impl_in]
  refine g_split (fun hq => ?_) (fun hq => ?_) (by simp) <;> simp at hq <;> simp [hq]
  omega
theorem implKey_ok (k : ByteArray) (H : Hp) (hk : k.size < 4611686018427387904) : AC Tryd.prog E 21 [.str k] H (fun v H' => v = .bool (keyOk k) ∧ H' = H) := by
  refine AC_byp (tC_le tab0_ok) h_impl_KeyOk (by simp) ?_
  simp [c_impl_KeyOk]
  refine W_for (fun m t H' => ∃ i : Nat, i + m = k.size ∧ t 0 = .str k ∧ t 5 = .int .i64 k.size ∧ t 6 = .int .i64 i ∧ (∀ j : Nat, j < i → 97 ≤ bt k j ∧ bt k j ≤ 100) ∧ H' = H) k.size ?_ (tC_mono AC_mono) ?_
  · exact ⟨0, by simp⟩
  rintro m t H' ⟨i, him, h0, h5, h6, hI, rfl⟩
  simp [h0, h5, h6]
  refine c_split (fun hq => ?_) (fun hq => ?_) <;> simp at hq
  · have hw := wrapN (i := i) (by omega)
    simp [h0, h5, h6, hq]
    refine g_split (fun hq2 => ?_) (fun hq2 => ?_) (by simp) <;> simp at hq2 <;> simp [hq2, h0, h5, h6, hq]
    · simp only [keyOk, decide_eq_false_iff_not]
      intro hh
      have := hh.1 i hq
      omega
    · refine c_split (fun hq3 => ?_) (fun hq3 => ?_) <;> simp at hq3 <;> simp [h0, h5, h6, hw]
      · simp only [keyOk, decide_eq_false_iff_not]
        intro hh
        have := hh.1 i hq
        omega
      · refine ⟨m - 1, by omega, i + 1, by omega, rfl, fun j hj => ?_⟩
        rcases Nat.lt_or_ge j i with h | h
        · exact hI j h
        · have : j = i := by omega
          subst this
          omega
  · have : i = k.size := by omega
    subst this
    simp [h0]
    simp only [keyOk, decide_eq_decide]
    exact ⟨fun h => ⟨hI, by omega⟩, fun h => by omega⟩
theorem keyed_ok (n : Int) (H : Hp) : AC Tryd.prog E 22 [.int .i64 n] H (fun v H' => v = .bool (decide (n = 1 ∨ n = 2)) ∧ H' = H) := by
  refine AC_by fol (CLe.refl (AC Tryd.prog E)) h_impl_keyed ?_
  simp [c_impl_keyed]
  refine g_split (fun hq => ?_) (fun hq => ?_) (by simp) <;> simp at hq <;> simp [hq]
theorem counted_ok (n : Int) (H : Hp) : AC Tryd.prog E 23 [.int .i64 n] H (fun v H' => v = .bool (decide (n = 1 ∨ n = 4 ∨ n = 6)) ∧ H' = H) := by
  refine AC_by fol (CLe.refl (AC Tryd.prog E)) h_impl_counted ?_
  simp [c_impl_counted]
  refine g_split (fun hq => ?_) (fun hq => ?_) (by simp) <;> simp at hq <;> simp [hq]
  refine g_split (fun hq2 => ?_) (fun hq2 => ?_) (by simp) <;> simp at hq2 <;> simp [hq2]

end Go.Proofs.YtkdnijiipegabaaDoor.B
