/- DiskDo of the program. -/
import Derived.Test.YtkdnijiipegabaaDb
namespace Go.Proofs.Ytkdnijiipegabaa.B
open Go.RowKit Go.Proofs
set_option linter.unusedVariables false
set_option linter.unusedSimpArgs false
variable {E : Env}

theorem implDo_ok (o : Nat) (xs : List ByteArray) (e : Nat) (ro : Bool) (b : AV) (ms : List Mv) (bytes : Int) (H : Hp) (ho : H.at o = some ⟨xs.map strRow, 1, e, ro⟩) (hn : xs.length ≤ 1048576) (hb : Mvs H b ms) (hm : ms.length ≤ 1048576) :
    AC Try.prog E 21 [.sl o 0 xs.length, b, .int .i64 bytes] H (fun v H' => (xs = [] ∧ v = .nils ∧ HLe H H') ∨ Fresh H ⟨(doTo bytes ms xs ms.length).map strRow, 1, 9, false⟩ v H') := by
  refine AC_by fol (CLe.refl _) h_impl_DiskDo ?_
  have l1 := hb.len
  simp [c_impl_DiskDo]
  have hcl := clone_ok (E := E) o (xs.map strRow) e ro H ho (by simpa using hn)
  rw [List.length_map] at hcl
  refine callG_ex hcl ?_
  rintro v H1 ⟨hle1, oo, rfl, hoo, hat⟩
  simp [l1, hb.slc]
  refine W_for (fun k t H' => ∃ i : Nat, i + k = ms.length ∧ t 1 = b ∧ t 2 = .int .i64 bytes ∧ t 7 = .sl oo 0 xs.length ∧ t 13 = b ∧ t 14 = .int .i64 ms.length ∧ t 15 = .int .i64 i ∧ HLe H H' ∧ H'.at oo = some ⟨(doTo bytes ms xs i).map strRow, 1, 9, false⟩) ms.length ?_ AC_mono ?_
  · exact ⟨0, by simp [doTo, hle1, hat]⟩
  rintro k t H' ⟨i, hik, h1, h2, h7, h13, h14, h15, hle, hato⟩
  simp [h1, h2, h7, h13, h14, h15, l1, hb.slc]
  refine c_split (fun hq2 => ?_) (fun hq2 => ?_) <;> simp at hq2
  · have hw := wrapN (i := i) (by omega)
    have hoo2 := Hp.at_lt hato
    obtain ⟨o1, i1, ob1, rfl, a1, a2, a3⟩ := (hb.le hle).get hq2
    have ho1 := Hp.at_lt a1
    have hsubm : IntKind.i64.wrap ((ms.length : Int) - 1) = ms.length - 1 := wrap64 (by omega) (by omega)
    have hsub : IntKind.i64.wrap ((xs.length : Int) - 1) = xs.length - 1 := wrap64 (by omega) (by omega)
    have hrow : (xs.length : Int) = (doTo bytes ms xs i).length := by rw [doTo_len]
    have hstep : doTo bytes ms xs (i + 1) = doAt bytes ms (doTo bytes ms xs i) i := rfl
    have hmi : ms[i]? = some ms[i] := List.getElem?_eq_getElem hq2
    have fin : ∀ tx, (if i + 1 = ms.length then cutT bytes ms[i].2 else ms[i].2) = tx → 0 ≤ ms[i].1 → ms[i].1 ≤ (xs.length : Int) - 1 → ((doTo bytes ms xs i).map strRow).set ms[i].1.toNat [.str tx] = (doTo bytes ms xs (i + 1)).map strRow := by
      intro tx htx c1 c2
      rw [hstep]
      unfold doAt
      simp only [hmi]
      rw [if_pos ⟨c1, by rw [← hrow]; exact c2⟩, htx, List.map_set]
      rfl
    have fin2 : ¬ (0 ≤ ms[i].1 ∧ ms[i].1 ≤ (xs.length : Int) - 1) → doTo bytes ms xs (i + 1) = doTo bytes ms xs i := by
      intro c
      rw [hstep]
      unfold doAt
      simp only [hmi]
      rw [if_neg (by rw [← hrow]; exact c)]
    have got : 0 ≤ ms[i].1 → ms[i].1 ≤ (xs.length : Int) - 1 → ∃ y, (doTo bytes ms xs i)[ms[i].1.toNat]? = some y := fun c1 c2 => ⟨_, List.getElem?_eq_getElem (by have := doTo_len bytes ms xs i; omega)⟩
    simp [h1, h2, h7, h13, h14, h15, a1, a2, a3, hq2, hw, hsubm]
    refine c_split (fun hq3 => ?_) (fun hq3 => ?_) <;> simp at hq3 <;> simp [h1, h2, h7, h13, h14, h15, a1, a2, a3, hq2, hw, hsub]
    · have hcut : ∀ z : Int, z = min (max bytes 0) ms[i].2.size → cutT bytes ms[i].2 = ms[i].2.extract 0 z.toNat := by
        intro z hz
        rw [hz]
        rfl
      refine ⟨by split <;> split <;> omega, ?_⟩
      refine callG_use (impl_in_ok _ _ _ _) ?_
      simp [h1, h2, h7, h13, h14, h15, a1, a2, a3, hq2, hw, hsub]
      refine c_split (fun hq4 => ?_) (fun hq4 => ?_) <;> simp at hq4
      · obtain ⟨y, hy⟩ := got hq4.1 hq4.2
        have hlt2 : ms[i].1 < xs.length := by omega
        simp [h1, h2, h7, h13, h14, h15, a1, a2, a3, hq2, hw, hsub, hq4.1, hlt2, hy, strRow, Hp.at_app _ hoo2, hato]
        refine ⟨k - 1, by omega, i + 1, by omega, by omega, (hle.app _).set hoo _, ?_⟩
        rw [Hp.at_set _ (by simp; omega)]
        exact congrArg (fun r => some (⟨r, 1, 9, false⟩ : Ob)) (fin _ (by rw [if_pos (by omega)]; exact hcut _ (by split <;> (try split) <;> omega)) hq4.1 hq4.2)
      · simp [h1, h2, h7, h13, h14, h15, a1, a2, a3, hq2, hw, hsub]
        exact ⟨k - 1, by omega, i + 1, by omega, by omega, hle.app _, by rw [fin2 (fun c => by have := hq4 c.1; omega), Hp.at_app _ hoo2]; exact hato⟩
    · refine callG_use (impl_in_ok _ _ _ _) ?_
      simp [h1, h2, h7, h13, h14, h15, a1, a2, a3, hq2, hw, hsub]
      refine c_split (fun hq4 => ?_) (fun hq4 => ?_) <;> simp at hq4
      · obtain ⟨y, hy⟩ := got hq4.1 hq4.2
        have hlt2 : ms[i].1 < xs.length := by omega
        simp [h1, h2, h7, h13, h14, h15, a1, a2, a3, hq2, hw, hsub, hq4.1, hlt2, hy, strRow, Hp.at_app _ hoo2, hato]
        refine ⟨k - 1, by omega, i + 1, by omega, by omega, (hle.app _).set hoo _, ?_⟩
        rw [Hp.at_set _ (by simp; omega)]
        exact congrArg (fun r => some (⟨r, 1, 9, false⟩ : Ob)) (fin _ (if_neg (by omega)) hq4.1 hq4.2)
      · simp [h1, h2, h7, h13, h14, h15, a1, a2, a3, hq2, hw, hsub]
        exact ⟨k - 1, by omega, i + 1, by omega, by omega, hle.app _, by rw [fin2 (fun c => by have := hq4 c.1; omega), Hp.at_app _ hoo2]; exact hato⟩
  · have : i = ms.length := by omega
    subst this
    have hb1 : xs.length * 16 ≤ 140737488355328 := by omega
    have hl2 := doTo_len bytes ms xs ms.length
    have ht : List.take xs.length ((doTo bytes ms xs ms.length).map strRow) = (doTo bytes ms xs ms.length).map strRow := List.take_of_length_le (by simp [hl2])
    simp [h7, hato, hb1, hl2, ht]
    by_cases hx : xs = []
    · simp [hx, hle]
    · simp [hx]
      exact ⟨hle.app _, H'.length, by simp [hl2], hle.1, by simp⟩

end Go.Proofs.Ytkdnijiipegabaa.B
