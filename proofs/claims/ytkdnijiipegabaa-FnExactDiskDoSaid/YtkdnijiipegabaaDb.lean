/- DiskDo of the program and of the reference. -/
import Derived.Test.YtkdnijiipegabaaDa
namespace Go.Proofs.Ytkdnijiipegabaa.B
open Go.RowKit Go.Proofs
set_option linter.unusedVariables false
set_option linter.unusedSimpArgs false
variable {E : Env}

theorem clone_ok (o : Nat) (R : List (List AV)) (e : Nat) (ro : Bool) (H : Hp) (ho : H.at o = some ⟨R, 1, e, ro⟩) (hn : R.length ≤ 1048576) :
    AC Try.prog E 31 [.sl o 0 R.length] H (Fresh H ⟨R, 1, 9, false⟩) := by
  refine AC_by fol (CLe.refl _) h_slices_Clone_Sstring_string ?_
  have hlt := Hp.at_lt ho
  have hb : R.length * 16 ≤ 140737488355328 := by omega
  simp [c_slices_Clone_Sstring_string, Hp.at_app _ hlt, ho, hn, hb]
  exact ⟨HLe.self _ _, H.length + 1, by simp, by omega, by simp⟩

def cutT (bytes : Int) (tx : ByteArray) : ByteArray := tx.extract 0 (min (max bytes 0) tx.size).toNat
def doAt (bytes : Int) (ms : List Mv) (d : List ByteArray) (i : Nat) : List ByteArray :=
  match ms[i]? with
  | some m => if 0 ≤ m.1 ∧ m.1 ≤ (d.length : Int) - 1 then d.set m.1.toNat (if i + 1 = ms.length then cutT bytes m.2 else m.2) else d
  | none => d
def doTo (bytes : Int) (ms : List Mv) (d : List ByteArray) : Nat → List ByteArray
  | 0 => d
  | i + 1 => doAt bytes ms (doTo bytes ms d i) i
theorem doAt_len (bytes : Int) (ms : List Mv) (d : List ByteArray) (i : Nat) : (doAt bytes ms d i).length = d.length := by
  unfold doAt
  split
  · split <;> simp
  · rfl
theorem doTo_len (bytes : Int) (ms : List Mv) (d : List ByteArray) : ∀ i, (doTo bytes ms d i).length = d.length
  | 0 => rfl
  | i + 1 => by rw [doTo, doAt_len, doTo_len bytes ms d i]

theorem specDo_ok (o : Nat) (xs : List ByteArray) (e : Nat) (ro : Bool) (b : AV) (ms : List Mv) (bytes : Int) (H : Hp) (ho : H.at o = some ⟨xs.map strRow, 1, e, ro⟩) (hn : xs.length ≤ 1048576) (hb : Mvs H b ms) (hm : ms.length ≤ 1048576) :
    AC Try.prog E 18 [.sl o 0 xs.length, b, .int .i64 bytes] H (Fresh H ⟨(doTo bytes ms xs ms.length).map strRow, 1, 9, false⟩) := by
  refine AC_by fol (CLe.refl _) h_spec_DiskDo ?_
  have hlt := Hp.at_lt ho
  have hb1 : xs.length * 16 ≤ 140737488355328 := by omega
  have l1 := hb.len
  have ht : (xs.map strRow).take xs.length = xs.map strRow := List.take_of_length_le (by simp)
  simp [c_spec_DiskDo, Hp.at_app _ hlt, ho, hn, hb1]
  refine W_for (fun k t H' => ∃ i : Nat, i + k = ms.length ∧ t 1 = b ∧ t 2 = .int .i64 bytes ∧ t 7 = .sl (H.length + 1) 0 xs.length ∧ t 8 = .int .i64 i ∧ H' = H ++ [none, some ⟨(doTo bytes ms xs i).map strRow, 1, 9, false⟩]) ms.length ?_ AC_mono ?_
  · exact ⟨0, by simp [doTo, ht]⟩
  rintro k t H' ⟨i, hik, h1, h2, h7, h8, rfl⟩
  simp [h1, h2, h7, h8, l1, hb.slc]
  refine c_split (fun hq2 => ?_) (fun hq2 => ?_) <;> simp at hq2
  · have hw := wrapN (i := i) (by omega)
    obtain ⟨o1, i1, ob1, rfl, a1, a2, a3⟩ := (hb.le (HLe.self H [none, some ⟨(doTo bytes ms xs i).map strRow, 1, 9, false⟩])).get hq2
    have hrow : (xs.length : Int) = (doTo bytes ms xs i).length := by rw [doTo_len]
    have hstep : doTo bytes ms xs (i + 1) = doAt bytes ms (doTo bytes ms xs i) i := rfl
    have hmi : ms[i]? = some ms[i] := List.getElem?_eq_getElem hq2
    have hsub : IntKind.i64.wrap ((xs.length : Int) - 1) = xs.length - 1 := wrap64 (by omega) (by omega)
    simp [h1, h2, h7, h8, a1, a2, a3, hq2, hw]
    have fin : ∀ tx, (if i + 1 = ms.length then cutT bytes ms[i].2 else ms[i].2) = tx → 0 ≤ ms[i].1 → ms[i].1 ≤ (xs.length : Int) - 1 → ((doTo bytes ms xs i).map strRow).set ms[i].1.toNat [.str tx] = (doTo bytes ms xs (i + 1)).map strRow := by
      intro tx htx c1 c2
      rw [hstep]
      unfold doAt
      simp only [hmi]
      rw [if_pos ⟨c1, by rw [← hrow]; exact c2⟩, htx, List.map_set]
      rfl
    have fin2 : ¬ (0 ≤ ms[i].1 ∧ ms[i].1 ≤ (xs.length : Int) - 1) → doTo bytes ms xs (i + 1) = doTo bytes ms xs i := by
      intro c
      rw [hstep]
      unfold doAt
      simp only [hmi]
      rw [if_neg (by rw [← hrow]; exact c)]
    have got : 0 ≤ ms[i].1 → ms[i].1 ≤ (xs.length : Int) - 1 → ∃ y, (doTo bytes ms xs i)[ms[i].1.toNat]? = some y := fun c1 c2 => ⟨_, List.getElem?_eq_getElem (by have := doTo_len bytes ms xs i; omega)⟩
    refine c_split (fun hq3 => ?_) (fun hq3 => ?_) <;> simp at hq3 <;> simp [h1, h2, h7, h8, a1, a2, a3, hq2, hw, hsub]
    · have hcut : cutT bytes ms[i].2 = ms[i].2.extract 0 (if (ms[i].2.size : Int) < (if bytes < 0 then 0 else bytes) then (ms[i].2.size : Int) else (if bytes < 0 then 0 else bytes)).toNat := by
        unfold cutT
        congr 2
        split <;> split <;> omega
      refine ⟨by split <;> split <;> omega, ?_⟩
      refine callG_use (l6In_ok _ _ _ _) ?_
      simp [h1, h2, h7, h8, a1, a2, a3, hq2, hw, hsub]
      refine c_split (fun hq4 => ?_) (fun hq4 => ?_) <;> simp at hq4
      · obtain ⟨y, hy⟩ := got hq4.1 hq4.2
        have hlt2 : ms[i].1 < xs.length := by omega
        simp [h1, h2, h7, h8, a1, a2, a3, hq2, hw, hsub, hq4.1, hlt2, hy, strRow]
        exact ⟨k - 1, by omega, i + 1, by omega, by omega, fin _ (by rw [if_pos (by omega), hcut]) hq4.1 hq4.2⟩
      · simp [h1, h2, h7, h8, a1, a2, a3, hq2, hw, hsub]
        exact ⟨k - 1, by omega, i + 1, by omega, by omega, by rw [fin2 (fun c => by have := hq4 c.1; omega)]⟩
    · refine callG_use (l6In_ok _ _ _ _) ?_
      simp [h1, h2, h7, h8, a1, a2, a3, hq2, hw, hsub]
      refine c_split (fun hq4 => ?_) (fun hq4 => ?_) <;> simp at hq4
      · obtain ⟨y, hy⟩ := got hq4.1 hq4.2
        have hlt2 : ms[i].1 < xs.length := by omega
        simp [h1, h2, h7, h8, a1, a2, a3, hq2, hw, hsub, hq4.1, hlt2, hy, strRow]
        exact ⟨k - 1, by omega, i + 1, by omega, by omega, fin _ (if_neg (by omega)) hq4.1 hq4.2⟩
      · simp [h1, h2, h7, h8, a1, a2, a3, hq2, hw, hsub]
        exact ⟨k - 1, by omega, i + 1, by omega, by omega, by rw [fin2 (fun c => by have := hq4 c.1; omega)]⟩
  · have : i = ms.length := by omega
    subst this
    simp [h7]
    exact ⟨HLe.self _ _, H.length + 1, by simp [doTo_len], by omega, by simp⟩

theorem overR_len {f : Nat → List AV} {R : List (List AV)} {i : Nat} (h : i ≤ R.length) : (overR f R i).length = R.length := by
  simp [overR]
  omega
def markM (k : Int) (j : Nat) : List AV := [.int .i64 (k + 2 * j), .str (markT (k + 2 * j + 1))]
theorem markMoveS_ok (o : Nat) (R : List (List AV)) (e : Nat) (K : Int) (H : Hp) (ho : H.at o = some ⟨R, 2, e, false⟩) (hR : ∀ r ∈ R, r.length = 2) (hK : 0 ≤ K ∧ K < 1152921504606846976) (hn : R.length < 115292150460684697) :
    AC Try.prog E 23 [.sl o 0 R.length, .int .i64 K] H (fun v H' => v = .int .i64 (K + 2 * R.length) ∧ H' = List.set H o (some ⟨(List.range R.length).map (markM K), 2, e, false⟩)) := by
  refine AC_by fol (CLe.refl _) h_laws_markMoveS ?_
  have hlt := Hp.at_lt ho
  simp [c_laws_markMoveS]
  refine W_for (fun k t H' => ∃ i : Nat, i + k = R.length ∧ t 0 = .sl o 0 R.length ∧ t 1 = .int .i64 (K + 2 * i) ∧ t 5 = .int .i64 i ∧ H' = List.set H o (some ⟨overR (markM K) R i, 2, e, false⟩)) R.length ?_ AC_mono ?_
  · exact ⟨0, by simp [overR_0, Hp.set_self ho]⟩
  rintro k t H' ⟨i, hik, h0, h1, h5, rfl⟩
  simp [h0, h1, h5]
  refine c_split (fun hq2 => ?_) (fun hq2 => ?_) <;> simp at hq2
  · have hw := wrapN (i := i) (by omega)
    have hw2 : IntKind.i64.wrap (K + 2 * i + 1) = K + 2 * i + 1 := wrap64 (by omega) (by omega)
    have hw3 : IntKind.i64.wrap (K + 2 * i + 1 + 1) = K + 2 * ((i + 1 : Nat) : Int) := by rw [wrap64 (by omega) (by omega)]; omega
    have hs := overR_set (f := markM K) hq2
    have hl := overR_len (f := markM K) (R := R) (i := i) (by omega)
    have hrl := hR _ (List.getElem_mem hq2)
    obtain ⟨x, y, hx⟩ : ∃ x y, R[i] = [x, y] := by
      match hR2 : R[i], hrl with
      | [x, y], _ => exact ⟨x, y, rfl⟩
    simp [h0, h1, h5, Hp.at_set _ hlt, overR_get hq2, hx, hq2, hw2]
    refine callG_use (markText_ok _ _ (by omega)) ?_
    simp [h0, h1, h5, Hp.at_set _ hlt, overR_get hq2, hx, hq2, hl, hw, hw2, hw3]
    refine ⟨k - 1, by omega, i + 1, by omega, by omega, by omega, ?_⟩
    rw [← hs]
    rfl
  · have : i = R.length := by omega
    subst this
    simp [h1, overR_n]

theorem markMoveS_own (v : AV) (R : List (List AV)) (e : Nat) (K : Int) (H : Hp) (ho : OwnR 2 e H v R) (hR : ∀ r ∈ R, r.length = 2) (hK : 0 ≤ K ∧ K < 1152921504606846976) (hn : R.length < 115292150460684697) :
    AC Try.prog E 23 [v, .int .i64 K] H (fun u H' => u = .int .i64 (K + 2 * R.length) ∧ But v H H') := by
  rcases ho with ⟨rfl, rfl⟩ | ⟨o, rfl, ho⟩
  · refine AC_by fol (CLe.refl _) h_laws_markMoveS ?_
    simp [c_laws_markMoveS]
    refine W_for (fun k t H' => t 0 = .nils ∧ t 1 = .int .i64 K ∧ t 5 = .int .i64 0 ∧ H' = H) 0 (by simp) AC_mono ?_
    rintro k t H' ⟨h0, h1, h5, rfl⟩
    simp [h0, h1, h5, But.refl]
  · exact (markMoveS_ok o R e K H ho hR hK hn).mono (fun u H' hh => ⟨hh.1, hh.2 ▸ But.set _ _ _ _ _⟩)

end Go.Proofs.Ytkdnijiipegabaa.B
