/- strings.Builder: its copies are looked for. -/
import Derived.Test.YtkdnijiipegabaaDoorIj
import Derived.Test.YtkdnijiipegabaaDoorBw
import Derived.Shelf.Strings.Builder1
namespace Go.Proofs.YtkdnijiipegabaaDoor.B
open Go.RowKit Go.Proofs
set_option linter.unusedVariables false
set_option linter.unusedSimpArgs false
variable {E : Env}

set_option maxRecDepth 100000 in
theorem copy_used (b : Nat) (w : World) (h0 : w.cell? ⟨b, 0, none⟩ = some (.pointer (some ⟨b, 0, none⟩))) :
    Calls Tryd.prog 51 #[.pointer (some ⟨b, 0, none⟩)] w fun e w' => e = .returned (.tuple #[]) ∧ w' = w := by
  obtain ⟨j, hj, _⟩ := Option.map_eq_some_iff.1 (show (Tryd.prog.info? 67).map (·.size) = some 2 by kernel_rfl)
  go_enter Tryd.func51, Tryd.ntmps51
  go_wp2
  rw [Lib.run_neq_ptr_same w _ Tryd.underlying65 hj]
  go_wp2
  go_end0
  exact ⟨rfl, rfl⟩

theorem lies_builder {n : Nat} (hn : 1 ≤ n) : liesAt Tryd.prog Tryd.prog.depth 67 n 0 67 1 = true := by
  have hs : Tryd.prog.cellsOf 67 = 2 := by kernel_rfl
  have hf : sameLayout Tryd.prog Tryd.prog.depth 67 67 = true := by kernel_rfl
  have hd : ∃ d, Tryd.prog.depth = d + 1 := ⟨Tryd.prog.depth - 1, by
    have : 0 < Tryd.prog.depth := Nat.lt_of_lt_of_le (show 0 < 1 by omega) (Nat.le_of_ble_eq_true (by kernel_rfl))
    omega⟩
  obtain ⟨d, hd⟩ := hd
  rw [hd] at hf
  simp only [hd, liesAt, rowAt, hs, hf]
  simp [hn]
set_option maxRecDepth 100000 in
theorem copy_fresh (b c : Nat) (w : World) (h0 : w.cell? ⟨b, 0, none⟩ = some (.pointer none)) (hsh : w.shape? b = some (67, c)) (hc : 2 ≤ c) (hfz : w.frozen? ⟨b, 0, none⟩ = false) :
    Calls Tryd.prog 51 #[.pointer (some ⟨b, 0, none⟩)] w fun e w' => e = .returned (.tuple #[]) ∧ w' = w.setCell ⟨b, 0, none⟩ (.pointer (some ⟨b, 0, none⟩)) := by
  obtain ⟨j, hj, hjs⟩ := Option.map_eq_some_iff.1 (show (Tryd.prog.info? 67).map (·.size) = some 2 by kernel_rfl)
  have hs : Tryd.prog.cellsOf 67 = 2 := by kernel_rfl
  have hlies : liesAt Tryd.prog Tryd.prog.depth 67 (c / Tryd.prog.cellsOf 67) 0 67 1 = true := by
    rw [hs]
    exact lies_builder (by omega)
  go_enter Tryd.func51, Tryd.ntmps51
  go_wp2
  rw [Lib.run_to_unsafe w ⟨b, 0, none⟩ Tryd.underlying65 Tryd.underlying82 hj (by rw [hjs]; decide) hsh (show 0 < c by omega)]
  simp only [Result.andThen]
  rw [Oper.upon_value]
  go_wp2
  rw [run_callFunc_extern Tryd.func57 (by kernel_rfl) (by kernel_rfl) (by kernel_rfl) (e := Extern.AbiNoEscape.same) (by kernel_rfl)]
  rw [Lib.run_noEscape]
  simp only [Result.andThen]
  rw [Oper.upon_value]
  go_wp2
  rw [Lib.run_from_unsafe w ⟨b, 0, none⟩ Tryd.underlying82 Tryd.underlying65 hj hsh hlies]
  simp only [Result.andThen]
  rw [Oper.upon_value]
  go_wp2
  go_end0
  exact ⟨rfl, rfl⟩

/-- A builder's block. -/
theorem bld_parts {φ : Phi} {H : Hp} {w : World} (hH : HR E φ H w) {o : Nat} {a x : AV} (ho : H.at o = some ⟨[[a, x]], 2, 67, false⟩) {v : Value} (hv : VR φ (.pt o 0 0) v) :
    ∃ p cells va vx, φ o = some p ∧ v = .pointer (some ⟨p.b, 0, none⟩) ∧ p.base = 0 ∧ p.esz = 2 ∧ w.heap[p.b]? = some (.cells cells 67 (0, 0)) ∧ 2 ≤ cells.size ∧ cells[0]? = some va ∧ cells[1]? = some vx ∧ VR φ a va ∧ VR φ x vx ∧ E.B0 ≤ p.b := by
  obtain ⟨p, hp, rfl⟩ := hv
  have ho' := Hp.at_some ho
  obtain ⟨q1, q2, cells, ee, fr, hblk, hrw, hrows⟩ := hH.obj _ _ ho' p hp
  obtain ⟨rfl, he, hpsz, hbase, hB⟩ := hrw rfl
  have he : ee = 67 := he
  rw [he] at hblk
  have hpe : p.esz = 2 := q2
  obtain ⟨hl, hc⟩ := hrows 0 [a, x] rfl
  obtain ⟨h1, va, hva, hRa⟩ := hc 0 a rfl
  obtain ⟨h2, vx, hvx, hRx⟩ := hc 1 x rfl
  rw [hbase] at hva hvx
  simp only [Nat.zero_mul, Nat.add_zero, Nat.zero_add] at hva hvx
  have hsz : 1 < cells.size := (Array.getElem?_eq_some_iff.1 hvx).1
  exact ⟨p, cells, va, vx, hp, by simp [hbase], hbase, hpe, hblk, hsz, hva, hvx, hRa, hRx, hB⟩
theorem copy_HR {φ : Phi} {H : Hp} {w : World} (hH : HR E φ H w) {o : Nat} {a x : AV} (ho : H.at o = some ⟨[[a, x]], 2, 67, false⟩) (ha : a = .nilp ∨ a = .pt o 0 0) {p : Pl} (hp : φ o = some p) (hb : p.base = 0) (he : p.esz = 2) :
    Calls Tryd.prog 51 #[.pointer (some ⟨p.b, 0, none⟩)] w fun e w' => e = .returned (.tuple #[]) ∧ Below E.B0 w w' ∧ HR E φ (List.set H o (some ⟨[[.pt o 0 0, x]], 2, 67, false⟩)) w' := by
  have hvp : VR φ (.pt o 0 0) (.pointer (some ⟨p.b, 0, none⟩)) := ⟨p, hp, by simp [hb]⟩
  obtain ⟨p', cells, va, vx, hp', _, _, _, hblk, hsz, c0, c1, ra, rx, hB⟩ := bld_parts hH ho hvp
  obtain rfl := Option.some.inj (hp.symm.trans hp')
  have k0 : w.cell? ⟨p.b, 0, none⟩ = some va := by simp [World.cell?, hblk, c0]
  have ho' := Hp.at_some ho
  rcases ha with rfl | rfl
  · have hva : va = .pointer none := ra
    subst hva
    refine (copy_fresh p.b cells.size w k0 (by simp [World.shape?, hblk]) hsz (by simp [World.frozen?, hblk])).mono ?_
    rintro e w' ⟨rfl, rfl⟩
    have hs := hH.set1 ho' rfl hp (i := 0) (row := [.nilp, x]) rfl (f := 0) (by simp) (a := .pt o 0 0) (v := .pointer (some ⟨p.b, 0, none⟩)) rfl hvp
    rw [hb] at hs
    simp only [Nat.zero_mul, Nat.add_zero] at hs
    exact ⟨rfl, hs.2.2.1, hs.2.2.2⟩
  · obtain ⟨p2, hp2, hva⟩ := ra
    obtain rfl := Option.some.inj (hp.symm.trans hp2)
    rw [hva] at k0
    simp only [hb, Nat.zero_mul, Nat.add_zero] at k0
    refine (copy_used p.b w k0).mono ?_
    rintro e w' ⟨rfl, rfl⟩
    have e1 : List.set H o (some ⟨[[.pt o 0 0, x]], 2, 67, false⟩) = H := by
      apply List.ext_getElem?
      intro j
      rw [List.getElem?_set]
      split
      · rename_i h
        subst h
        split
        · exact ho'.symm
        · rename_i h2
          rw [List.getElem?_eq_none (by omega)]
      · rfl
    rw [e1]
    exact ⟨rfl, Below.refl _ _, hH⟩

end Go.Proofs.YtkdnijiipegabaaDoor.B
