/- strings.Builder: its string. -/
import Derived.Test.YtkdnijiipegabaaDoorIl
namespace Go.Proofs.YtkdnijiipegabaaDoor.B
open Go.RowKit Go.Proofs
set_option linter.unusedVariables false
set_option linter.unusedSimpArgs false
variable {E : Env}

theorem freeze_other (w : World) (g n k : Nat) (h : k ≠ g) : (w.freeze ⟨g, 0, none⟩ n).heap[k]? = w.heap[k]? := by
  unfold World.freeze
  split
  · rfl
  · simp only [Array.getElem?_modify]
    rw [if_neg (fun e => h e.symm)]

set_option maxHeartbeats 2000000 in
set_option maxRecDepth 100000 in
theorem BString_ok (o : Nat) (x : AV) (s : ByteArray) (H : Hp) (hb : Bld H o x (bytesOf s)) (hl : s.size ≤ 140737488355328) :
    AC Tryd.prog E 48 [.pt o 0 0] H (fun u H' => u = .str s ∧ Fr x.of H H') := by
  obtain ⟨a, ho, ha, hx, hxn⟩ := hb
  have hsl := bytesOf_len s
  have mixed : Tryd.prog.follows .mixedOrders = true := fol
  refine ⟨⟨_, _, Tryd.func48, by kernel_rfl, rfl⟩, fun φ w vals hv hH => ?_⟩
  obtain ⟨v, vs, rfl, hv1, h3⟩ := hv
  have h3 : vs = [] := h3
  subst h3
  obtain ⟨p, cells, va, vx, hp, rfl, hbase, hpe, hblk, hsz, c0, c1, ra, rx, hB⟩ := bld_parts hH ho hv1
  show Calls Tryd.prog 48 #[.pointer (some ⟨p.b, 0, none⟩)] w _
  rcases hx with ⟨rfl, hs0⟩ | ⟨o2, rfl, ho2⟩
  · have hvx : vx = .slice none 0 0 := rx
    subst hvx
    have hse : s = ⟨#[]⟩ := by
      apply ByteArray.ext
      apply Array.eq_empty_of_size_eq_zero
      rw [hs0] at hsl
      exact hsl.symm
    have k1 : w.drew.cell? ⟨p.b, 1, none⟩ = some (.slice none 0 0) := by
      have : w.drew.heap[p.b]? = some (.cells cells 67 (0, 0)) := hblk
      simp [World.cell?, this, c1]
    have hSD : (Builtin.unsafeSliceData_ #[29] 75 #[.slice none 0 0]).run Tryd.prog w.drew = .ok (.pointer none) w.drew := rfl
    have hUS := Lib.run_unsafeString_none (P := Tryd.prog) w.drew 75 3 9 none
    go_enter Tryd.func48, Tryd.ntmps48
    go_wp2
    go_region_o
    all_goals (go_wp2; go_ret; exact ⟨φ, H, .str s, PLe.refl _, hH.drew, Below.drew (Below.refl _ w), by rw [hse]; rfl, rfl, Fr.refl _ _⟩)
  · obtain ⟨p2, ad, c, hp2, rfl, hmc, hc⟩ := rx
    have ho2' := Hp.at_some ho2
    obtain ⟨r1, r2, cells2, ee, fr, hblk2, hrw2, hrows2⟩ := hH.obj _ _ ho2' p2 hp2
    obtain ⟨rfl, he, hpsz2, hbase2, hB2⟩ := hrw2 rfl
    have he : ee = 5 := he
    rw [he] at hblk2
    have hne : bytesOf s ≠ [] := fun h => by have := hxn h; cases this
    have hpos : 0 < (bytesOf s).length := List.length_pos_iff.2 hne
    rcases hc with hc | ⟨rfl, hc⟩
    · omega
    rcases hc with hc | hc
    · have : p2.ro = false := r1
      rw [this] at hc; cases hc
    have hpe2 : p2.esz = 1 := r2
    have ead : (⟨p2.b, p2.base + 0 * p2.esz, none⟩ : Addr) = ⟨p2.b, 0, none⟩ := by simp [hbase2]
    rw [ead] at c1
    rw [Nat.zero_add, hpe2, Nat.mul_one, hpsz2] at hc
    subst hc
    obtain ⟨l, hlist⟩ : ∃ l : List UInt8, l = s.data.toList := ⟨_, rfl⟩
    have hll : (bytesOf s).length = l.length := by rw [hlist, bytesOf, List.length_map]
    have hl0 : l ≠ [] := fun h => by rw [h] at hll; rw [hll] at hpos; exact absurd hpos (by simp)
    have hls : l.length = s.size := by omega
    have hcell : ∀ (j : Nat) (b : UInt8), l[j]? = some b → w.drew.cell? ((⟨p2.b, 0, none⟩ : Addr).add j) = some (.int .u8 b.toNat) := by
      intro j b hj
      have hr : ((bytesOf s).map byteRow)[j]? = some (byteRow b.toNat) := by
        rw [bytesOf, ← hlist, List.getElem?_map, List.getElem?_map, hj]
        rfl
      obtain ⟨_, hcc⟩ := hrows2 j (byteRow b.toNat) hr
      obtain ⟨_, u, hu, hRu⟩ := hcc 0 (.int .u8 b.toNat) rfl
      have hRu : u = .int .u8 b.toNat := hRu
      rw [hRu, hbase2] at hu
      have h1 : (⟨[] , 1, 0, false⟩ : Ob).esz = 1 := rfl
      simp only [Nat.zero_add, Nat.add_zero, Nat.mul_one] at hu
      have hbk : w.drew.heap[p2.b]? = some (.cells cells2 5 (0, 0)) := hblk2
      rw [Addr_add]
      simp [World.cell?, hbk, hu]
    have k1 : w.drew.cell? ⟨p.b, 1, none⟩ = some (.slice (some ⟨p2.b, 0, none⟩) s.size cells2.size) := by
      have : w.drew.heap[p.b]? = some (.cells cells 67 (0, 0)) := hblk
      rw [← hsl]
      simp [World.cell?, this, c1]
    have hSD : (Builtin.unsafeSliceData_ #[29] 75 #[.slice (some ⟨p2.b, 0, none⟩) s.size cells2.size]).run Tryd.prog w.drew = .ok (.pointer (some ⟨p2.b, 0, none⟩)) w.drew :=
      Lib.run_unsafeSliceData_row _ _ _ _ _ _ (by omega)
    have hUS := Lib.run_unsafeString_row (P := Tryd.prog) w.drew 75 3 9 5 Tryd.underlying75 (by kernel_rfl) p2.b cells2.size (by
      have hg' : w.drew.heap[p2.b]? = some (.cells cells2 5 (0, 0)) := hblk2
      simp [World.shape?, hg']) l hl0 (by omega) (by omega) hcell
    have hst : (⟨l.toArray⟩ : ByteArray) = s := by rw [hlist]
    rw [hst, hls] at hUS
    have hbel : Below E.B0 w (w.drew.freeze ⟨p2.b, 0, none⟩ s.size) := Lib.below_freeze (Below.drew (Below.refl _ w)) (p := ⟨p2.b, 0, none⟩) hB2 _
    have hHR : HR E φ (List.set H o2 none) (w.drew.freeze ⟨p2.b, 0, none⟩ s.size) := by
      refine (hH.kill o2).keep hbel (fun o' ob' p' ho' hp' => ?_)
      have hne' : o2 ≠ o' := fun e => by
        rw [e, List.getElem?_set] at ho'
        split at ho'
        · split at ho' <;> simp at ho'
        · exact absurd rfl ‹_›
      rw [List.getElem?_set_ne hne'] at ho'
      have hbn : p'.b ≠ p2.b := fun e => hH.inj o2 o' _ ob' ho2' ho' p2 p' hp2 hp' rfl hne' e.symm
      exact freeze_other _ _ _ _ hbn
    go_enter Tryd.func48, Tryd.ntmps48
    go_wp2
    go_region_o
    all_goals (go_wp2; go_ret; exact ⟨φ, List.set H o2 none, .str s, PLe.refl _, hHR, hbel, rfl, rfl, (Fr.refl _ H).set (.inl rfl) _⟩)

end Go.Proofs.YtkdnijiipegabaaDoor.B
