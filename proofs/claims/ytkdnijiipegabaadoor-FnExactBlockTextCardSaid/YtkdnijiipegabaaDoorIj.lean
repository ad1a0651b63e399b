/- A string is appended to bytes: what it does to memory. -/
import Derived.Test.YtkdnijiipegabaaDoorEd
import Derived.Lib.AppendStr
import Derived.Lib.Builder
namespace Go.Proofs.YtkdnijiipegabaaDoor.B
open Go.RowKit
set_option linter.unusedVariables false
set_option linter.unusedSimpArgs false
variable {P : Program} {E : Env}

/-- A string's bytes. -/
def bytesOf (s : ByteArray) : List Int := s.data.toList.map (fun b => (b.toNat : Int))
theorem bytesOf_len (s : ByteArray) : (bytesOf s).length = s.size := by
  rw [bytesOf, List.length_map, Array.length_toList]
  rfl
theorem strCells_eq (s : ByteArray) : Lib.strCells s = (bytesOf s).map (Value.int .u8) := by
  simp [Lib.strCells, bytesOf]
theorem bytesOf_app (a b : ByteArray) : bytesOf (a ++ b) = bytesOf a ++ bytesOf b := by
  simp [bytesOf, ByteArray.data_append]
theorem VRs_bytes {φ : Phi} : ∀ (bs : List Int), VRs φ ((bs.map byteRow).flatten) (bs.map (Value.int .u8))
  | [] => rfl
  | b :: bs => ⟨.int .u8 b, bs.map (Value.int .u8), rfl, rfl, VRs_bytes bs⟩
theorem one_bytes (bs : List Int) : ∀ a ∈ (bs.map byteRow).flatten, one a = true := by
  intro a ha
  obtain ⟨r, hr, har⟩ := List.mem_flatten.1 ha
  obtain ⟨n, _, rfl⟩ := List.mem_map.1 hr
  rw [List.mem_singleton.1 har]
  rfl
theorem len_bytes (bs : List Int) : ∀ r ∈ bs.map byteRow, r.length = 1 := by
  intro r hr
  obtain ⟨n, _, rfl⟩ := List.mem_map.1 hr
  rfl
theorem VRs_bytes_eq {φ : Phi} : ∀ {bs : List Int} {l : List Value}, VRs φ ((bs.map byteRow).flatten) l → l = bs.map (Value.int .u8)
  | [], l, h => h
  | b :: bs, l, ⟨v, vs, e, h1, h2⟩ => by
    rw [e, VRs_bytes_eq h2, show v = .int .u8 b from h1]
    rfl

/-- Bytes of one's own, in a whole object, or none. -/
def BufA (e : Nat) (H : Hp) (x : AV) (bs : List Int) : Prop := (x = .nils ∧ bs = []) ∨ ∃ o, x = .sl o 0 bs.length ∧ H.at o = some ⟨bs.map byteRow, 1, e, false⟩
def bufO : AV → Option Nat
  | .sl o _ _ => some o
  | _ => none
/-- What an append makes of memory and of the slice. -/
def bufW (x : AV) (cs : List Int) : Bool := match x, cs with
  | .nils, [] => false
  | _, _ => true
def bufH (e : Nat) (H : Hp) (x : AV) (bs cs : List Int) : Hp × AV := if bufW x cs = false then (H, .nils) else (killO H (bufO x) ++ [some ⟨(bs ++ cs).map byteRow, 1, e, false⟩], .sl H.length 0 (bs ++ cs).length)
theorem HR.appStr {t u ty e : TypeId} {i : TypeInfo} (ht : P.underlying t = some (.slice e)) (hu : P.underlying u = some .string) (hi : P.info? e = some i) (hz : i.zero = some (.int .u8 0)) (hsz : i.size = 1) (hby : i.bytes = 1)
    {φ : Phi} {H : Hp} {w : World} (hH : HR E φ H w) {x : AV} {v : Value} (hv : VR φ x v) {bs : List Int} (s : ByteArray) (hx : BufA e H x bs) (hlen : bs.length + s.size ≤ 140737488355328) :
    ∃ v' w' φ', (Builtin.append_ #[t, u] ty #[v, .string s]).run P w = .ok v' w' ∧ PLe φ φ' ∧ HR E φ' (bufH e H x bs (bytesOf s)).1 w' ∧ Below E.B0 w w' ∧ VR φ' (bufH e H x bs (bytesOf s)).2 v' := by
  have hsl := bytesOf_len s
  rcases hx with ⟨rfl, rfl⟩ | ⟨o, rfl, ho⟩
  · have hv : v = .slice none 0 0 := hv
    subst hv
    by_cases hm : s.size = 0
    · have hn : Lib.strCells s = [] := List.eq_nil_of_length_eq_zero (by rw [Lib.strCells_length]; exact hm)
      have hb : bytesOf s = [] := List.eq_nil_of_length_eq_zero (by omega)
      have hf := Lib.run_firstCells_string (P := P) w 1 s
      rw [hm] at hf
      refine ⟨.slice none 0 0, w, φ, ?_, PLe.refl _, ?_, Below.refl _ _, ?_⟩
      · simp [Builtin.append_, run_underlying ht, run_underlying hu, sizeOf, typeInfo, hi, hsz, Builtin.lenOf, hm, hf]
      · rw [hb]
        exact hH
      · rw [hb]
        exact rfl
    · have hb : bufW .nils (bytesOf s) = true := by
        cases h : bytesOf s with
        | nil => rw [h] at hsl; simp at hsl; omega
        | cons b bs => rfl
      have hr := run_append_nil_string (P := P) w t u ty e i (.int .u8 0) ht hu hi hz s (by omega) (by omega) (by rw [hby]; omega)
      have e1 : (s.data.map fun b => Value.int .u8 b.toNat) = ((bytesOf s).map (Value.int .u8)).toArray := by
        apply Array.ext'
        simp [bytesOf]
      rw [e1] at hr
      have hcap := grownCap_ge w s.size 0 e
      have hcsz : (((bytesOf s).map (Value.int .u8)).toArray ++ Builtin.zeroCells (Value.int .u8 0).cells (grownCap w s.size 0 e - s.size)).size = grownCap w s.size 0 e := by
        have hz1 : (Value.int IntKind.u8 0).cells.size = 1 := rfl
        rw [Array.size_append, List.size_toArray, size_zeroCells, hz1, List.length_map]
        omega
      have hbel : Below E.B0 w (w.drew.alloc (.cells (((bytesOf s).map (Value.int .u8)).toArray ++ Builtin.zeroCells (Value.int .u8 0).cells (grownCap w s.size 0 e - s.size)) e)) := (Below.refl E.B0 w).drew.alloc hH.base _
      obtain ⟨g1, g2⟩ := hH.moved none (rows := (bytesOf s).map byteRow) (esz := 1) (ety := e) (b := w.heap.size) (xs := (bytesOf s).map (Value.int .u8)) hbel hH.base (heap_alloc_new w.drew _)
        (fun k hk _ => Below.heap_alloc w.drew _ k hk) (.inl (Nat.le_refl _)) (VRs_bytes _) (len_bytes _) (one_bytes _) (fun j v hv => by
          have hj := (List.getElem?_eq_some_iff.1 hv).1
          rw [Array.getElem?_append_left (by simpa using hj)]
          simpa using hv)
      refine ⟨_, _, _, hr, g1, ?_, hbel, ?_⟩
      · simpa [bufH, hb, bufO] using g2
      · simp only [bufH, hb, Bool.true_eq_false, if_false, List.nil_append]
        exact ⟨_, _, _, Phi.put_self, by rw [hsl], by omega, .inr ⟨by simp, .inr (by simp only [Nat.zero_add, Nat.mul_one]; exact hcsz.symm)⟩⟩
  · obtain ⟨p, ad, c, hp, rfl, hmc, hc⟩ := hv
    have ho' := Hp.at_some ho
    obtain ⟨q1, q2, cells, ee, fr, hblk, hrw, hrows⟩ := hH.obj _ _ ho' p hp
    obtain ⟨rfl, he, hpsz, hbase, hB⟩ := hrw rfl
    have he : ee = e := he
    rw [he] at hblk
    have hpe : p.esz = 1 := q2
    have hpro : p.ro = false := q1
    obtain ⟨olds, l1, l2, l3, l4, l5⟩ := hH.rowsCells ho' hp 0 bs.length (by simp)
    rw [hpe] at l2 l3
    simp only [List.drop_zero, Nat.mul_one, hbase, Nat.zero_add, Nat.zero_mul] at l1 l2 l3
    rw [List.take_of_length_le (by simp)] at l1
    have hol := VRs_bytes_eq l1
    subst hol
    have hne : bufW (AV.sl o 0 bs.length) (bytesOf s) = true := rfl
    have hall : (bs ++ bytesOf s).map (Value.int .u8) = bs.map (Value.int .u8) ++ Lib.strCells s := by rw [List.map_append, strCells_eq]
    have hgetc : ∀ (j : Nat) (u : Value), (bs.map (Value.int .u8))[j]? = some u → cells[j]? = some u := by
      intro j u hu
      have := l3 j u hu
      rw [Addr_add] at this
      simpa [World.cell?, hblk] using this
    rcases Nat.lt_or_ge c (bs.length + s.size) with hg | hroom
    · have holds : ∀ (j : Nat) (u : Value), (bs.map (Value.int .u8))[j]? = some u → w.cell? (ad.add j) = some u := by
        intro j u hu
        rcases hc with hc | ⟨rfl, _⟩
        · have : bs = [] := List.length_eq_zero_iff.1 (by omega)
          rw [this] at hu
          simp at hu
        · have := l3 j u hu
          simpa [hbase] using this
      have hr := Lib.run_append_grow_string (P := P) w t u ty e i (.int .u8 0) ht hu hi hz ad bs.length c (bs.map (Value.int .u8)) (by rw [hsz]; simp) holds s hg (by omega) (by rw [hby]; exact growslice_fits (by omega) (by omega))
      have hcap := grownCap_ge w (bs.length + s.size) c e
      have hcsz : ((bs.map (Value.int .u8)).toArray ++ (Lib.strCells s).toArray ++ Builtin.zeroCells (Value.int .u8 0).cells (grownCap w (bs.length + s.size) c e - (bs.length + s.size))).size = grownCap w (bs.length + s.size) c e := by
        have hz1 : (Value.int IntKind.u8 0).cells.size = 1 := rfl
        have := Lib.strCells_length s
        rw [Array.size_append, Array.size_append, List.size_toArray, List.size_toArray, size_zeroCells, hz1, List.length_map]
        omega
      have hbel : Below E.B0 w (w.drew.alloc (.cells ((bs.map (Value.int .u8)).toArray ++ (Lib.strCells s).toArray ++ Builtin.zeroCells (Value.int .u8 0).cells (grownCap w (bs.length + s.size) c e - (bs.length + s.size))) e)) := (Below.refl E.B0 w).drew.alloc hH.base _
      obtain ⟨g1, g2⟩ := hH.moved (some o) (rows := (bs ++ bytesOf s).map byteRow) (esz := 1) (ety := e) (b := w.heap.size) (xs := (bs ++ bytesOf s).map (Value.int .u8)) hbel hH.base (heap_alloc_new w.drew _)
        (fun k hk _ => Below.heap_alloc w.drew _ k hk) (.inl (Nat.le_refl _)) (VRs_bytes _) (len_bytes _) (one_bytes _) (fun j v hv => by
          have hj := (List.getElem?_eq_some_iff.1 hv).1
          rw [hall] at hv hj
          rw [Array.getElem?_append_left (by simpa using hj)]
          simpa using hv)
      refine ⟨_, _, _, hr, g1, ?_, hbel, ?_⟩
      · simpa [bufH, hne, bufO] using g2
      · simp only [bufH, hne, Bool.true_eq_false, if_false]
        exact ⟨_, _, _, Phi.put_self, by rw [List.length_append, hsl], by rw [List.length_append, hsl]; omega, .inr ⟨by simp, .inr (by simp only [Nat.zero_add, Nat.mul_one]; exact hcsz.symm)⟩⟩
    · have hcs := Lib.strCells_length s
      rcases hc with hc | ⟨rfl, hc⟩
      · -- no room at all: nothing is there, nothing comes
        have hb0 : bs = [] := List.length_eq_zero_iff.1 (by omega)
        have hs0 : s.size = 0 := by omega
        have hcn : Lib.strCells s = [] := List.eq_nil_of_length_eq_zero (by omega)
        have hne' : ∀ n, bufW (AV.sl o 0 n) [] = true := fun _ => rfl
        have hsb : bytesOf s = [] := List.length_eq_zero_iff.1 (by omega)
        have hf := Lib.run_firstCells_string (P := P) w 1 s
        rw [hs0] at hf
        subst hb0
        have hbel : Below E.B0 w w := Below.refl _ _
        obtain ⟨g1, g2⟩ := hH.moved (w' := w) (some o) (rows := []) (esz := 1) (ety := e) (b := p.b) (xs := []) (cells := cells) hbel hB hblk
          (fun k hk _ => rfl) (.inr ⟨o, _, p, rfl, ho', hp, rfl, rfl⟩) rfl (by simp) (by simp) (by simp)
        refine ⟨.slice (some ad) 0 c, w, _, ?_, g1, ?_, hbel, ?_⟩
        · subst hc
          simp [Builtin.append_, run_underlying ht, run_underlying hu, sizeOf, typeInfo, hi, hsz, Builtin.lenOf, hs0, hf, hcn, storeCells]
        · simpa [bufH, hne', bufO, hsb] using g2
        · simp only [bufH, hne', Bool.true_eq_false, if_false, hsb, List.append_nil]
          exact ⟨_, _, _, Phi.put_self, rfl, by simp, .inl hc⟩
      · rcases hc with hc | hc
        · rw [hpro] at hc; cases hc
        · have ead : (⟨p.b, p.base + 0 * p.esz, none⟩ : Addr) = ⟨p.b, 0, none⟩ := by simp [hbase]
          rw [Nat.zero_add, hpe, Nat.mul_one] at hc
          have hfit : bs.length + s.size ≤ cells.size := by omega
          have hr := Lib.run_append_room_string (P := P) w t u ty e i ht hu hi hsz p.b bs.length c cells hblk s hroom hfit
          have hbel : Below E.B0 w (w.setRow p.b (cells.toList.take bs.length ++ Lib.strCells s ++ cells.toList.drop (bs.length + s.size)).toArray) := setRow_below hB
          have hcsz : (cells.toList.take bs.length ++ Lib.strCells s ++ cells.toList.drop (bs.length + s.size)).toArray.size = cells.size := by
            simp only [List.size_toArray, List.length_append, List.length_take, List.length_drop, Array.length_toList]
            omega
          have htk : cells.toList.take bs.length = bs.map (Value.int .u8) := by
            apply List.ext_getElem?
            intro j
            rw [List.getElem?_take]
            split
            · rename_i hj
              have hu := List.getElem?_eq_getElem (l := bs.map (Value.int .u8)) (i := j) (by simpa using hj)
              rw [hu]
              simpa using hgetc j _ hu
            · rename_i hj
              rw [List.getElem?_eq_none (by simpa using hj)]
          obtain ⟨g1, g2⟩ := hH.moved (some o) (rows := (bs ++ bytesOf s).map byteRow) (esz := 1) (ety := e) (b := p.b) (xs := (bs ++ bytesOf s).map (Value.int .u8)) hbel hB (setRow_heap w p.b cells _ e (0, 0) hblk)
            (fun k hk hne => setRow_other w p.b k _ hne) (.inr ⟨o, _, p, rfl, ho', hp, rfl, rfl⟩) (VRs_bytes _) (len_bytes _) (one_bytes _) (fun j u hu => by
              have hj := (List.getElem?_eq_some_iff.1 hu).1
              rw [hall, ← htk] at hu hj
              simp only [List.getElem?_toArray]
              rw [List.getElem?_append_left hj]
              exact hu)
          refine ⟨_, _, _, by rw [ead]; exact hr, g1, ?_, hbel, ?_⟩
          · simpa [bufH, hne, bufO] using g2
          · simp only [bufH, hne, Bool.true_eq_false, if_false]
            refine ⟨_, _, _, Phi.put_self, by rw [List.length_append, hsl], by rw [List.length_append, hsl]; omega, .inr ⟨by simp, .inr ?_⟩⟩
            show (0 + c) * 1 = _
            rw [hcsz, Nat.zero_add, Nat.mul_one, hc, hpsz]

end Go.Proofs.YtkdnijiipegabaaDoor.B
