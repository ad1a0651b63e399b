/- A part of the proof: The reference's disk: what is used, what is free. The functions of laws/exact.go for strings and moves. DiskDo of the program and of the reference. DiskDo of the program. The law FnExactDiskDo. The reference's disk: a store is put on a disk (its runs). The reference's disk: a store is put on a disk. DiskDo of the program and of the reference, on a part of a disk. The reference's draws: disks. The reference's draws: disks and moves. The laws FnDiskDo and FnDiskDoCut. There is no condition. -/
import Derived.Test.YtkdnijiipegabaaM0
import Derived.Test.YtkdnijiipegabaaM1
import Derived.Test.YtkdnijiipegabaaM2
import Derived.Test.YtkdnijiipegabaaM3
namespace Go.Proofs.Ytkdnijiipegabaa.B
open Go.RowKit Go.Proofs
set_option linter.unusedVariables false
set_option linter.unusedSimpArgs false
variable {E : Env}

def boolRow (b : Bool) : List AV := [.bool b]
theorem Ints.off {H : Hp} {v : AV} {ns : List Int} {o e : Nat} {bs : List Bool} {ro : Bool} (h : Ints H v ns) (hn : ns ≠ []) (ho : H.at o = some ⟨bs.map boolRow, 1, e, ro⟩) : ∀ x, v.of x → x ≠ o := by
  rintro x hx rfl
  obtain ⟨o', i, ob, rfl, h2, h3, h4⟩ := h.get (j := 0) (List.length_pos_iff.2 hn)
  have hx' : o' = x := hx
  subst hx'
  rw [ho] at h2
  cases h2
  rw [List.getElem?_map] at h4
  cases hb : bs[i + 0]? with
  | none => rw [hb] at h4; simp at h4
  | some b => rw [hb] at h4; simp [boolRow] at h4

theorem Own.ety {esz ety : Nat} {H : Hp} {v : AV} {R : List (List AV)} (h : Own esz ety H v R) {x : Nat} {ob : Ob} (hx : v.of x) (ho : H.at x = some ob) : ob.ety = ety := by
  rcases h with ⟨rfl, _⟩ | ⟨rfl, _⟩ | ⟨o', ob', rfl, a2, a3, a4, a5, _⟩
  · exact hx.elim
  · exact hx.elim
  · have : o' = x := hx
    subst this
    rw [ho] at a2
    cases a2
    exact a5

theorem l22Used_ok (dv : AV) (xs : List ByteArray) (H : Hp) (hx : Strs H dv xs) (hxl : xs.length = 10) (hxs : ∀ s ∈ xs, s.size ≤ 100000) :
    AC Try.prog E 65 [dv] H (fun u H' => HLe H H' ∧ ∃ o, ∃ bs : List Bool, u = .sl o 0 10 ∧ bs.length = 10 ∧ H'.at o = some ⟨bs.map boolRow, 1, 4, false⟩) := by
  refine AC_by fol (tC_le tab2_ok) h_spec_l22Used ?_
  have ld := hx.len
  rw [hxl] at ld
  obtain ⟨H1, hH1⟩ : ∃ H1 : Hp, H1 = H ++ [some ⟨[[.bool false], [.bool false], [.bool false], [.bool false], [.bool false], [.bool false], [.bool false], [.bool false], [.bool false], [.bool false]], 1, 4, false⟩] := ⟨_, rfl⟩
  have hle1 : HLe H H1 := by rw [hH1]; exact HLe.self _ _
  obtain ⟨bs0, hb0, b0⟩ : ∃ bs0 : List Bool, bs0.length = 10 ∧ H1.at H.length = some ⟨bs0.map boolRow, 1, 4, false⟩ := ⟨List.replicate 10 false, rfl, by rw [hH1]; exact Hp.at_app_0⟩
  simp [c_spec_l22Used, ld, hx.slc, ← hH1]
  refine cg_ex (l22Last_ok dv xs H1 (hx.le hle1) hxl hxs) ?_
  rintro v2 H2 ⟨st, w, b, ok, rfl, hb1, hle2, xa, xb, xc, xk, xt, xd, h, rfl, o1, o2, o3, o4, o5, o6, ⟨dd, aa, rfl, hdd, haa⟩, hhB, hok⟩
  have b02 := hle2.2 _ _ b0
  obtain ⟨H3, hH3⟩ : ∃ H3 : Hp, H3 = H2 ++ [some ⟨[[xa, xb, xc, xk, xt, xd]], 6, 65, false⟩, some ⟨[[.int .i64 h.num, .int .i64 h.keep, .int .i64 h.time, dd, aa]], 5, 80, false⟩] := ⟨_, rfl⟩
  have hle3 : HLe H2 H3 := by rw [hH3]; exact HLe.self _ _
  have q1 : H3.at (H2.length + 1) = some ⟨[[.int .i64 h.num, .int .i64 h.keep, .int .i64 h.time, dd, aa]], 5, 80, false⟩ := by rw [hH3]; simp
  have b03 := hle3.2 _ _ b02
  have hle13 : HLe H H3 := (hle1.trans hle2).trans hle3
  have haa3 : Ints H3 aa h.at' := Rows.le haa hle3
  have u0 := Hp.at_lt b03
  have l1 := Hp.at_lt b0
  have l2 := hle2.1
  simp [o1, o2, o3, o4, o5, o6, hdd.one, haa.one, ← hH3]
  refine c_split (fun hq => ?_) (fun hq => ?_)
  · obtain ⟨h4, hat⟩ := hok hq
    have hbI : (b : Int) < 10 := by omega
    have hbN : b < 10 := by omega
    have hne : h.at' ≠ [] := fun h => by rw [h] at h4; simp at h4
    have hbb : b < bs0.length := by omega
    have r1 : ∀ x, (boolRow x).length = 1 := fun _ => rfl
    have r2 : ∀ x, (boolRow x).set 0 (.bool true) = boolRow true := fun _ => rfl
    simp [b03, u0, hbI, hbN, hbb, hb0, r1]
    refine W_for (fun m t H' => ∃ (i : Nat) (bs : List Bool), i + m = 4 ∧ t 3 = .sl H.length 0 10 ∧ t 5 = .pt (H2.length + 1) 0 0 ∧ t 8 = .int .i64 i ∧ bs.length = 10 ∧ H'.at H.length = some ⟨bs.map boolRow, 1, 4, false⟩ ∧ Fr (fun x => x = H.length) H3 H') 4 ?_ (tC_mono AC_mono) ?_
    · exact ⟨0, bs0.set b true, rfl, by simp, by simp, by simp, by simp [hb0], by rw [Hp.at_set _ u0, r2, List.map_set], Fr.one _ _ _⟩
    rintro m t H' ⟨i, bs, him, t3, t5, t8, hbs, hat', hf⟩
    have q1' := hf.2 _ _ (by omega) q1
    have ha' : Ints H' aa h.at' := Rows.fr haa3 hf (fun x hx => Ints.off haa3 hne b03 x hx)
    have la := ha'.len
    rw [h4] at la
    simp [t3, t5, t8, q1', la, ha'.slc]
    refine c_split (fun hq3 => ?_) (fun hq3 => ?_) <;> simp at hq3
    · have hi : i < 4 := by omega
      have hiI : (i : Int) < 4 := by omega
      have hw := wrapN (i := i) (by omega)
      have hia : i < h.at'.length := by omega
      obtain ⟨p1, i1, ob1, rfl, c1, c2, c3⟩ := ha'.get hia
      obtain ⟨n, hn⟩ : ∃ n, n = h.at'[i] := ⟨_, rfl⟩
      have hnb := hat n (by rw [hn]; exact List.getElem_mem _)
      rw [← hn] at c3
      obtain ⟨n', rfl⟩ : ∃ n' : Nat, n = n' := ⟨n.toNat, by omega⟩
      have hn1 : n' < 10 := by omega
      have hn2 : (n' : Int) < 10 := by omega
      have hn3 : n' < bs.length := by omega
      rw [h4] at q1'
      have u0' := Hp.at_lt hat'
      simp [t3, t5, t8, q1', c1, c2, c3, hi, hiI, h4, hat', hn1, hn2, hn3, hbs, r1, r2, hw]
      refine ⟨m - 1, by omega, i + 1, by omega, by omega, bs.set n' true, by simp [hbs], by rw [Hp.at_set _ u0', List.map_set], hf.same (Fr.one _ _ _)⟩
    · simp [t3]
      exact ⟨hle13.fr_le hf (fun x hx => by omega), bs, hbs, hat'⟩
  · simp
    exact ⟨hle13, bs0, hb0, b03⟩

theorem l22Free_ok (dv : AV) (xs : List ByteArray) (H : Hp) (hx : Strs H dv xs) (hxl : xs.length = 10) (hxs : ∀ s ∈ xs, s.size ≤ 100000) :
    AC Try.prog E 50 [dv, .int .i64 4] H (fun u H' => HLe H H' ∧ ∃ ns, OwnI H H' u ns ∧ ns.length ≤ 4 ∧ ∀ n ∈ ns, 2 ≤ n ∧ n ≤ 9) := by
  refine AC_by fol (tC_le tab2_ok) h_spec_l22Free ?_
  have ld := hx.len
  rw [hxl] at ld
  have hA := HLe.self H [some ⟨[], 1, 3, false⟩]
  simp [c_spec_l22Free]
  refine cg_ex (l22Used_ok dv xs _ (hx.le hA) hxl hxs) ?_
  rintro v2 H2 ⟨hle2, o, bs, rfl, hbs, hat⟩
  simp
  refine W_for (fun m t H' => ∃ (i : Nat) (v : AV) (ns : List Int), i + m = 10 ∧ t 0 = dv ∧ t 1 = .int .i64 4 ∧ t 5 = v ∧ t 6 = .sl o 0 10 ∧ t 7 = .int .i64 i ∧ 2 ≤ i ∧ HLe H H' ∧ OwnI H H' v ns ∧ ns.length ≤ 4 ∧ (∀ n ∈ ns, 2 ≤ n ∧ n ≤ 9) ∧ H'.at o = some ⟨bs.map boolRow, 1, 4, false⟩) 8 ?_ (tC_mono AC_mono) ?_
  · exact ⟨2, .sl H.length 0 0, [], rfl, by simp, by simp, by simp, by simp, by simp, by omega, hA.trans hle2, (OwnM.lit0 (HLe.refl H) : OwnI H _ _ []).le hle2, by simp, by simp, hat⟩
  rintro m t H' ⟨i, v, ns, him, h0, h1, h5, h6, h7, hi2, hle, hown, hnl, hnb, hat'⟩
  have hown' := hown.len
  have ld' := (hx.le hle).len
  rw [hxl] at ld'
  simp [h0, h1, h5, h6, h7, ld', hx.slc, hown', hown.slc]
  refine g_split (fun hq => ?_) (fun hq => ?_) (by simp) <;> simp at hq <;> simp [hq, h0, h1, h5, h6, h7, hown', hown.slc]
  · refine c_split (fun hq2 => ?_) (fun hq2 => ?_) <;> simp at hq2
    · have hi : i < 10 := by omega
      have hw := wrapN (i := i) (by omega)
      have hib : i < bs.length := by omega
      have hnv : ¬ v.of o := fun h => by
        have := hown.1.ety h hat'
        simp at this
      simp [h0, h1, h5, h6, h7, hat', hi, hq, hib, hbs, boolRow]
      refine c_split (fun hq3 => ?_) (fun hq3 => ?_)
      · simp [h0, h1, h5, h6, h7]
        refine appG_add (y := (i : Int)) (bytes := 8) (row := intRow) (H0 := H) hown hle (by omega) rfl (fun v5 H5 g1 g2 g3 g4 => ?_)
        simp [h0, h1, h5, h6, h7, hw]
        refine ⟨m - 1, by omega, i + 1, by omega, by omega, by omega, g1, ns ++ [(i : Int)], g2, by simp; omega, ?_, g3.2 _ _ hnv hat'⟩
        intro n hn
        rcases List.mem_append.1 hn with h | h
        · exact hnb n h
        · rw [List.mem_singleton.1 h]
          omega
      · simp [h0, h1, h5, h6, h7, hw]
        exact ⟨m - 1, by omega, i + 1, by omega, by omega, by omega, hle, ns, hown, hnl, hnb, hat'⟩
    · simp [h5]
      exact ⟨hle, ns, hown, hnl, hnb⟩
  · exact ⟨hle, ns, hown, hnl, hnb⟩

end Go.Proofs.Ytkdnijiipegabaa.B

namespace Go.Proofs.Ytkdnijiipegabaa.B
open Go.RowKit Go.Proofs
set_option linter.unusedVariables false
set_option linter.unusedSimpArgs false
variable {E : Env}

theorem eqStringS_ok (a b : AV) (xs ys : List ByteArray) (H : Hp) (ha : Strs H a xs) (hb : Strs H b ys) (hx : xs.length < 9223372036854775807) : AC Try.prog E 13 [a, b] H (fun v H' => v = .bool (decide (xs = ys)) ∧ H' = H) := by
  refine AC_byp (CLe.refl _) h_laws_eqStringS (by simp) ?_
  have l1 := ha.len
  have l2 := hb.len
  simp [c_laws_eqStringS, l1, l2, ha.slc, hb.slc]
  refine c_split (fun hq => ?_) (fun hq => ?_) <;> simp at hq <;> simp
  · intro h
    subst h
    exact hq rfl
  · refine W_for (fun k t H' => ∃ i : Nat, i + k = xs.length ∧ t 0 = a ∧ t 1 = b ∧ t 5 = .int .i64 i ∧ (∀ j : Nat, j < i → xs[j]? = ys[j]?) ∧ HLe H H') xs.length ?_ AC_mono ?_
    · exact ⟨0, by simp⟩
    rintro k t H' ⟨i, hik, h0, h1, h5, hI, hle⟩
    simp [h0, h1, h5, l1, ha.slc]
    refine c_split (fun hq2 => ?_) (fun hq2 => ?_) <;> simp at hq2
    · have hw := wrapN (i := i) (by omega)
      obtain ⟨o1, i1, ob1, rfl, a1, a2, a3⟩ := (ha.le hle).get hq2
      obtain ⟨o2, i2, ob2, rfl, b1, b2, b3⟩ := (hb.le hle).get (j := i) (by omega)
      simp [h0, h1, h5, a1, a2, a3, b1, b2, b3, hq2, ← hq]
      refine c_split (fun hq3 => ?_) (fun hq3 => ?_) <;> simp at hq3 <;> simp [h0, h1, h5, hw, hle]
      · intro h
        subst h
        exact hq3 rfl
      · refine ⟨k - 1, by omega, i + 1, by omega, rfl, fun j hj => ?_⟩
        rcases Nat.lt_or_ge j i with h | h
        · exact hI j h
        · have : j = i := by omega
          subst this
          rw [List.getElem?_eq_getElem hq2, List.getElem?_eq_getElem (by omega), hq3]
    · simp [hle]
      apply List.ext_getElem?
      intro j
      rcases Nat.lt_or_ge j i with h | h
      · exact hI j h
      · rw [List.getElem?_eq_none (by omega), List.getElem?_eq_none (by omega)]

theorem impl_in_ok (n l h : Int) (H : Hp) : AC Try.prog E 32 [.int .i64 n, .int .i64 l, .int .i64 h] H (fun v H' => v = .bool (decide (l ≤ n ∧ n ≤ h)) ∧ H' = H) := by
  refine AC_by fol (CLe.refl (AC Try.prog E)) h_impl_in ?_
  simp [c_impl_in]
  refine g_split (fun hq => ?_) (fun hq => ?_) (by simp) <;> simp at hq <;> simp [hq]
  omega

/-- The size of strings. -/
def szL (xs : List ByteArray) : Nat := (xs.map ByteArray.size).sum
theorem szL_take (xs : List ByteArray) {i : Nat} (h : i < xs.length) : szL (xs.take (i + 1)) = szL (xs.take i) + xs[i].size := by
  unfold szL
  rw [List.take_succ_eq_append_getElem h, List.map_append, List.sum_append]
  simp
theorem szL_le (xs : List ByteArray) (i : Nat) : szL (xs.take i) ≤ szL xs := by
  have h : szL xs = szL (xs.take i) + szL (xs.drop i) := by
    unfold szL
    rw [← List.sum_append, ← List.map_append, List.take_append_drop]
  omega

theorem szStringS_ok (a : AV) (xs : List ByteArray) (left : Int) (H : Hp) (ha : Strs H a xs) (hl : 0 ≤ left ∧ left ≤ 1048576) (hx : xs.length < 4611686018427387904) (hs : ∀ s ∈ xs, s.size < 4611686018427387904) :
    AC Try.prog E 16 [a, .int .i64 left] H (fun v H' => v = .int .i64 (if (xs.length : Int) + szL xs ≤ left then left - xs.length - szL xs else -1) ∧ H' = H) := by
  refine AC_byp (CLe.refl _) h_laws_szStringS (by simp) ?_
  have l1 := ha.len
  have hw0 : IntKind.i64.wrap (left - xs.length) = left - xs.length := wrap64 (by omega) (by omega)
  simp [c_laws_szStringS, l1, ha.slc, hw0]
  refine c_split (fun hq => ?_) (fun hq => ?_) <;> simp at hq <;> simp
  · intro _
    omega
  · refine W_for (fun k t H' => ∃ i : Nat, i + k = xs.length ∧ t 0 = a ∧ t 1 = .int .i64 (left - xs.length - szL (xs.take i)) ∧ t 5 = .int .i64 i ∧ 0 ≤ left - xs.length - szL (xs.take i) ∧ HLe H H') xs.length ?_ AC_mono ?_
    · exact ⟨0, by simp [szL]; omega⟩
    rintro k t H' ⟨i, hik, h0, h1, h5, hp, hle⟩
    simp [h0, h1, h5, l1, ha.slc]
    refine c_split (fun hq2 => ?_) (fun hq2 => ?_) <;> simp at hq2
    · have hw := wrapN (i := i) (by omega)
      obtain ⟨o1, i1, ob1, rfl, a1, a2, a3⟩ := (ha.le hle).get hq2
      have hsz := hs _ (List.getElem_mem hq2)
      have hst := szL_take xs hq2
      have hw1 : IntKind.i64.wrap (left - xs.length - szL (xs.take i) - xs[i].size) = left - xs.length - szL (xs.take (i + 1)) := by
        rw [wrap64 (by omega) (by omega), hst]
        omega
      simp [h0, h1, h5, a1, a2, a3, hq2, hw1]
      refine c_split (fun hq3 => ?_) (fun hq3 => ?_) <;> simp at hq3 <;> simp [h0, h1, h5, hw, hle]
      · have := szL_le xs (i + 1)
        intro _
        omega
      · exact ⟨k - 1, by omega, i + 1, by omega, rfl, rfl, by omega⟩
    · have : i = xs.length := by omega
      subst this
      simp at hp
      simp [h0, h1, h5, hle]
      intro _
      omega

/-- Moves. -/
abbrev Mv := Int × ByteArray
def mvRow (m : Mv) : List AV := [.int .i64 m.1, .str m.2]
def Mvs (H : Hp) (v : AV) (ms : List Mv) : Prop := Rows 2 H v (ms.map mvRow)
theorem Mvs.le {H H' : Hp} {v : AV} {xs : List Mv} (h : Mvs H v xs) (hle : HLe H H') : Mvs H' v xs := Rows.le h hle
theorem Mvs.len {H : Hp} {v : AV} {xs : List Mv} (h : Mvs H v xs) : lenV v = .int .i64 xs.length := by simpa using Rows.len h
theorem Mvs.slc {H : Hp} {v : AV} {xs : List Mv} (h : Mvs H v xs) : slC v := Rows.slc h
theorem Mvs.get {H : Hp} {v : AV} {xs : List Mv} (h : Mvs H v xs) {j : Nat} (hj : j < xs.length) :
    ∃ o i ob, v = .sl o i xs.length ∧ H.at o = some ob ∧ ob.esz = 2 ∧ ob.rows[i + j]? = some [.int .i64 xs[j].1, .str xs[j].2] := by
  obtain ⟨o, i, ob, h1, h2, h3, h4⟩ := Rows.get h (j := j) (by simpa using hj)
  exact ⟨o, i, ob, by simpa using h1, h2, h3, by simpa [mvRow] using h4⟩

theorem szMove_ok (at_ : Int) (tx : ByteArray) (left : Int) (H : Hp) (hl : 0 ≤ left ∧ left ≤ 1048576) (hs : tx.size < 4611686018427387904) :
    AC Try.prog E 28 [.ag [.int .i64 at_, .str tx], .int .i64 left] H (fun v H' => v = .int .i64 (if (tx.size : Int) ≤ left then left - tx.size else -1) ∧ H' = H) := by
  refine AC_byp (CLe.refl _) h_laws_szMove (by simp) ?_
  have hw0 : IntKind.i64.wrap (left - tx.size) = left - tx.size := wrap64 (by omega) (by omega)
  simp [c_laws_szMove, hw0]
  refine c_split (fun hq => ?_) (fun hq => ?_) <;> simp at hq <;> simp
  · intro _
    omega
  · intro _
    omega

def szM (xs : List Mv) : Nat := szL (xs.map (·.2))
theorem szM_take (xs : List Mv) {i : Nat} (h : i < xs.length) : szM (xs.take (i + 1)) = szM (xs.take i) + xs[i].2.size := by
  have := szL_take (xs.map (·.2)) (i := i) (by simpa using h)
  simpa [szM, List.map_take] using this
theorem szM_le (xs : List Mv) (i : Nat) : szM (xs.take i) ≤ szM xs := by
  have := szL_le (xs.map (·.2)) i
  simpa [szM, List.map_take] using this

theorem szMoveS_ok (a : AV) (xs : List Mv) (left : Int) (H : Hp) (ha : Mvs H a xs) (hl : 0 ≤ left ∧ left ≤ 1048576) (hx : xs.length < 4611686018427387904) (hs : ∀ s ∈ xs, s.2.size < 4611686018427387904) :
    AC Try.prog E 17 [a, .int .i64 left] H (fun v H' => v = .int .i64 (if (xs.length : Int) + szM xs ≤ left then left - xs.length - szM xs else -1) ∧ H' = H) := by
  refine AC_byp (CLe.refl _) h_laws_szMoveS (by simp) ?_
  have l1 := ha.len
  have hw0 : IntKind.i64.wrap (left - xs.length) = left - xs.length := wrap64 (by omega) (by omega)
  simp [c_laws_szMoveS, l1, ha.slc, hw0]
  refine c_split (fun hq => ?_) (fun hq => ?_) <;> simp at hq <;> simp
  · intro _
    omega
  · refine W_for (fun k t H' => ∃ i : Nat, i + k = xs.length ∧ t 0 = a ∧ t 1 = .int .i64 (left - xs.length - szM (xs.take i)) ∧ t 5 = .int .i64 i ∧ 0 ≤ left - xs.length - szM (xs.take i) ∧ HLe H H') xs.length ?_ AC_mono ?_
    · exact ⟨0, by simp [szM, szL]; omega⟩
    rintro k t H' ⟨i, hik, h0, h1, h5, hp, hle⟩
    simp [h0, h1, h5, l1, ha.slc]
    refine c_split (fun hq2 => ?_) (fun hq2 => ?_) <;> simp at hq2
    · have hw := wrapN (i := i) (by omega)
      obtain ⟨o1, i1, ob1, rfl, a1, a2, a3⟩ := (ha.le hle).get hq2
      have hsz := hs _ (List.getElem_mem hq2)
      have hst := szM_take xs hq2
      simp [h0, h1, h5, a1, a2, a3, hq2]
      refine callG_use (szMove_ok _ _ _ H' ⟨by omega, by omega⟩ hsz) ?_
      simp [h0, h1, h5]
      refine c_split (fun hq3 => ?_) (fun hq3 => ?_) <;> simp at hq3 <;> simp [h0, h1, h5, hw, hle]
      · have := szM_le xs (i + 1)
        intro _
        split at hq3 <;> omega
      · split at hq3
        · refine ⟨k - 1, by omega, i + 1, by omega, ?_, by omega, by omega⟩
          rw [if_pos (by omega)]
          omega
        · omega
    · have : i = xs.length := by omega
      subst this
      simp at hp
      simp [h0, h1, h5, hle]
      intro _
      omega

theorem toStringS_ok (a : AV) (xs : List ByteArray) (H : Hp) (ha : Strs H a xs) (hx : xs.length ≤ 1048576) :
    AC Try.prog E 19 [a] H (Fresh H ⟨xs.map strRow, 1, 9, false⟩) := by
  refine AC_by fol (CLe.refl _) h_laws_toStringS ?_
  have l1 := ha.len
  simp [c_laws_toStringS, l1, ha.slc]
  refine ⟨by omega, ?_⟩
  rw [if_pos (by omega)]
  simp
  refine W_for (fun k t H' => ∃ i : Nat, i + k = xs.length ∧ t 0 = a ∧ t 3 = .sl H.length 0 xs.length ∧ t 4 = .int .i64 i ∧ H' = H ++ [some ⟨fillR strRow [.str ⟨#[]⟩] xs i, 1, 9, false⟩]) xs.length ?_ AC_mono ?_
  · exact ⟨0, by simp [fillR_0]⟩
  rintro k t H' ⟨i, hik, h0, h3, h4, rfl⟩
  simp [h0, h3, h4, l1, ha.slc]
  refine c_split (fun hq2 => ?_) (fun hq2 => ?_) <;> simp at hq2
  · have hw := wrapN (i := i) (by omega)
    obtain ⟨o1, i1, ob1, rfl, a1, a2, a3⟩ := (ha.le (HLe.self H [some ⟨fillR strRow [.str ⟨#[]⟩] xs i, 1, 9, false⟩])).get hq2
    have hs := fillR_set (f := strRow) (z := [.str ⟨#[]⟩]) hq2
    simp [h0, h3, h4, a1, a2, a3, hq2, fillR_get hq2, hw]
    exact ⟨k - 1, by omega, i + 1, by omega, by omega, hs⟩
  · have : i = xs.length := by omega
    subst this
    simp [h3, fillR_n]
    exact ⟨HLe.self _ _, H.length, by simp, Nat.le_refl _, by simp⟩

theorem toMove_ok (at_ : Int) (tx : ByteArray) (H : Hp) :
    AC Try.prog E 30 [.ag [.int .i64 at_, .str tx]] H (fun v H' => v = .ag [.int .i64 at_, .str tx] ∧ H' = H) := by
  refine AC_byp (CLe.refl _) h_laws_toMove (by simp) ?_
  simp [c_laws_toMove]

theorem toMoveS_ok (a : AV) (xs : List Mv) (H : Hp) (ha : Mvs H a xs) (hx : xs.length ≤ 1048576) :
    AC Try.prog E 20 [a] H (Fresh H ⟨xs.map mvRow, 2, 44, false⟩) := by
  refine AC_by fol (CLe.refl _) h_laws_toMoveS ?_
  have l1 := ha.len
  simp [c_laws_toMoveS, l1, ha.slc]
  refine ⟨by omega, ?_⟩
  rw [if_pos (by omega)]
  simp
  refine W_for (fun k t H' => ∃ i : Nat, i + k = xs.length ∧ t 0 = a ∧ t 3 = .sl H.length 0 xs.length ∧ t 4 = .int .i64 i ∧ H' = H ++ [some ⟨fillR mvRow [.int .i64 0, .str ⟨#[]⟩] xs i, 2, 44, false⟩]) xs.length ?_ AC_mono ?_
  · exact ⟨0, by simp [fillR_0]⟩
  rintro k t H' ⟨i, hik, h0, h3, h4, rfl⟩
  simp [h0, h3, h4, l1, ha.slc]
  refine c_split (fun hq2 => ?_) (fun hq2 => ?_) <;> simp at hq2
  · have hw := wrapN (i := i) (by omega)
    obtain ⟨o1, i1, ob1, rfl, a1, a2, a3⟩ := (ha.le (HLe.self H [some ⟨fillR mvRow [.int .i64 0, .str ⟨#[]⟩] xs i, 2, 44, false⟩])).get hq2
    have hs := fillR_set (f := mvRow) (z := [.int .i64 0, .str ⟨#[]⟩]) hq2
    simp [h0, h3, h4, a1, a2, a3, hq2, fillR_get hq2]
    refine callG_use (toMove_ok _ _ _) ?_
    simp [h0, h3, h4, a1, a2, a3, hq2, fillR_get hq2, hw]
    exact ⟨k - 1, by omega, i + 1, by omega, by omega, hs⟩
  · have : i = xs.length := by omega
    subst this
    simp [h3, fillR_n]
    exact ⟨HLe.self _ _, H.length, by simp, Nat.le_refl _, by simp⟩

theorem eqMove_ok (m n : Mv) (H : Hp) :
    AC Try.prog E 33 [.ag (mvRow m), .ag (mvRow n)] H (fun v H' => v = .bool (decide (m = n)) ∧ H' = H) := by
  refine AC_byp (CLe.refl _) h_laws_eqMove (by simp) ?_
  obtain ⟨m1, m2⟩ := m
  obtain ⟨n1, n2⟩ := n
  simp [c_laws_eqMove, mvRow]
  refine c_split (fun hq => ?_) (fun hq => ?_) <;> simp at hq <;> simp
  · intro h
    exact absurd h hq
  · refine c_split (fun hq2 => ?_) (fun hq2 => ?_) <;> simp at hq2 <;> simp [hq, hq2]

theorem eqMoveS_ok (a b : AV) (xs ys : List Mv) (H : Hp) (ha : Mvs H a xs) (hb : Mvs H b ys) (hx : xs.length < 9223372036854775807) : AC Try.prog E 22 [a, b] H (fun v H' => v = .bool (decide (xs = ys)) ∧ H' = H) := by
  refine AC_byp (CLe.refl _) h_laws_eqMoveS (by simp) ?_
  have l1 := ha.len
  have l2 := hb.len
  simp [c_laws_eqMoveS, l1, l2, ha.slc, hb.slc]
  refine c_split (fun hq => ?_) (fun hq => ?_) <;> simp at hq <;> simp
  · intro h
    subst h
    exact hq rfl
  · refine W_for (fun k t H' => ∃ i : Nat, i + k = xs.length ∧ t 0 = a ∧ t 1 = b ∧ t 5 = .int .i64 i ∧ (∀ j : Nat, j < i → xs[j]? = ys[j]?) ∧ HLe H H') xs.length ?_ AC_mono ?_
    · exact ⟨0, by simp⟩
    rintro k t H' ⟨i, hik, h0, h1, h5, hI, hle⟩
    simp [h0, h1, h5, l1, ha.slc]
    refine c_split (fun hq2 => ?_) (fun hq2 => ?_) <;> simp at hq2
    · have hw := wrapN (i := i) (by omega)
      obtain ⟨o1, i1, ob1, rfl, a1, a2, a3⟩ := (ha.le hle).get hq2
      obtain ⟨o2, i2, ob2, rfl, b1, b2, b3⟩ := (hb.le hle).get (j := i) (by omega)
      simp [h0, h1, h5, a1, a2, a3, b1, b2, b3, hq2, ← hq]
      refine callG_use (eqMove_ok xs[i] ys[i] H') ?_
      simp
      refine c_split (fun hq3 => ?_) (fun hq3 => ?_) <;> simp at hq3 <;> simp [h0, h1, h5, hw, hle]
      · intro h
        subst h
        exact hq3 rfl
      · refine ⟨k - 1, by omega, i + 1, by omega, by omega, fun j hj => ?_⟩
        rcases Nat.lt_or_ge j i with h | h
        · exact hI j h
        · have : j = i := by omega
          subst this
          rw [List.getElem?_eq_getElem hq2, List.getElem?_eq_getElem (by omega), hq3]
    · simp [hle]
      apply List.ext_getElem?
      intro j
      rcases Nat.lt_or_ge j i with h | h
      · exact hI j h
      · rw [List.getElem?_eq_none (by omega), List.getElem?_eq_none (by omega)]

/-- The digits of a mark. -/
def markB (k : Int) : ByteArray := strOf [IntKind.u8.wrap (IntKind.i64.wrap (48 + k.tmod 10))]
def markL : Nat → Int → ByteArray → ByteArray
  | 0, _, out => out
  | f + 1, k, out => if 0 < k then markL f (IntKind.i64.wrap (k.tdiv 10)) (markB k ++ out) else out
def markT (k : Int) : ByteArray := if k ≤ 0 then ⟨#[109, 48]⟩ else ⟨#[109]⟩ ++ markL k.toNat k ⟨#[]⟩
theorem markB_size (k : Int) : (markB k).size = 1 := by simp [markB, strOf, ByteArray.size_push]
theorem markL_size : ∀ (f : Nat) (k : Int) (out : ByteArray), (markL f k out).size ≤ out.size + f
  | 0, k, out => by simp [markL]
  | f + 1, k, out => by
    simp only [markL]
    split
    · have := markL_size f (IntKind.i64.wrap (k.tdiv 10)) (markB k ++ out)
      rw [ByteArray.size_append, markB_size] at this
      omega
    · omega
theorem tdiv10 {k : Int} (h : 0 < k) (h2 : k < 9223372036854775807) : IntKind.i64.wrap (k.tdiv 10) = k / 10 := by
  have e : k.tdiv 10 = k / 10 := Int.tdiv_eq_ediv_of_nonneg (by omega)
  rw [e, wrap64 (by omega) (by omega)]

theorem markText_ok (K : Int) (H : Hp) (hK : K < 4611686018427387904) : AC Try.prog E 27 [.int .i64 K] H (fun v H' => v = .str (markT K) ∧ H' = H) := by
  refine AC_byp (CLe.refl _) h_laws_markText (by simp) ?_
  simp [c_laws_markText]
  refine c_split (fun hq => ?_) (fun hq => ?_) <;> simp at hq <;> simp
  · simp [markT, hq]
  · refine W_for (fun f t H' => ∃ kt out, t 0 = .int .i64 kt ∧ t 3 = .str out ∧ markL f kt out = markL K.toNat K ⟨#[]⟩ ∧ kt ≤ f ∧ 0 ≤ kt ∧ (out.size : Int) + kt ≤ K ∧ HLe H H') K.toNat ?_ AC_mono ?_
    · exact ⟨K, ⟨#[]⟩, by simp, by simp, rfl, by omega, by omega, by simp [ByteArray.size], HLe.refl _⟩
    rintro f t H' ⟨kt, out, h0, h3, hm, hf, hk0, hsz, hle⟩
    simp [h0, h3]
    refine c_split (fun hq2 => ?_) (fun hq2 => ?_) <;> simp at hq2
    · obtain ⟨f, rfl⟩ : ∃ g, f = g + 1 := ⟨f - 1, by omega⟩
      have e1 : strOf [IntKind.u8.wrap (IntKind.i64.wrap (48 + kt.tmod 10))] = markB kt := rfl
      simp only [markL, if_pos hq2] at hm
      simp [h0, h3, e1]
      have hd := tdiv10 (k := kt) hq2 (by omega)
      have hb := markB_size kt
      exact ⟨by omega, f, by omega, hm, by omega, by omega, by omega, hle.app _⟩
    · have : kt = 0 := by omega
      subst this
      have hend : markL f 0 out = out := by cases f <;> simp [markL]
      have hs2 := markL_size K.toNat K ⟨#[]⟩
      rw [hend] at hm
      simp [h0, h3, hle]
      have e0 : (⟨#[109]⟩ : ByteArray).size = 1 := rfl
      refine ⟨by omega, ?_⟩
      unfold markT
      rw [if_neg (by omega), hm]

def markR (k : Int) (j : Nat) : List AV := [.str (markT (k + j))]
theorem markStringS_ok (o : Nat) (R : List (List AV)) (e : Nat) (K : Int) (H : Hp) (ho : H.at o = some ⟨R, 1, e, false⟩) (hR : ∀ r ∈ R, r.length = 1) (hK : 0 ≤ K ∧ K < 1152921504606846976) (hn : R.length < 1152921504606846976) :
    AC Try.prog E 14 [.sl o 0 R.length, .int .i64 K] H (fun v H' => v = .int .i64 (K + R.length) ∧ H' = List.set H o (some ⟨(List.range R.length).map (markR K), 1, e, false⟩)) := by
  refine AC_by fol (CLe.refl _) h_laws_markStringS ?_
  have hlt := Hp.at_lt ho
  simp [c_laws_markStringS]
  refine W_for (fun k t H' => ∃ i : Nat, i + k = R.length ∧ t 0 = .sl o 0 R.length ∧ t 1 = .int .i64 (K + i) ∧ t 5 = .int .i64 i ∧ H' = List.set H o (some ⟨overR (markR K) R i, 1, e, false⟩)) R.length ?_ AC_mono ?_
  · exact ⟨0, by simp [overR_0, Hp.set_self ho]⟩
  rintro k t H' ⟨i, hik, h0, h1, h5, rfl⟩
  simp [h0, h1, h5]
  refine c_split (fun hq2 => ?_) (fun hq2 => ?_) <;> simp at hq2
  · have hw := wrapN (i := i) (by omega)
    have hw2 : IntKind.i64.wrap (K + i + 1) = K + ((i + 1 : Nat) : Int) := by rw [wrap64 (by omega) (by omega)]; omega
    have hs := overR_set (f := markR K) hq2
    have hrl := hR _ (List.getElem_mem hq2)
    obtain ⟨x, hx⟩ := List.length_eq_one_iff.1 hrl
    simp [h0, h1, h5]
    refine callG_use (markText_ok _ _ (by omega)) ?_
    simp [h0, h1, h5, Hp.at_set _ hlt, overR_get hq2, hx, hq2, hw, hw2]
    refine ⟨k - 1, by omega, i + 1, by omega, by omega, ?_⟩
    rw [← hs]
    rfl
  · have : i = R.length := by omega
    subst this
    simp [h1, overR_n]

theorem markStringS_own (v : AV) (R : List (List AV)) (e : Nat) (K : Int) (H : Hp) (ho : OwnR 1 e H v R) (hR : ∀ r ∈ R, r.length = 1) (hK : 0 ≤ K ∧ K < 1152921504606846976) (hn : R.length < 1152921504606846976) :
    AC Try.prog E 14 [v, .int .i64 K] H (fun u H' => u = .int .i64 (K + R.length) ∧ But v H H' ∧ OwnR 1 e H' v ((List.range R.length).map (markR K))) := by
  rcases ho with ⟨rfl, rfl⟩ | ⟨o, rfl, ho⟩
  · refine AC_by fol (CLe.refl _) h_laws_markStringS ?_
    simp [c_laws_markStringS]
    refine W_for (fun k t H' => t 0 = .nils ∧ t 1 = .int .i64 K ∧ t 5 = .int .i64 0 ∧ H' = H) 0 (by simp) AC_mono ?_
    rintro k t H' ⟨h0, h1, h5, rfl⟩
    simp [h0, h1, h5, But.refl, OwnR]
  · exact (markStringS_ok o R e K H ho hR hK hn).mono (fun u H' hh => ⟨hh.1, hh.2 ▸ But.set _ _ _ _ _, .inr ⟨o, by simp, by rw [hh.2, Hp.at_set _ (Hp.at_lt ho)]⟩⟩)

theorem heldStringS_ok (a : AV) (xs : List ByteArray) (K : Int) (H : Hp) (ha : Strs H a xs) (hK : 0 ≤ K ∧ K < 1152921504606846976) (hn : xs.length < 1152921504606846976) (hx : ∀ (j : Nat) (h : j < xs.length), xs[j] = markT (K + j)) :
    AC Try.prog E 15 [a, .int .i64 K] H (fun v H' => v = .int .i64 (K + xs.length) ∧ H' = H) := by
  refine AC_byp (CLe.refl _) h_laws_heldStringS (by simp) ?_
  have l1 := ha.len
  simp [c_laws_heldStringS]
  refine W_for (fun k t H' => ∃ i : Nat, i + k = xs.length ∧ t 0 = a ∧ t 1 = .int .i64 (K + i) ∧ t 5 = .int .i64 i ∧ HLe H H') xs.length ?_ AC_mono ?_
  · exact ⟨0, by simp⟩
  rintro k t H' ⟨i, hik, h0, h1, h5, hle⟩
  simp [h0, h1, h5, l1, ha.slc]
  refine c_split (fun hq2 => ?_) (fun hq2 => ?_) <;> simp at hq2
  · have hw := wrapN (i := i) (by omega)
    have hw2 : IntKind.i64.wrap (K + i + 1) = K + ((i + 1 : Nat) : Int) := by rw [wrap64 (by omega) (by omega)]; omega
    obtain ⟨o1, i1, ob1, rfl, a1, a2, a3⟩ := (ha.le hle).get hq2
    simp [h0, h1, h5, a1, a2, a3, hq2]
    refine callG_use (markText_ok _ _ (by omega)) ?_
    simp [h0, h1, h5, a1, a2, a3, hq2, hx i hq2, hw, hw2, hle]
    exact ⟨k - 1, by omega, i + 1, by omega, by omega⟩
  · have : i = xs.length := by omega
    subst this
    simp [h1, hle]

end Go.Proofs.Ytkdnijiipegabaa.B

namespace Go.Proofs.Ytkdnijiipegabaa.B
open Go.RowKit Go.Proofs
set_option linter.unusedVariables false
set_option linter.unusedSimpArgs false
variable {E : Env}

theorem clone_ok (o : Nat) (R : List (List AV)) (e : Nat) (ro : Bool) (H : Hp) (ho : H.at o = some ⟨R, 1, e, ro⟩) (hn : R.length ≤ 1048576) :
    AC Try.prog E 31 [.sl o 0 R.length] H (Fresh H ⟨R, 1, 9, false⟩) := by
  refine AC_by fol (CLe.refl _) h_slices_Clone_Sstring_string ?_
  have hlt := Hp.at_lt ho
  have hb : R.length * 16 ≤ 140737488355328 := by omega
  simp [-R_appG, R_app, RA_app, c_slices_Clone_Sstring_string, Hp.at_app _ hlt, ho, hn, hb]
  exact ⟨HLe.self _ _, H.length + 1, by simp, by omega, by simp⟩

def cutT (bytes : Int) (tx : ByteArray) : ByteArray := tx.extract 0 (min (max bytes 0) tx.size).toNat
def doAt (bytes : Int) (ms : List Mv) (d : List ByteArray) (i : Nat) : List ByteArray :=
  match ms[i]? with
  | some m => if 0 ≤ m.1 ∧ m.1 ≤ (d.length : Int) - 1 then d.set m.1.toNat (if i + 1 = ms.length then cutT bytes m.2 else m.2) else d
  | none => d
def doTo (bytes : Int) (ms : List Mv) (d : List ByteArray) : Nat → List ByteArray
  | 0 => d
  | i + 1 => doAt bytes ms (doTo bytes ms d i) i
theorem doAt_len (bytes : Int) (ms : List Mv) (d : List ByteArray) (i : Nat) : (doAt bytes ms d i).length = d.length := by
  unfold doAt
  split
  · split <;> simp
  · rfl
theorem doTo_len (bytes : Int) (ms : List Mv) (d : List ByteArray) : ∀ i, (doTo bytes ms d i).length = d.length
  | 0 => rfl
  | i + 1 => by rw [doTo, doAt_len, doTo_len bytes ms d i]

theorem specDo_ok (o : Nat) (xs : List ByteArray) (e : Nat) (ro : Bool) (b : AV) (ms : List Mv) (bytes : Int) (H : Hp) (ho : H.at o = some ⟨xs.map strRow, 1, e, ro⟩) (hn : xs.length ≤ 1048576) (hb : Mvs H b ms) (hm : ms.length ≤ 1048576) :
    AC Try.prog E 18 [.sl o 0 xs.length, b, .int .i64 bytes] H (Fresh H ⟨(doTo bytes ms xs ms.length).map strRow, 1, 9, false⟩) := by
  refine AC_by fol (CLe.refl _) h_spec_DiskDo ?_
  have hlt := Hp.at_lt ho
  have hb1 : xs.length * 16 ≤ 140737488355328 := by omega
  have l1 := hb.len
  have ht : (xs.map strRow).take xs.length = xs.map strRow := List.take_of_length_le (by simp)
  simp [-R_appG, R_app, RA_app, c_spec_DiskDo, Hp.at_app _ hlt, ho, hn, hb1]
  refine W_for (fun k t H' => ∃ i : Nat, i + k = ms.length ∧ t 1 = b ∧ t 2 = .int .i64 bytes ∧ t 7 = .sl (H.length + 1) 0 xs.length ∧ t 8 = .int .i64 i ∧ H' = H ++ [none, some ⟨(doTo bytes ms xs i).map strRow, 1, 9, false⟩]) ms.length ?_ AC_mono ?_
  · exact ⟨0, by simp [doTo, ht]⟩
  rintro k t H' ⟨i, hik, h1, h2, h7, h8, rfl⟩
  simp [h1, h2, h7, h8, l1, hb.slc]
  refine c_split (fun hq2 => ?_) (fun hq2 => ?_) <;> simp at hq2
  · have hw := wrapN (i := i) (by omega)
    obtain ⟨o1, i1, ob1, rfl, a1, a2, a3⟩ := (hb.le (HLe.self H [none, some ⟨(doTo bytes ms xs i).map strRow, 1, 9, false⟩])).get hq2
    have hrow : (xs.length : Int) = (doTo bytes ms xs i).length := by rw [doTo_len]
    have hstep : doTo bytes ms xs (i + 1) = doAt bytes ms (doTo bytes ms xs i) i := rfl
    have hmi : ms[i]? = some ms[i] := List.getElem?_eq_getElem hq2
    have hsub : IntKind.i64.wrap ((xs.length : Int) - 1) = xs.length - 1 := wrap64 (by omega) (by omega)
    simp [h1, h2, h7, h8, a1, a2, a3, hq2, hw]
    have fin : ∀ tx, (if i + 1 = ms.length then cutT bytes ms[i].2 else ms[i].2) = tx → 0 ≤ ms[i].1 → ms[i].1 ≤ (xs.length : Int) - 1 → ((doTo bytes ms xs i).map strRow).set ms[i].1.toNat [.str tx] = (doTo bytes ms xs (i + 1)).map strRow := by
      intro tx htx c1 c2
      rw [hstep]
      unfold doAt
      simp only [hmi]
      rw [if_pos ⟨c1, by rw [← hrow]; exact c2⟩, htx, List.map_set]
      rfl
    have fin2 : ¬ (0 ≤ ms[i].1 ∧ ms[i].1 ≤ (xs.length : Int) - 1) → doTo bytes ms xs (i + 1) = doTo bytes ms xs i := by
      intro c
      rw [hstep]
      unfold doAt
      simp only [hmi]
      rw [if_neg (by rw [← hrow]; exact c)]
    have got : 0 ≤ ms[i].1 → ms[i].1 ≤ (xs.length : Int) - 1 → ∃ y, (doTo bytes ms xs i)[ms[i].1.toNat]? = some y := fun c1 c2 => ⟨_, List.getElem?_eq_getElem (by have := doTo_len bytes ms xs i; omega)⟩
    refine c_split (fun hq3 => ?_) (fun hq3 => ?_) <;> simp at hq3 <;> simp [h1, h2, h7, h8, a1, a2, a3, hq2, hw, hsub]
    · have hcut : cutT bytes ms[i].2 = ms[i].2.extract 0 (if (ms[i].2.size : Int) < (if bytes < 0 then 0 else bytes) then (ms[i].2.size : Int) else (if bytes < 0 then 0 else bytes)).toNat := by
        unfold cutT
        congr 2
        split <;> split <;> omega
      refine ⟨by split <;> split <;> omega, ?_⟩
      refine callG_use (l6In_ok _ _ _ _) ?_
      simp [h1, h2, h7, h8, a1, a2, a3, hq2, hw, hsub]
      refine c_split (fun hq4 => ?_) (fun hq4 => ?_) <;> simp at hq4
      · obtain ⟨y, hy⟩ := got hq4.1 hq4.2
        have hlt2 : ms[i].1 < xs.length := by omega
        simp [h1, h2, h7, h8, a1, a2, a3, hq2, hw, hsub, hq4.1, hlt2, hy, strRow]
        exact ⟨k - 1, by omega, i + 1, by omega, by omega, fin _ (by rw [if_pos (by omega), hcut]) hq4.1 hq4.2⟩
      · simp [h1, h2, h7, h8, a1, a2, a3, hq2, hw, hsub]
        exact ⟨k - 1, by omega, i + 1, by omega, by omega, by rw [fin2 (fun c => by have := hq4 c.1; omega)]⟩
    · refine callG_use (l6In_ok _ _ _ _) ?_
      simp [h1, h2, h7, h8, a1, a2, a3, hq2, hw, hsub]
      refine c_split (fun hq4 => ?_) (fun hq4 => ?_) <;> simp at hq4
      · obtain ⟨y, hy⟩ := got hq4.1 hq4.2
        have hlt2 : ms[i].1 < xs.length := by omega
        simp [h1, h2, h7, h8, a1, a2, a3, hq2, hw, hsub, hq4.1, hlt2, hy, strRow]
        exact ⟨k - 1, by omega, i + 1, by omega, by omega, fin _ (if_neg (by omega)) hq4.1 hq4.2⟩
      · simp [h1, h2, h7, h8, a1, a2, a3, hq2, hw, hsub]
        exact ⟨k - 1, by omega, i + 1, by omega, by omega, by rw [fin2 (fun c => by have := hq4 c.1; omega)]⟩
  · have : i = ms.length := by omega
    subst this
    simp [h7]
    exact ⟨HLe.self _ _, H.length + 1, by simp [doTo_len], by omega, by simp⟩

theorem overR_len {f : Nat → List AV} {R : List (List AV)} {i : Nat} (h : i ≤ R.length) : (overR f R i).length = R.length := by
  simp [overR]
  omega
def markM (k : Int) (j : Nat) : List AV := [.int .i64 (k + 2 * j), .str (markT (k + 2 * j + 1))]
theorem markMoveS_ok (o : Nat) (R : List (List AV)) (e : Nat) (K : Int) (H : Hp) (ho : H.at o = some ⟨R, 2, e, false⟩) (hR : ∀ r ∈ R, r.length = 2) (hK : 0 ≤ K ∧ K < 1152921504606846976) (hn : R.length < 115292150460684697) :
    AC Try.prog E 23 [.sl o 0 R.length, .int .i64 K] H (fun v H' => v = .int .i64 (K + 2 * R.length) ∧ H' = List.set H o (some ⟨(List.range R.length).map (markM K), 2, e, false⟩)) := by
  refine AC_by fol (CLe.refl _) h_laws_markMoveS ?_
  have hlt := Hp.at_lt ho
  simp [c_laws_markMoveS]
  refine W_for (fun k t H' => ∃ i : Nat, i + k = R.length ∧ t 0 = .sl o 0 R.length ∧ t 1 = .int .i64 (K + 2 * i) ∧ t 5 = .int .i64 i ∧ H' = List.set H o (some ⟨overR (markM K) R i, 2, e, false⟩)) R.length ?_ AC_mono ?_
  · exact ⟨0, by simp [overR_0, Hp.set_self ho]⟩
  rintro k t H' ⟨i, hik, h0, h1, h5, rfl⟩
  simp [h0, h1, h5]
  refine c_split (fun hq2 => ?_) (fun hq2 => ?_) <;> simp at hq2
  · have hw := wrapN (i := i) (by omega)
    have hw2 : IntKind.i64.wrap (K + 2 * i + 1) = K + 2 * i + 1 := wrap64 (by omega) (by omega)
    have hw3 : IntKind.i64.wrap (K + 2 * i + 1 + 1) = K + 2 * ((i + 1 : Nat) : Int) := by rw [wrap64 (by omega) (by omega)]; omega
    have hs := overR_set (f := markM K) hq2
    have hl := overR_len (f := markM K) (R := R) (i := i) (by omega)
    have hrl := hR _ (List.getElem_mem hq2)
    obtain ⟨x, y, hx⟩ : ∃ x y, R[i] = [x, y] := by
      match hR2 : R[i], hrl with
      | [x, y], _ => exact ⟨x, y, rfl⟩
    simp [h0, h1, h5, Hp.at_set _ hlt, overR_get hq2, hx, hq2, hw2]
    refine callG_use (markText_ok _ _ (by omega)) ?_
    simp [h0, h1, h5, Hp.at_set _ hlt, overR_get hq2, hx, hq2, hl, hw, hw2, hw3]
    refine ⟨k - 1, by omega, i + 1, by omega, by omega, by omega, ?_⟩
    rw [← hs]
    rfl
  · have : i = R.length := by omega
    subst this
    simp [h1, overR_n]

theorem markMoveS_own (v : AV) (R : List (List AV)) (e : Nat) (K : Int) (H : Hp) (ho : OwnR 2 e H v R) (hR : ∀ r ∈ R, r.length = 2) (hK : 0 ≤ K ∧ K < 1152921504606846976) (hn : R.length < 115292150460684697) :
    AC Try.prog E 23 [v, .int .i64 K] H (fun u H' => u = .int .i64 (K + 2 * R.length) ∧ But v H H') := by
  rcases ho with ⟨rfl, rfl⟩ | ⟨o, rfl, ho⟩
  · refine AC_by fol (CLe.refl _) h_laws_markMoveS ?_
    simp [c_laws_markMoveS]
    refine W_for (fun k t H' => t 0 = .nils ∧ t 1 = .int .i64 K ∧ t 5 = .int .i64 0 ∧ H' = H) 0 (by simp) AC_mono ?_
    rintro k t H' ⟨h0, h1, h5, rfl⟩
    simp [h0, h1, h5, But.refl]
  · exact (markMoveS_ok o R e K H ho hR hK hn).mono (fun u H' hh => ⟨hh.1, hh.2 ▸ But.set _ _ _ _ _⟩)

end Go.Proofs.Ytkdnijiipegabaa.B

namespace Go.Proofs.Ytkdnijiipegabaa.B
open Go.RowKit Go.Proofs
set_option linter.unusedVariables false
set_option linter.unusedSimpArgs false
variable {E : Env}

theorem implDo_ok (o : Nat) (xs : List ByteArray) (e : Nat) (ro : Bool) (b : AV) (ms : List Mv) (bytes : Int) (H : Hp) (ho : H.at o = some ⟨xs.map strRow, 1, e, ro⟩) (hn : xs.length ≤ 1048576) (hb : Mvs H b ms) (hm : ms.length ≤ 1048576) :
    AC Try.prog E 21 [.sl o 0 xs.length, b, .int .i64 bytes] H (fun v H' => (xs = [] ∧ v = .nils ∧ HLe H H') ∨ Fresh H ⟨(doTo bytes ms xs ms.length).map strRow, 1, 9, false⟩ v H') := by
  refine AC_by fol (CLe.refl _) h_impl_DiskDo ?_
  have l1 := hb.len
  simp [c_impl_DiskDo]
  have hcl := clone_ok (E := E) o (xs.map strRow) e ro H ho (by simpa using hn)
  rw [List.length_map] at hcl
  refine callG_ex hcl ?_
  rintro v H1 ⟨hle1, oo, rfl, hoo, hat⟩
  simp [l1, hb.slc]
  refine W_for (fun k t H' => ∃ i : Nat, i + k = ms.length ∧ t 1 = b ∧ t 2 = .int .i64 bytes ∧ t 7 = .sl oo 0 xs.length ∧ t 13 = b ∧ t 14 = .int .i64 ms.length ∧ t 15 = .int .i64 i ∧ HLe H H' ∧ H'.at oo = some ⟨(doTo bytes ms xs i).map strRow, 1, 9, false⟩) ms.length ?_ AC_mono ?_
  · exact ⟨0, by simp [doTo, hle1, hat]⟩
  rintro k t H' ⟨i, hik, h1, h2, h7, h13, h14, h15, hle, hato⟩
  simp [h1, h2, h7, h13, h14, h15, l1, hb.slc]
  refine c_split (fun hq2 => ?_) (fun hq2 => ?_) <;> simp at hq2
  · have hw := wrapN (i := i) (by omega)
    have hoo2 := Hp.at_lt hato
    obtain ⟨o1, i1, ob1, rfl, a1, a2, a3⟩ := (hb.le hle).get hq2
    have ho1 := Hp.at_lt a1
    have hsubm : IntKind.i64.wrap ((ms.length : Int) - 1) = ms.length - 1 := wrap64 (by omega) (by omega)
    have hsub : IntKind.i64.wrap ((xs.length : Int) - 1) = xs.length - 1 := wrap64 (by omega) (by omega)
    have hrow : (xs.length : Int) = (doTo bytes ms xs i).length := by rw [doTo_len]
    have hstep : doTo bytes ms xs (i + 1) = doAt bytes ms (doTo bytes ms xs i) i := rfl
    have hmi : ms[i]? = some ms[i] := List.getElem?_eq_getElem hq2
    have fin : ∀ tx, (if i + 1 = ms.length then cutT bytes ms[i].2 else ms[i].2) = tx → 0 ≤ ms[i].1 → ms[i].1 ≤ (xs.length : Int) - 1 → ((doTo bytes ms xs i).map strRow).set ms[i].1.toNat [.str tx] = (doTo bytes ms xs (i + 1)).map strRow := by
      intro tx htx c1 c2
      rw [hstep]
      unfold doAt
      simp only [hmi]
      rw [if_pos ⟨c1, by rw [← hrow]; exact c2⟩, htx, List.map_set]
      rfl
    have fin2 : ¬ (0 ≤ ms[i].1 ∧ ms[i].1 ≤ (xs.length : Int) - 1) → doTo bytes ms xs (i + 1) = doTo bytes ms xs i := by
      intro c
      rw [hstep]
      unfold doAt
      simp only [hmi]
      rw [if_neg (by rw [← hrow]; exact c)]
    have got : 0 ≤ ms[i].1 → ms[i].1 ≤ (xs.length : Int) - 1 → ∃ y, (doTo bytes ms xs i)[ms[i].1.toNat]? = some y := fun c1 c2 => ⟨_, List.getElem?_eq_getElem (by have := doTo_len bytes ms xs i; omega)⟩
    simp [h1, h2, h7, h13, h14, h15, a1, a2, a3, hq2, hw, hsubm]
    refine c_split (fun hq3 => ?_) (fun hq3 => ?_) <;> simp at hq3 <;> simp [h1, h2, h7, h13, h14, h15, a1, a2, a3, hq2, hw, hsub]
    · have hcut : ∀ z : Int, z = min (max bytes 0) ms[i].2.size → cutT bytes ms[i].2 = ms[i].2.extract 0 z.toNat := by
        intro z hz
        rw [hz]
        rfl
      refine ⟨by split <;> split <;> omega, ?_⟩
      refine callG_use (impl_in_ok _ _ _ _) ?_
      simp [h1, h2, h7, h13, h14, h15, a1, a2, a3, hq2, hw, hsub]
      refine c_split (fun hq4 => ?_) (fun hq4 => ?_) <;> simp at hq4
      · obtain ⟨y, hy⟩ := got hq4.1 hq4.2
        have hlt2 : ms[i].1 < xs.length := by omega
        simp [h1, h2, h7, h13, h14, h15, a1, a2, a3, hq2, hw, hsub, hq4.1, hlt2, hy, strRow, Hp.at_app _ hoo2, hato]
        refine ⟨k - 1, by omega, i + 1, by omega, by omega, (hle.app _).set hoo _, ?_⟩
        rw [Hp.at_set _ (by simp; omega)]
        exact congrArg (fun r => some (⟨r, 1, 9, false⟩ : Ob)) (fin _ (by rw [if_pos (by omega)]; exact hcut _ (by split <;> (try split) <;> omega)) hq4.1 hq4.2)
      · simp [h1, h2, h7, h13, h14, h15, a1, a2, a3, hq2, hw, hsub]
        exact ⟨k - 1, by omega, i + 1, by omega, by omega, hle.app _, by rw [fin2 (fun c => by have := hq4 c.1; omega), Hp.at_app _ hoo2]; exact hato⟩
    · refine callG_use (impl_in_ok _ _ _ _) ?_
      simp [h1, h2, h7, h13, h14, h15, a1, a2, a3, hq2, hw, hsub]
      refine c_split (fun hq4 => ?_) (fun hq4 => ?_) <;> simp at hq4
      · obtain ⟨y, hy⟩ := got hq4.1 hq4.2
        have hlt2 : ms[i].1 < xs.length := by omega
        simp [h1, h2, h7, h13, h14, h15, a1, a2, a3, hq2, hw, hsub, hq4.1, hlt2, hy, strRow, Hp.at_app _ hoo2, hato]
        refine ⟨k - 1, by omega, i + 1, by omega, by omega, (hle.app _).set hoo _, ?_⟩
        rw [Hp.at_set _ (by simp; omega)]
        exact congrArg (fun r => some (⟨r, 1, 9, false⟩ : Ob)) (fin _ (if_neg (by omega)) hq4.1 hq4.2)
      · simp [h1, h2, h7, h13, h14, h15, a1, a2, a3, hq2, hw, hsub]
        exact ⟨k - 1, by omega, i + 1, by omega, by omega, hle.app _, by rw [fin2 (fun c => by have := hq4 c.1; omega), Hp.at_app _ hoo2]; exact hato⟩
  · have : i = ms.length := by omega
    subst this
    have hb1 : xs.length * 16 ≤ 140737488355328 := by omega
    have hl2 := doTo_len bytes ms xs ms.length
    have ht : List.take xs.length ((doTo bytes ms xs ms.length).map strRow) = (doTo bytes ms xs ms.length).map strRow := List.take_of_length_le (by simp [hl2])
    simp [-R_appG, R_app, RA_app, h7, hato, hb1, hl2, ht]
    by_cases hx : xs = []
    · simp [hx, hle]
    · simp [hx]
      exact ⟨hle.app _, H'.length, by simp [hl2], hle.1, by simp⟩

end Go.Proofs.Ytkdnijiipegabaa.B

namespace Go.Proofs.Ytkdnijiipegabaa.B
open Go.RowKit Go.Proofs
set_option linter.unusedVariables false
set_option linter.unusedSimpArgs false
variable {E : Env}

theorem Ty.mvs {H : Hp} {v : AV} (h : Ty H (.kl [.ki .i64, .ks]) v) : ∃ xs : List Mv, Mvs H v xs ∧ xs.length ≤ 140737488351232 ∧ ∀ s ∈ xs, s.2.size ≤ 140737488351232 := by
  obtain ⟨rows, h1, h2, h3⟩ := h.sl
  obtain ⟨xs, rfl, hq⟩ := rows_map (f := mvRow) (Q := fun s => s.2.size ≤ 140737488351232) (fun r hr => by
    obtain ⟨v, us, rfl, a1, a2⟩ := (h3 r hr).cons
    obtain ⟨w, us, rfl, b1, b2⟩ := a2.cons
    obtain ⟨n, rfl, _⟩ := a1.int
    obtain ⟨s, rfl, hs⟩ := b1.str
    rw [b2.nil]
    exact ⟨(n, s), rfl, hs⟩)
  exact ⟨xs, h1, by simpa using h2, hq⟩

theorem exactDiskDo_ok (a b : AV) (xs : List ByteArray) (ms : List Mv) (bytes : Int) (H : Hp) (ha : Strs H a xs) (hb : Mvs H b ms)
    (hx : xs.length < 4611686018427387904) (hs : ∀ s ∈ xs, s.size < 4611686018427387904) (hm : ms.length < 4611686018427387904) (hms : ∀ s ∈ ms, s.2.size < 4611686018427387904) :
    AC Try.prog E 5 [a, b, .int .i64 bytes] H (fun v H' => v = .bool true) := by
  refine AC_by fol (CLe.refl _) h_laws_FnExactDiskDo ?_
  simp [c_laws_FnExactDiskDo]
  refine callG_use (szStringS_ok a xs _ H ha (by omega) hx hs) ?_
  simp
  refine c_split (fun hq => ?_) (fun hq => ?_) <;> simp at hq <;> simp
  have hq1 : (xs.length : Int) + szL xs ≤ 1048576 := by
    split at hq
    · assumption
    · omega
  rw [if_pos hq1] at hq
  simp [hq1]
  refine callG_use (szMoveS_ok b ms _ H hb ⟨by omega, by omega⟩ hm hms) ?_
  simp
  refine c_split (fun hq2 => ?_) (fun hq2 => ?_) <;> simp at hq2 <;> simp
  have hq3 : (ms.length : Int) + szM ms ≤ 1048576 := by
    split at hq2 <;> omega
  refine callG_ex (toStringS_ok a xs H ha (by omega)) ?_
  rintro v1 H1 ⟨hle1, o1, rfl, ho1, hat1⟩
  simp
  refine callG_ex (toMoveS_ok b ms H1 (hb.le hle1) (by omega)) ?_
  rintro v2 H2 ⟨hle2, o2, rfl, ho2, hat2⟩
  simp
  have hat12 := hle2.2 _ _ hat1
  have hMs2 : Mvs H2 (.sl o2 0 ms.length) ms := by simpa [Mvs] using Rows.whole hat2
  refine callG_ex (specDo_ok o1 xs 9 false _ ms bytes H2 hat12 (by omega) hMs2 (by omega)) ?_
  rintro v3 H3 ⟨hle3, o3, rfl, ho3, hat3⟩
  simp
  have haH3 : Strs H3 a xs := ha.le ((hle1.trans hle2).trans hle3)
  refine callG_ex (toStringS_ok a xs H3 haH3 (by omega)) ?_
  rintro v4 H4 ⟨hle4, o4, rfl, ho4, hat4⟩
  simp
  have hbH4 : Mvs H4 b ms := hb.le (((hle1.trans hle2).trans hle3).trans hle4)
  refine callG_ex (toMoveS_ok b ms H4 hbH4 (by omega)) ?_
  rintro v5 H5 ⟨hle5, o5, rfl, ho5, hat5⟩
  simp
  have hat45 := hle5.2 _ _ hat4
  have hMs5 : Mvs H5 (.sl o5 0 ms.length) ms := by simpa [Mvs] using Rows.whole hat5
  refine callG_ex (implDo_ok o4 xs 9 false _ ms bytes H5 hat45 (by omega) hMs5 (by omega)) ?_
  rintro v6 H6 hg
  simp
  have hle6 : HLe H5 H6 := by
    rcases hg with ⟨_, _, h⟩ | h
    · exact h
    · exact h.1
  have hD := doTo_len bytes ms xs ms.length
  have hgS : Strs H6 v6 (doTo bytes ms xs ms.length) := by
    rcases hg with ⟨h1, rfl, _⟩ | ⟨_, o6, rfl, _, hat6⟩
    · exact .inl ⟨rfl, by subst h1; simp at hD; simp [hD]⟩
    · have := Rows.whole hat6
      exact this
  have hwS3 : Strs H3 (.sl o3 0 (doTo bytes ms xs ms.length).length) (doTo bytes ms xs ms.length) := by
    have := Rows.whole hat3
    simp only [List.length_map] at this
    exact this
  have hwS6 := hwS3.le ((hle4.trans hle5).trans hle6)
  refine callG_use (eqStringS_ok _ _ _ _ H6 hgS hwS6 (by omega)) ?_
  simp
  have hle06 : HLe H H6 := ((((hle1.trans hle2).trans hle3).trans hle4).trans hle5).trans hle6
  have hx0S4 : Strs H4 (.sl o4 0 xs.length) xs := by
    have := Rows.whole hat4
    simp only [List.length_map] at this
    exact this
  refine callG_ex (toStringS_ok a xs H6 (ha.le hle06) (by omega)) ?_
  rintro v7 H7 ⟨hle7, o7, rfl, ho7, hat7⟩
  simp
  have hx7 : Strs H7 (.sl o7 0 xs.length) xs := by
    have := Rows.whole hat7
    simp only [List.length_map] at this
    exact this
  refine callG_use (eqStringS_ok _ _ _ _ H7 (hx0S4.le ((hle5.trans hle6).trans hle7)) hx7 (by omega)) ?_
  simp
  refine callG_ex (toMoveS_ok b ms H7 (hb.le (hle06.trans hle7)) (by omega)) ?_
  rintro v8 H8 ⟨hle8, o8, rfl, ho8, hat8⟩
  simp
  have hM8 : Mvs H8 (.sl o8 0 ms.length) ms := by simpa [Mvs] using Rows.whole hat8
  refine callG_use (eqMoveS_ok _ _ _ _ H8 (hMs5.le ((hle6.trans hle7).trans hle8)) hM8 (by omega)) ?_
  simp
  have l34 := hle4.1
  have b1 := Hp.at_lt hat1
  have b2 := Hp.at_lt hat2
  have b3 := Hp.at_lt hat3
  have b4 := Hp.at_lt hat4
  have b5 := Hp.at_lt hat5
  have k2 := hle2.1
  have k3 := hle3.1
  have k5 := hle5.1
  have k6 := hle6.1
  have k7 := hle7.1
  have k8 := hle8.1
  have hle48 := (hle5.trans hle6).trans (hle7.trans hle8)
  have hle58 := hle6.trans (hle7.trans hle8)
  have own4 : OwnR 1 9 H8 (.sl o4 0 xs.length) (xs.map strRow) := .inr ⟨o4, by simp, hle48.2 _ _ hat4⟩
  refine callG_ex (markStringS_own _ _ _ 1 H8 own4 (by simp [strRow]) (by omega) (by simp; omega)) ?_
  rintro u9 H9 ⟨rfl, b9, -⟩
  simp
  have own5 : OwnR 2 44 H9 (.sl o5 0 ms.length) (ms.map mvRow) := OwnR.but (.inr ⟨o5, by simp, hle58.2 _ _ hat5⟩) b9 (fun o => by simp only [AV.of]; omega)
  refine callG_ex (markMoveS_own _ _ _ _ H9 own5 (by intro r hr; obtain ⟨m, _, rfl⟩ := List.mem_map.1 hr; rfl) (by omega) (by simp; omega)) ?_
  rintro u10 H10 ⟨rfl, b10⟩
  simp
  have hnn : ¬ ((1 : Int) + xs.length + 2 * ms.length < 0) := by omega
  simp [hnn]
  have hg8 : OwnR 1 9 H6 v6 ((doTo bytes ms xs ms.length).map strRow) ∧ ∀ o, v6.of o → H5.length ≤ o := by
    rcases hg with ⟨h1, rfl, _⟩ | ⟨_, o6, rfl, ho6, hat6⟩
    · exact ⟨.inl ⟨rfl, by subst h1; simp at hD; simp [hD]⟩, fun o h => h.elim⟩
    · exact ⟨.inr ⟨o6, by simp, hat6⟩, fun o h => by simp only [AV.of] at h; omega⟩
  obtain ⟨own6, fr6⟩ := hg8
  have n46 : ∀ o, (AV.sl o4 0 xs.length).of o → ¬ v6.of o := fun o h h2 => by have := fr6 o h2; simp only [AV.of] at h; omega
  have n56 : ∀ o, (AV.sl o5 0 ms.length).of o → ¬ v6.of o := fun o h h2 => by have := fr6 o h2; simp only [AV.of] at h; omega
  have own10 : OwnR 1 9 H10 v6 ((doTo bytes ms xs ms.length).map strRow) := ((own6.le (hle7.trans hle8)).but b9 n46).but b10 n56
  have hw10 : Strs H10 (.sl o3 0 (doTo bytes ms xs ms.length).length) (doTo bytes ms xs ms.length) :=
    ((hwS6.le (hle7.trans hle8)).but b9 (fun o h h2 => by simp only [AV.of] at h h2; omega)).but b10 (fun o h h2 => by simp only [AV.of] at h h2; omega)
  refine callG_use (eqStringS_ok _ _ _ _ H10 own10.rows hw10 (by omega)) ?_
  simp
  refine callG_ex (markStringS_own _ _ _ 1 H10 own10 (by simp [strRow]) (by omega) (by simp; omega)) ?_
  rintro u11 H11 ⟨rfl, b11, own11⟩
  simp at own11
  simp
  have hmk : Strs H11 v6 ((List.range (doTo bytes ms xs ms.length).length).map fun j => markT (1 + (j : Nat))) := by
    have := own11.rows
    have e : (fun j : Nat => [AV.str (markT (1 + (j : Int)))]) = markR 1 := rfl
    simpa [Strs, Function.comp_def, e] using this
  have hheld := heldStringS_ok (E := E) v6 _ 1 H11 hmk (by omega) (by simp; omega) (by intro j hj; simp)
  simp only [List.length_map, List.length_range] at hheld
  refine callG_use hheld ?_
  have hn2 : ¬ ((1 : Int) + (doTo bytes ms xs ms.length).length < 0) := by omega
  simp [hn2]
  have hle11 : HLe H H11 := ((((hle06.trans hle7).trans hle8 |> b9.le) (fun o h => by simp only [AV.of] at h; omega) |> b10.le) (fun o h => by simp only [AV.of] at h; omega) |> b11.le) (fun o h => by have := fr6 o h; omega)
  refine callG_ex (toStringS_ok a xs H11 (ha.le hle11) (by omega)) ?_
  rintro v12 H12 ⟨hle12, o12, rfl, ho12, hat12'⟩
  simp
  refine callG_ex (toMoveS_ok b ms H12 (hb.le (hle11.trans hle12)) (by omega)) ?_
  rintro v13 H13 ⟨hle13, o13, rfl, ho13, hat13⟩
  simp
  have hMs13 : Mvs H13 (.sl o13 0 ms.length) ms := by simpa [Mvs] using Rows.whole hat13
  refine callG_ex (implDo_ok o12 xs 9 false _ ms bytes H13 (hle13.2 _ _ hat12') (by omega) hMs13 (by omega)) ?_
  rintro v14 H14 hh
  simp
  have hle14 : HLe H13 H14 := by
    rcases hh with ⟨_, _, h⟩ | h
    · exact h
    · exact h.1
  have hhS : Strs H14 v14 (doTo bytes ms xs ms.length) := by
    rcases hh with ⟨h1, rfl, _⟩ | ⟨_, o6, rfl, _, hat6⟩
    · exact .inl ⟨rfl, by subst h1; simp at hD; simp [hD]⟩
    · have := Rows.whole hat6
      exact this
  have hw11 : Strs H11 (.sl o3 0 (doTo bytes ms xs ms.length).length) (doTo bytes ms xs ms.length) := hw10.but b11 (fun o h h2 => by have := fr6 o h; simp only [AV.of] at h2; omega)
  refine callG_use (eqStringS_ok _ _ _ _ H14 hhS (hw11.le ((hle12.trans hle13).trans hle14)) (by omega)) ?_
  simp
  have hheld2 := heldStringS_ok (E := E) v6 _ 1 H14 (hmk.le ((hle12.trans hle13).trans hle14)) (by omega) (by simp; omega) (by intro j hj; simp)
  simp only [List.length_map, List.length_range] at hheld2
  refine callG_use hheld2 ?_
  simp [hn2]

end Go.Proofs.Ytkdnijiipegabaa.B

namespace Go.Proofs.Ytkdnijiipegabaa.B
open Go.RowKit Go.Proofs
set_option linter.unusedVariables false
set_option linter.unusedSimpArgs false
variable {E : Env}

def k_d2 : CC := (.seq (.plan (.st (some 67) (.fa 0 (.t 3)) none [] (.st (some 68) (.ld (.t 67)) none [] (.st (some 69) (.lit 55 1 1 [.nils] [(0, (1, (.t 68)))]) none [] (.st (some 70) (.fa 1 (.t 3)) none [] (.st (some 71) (.ld (.t 70)) none [] (.st (some 72) (.app 55 1 24 (.t 69) (.t 71)) none [] (.st (some 14) (.mv (.t 72)) none [] .fin)))))))) (.seq (.seq (.plan (.st (some 15) (.mv (.c (.int .i64 0))) none [] .fin)) (.block 2 (.loop (.seq (.seq (.plan (.st (some 73) (.mv (.t 15)) none [] (.st (some 74) (.mv (.t 14)) none [] (.st (some 75) (.len (.t 74)) none [] (.st (some 76) (.bin .lss (.t 73) (.t 75)) none [] .fin))))) (.cond (.t 76) .skip (.exit 2))) (.seq (.block 3 (.seq (.plan (.st (some 79) (.mv (.t 14)) none [] (.st (some 80) (.mv (.t 15)) none [] (.st (some 81) (.ia 1 (.t 79) (.t 80)) none [] (.st (some 82) (.ld (.t 81)) none [] (.st (some 83) (.call 51 [(.t 82)]) none [] (.st (some 16) (.mv (.t 83)) none [] .fin))))))) (.seq (.seq (.plan (.st (some 84) (.mv (.t 16)) none [] (.st (some 85) (.bin .eql (.t 84) (.c (.str ⟨#[]⟩))) none [] (.st (some 86) (.mv (.t 85)) none [] (.st (some 87) (.mv (.t 15)) (some (86, false)) [] (.st (some 88) (.fa 4 (.t 10)) (some (86, false)) [] (.st (some 89) (.ld (.t 88)) (some (86, false)) [] (.st (some 90) (.len (.t 89)) (some (86, false)) [] (.st (some 91) (.bin .geq (.t 87) (.t 90)) (some (86, false)) [] (.st (some 92) (.pick (.t 86) (.c (.bool true)) (.t 91)) none [] (.st (some 93) (.mv (.t 92)) none [] (.st (some 94) (.fa 0 (.t 10)) (some (93, false)) [] (.st (some 95) (.ld (.t 94)) (some (93, false)) [] (.st (some 96) (.bin .gtr (.t 95) (.c (.int .i64 9999))) (some (93, false)) [] (.st (some 97) (.pick (.t 93) (.c (.bool true)) (.t 96)) none [] .fin))))))))))))))) (.cond (.t 97) (.seq (.plan (.st (some 98) (.lit 44 2 0 [] []) none [] (.st (some 4) (.mv (.t 98)) none [] (.st (some 5) (.mv (.c (.bool false))) none [] .fin)))) .ret) .skip)) (.plan (.st (some 99) (.mv (.t 12)) none [] (.st (some 100) (.fa 4 (.t 10)) none [] (.st (some 101) (.ld (.t 100)) none [] (.st (some 102) (.mv (.t 15)) none [] (.st (some 103) (.ia 1 (.t 101) (.t 102)) none [] (.st (some 104) (.ld (.t 103)) none [] (.st (some 105) (.mv (.t 16)) none [] (.st (some 106) (.build [(.int .i64 0), (.str ⟨#[]⟩)] [(0, (1, (.t 104))), (1, (1, (.t 105)))]) none [] (.st (some 107) (.lit 44 2 1 [(.int .i64 0), (.str ⟨#[]⟩)] [(0, (2, (.t 106)))]) none [] (.st (some 108) (.app 44 2 24 (.t 99) (.t 107)) none [] (.st (some 12) (.mv (.t 108)) none [] .fin))))))))))))))) (.plan (.st (some 77) (.mv (.t 15)) none [] (.st (some 78) (.bin .add (.t 77) (.c (.int .i64 1))) none [] (.st (some 15) (.mv (.t 78)) none [] .fin))))))))) (.seq (.plan (.st (some 109) (.mv (.t 12)) none [] (.st (some 110) (.mv (.t 11)) none [] (.st (some 111) (.lda 5 (.t 10)) none [] (.st (some 112) (.call 52 [(.t 111)]) none [] (.st (some 113) (.build [(.int .i64 0), (.str ⟨#[]⟩)] [(0, (1, (.t 110))), (1, (1, (.t 112)))]) none [] (.st (some 114) (.lit 44 2 1 [(.int .i64 0), (.str ⟨#[]⟩)] [(0, (2, (.t 113)))]) none [] (.st (some 115) (.app 44 2 24 (.t 109) (.t 114)) none [] (.st (some 4) (.mv (.t 115)) none [] (.st (some 5) (.mv (.c (.bool true))) none [] .fin)))))))))) .ret)))

theorem sealT_size (t : ByteArray) : (sealT t).size ≤ t.size + 25 := by
  have h2 := dec_size (sumB t) (by have := sumB_bound t; omega)
  have h1 := lit1_size 33
  simp only [sealT, ByteArray.size_append]
  omega
theorem blockT_size (r : List Ent) : (blockT r).size ≤ 400 := by
  unfold blockT
  split
  · split
    · assumption
    · exact Nat.zero_le _
  · exact Nat.zero_le _
theorem sayT_size {h : Hr} (hb : HrB h) : (sayT h).size ≤ 100 + 21 * h.at'.length + 21 * h.tms.length := by
  have h1 := head3_size hb
  have h2 := atT_size (head3 h) h.at' hb.2.2.2.2.2.2 h.at'.length (Nat.le_refl _)
  have h3 := tmT_size (atT (head3 h) h.at' ++ lit1 47) h.tms hb.2.2.2.2.2.1 h.tms.length (Nat.le_refl _)
  have h4 := sealT_size (tmT (atT (head3 h) h.at' ++ lit1 47) h.tms)
  rw [List.take_length] at h2 h3
  have h5 := lit1_size 47
  rw [ByteArray.size_append] at h3
  unfold sayT
  omega
abbrev OwnMv (H0 H : Hp) (v : AV) (ms : List Mv) : Prop := OwnM 2 44 mvRow H0 H v ms

theorem d2_ok {Q : Ex → Tm → Hp → Prop} {t : Tm} {Hb H : Hp} {p3 p10 : Nat} {a lv c d ad mv : AV} {h : Hr} {top : List Ent} {lev : List (List Ent)} {lr : List (List AV)} {k tm to : Int} {ms : List Mv}
    (t3 : t 3 = .pt p3 0 0) (t10 : t 10 = .pt p10 0 0) (t11 : t 11 = .int .i64 to) (t12 : t 12 = mv)
    (hle : HLe Hb H) (b3 : H.at p3 = some ⟨[[a, lv, c, .int .i64 k, .int .i64 tm, d]], 6, 65, false⟩)
    (b10 : H.at p10 = some ⟨[[.int .i64 h.num, .int .i64 h.keep, .int .i64 h.time, d, ad]], 5, 80, false⟩)
    (hd : Ints H d h.tms) (had : Ints H ad h.at') (hhB : HrB h) (hal : h.at'.length ≤ 4) (htl : h.tms.length ≤ 3)
    (ha : Ents H a top) (hlv : Rows 1 H lv lr) (hlr : All2 (LvRow H) lr lev) (hl3 : lev.length = 3) (hB : EsB top) (hBl : ∀ es ∈ lev, EsB es)
    (hmv : OwnMv Hb H mv ms) (hml : ms.length ≤ 2) (hms : ∀ m ∈ ms, m.2.size ≤ 400)
    (hQ : ∀ t' H' w ms' ok, t' 4 = w → t' 5 = .bool ok → HLe Hb H' → OwnMv Hb H' w ms' → ms'.length ≤ 20 → (∀ m ∈ ms', m.2.size ≤ 400) → Q .ret t' H') :
    W (tC tab2 (AC Try.prog E)) k_d2 Q t H := by
  have hlr3 : lr.length = 3 := by rw [hlr.length]; exact hl3
  have u3 := Hp.at_lt b3
  have u10 := Hp.at_lt b10
  simp [k_d2, t3, t10, t11, t12, b3, b10, Hp.at_app, u3, u10, ha.one, hlv.one, Rows.cells ha, Rows.cells1 ha]
  refine appG_own (R := [[a]]) (R2 := lr) (Own.obj (R := [[a]]) (by simp) rfl) (Rows.le hlv (HLe.self _ _)) (by simp; omega) (fun v14 H1 g1 g2 g3 => ?_)
  have hle1 : HLe H H1 := (HLe.self H _).fr_le g2 (fun x hx => by have hx' : H.length = x := hx; omega)
  have hmv1 : OwnMv Hb H1 mv ms := hmv.le hle1
  have e2 : ∀ x ob, mv.of x → H1.at x = some ob → ob.esz = 2 := fun x ob hx ho => hmv1.1.esz hx ho
  have b101 := hle1.2 _ _ b10
  have hrr : All2 (LvRow H1) ([a] :: lr) (top :: lev) := ⟨⟨a, rfl, Rows.le ha hle1⟩, All2.mono (fun _ _ => LvRow.le hle1) hlr⟩
  have hEB : ∀ es ∈ top :: lev, EsB es := fun es hes => by
    rcases List.mem_cons.1 hes with h | h
    · rw [h]; exact hB
    · exact hBl es h
  have hv14 : Rows 1 H1 v14 ([a] :: lr) := g1.rows
  generalize hLr : ([a] :: lr) = LR at *
  generalize hLv : (top :: lev) = LV at *
  have hLR4 : LR.length = 4 := by rw [← hLr]; simp [hlr3]
  have hLV4 : LV.length = 4 := by rw [← hLv]; simp [hl3]
  have l14 := hv14.len
  rw [hLR4] at l14
  simp
  refine W_for (fun m t H' => ∃ (i : Nat) (mv' : AV) (ms' : List Mv), i + m = 4 ∧ t 10 = .pt p10 0 0 ∧ t 11 = .int .i64 to ∧ t 12 = mv' ∧ t 14 = v14 ∧ t 15 = .int .i64 i ∧ Fr mv.of H1 H' ∧ OwnMv Hb H' mv' ms' ∧ (∀ x, mv'.of x → mv.of x ∨ H1.length ≤ x) ∧ ms'.length ≤ 2 + i ∧ ∀ m ∈ ms', m.2.size ≤ 400) 4 ?_ (tC_mono AC_mono) ?_
  · exact ⟨0, mv, ms, rfl, by simp [t10], by simp [t11], by simp [t12], by simp, by simp, Fr.refl _ _, hmv1, fun x hx => .inl hx, by omega, hms⟩
  rintro m t' H2 ⟨i, mv', ms', him, h10, h11, h12, h14, h15, hf, hown, hoa, hol, hos⟩
  have np : ∀ {esz : Nat} {v : AV} {R : List (List AV)}, esz ≠ 2 → Rows esz H1 v R → Rows esz H2 v R := fun hne hv => Rows.frz hv hf (fun x ob hx ho => by rw [e2 x ob hx ho]; exact hne.symm)
  have hv2 := np (by decide) hv14
  have hrr2 : All2 (LvRow H2) LR LV := All2.mono (fun _ _ h => h.fr hf (fun x ob hx ho => by rw [e2 x ob hx ho]; decide)) hrr
  have b102 := hf.2 _ _ (fun hx => by have := e2 _ _ hx b101; simp at this) b101
  have hd2 : Ints H2 d h.tms := np (by decide) (Rows.le hd hle1)
  have had2 : Ints H2 ad h.at' := np (by decide) (Rows.le had hle1)
  have lad := had2.len
  have hleb : HLe Hb H2 := (hle.trans hle1).fr_le hf (fun x hx => hmv.2 x hx)
  have hl1 := hle1.1
  have hl0 := hle.1
  have l2 := hv2.len
  rw [hLR4] at l2
  simp [h10, h11, h12, h14, h15, l2, hv2.slc]
  refine c_split (fun hq => ?_) (fun hq => ?_) <;> simp at hq
  · have hi : i < 4 := by omega
    have hiI : (i : Int) < 4 := by omega
    have hw := wrapN (i := i) (by omega)
    obtain ⟨o1, i1, ob1, rfl, c1, c2, c3⟩ := hv2.get (j := i) (by omega)
    obtain ⟨u, hu, hue⟩ := hrr2.get i (by omega) (by omega)
    have hes := hEB _ (List.getElem_mem (show i < LV.length by omega))
    generalize LV[i] = es at hue hes
    rw [hu] at c3
    have hbs := blockT_size es
    rw [hLR4] at h14 ⊢
    simp [h10, h11, h12, h14, h15, c1, c2, c3, hi, hiI]
    refine cg_use (BlockText_ok u es H2 hue hes.2.short hes.1) ?_
    simp [h10, h11, h12, h14, h15, b102]
    refine g_split (fun hq2 => ?_) (fun hq2 => ?_) (by simp) <;> simp at hq2 <;> simp [hq2, h10, h11, h12, h14, h15, b102, lad, had2.slc]
    · exact hQ _ _ (.sl H2.length 0 0) [] false (by simp) (by simp) (hleb.app _) ⟨Own.lit0 rfl, fun x hx => by have hx' : H2.length = x := hx; have := hleb.1; omega⟩ (by simp) (by simp)
    · refine g_split (fun hq3 => ?_) (fun hq3 => ?_) (by simp) <;> simp at hq3
      · simp [hq3, h10, h11, h12, h14, h15, b102, lad, had2.slc]
        exact hQ _ _ (.sl H2.length 0 0) [] false (by simp) (by simp) (hleb.app _) ⟨Own.lit0 rfl, fun x hx => by have hx' : H2.length = x := hx; have := hleb.1; omega⟩ (by simp) (by simp)
      · have hia : i < h.at'.length := by omega
        have hnot : ¬ (h.at'.length ≤ i) := by omega
        simp [hq3, h10, h11, h12, h14, h15, b102, lad, had2.slc, hnot]
        refine c_split (fun hq4 => ?_) (fun hq4 => ?_)
        · simp
          exact hQ _ _ (.sl H2.length 0 0) [] false (by simp) (by simp) (hleb.app _) ⟨Own.lit0 rfl, fun x hx => by have hx' : H2.length = x := hx; have := hleb.1; omega⟩ (by simp) (by simp)
        · obtain ⟨o2, i2, ob2, rfl, d1, d2, d3⟩ := had2.get hia
          have u102 := Hp.at_lt b102
          simp [h10, h11, h12, h14, h15, b102, d1, d2, d3, hia]
          refine appG_add (y := (h.at'[i], blockT es)) (bytes := 24) (row := mvRow) (H0 := Hb) hown hleb (by omega) rfl (fun v5 H5 g1 g2 g3 g4 => ?_)
          have hl2 := hf.1
          simp [h10, h11, h12, h14, h15, hw]
          refine ⟨m - 1, by omega, i + 1, by omega, by omega, ?_, ms' ++ [(h.at'[i], blockT es)], g2, ?_, by simp; omega, ?_⟩
          · exact hf.trans g3 (fun x hx => (hoa x hx))
          · intro x hx
            rcases g4 x hx with h | h
            · exact hoa x h
            · right
              omega
          · intro x y hx
            rcases List.mem_append.1 hx with h | h
            · exact hos (x, y) h
            · cases List.mem_singleton.1 h
              omega
  · have hsz := sayT_size hhB
    simp [h10, h11, h12, h14, h15, b102]
    refine cg_use (l22Say_ok (.ag [.int .i64 h.num, .int .i64 h.keep, .int .i64 h.time, d, ad]) h H2 ⟨d, ad, rfl, hd2, had2⟩ hhB) ?_
    simp [h10, h11, h12, h14, h15]
    refine appG_add (y := (to, sayT h)) (bytes := 24) (row := mvRow) (H0 := Hb) hown hleb (by omega) rfl (fun v5 H5 g1 g2 g3 g4 => ?_)
    simp
    refine hQ _ _ v5 (ms' ++ [(to, sayT h)]) true (by simp) (by simp) g1 g2 (by simp; omega) ?_
    intro x hx
    rcases List.mem_append.1 hx with h' | h'
    · exact hos x h'
    · rw [List.mem_singleton.1 h']
      show (sayT h).size ≤ 400
      omega

end Go.Proofs.Ytkdnijiipegabaa.B

namespace Go.Proofs.Ytkdnijiipegabaa.B
open Go.RowKit Go.Proofs
set_option linter.unusedVariables false
set_option linter.unusedSimpArgs false
variable {E : Env}

def k_d1 : CC := (.seq (.plan (.st (some 50) (.lit 44 2 0 [] []) none [] (.st (some 12) (.mv (.t 50)) none [] .fin))) (.seq (.seq (.plan (.st (some 13) (.mv (.c (.int .i64 0))) none [] .fin)) (.block 0 (.loop (.seq (.seq (.plan (.st (some 51) (.mv (.t 13)) none [] (.st (some 52) (.bin .lss (.t 51) (.c (.int .i64 2))) none [] .fin))) (.cond (.t 52) .skip (.exit 0))) (.seq (.block 1 (.seq (.plan (.st (some 55) (.mv (.t 9)) none [] (.st (some 56) (.not (.t 55)) none [] (.st (some 57) (.mv (.t 56)) none [] (.st (some 58) (.mv (.t 13)) (some (57, false)) [] (.st (some 59) (.mv (.t 8)) (some (57, false)) [] (.st (some 60) (.bin .neq (.t 58) (.t 59)) (some (57, false)) [] (.st (some 61) (.pick (.t 57) (.c (.bool true)) (.t 60)) none [] .fin)))))))) (.cond (.t 61) (.plan (.st (some 62) (.mv (.t 12)) none [] (.st (some 63) (.mv (.t 13)) none [] (.st (some 64) (.build [(.int .i64 0), (.str ⟨#[]⟩)] [(0, (1, (.t 63)))]) none [] (.st (some 65) (.lit 44 2 1 [(.int .i64 0), (.str ⟨#[]⟩)] [(0, (2, (.t 64)))]) none [] (.st (some 66) (.app 44 2 24 (.t 62) (.t 65)) none [] (.st (some 12) (.mv (.t 66)) none [] .fin))))))) .skip))) (.plan (.st (some 53) (.mv (.t 13)) none [] (.st (some 54) (.bin .add (.t 53) (.c (.int .i64 1))) none [] (.st (some 13) (.mv (.t 54)) none [] .fin))))))))) k_d2))
theorem e_spec_DiskSave : c_spec_DiskSave = ⟨116, (.seq (.plan (.st (some 3) (.box 65 6 (.t 1)) none [] (.st (some 4) (.mv (.c .nils)) none [] (.st (some 5) (.mv (.c (.bool false))) none [] .fin)))) (.seq (.seq (.plan (.st (some 17) (.mv (.t 0)) none [] (.st (some 18) (.call 47 [(.t 17)]) none [] (.st (some 19) (.not (.t 18)) none [] (.st (some 20) (.mv (.t 19)) none [] (.st (some 21) (.lda 6 (.t 3)) (some (20, false)) [] (.st (some 22) (.call 48 [(.t 21)]) (some (20, false)) [] (.st (some 23) (.not (.t 22)) (some (20, false)) [] (.st (some 24) (.pick (.t 20) (.c (.bool true)) (.t 23)) none [] .fin))))))))) (.cond (.t 24) (.seq (.plan (.st (some 25) (.lit 44 2 0 [] []) none [] (.st (some 4) (.mv (.t 25)) none [] (.st (some 5) (.mv (.c (.bool false))) none [] .fin)))) .ret) .skip)) (.seq (.plan (.st (some 27) (.mv (.t 0)) none [] (.st (some 28) (.call 49 [(.t 27)]) none [] (.st (some 26) (.mv (.t 28)) none [] (.st (some 29) (.ext 0 (.t 26)) none [] (.st (some 30) (.ext 1 (.t 26)) none [] (.st (some 31) (.ext 2 (.t 26)) none [] (.st (some 32) (.ext 3 (.t 26)) none [] (.st (some 6) (.alloc 65 [.nils, .nils, .nils, (.int .i64 0), (.int .i64 0), .nils]) none [] (.st (some 7) (.alloc 80 [(.int .i64 0), (.int .i64 0), (.int .i64 0), .nils, .nils]) none [] (.st none (.st 6 (.t 6) (.t 29)) none [] (.st none (.st 5 (.t 7) (.t 30)) none [] (.st (some 8) (.mv (.t 31)) none [] (.st (some 9) (.mv (.t 32)) none [] .fin)))))))))))))) (.seq (.plan (.st (some 33) (.fa 3 (.t 3)) none [] (.st (some 34) (.ld (.t 33)) none [] (.st (some 35) (.fa 4 (.t 3)) none [] (.st (some 36) (.ld (.t 35)) none [] (.st (some 37) (.fa 5 (.t 3)) none [] (.st (some 38) (.ld (.t 37)) none [] (.st (some 39) (.build [(.int .i64 0), (.int .i64 0), (.int .i64 0), .nils, .nils] [(0, (1, (.c (.int .i64 1)))), (1, (1, (.t 34))), (2, (1, (.t 36))), (3, (1, (.t 38)))]) none [] (.st (some 10) (.alloc 80 [(.int .i64 0), (.int .i64 0), (.int .i64 0), .nils, .nils]) none [] (.st none (.st 5 (.t 10) (.t 39)) none [] .fin)))))))))) (.seq (.plan (.st (some 11) (.mv (.c (.int .i64 0))) none [] .fin)) (.seq (.seq (.plan (.st (some 40) (.mv (.t 9)) none [] .fin)) (.cond (.t 40) (.seq (.plan (.st (some 41) (.fa 0 (.t 7)) none [] (.st (some 42) (.ld (.t 41)) none [] (.st (some 43) (.bin .add (.t 42) (.c (.int .i64 1))) none [] (.st (some 44) (.fa 0 (.t 10)) none [] (.st none (.st 1 (.t 44) (.t 43)) none [] .fin)))))) (.plan (.st (some 45) (.mv (.t 8)) none [] (.st (some 46) (.bin .sub (.c (.int .i64 1)) (.t 45)) none [] (.st (some 11) (.mv (.t 46)) none [] .fin))))) .skip)) (.seq (.plan (.st (some 47) (.mv (.t 0)) none [] (.st (some 48) (.call 50 [(.t 47), (.c (.int .i64 4))]) none [] (.st (some 49) (.fa 4 (.t 10)) none [] (.st none (.st 1 (.t 49) (.t 48)) none [] .fin))))) k_d1))))))), [(.t 4), (.t 5)]⟩ := rfl

theorem d1_ok {Q : Ex → Tm → Hp → Prop} {t : Tm} {Hb H : Hp} {p3 p10 b : Nat} {ok : Bool} {a lv c d ad : AV} {h : Hr} {top : List Ent} {lev : List (List Ent)} {lr : List (List AV)} {k tm to : Int}
    (t3 : t 3 = .pt p3 0 0) (t8 : t 8 = .int .i64 b) (t9 : t 9 = .bool ok) (t10 : t 10 = .pt p10 0 0) (t11 : t 11 = .int .i64 to)
    (hle : HLe Hb H) (b3 : H.at p3 = some ⟨[[a, lv, c, .int .i64 k, .int .i64 tm, d]], 6, 65, false⟩)
    (b10 : H.at p10 = some ⟨[[.int .i64 h.num, .int .i64 h.keep, .int .i64 h.time, d, ad]], 5, 80, false⟩)
    (hd : Ints H d h.tms) (had : Ints H ad h.at') (hhB : HrB h) (hal : h.at'.length ≤ 4) (htl : h.tms.length ≤ 3)
    (ha : Ents H a top) (hlv : Rows 1 H lv lr) (hlr : All2 (LvRow H) lr lev) (hl3 : lev.length = 3) (hB : EsB top) (hBl : ∀ es ∈ lev, EsB es)
    (hQ : ∀ t' H' w ms' ok, t' 4 = w → t' 5 = .bool ok → HLe Hb H' → OwnMv Hb H' w ms' → ms'.length ≤ 20 → (∀ m ∈ ms', m.2.size ≤ 400) → Q .ret t' H') :
    W (tC tab2 (AC Try.prog E)) k_d1 Q t H := by
  have hl0 := hle.1
  simp [k_d1]
  obtain ⟨H1, hH1⟩ : ∃ H1 : Hp, H1 = H ++ [some ⟨[], 2, 44, false⟩] := ⟨_, rfl⟩
  have hle1 : HLe H H1 := by rw [hH1]; exact HLe.self _ _
  rw [← hH1]
  refine W_for (fun m t H' => ∃ (i : Nat) (mv : AV) (ms : List Mv), i + m = 2 ∧ t 3 = .pt p3 0 0 ∧ t 8 = .int .i64 b ∧ t 9 = .bool ok ∧ t 10 = .pt p10 0 0 ∧ t 11 = .int .i64 to ∧ t 12 = mv ∧ t 13 = .int .i64 i ∧ HLe H H' ∧ OwnMv H H' mv ms ∧ ms.length ≤ i ∧ ∀ m ∈ ms, m.2.size ≤ 400) 2 ?_ (tC_mono AC_mono) ?_
  · exact ⟨0, .sl H.length 0 0, [], rfl, by simp [t3], by simp [t8], by simp [t9], by simp [t10], by simp [t11], by simp, by simp, hle1, by rw [hH1]; exact ⟨Own.lit0 rfl, fun x hx => by have hx' : H.length = x := hx; omega⟩, by simp, by simp⟩
  rintro m t' H2 ⟨i, mv, ms, him, h3, h8, h9, h10, h11, h12, h13, hle2, hown, hml, hms⟩
  simp [h3, h8, h9, h10, h11, h12, h13]
  refine c_split (fun hq => ?_) (fun hq => ?_) <;> simp at hq
  · have hi : i < 2 := by omega
    have hw := wrapN (i := i) (by omega)
    cases ok with
    | false =>
      simp [h3, h8, h9, h10, h11, h12, h13]
      refine appG_add (y := ((i : Int), (⟨#[]⟩ : ByteArray))) (bytes := 24) (row := mvRow) (H0 := H) hown hle2 (by omega) rfl (fun v5 H5 g1 g2 g3 g4 => ?_)
      simp [h3, h8, h9, h10, h11, h12, h13, hw]
      refine ⟨m - 1, by omega, i + 1, by omega, by omega, g1, ms ++ [((i : Int), (⟨#[]⟩ : ByteArray))], g2, by simp; omega, ?_⟩
      intro x y hx
      rcases List.mem_append.1 hx with h | h
      · exact hms (x, y) h
      · cases List.mem_singleton.1 h
        exact Nat.zero_le _
    | true =>
      simp [h3, h8, h9, h10, h11, h12, h13]
      refine c_split (fun hq2 => ?_) (fun hq2 => ?_)
      · simp [h3, h8, h9, h10, h11, h12, h13]
        refine appG_add (y := ((i : Int), (⟨#[]⟩ : ByteArray))) (bytes := 24) (row := mvRow) (H0 := H) hown hle2 (by omega) rfl (fun v5 H5 g1 g2 g3 g4 => ?_)
        simp [h3, h8, h9, h10, h11, h12, h13, hw]
        refine ⟨m - 1, by omega, i + 1, by omega, by omega, g1, ms ++ [((i : Int), (⟨#[]⟩ : ByteArray))], g2, by simp; omega, ?_⟩
        intro x y hx
        rcases List.mem_append.1 hx with h | h
        · exact hms (x, y) h
        · cases List.mem_singleton.1 h
          exact Nat.zero_le _
      · simp [h3, h8, h9, h10, h11, h12, h13, hw]
        exact ⟨m - 1, by omega, i + 1, by omega, by omega, hle2, ms, hown, by omega, fun x y hx => hms (x, y) hx⟩
  · simp
    refine d2_ok (Hb := Hb) (p3 := p3) (p10 := p10) (h := h) (mv := mv) (ms := ms) (to := to) (by simp [h3]) (by simp [h10]) (by simp [h11]) (by simp [h12]) (hle.trans hle2) (hle2.2 _ _ b3) (hle2.2 _ _ b10) (Rows.le hd hle2) (Rows.le had hle2) hhB hal htl (Rows.le ha hle2) (Rows.le hlv hle2) (All2.mono (fun _ _ => LvRow.le hle2) hlr) hl3 hB hBl ⟨hown.1, fun x hx => by have := hown.2 x hx; omega⟩ (by omega) hms hQ

theorem DiskSave_ok (dv v : AV) (xs : List ByteArray) (s : Sr) (H : Hp) (hx : Strs H dv xs) (hxs : ∀ s ∈ xs, s.size ≤ 100000) (hs : St H v s) (hb : StB s) :
    AC Try.prog E 39 [dv, v] H (fun u H' => HLe H H' ∧ ∃ w ms ok, u = .tu [w, .bool ok] ∧ OwnMv H H' w ms ∧ ms.length ≤ 20 ∧ ∀ m ∈ ms, m.2.size ≤ 400) := by
  obtain ⟨a, lv, c, d, lr, sr, rfl, ha, hlv, hlr, hc, hsr, hd⟩ := hs
  have hs : St H (stAV a lv c s d) s := ⟨a, lv, c, d, lr, sr, rfl, ha, hlv, hlr, hc, hsr, hd⟩
  refine AC_by fol (tC_le tab2_ok) h_spec_DiskSave ?_
  rw [e_spec_DiskSave]
  obtain ⟨H1, hH1⟩ : ∃ H1 : Hp, H1 = H ++ [some ⟨[[a, lv, c, .int .i64 s.keep, .int .i64 s.time, d]], 6, 65, false⟩] := ⟨_, rfl⟩
  have hle1 : HLe H H1 := by rw [hH1]; exact HLe.self _ _
  have b3 : H1.at H.length = some ⟨[[a, lv, c, .int .i64 s.keep, .int .i64 s.time, d]], 6, 65, false⟩ := by rw [hH1]; simp
  have nope : ∀ (H' : Hp), HLe H H' → OwnMv H (H' ++ [some ⟨[], 2, 44, false⟩]) (.sl H'.length 0 0) [] := fun H' h => ⟨Own.lit0 rfl, fun x hx => by have hx' : H'.length = x := hx; have := h.1; omega⟩
  simp [stAV, ha.one, hlv.one, hc.one, hd.one, ← hH1]
  refine cg_use (l22Ok_ok dv xs H1 (hx.le hle1)) ?_
  simp
  refine g_split (fun hq => ?_) (fun hq => ?_) (by simp) <;> simp at hq <;> simp [hq]
  · exact ⟨hle1.app _, [], nope H1 hle1, by simp, by simp⟩
  · simp [b3]
    refine cg_use (StoreOk_ok (stAV a lv c s d) s H1 (hs.le hle1) hb) ?_
    cases hso : storeOk s with
    | false =>
      simp
      exact ⟨hle1.app _, [], nope H1 hle1, by simp, by simp⟩
    | true =>
    have hsm := storeOk_small hso
    have ht3 : s.tms.length ≤ 3 := by
      simp only [storeOk, headOk, timesR, Bool.and_eq_true, decide_eq_true_eq] at hso
      exact hso.1.1.2.2
    simp
    refine cg_ex (l22Last_ok dv xs H1 (hx.le hle1) hq hxs) ?_
    rintro v2 H2 ⟨st, w, b, ok, rfl, hb1, hle2, xa, xb, xc, xk, xt, xd, h, rfl, o1, o2, o3, o4, o5, o6, ⟨dd, aa, rfl, hdd, haa⟩, hhB, hok⟩
    have b32 := hle2.2 _ _ b3
    have u32 := Hp.at_lt b32
    obtain ⟨H3, hH3⟩ : ∃ H3 : Hp, H3 = H2 ++ [some ⟨[[xa, xb, xc, xk, xt, xd]], 6, 65, false⟩, some ⟨[[.int .i64 h.num, .int .i64 h.keep, .int .i64 h.time, dd, aa]], 5, 80, false⟩, some ⟨[[.int .i64 1, .int .i64 s.keep, .int .i64 s.time, d, .nils]], 5, 80, false⟩] := ⟨_, rfl⟩
    have hle3 : HLe H2 H3 := by rw [hH3]; exact HLe.self _ _
    have q1 : H3.at (H2.length + 1) = some ⟨[[.int .i64 h.num, .int .i64 h.keep, .int .i64 h.time, dd, aa]], 5, 80, false⟩ := by rw [hH3]; simp
    have q2 : H3.at (H2.length + 2) = some ⟨[[.int .i64 1, .int .i64 s.keep, .int .i64 s.time, d, .nils]], 5, 80, false⟩ := by rw [hH3]; simp
    have uq2 := Hp.at_lt q2
    have b33 := hle3.2 _ _ b32
    have hle13 : HLe H1 H3 := hle2.trans hle3
    have l1 := hle1.1
    have l2 := hle2.1
    have l3 := hle3.1
    simp [o1, o2, o3, o4, o5, o6, hdd.one, haa.one, Hp.at_app, u32, b32, hd.one, Rows.cells hd, Rows.cells1 hd, ← hH3]
    refine c_split (fun hq2 => ?_) (fun hq2 => ?_)
    · have hwb : IntKind.i64.wrap (1 - (b : Int)) = 1 - b := wrap64 (by omega) (by omega)
      obtain ⟨n1, hn1⟩ : ∃ n1, n1 = IntKind.i64.wrap (h.num + 1) := ⟨_, rfl⟩
      have hn64 : I64 n1 := by
        rw [hn1, IntKind.wrap_i64]
        exact ⟨by omega, by omega⟩
      simp [q1, q2, hwb, ← hn1]
      refine cg_ex (l22Free_ok dv xs _ (hx.le (hle1.trans (hle13.set (o := H2.length + 2) (by omega) _))) hq hxs) ?_
      rintro v5 H5 ⟨hle5, ns, hns, hnl, hnb⟩
      have q5 := hle5.2 _ _ (Hp.at_set _ uq2)
      have uq5 := Hp.at_lt q5
      have hl5 := hle5.1
      simp [q5, hns.rows.one, hns.rows.cells, hns.rows.cells1]
      have hX := Fr.one H5 (H2.length + 2) (some ⟨[[.int .i64 n1, .int .i64 s.keep, .int .i64 s.time, d, v5]], 5, 80, false⟩)
      have hleA : HLe H1 H5 := HLe.trans (hle13.set (o := H2.length + 2) (by omega) _) hle5
      have hleB := hle1.trans hleA
      have nX : ∀ {esz : Nat} {v : AV} {R : List (List AV)}, esz ≠ 5 → Rows esz H v R → Rows esz (List.set H5 (H2.length + 2) (some ⟨[[.int .i64 n1, .int .i64 s.keep, .int .i64 s.time, d, v5]], 5, 80, false⟩)) v R := fun hne hv => Rows.frz (Rows.le hv hleB) hX (fun x ob hx ho => by rw [hx, q5] at ho; cases ho; exact hne.symm)
      refine d1_ok (Hb := H) (p3 := H.length) (p10 := H2.length + 2) (b := b) (ok := ok) (a := a) (lv := lv) (c := c) (d := d) (ad := v5) (h := ⟨n1, s.keep, s.time, s.tms, ns⟩) (top := s.top) (lev := s.lev) (lr := lr) (k := s.keep) (tm := s.time) (to := (1 - (b : Int))) (by simp) (by simp) (by simp) (by simp) (by simp) (hleB.fr_le hX (fun x hx => by omega)) (hX.2 _ _ (by omega) (hleA.2 _ _ b3)) (Hp.at_set _ uq5) (nX (by decide) hd) (Rows.frz hns.ints hX (fun x ob hx ho => by rw [hx, q5] at ho; cases ho; simp)) ⟨hn64, hsm.2.2.2.2.2.2.1, hsm.2.2.2.2.2.1, by dsimp only; have := hsm.2.2.1; omega, by dsimp only; omega, hsm.2.2.2.1, fun x hx => by have := hnb x hx; exact ⟨by omega, by omega⟩⟩ hnl ht3 (nX (by decide) ha) (nX (by decide) hlv) (All2.mono (fun _ _ h => (h.le hleB).fr hX (fun x ob hx ho => by rw [hx, q5] at ho; cases ho; simp)) hlr) hsm.2.2.2.2.2.2.2.1 hb.1 hb.2.1 ?_
      intro t6 H6 w ms g x4 x5 y1 y2 y3 y4
      simp [x4, x5]
      cases g
      · exact ⟨y1, w, .inl ⟨rfl, rfl⟩, ms, y2, y3, fun x y hxy => y4 (x, y) hxy⟩
      · exact ⟨y1, w, .inr ⟨rfl, rfl⟩, ms, y2, y3, fun x y hxy => y4 (x, y) hxy⟩
    · simp
      refine cg_ex (l22Free_ok dv xs _ (hx.le (hle1.trans hle13)) hq hxs) ?_
      rintro v5 H5 ⟨hle5, ns, hns, hnl, hnb⟩
      have q5 := hle5.2 _ _ q2
      have uq5 := Hp.at_lt q5
      have hl5 := hle5.1
      simp [q5, hns.rows.one, hns.rows.cells, hns.rows.cells1]
      have hX := Fr.one H5 (H2.length + 2) (some ⟨[[.int .i64 1, .int .i64 s.keep, .int .i64 s.time, d, v5]], 5, 80, false⟩)
      have hleA : HLe H1 H5 := HLe.trans hle13 hle5
      have hleB := hle1.trans hleA
      have nX : ∀ {esz : Nat} {v : AV} {R : List (List AV)}, esz ≠ 5 → Rows esz H v R → Rows esz (List.set H5 (H2.length + 2) (some ⟨[[.int .i64 1, .int .i64 s.keep, .int .i64 s.time, d, v5]], 5, 80, false⟩)) v R := fun hne hv => Rows.frz (Rows.le hv hleB) hX (fun x ob hx ho => by rw [hx, q5] at ho; cases ho; exact hne.symm)
      refine d1_ok (Hb := H) (p3 := H.length) (p10 := H2.length + 2) (b := b) (ok := ok) (a := a) (lv := lv) (c := c) (d := d) (ad := v5) (h := ⟨1, s.keep, s.time, s.tms, ns⟩) (top := s.top) (lev := s.lev) (lr := lr) (k := s.keep) (tm := s.time) (to := 0) (by simp) (by simp) (by simp) (by simp) (by simp) (hleB.fr_le hX (fun x hx => by omega)) (hX.2 _ _ (by omega) (hleA.2 _ _ b3)) (Hp.at_set _ uq5) (nX (by decide) hd) (Rows.frz hns.ints hX (fun x ob hx ho => by rw [hx, q5] at ho; cases ho; simp)) ⟨⟨by dsimp only; omega, by dsimp only; omega⟩, hsm.2.2.2.2.2.2.1, hsm.2.2.2.2.2.1, by dsimp only; have := hsm.2.2.1; omega, by dsimp only; omega, hsm.2.2.2.1, fun x hx => by have := hnb x hx; exact ⟨by omega, by omega⟩⟩ hnl ht3 (nX (by decide) ha) (nX (by decide) hlv) (All2.mono (fun _ _ h => (h.le hleB).fr hX (fun x ob hx ho => by rw [hx, q5] at ho; cases ho; simp)) hlr) hsm.2.2.2.2.2.2.2.1 hb.1 hb.2.1 ?_
      intro t6 H6 w ms g x4 x5 y1 y2 y3 y4
      simp [x4, x5]
      cases g
      · exact ⟨y1, w, .inl ⟨rfl, rfl⟩, ms, y2, y3, fun x y hxy => y4 (x, y) hxy⟩
      · exact ⟨y1, w, .inr ⟨rfl, rfl⟩, ms, y2, y3, fun x y hxy => y4 (x, y) hxy⟩

end Go.Proofs.Ytkdnijiipegabaa.B

namespace Go.Proofs.Ytkdnijiipegabaa.B
open Go.RowKit Go.Proofs
set_option linter.unusedVariables false
set_option linter.unusedSimpArgs false
variable {E : Env}

theorem Strs.parts {H : Hp} {a : AV} {xs : List ByteArray} (h : Strs H a xs) (hx : xs ≠ []) : ∃ o i ob, a = .sl o i xs.length ∧ H.at o = some ob ∧ ob.esz = 1 ∧ i + xs.length ≤ ob.rows.length ∧ (ob.rows.drop i).take xs.length = xs.map strRow := by
  rcases h with ⟨_, h⟩ | ⟨_, h⟩ | ⟨o, i, ob, h1, h2, h3, h4, h5⟩
  · exact absurd (by simpa using h) hx
  · exact absurd (by simpa using h) hx
  · simp at h1 h4 h5
    exact ⟨o, i, ob, h1, h2, h3, h4, h5⟩

theorem clone2_ok (o i0 : Nat) (ob : Ob) (R : List (List AV)) (H : Hp) (ho : H.at o = some ob) (hz : ob.esz = 1) (hr : i0 + R.length ≤ ob.rows.length) (ht : (ob.rows.drop i0).take R.length = R) (hn : R.length ≤ 1048576) :
    AC Try.prog E 31 [.sl o i0 R.length] H (Fresh H ⟨R, 1, 9, false⟩) := by
  refine AC_by fol (CLe.refl _) h_slices_Clone_Sstring_string ?_
  have hlt := Hp.at_lt ho
  have hb : R.length * 16 ≤ 140737488355328 := by omega
  simp [-R_appG, R_app, RA_app, c_slices_Clone_Sstring_string, Hp.at_app _ hlt, ho, hn, hb, hz, hr, ht]
  exact ⟨HLe.self _ _, H.length + 1, by simp, by omega, by simp⟩

theorem specDo2_ok (a : AV) (xs : List ByteArray) (b : AV) (ms : List Mv) (bytes : Int) (H : Hp) (ha : Strs H a xs) (hx0 : xs ≠ []) (hn : xs.length ≤ 1048576) (hb : Mvs H b ms) (hm : ms.length ≤ 1048576) :
    AC Try.prog E 18 [a, b, .int .i64 bytes] H (Fresh H ⟨(doTo bytes ms xs ms.length).map strRow, 1, 9, false⟩) := by
  obtain ⟨o, i0, ob, rfl, ho, hz, hr, ht⟩ := ha.parts hx0
  refine AC_by fol (CLe.refl _) h_spec_DiskDo ?_
  have hlt := Hp.at_lt ho
  have hb1 : xs.length * 16 ≤ 140737488355328 := by omega
  have l1 := hb.len
  simp [-R_appG, R_app, RA_app, c_spec_DiskDo, Hp.at_app _ hlt, ho, hn, hb1, hz, hr, ht]
  refine W_for (fun k t H' => ∃ i : Nat, i + k = ms.length ∧ t 1 = b ∧ t 2 = .int .i64 bytes ∧ t 7 = .sl (H.length + 1) 0 xs.length ∧ t 8 = .int .i64 i ∧ H' = H ++ [none, some ⟨(doTo bytes ms xs i).map strRow, 1, 9, false⟩]) ms.length ?_ AC_mono ?_
  · exact ⟨0, by simp [doTo, ht]⟩
  rintro k t H' ⟨i, hik, h1, h2, h7, h8, rfl⟩
  simp [h1, h2, h7, h8, l1, hb.slc]
  refine c_split (fun hq2 => ?_) (fun hq2 => ?_) <;> simp at hq2
  · have hw := wrapN (i := i) (by omega)
    obtain ⟨o1, i1, ob1, rfl, a1, a2, a3⟩ := (hb.le (HLe.self H [none, some ⟨(doTo bytes ms xs i).map strRow, 1, 9, false⟩])).get hq2
    have hrow : (xs.length : Int) = (doTo bytes ms xs i).length := by rw [doTo_len]
    have hstep : doTo bytes ms xs (i + 1) = doAt bytes ms (doTo bytes ms xs i) i := rfl
    have hmi : ms[i]? = some ms[i] := List.getElem?_eq_getElem hq2
    have hsub : IntKind.i64.wrap ((xs.length : Int) - 1) = xs.length - 1 := wrap64 (by omega) (by omega)
    simp [h1, h2, h7, h8, a1, a2, a3, hq2, hw]
    have fin : ∀ tx, (if i + 1 = ms.length then cutT bytes ms[i].2 else ms[i].2) = tx → 0 ≤ ms[i].1 → ms[i].1 ≤ (xs.length : Int) - 1 → ((doTo bytes ms xs i).map strRow).set ms[i].1.toNat [.str tx] = (doTo bytes ms xs (i + 1)).map strRow := by
      intro tx htx c1 c2
      rw [hstep]
      unfold doAt
      simp only [hmi]
      rw [if_pos ⟨c1, by rw [← hrow]; exact c2⟩, htx, List.map_set]
      rfl
    have fin2 : ¬ (0 ≤ ms[i].1 ∧ ms[i].1 ≤ (xs.length : Int) - 1) → doTo bytes ms xs (i + 1) = doTo bytes ms xs i := by
      intro c
      rw [hstep]
      unfold doAt
      simp only [hmi]
      rw [if_neg (by rw [← hrow]; exact c)]
    have got : 0 ≤ ms[i].1 → ms[i].1 ≤ (xs.length : Int) - 1 → ∃ y, (doTo bytes ms xs i)[ms[i].1.toNat]? = some y := fun c1 c2 => ⟨_, List.getElem?_eq_getElem (by have := doTo_len bytes ms xs i; omega)⟩
    refine c_split (fun hq3 => ?_) (fun hq3 => ?_) <;> simp at hq3 <;> simp [h1, h2, h7, h8, a1, a2, a3, hq2, hw, hsub]
    · have hcut : cutT bytes ms[i].2 = ms[i].2.extract 0 (if (ms[i].2.size : Int) < (if bytes < 0 then 0 else bytes) then (ms[i].2.size : Int) else (if bytes < 0 then 0 else bytes)).toNat := by
        unfold cutT
        congr 2
        split <;> split <;> omega
      refine ⟨by split <;> split <;> omega, ?_⟩
      refine callG_use (l6In_ok _ _ _ _) ?_
      simp [h1, h2, h7, h8, a1, a2, a3, hq2, hw, hsub]
      refine c_split (fun hq4 => ?_) (fun hq4 => ?_) <;> simp at hq4
      · obtain ⟨y, hy⟩ := got hq4.1 hq4.2
        have hlt2 : ms[i].1 < xs.length := by omega
        simp [h1, h2, h7, h8, a1, a2, a3, hq2, hw, hsub, hq4.1, hlt2, hy, strRow]
        exact ⟨k - 1, by omega, i + 1, by omega, by omega, fin _ (by rw [if_pos (by omega), hcut]) hq4.1 hq4.2⟩
      · simp [h1, h2, h7, h8, a1, a2, a3, hq2, hw, hsub]
        exact ⟨k - 1, by omega, i + 1, by omega, by omega, by rw [fin2 (fun c => by have := hq4 c.1; omega)]⟩
    · refine callG_use (l6In_ok _ _ _ _) ?_
      simp [h1, h2, h7, h8, a1, a2, a3, hq2, hw, hsub]
      refine c_split (fun hq4 => ?_) (fun hq4 => ?_) <;> simp at hq4
      · obtain ⟨y, hy⟩ := got hq4.1 hq4.2
        have hlt2 : ms[i].1 < xs.length := by omega
        simp [h1, h2, h7, h8, a1, a2, a3, hq2, hw, hsub, hq4.1, hlt2, hy, strRow]
        exact ⟨k - 1, by omega, i + 1, by omega, by omega, fin _ (if_neg (by omega)) hq4.1 hq4.2⟩
      · simp [h1, h2, h7, h8, a1, a2, a3, hq2, hw, hsub]
        exact ⟨k - 1, by omega, i + 1, by omega, by omega, by rw [fin2 (fun c => by have := hq4 c.1; omega)]⟩
  · have : i = ms.length := by omega
    subst this
    simp [h7]
    exact ⟨HLe.self _ _, H.length + 1, by simp [doTo_len], by omega, by simp⟩

theorem implDo2_ok (a : AV) (xs : List ByteArray) (b : AV) (ms : List Mv) (bytes : Int) (H : Hp) (ha : Strs H a xs) (hx0 : xs ≠ []) (hn : xs.length ≤ 1048576) (hb : Mvs H b ms) (hm : ms.length ≤ 1048576) :
    AC Try.prog E 21 [a, b, .int .i64 bytes] H (Fresh H ⟨(doTo bytes ms xs ms.length).map strRow, 1, 9, false⟩) := by
  obtain ⟨o, i0, ob, rfl, ho, hz, hr, ht⟩ := ha.parts hx0
  refine AC_by fol (CLe.refl _) h_impl_DiskDo ?_
  have l1 := hb.len
  simp [c_impl_DiskDo]
  have hcl := clone2_ok (E := E) o i0 ob (xs.map strRow) H ho hz (by simpa using hr) (by simpa using ht) (by simpa using hn)
  rw [List.length_map] at hcl
  refine callG_ex hcl ?_
  rintro v H1 ⟨hle1, oo, rfl, hoo, hat⟩
  simp [l1, hb.slc]
  refine W_for (fun k t H' => ∃ i : Nat, i + k = ms.length ∧ t 1 = b ∧ t 2 = .int .i64 bytes ∧ t 7 = .sl oo 0 xs.length ∧ t 13 = b ∧ t 14 = .int .i64 ms.length ∧ t 15 = .int .i64 i ∧ HLe H H' ∧ H'.at oo = some ⟨(doTo bytes ms xs i).map strRow, 1, 9, false⟩) ms.length ?_ AC_mono ?_
  · exact ⟨0, by simp [doTo, hle1, hat]⟩
  rintro k t H' ⟨i, hik, h1, h2, h7, h13, h14, h15, hle, hato⟩
  simp [h1, h2, h7, h13, h14, h15, l1, hb.slc]
  refine c_split (fun hq2 => ?_) (fun hq2 => ?_) <;> simp at hq2
  · have hw := wrapN (i := i) (by omega)
    have hoo2 := Hp.at_lt hato
    obtain ⟨o1, i1, ob1, rfl, a1, a2, a3⟩ := (hb.le hle).get hq2
    have ho1 := Hp.at_lt a1
    have hsubm : IntKind.i64.wrap ((ms.length : Int) - 1) = ms.length - 1 := wrap64 (by omega) (by omega)
    have hsub : IntKind.i64.wrap ((xs.length : Int) - 1) = xs.length - 1 := wrap64 (by omega) (by omega)
    have hrow : (xs.length : Int) = (doTo bytes ms xs i).length := by rw [doTo_len]
    have hstep : doTo bytes ms xs (i + 1) = doAt bytes ms (doTo bytes ms xs i) i := rfl
    have hmi : ms[i]? = some ms[i] := List.getElem?_eq_getElem hq2
    have fin : ∀ tx, (if i + 1 = ms.length then cutT bytes ms[i].2 else ms[i].2) = tx → 0 ≤ ms[i].1 → ms[i].1 ≤ (xs.length : Int) - 1 → ((doTo bytes ms xs i).map strRow).set ms[i].1.toNat [.str tx] = (doTo bytes ms xs (i + 1)).map strRow := by
      intro tx htx c1 c2
      rw [hstep]
      unfold doAt
      simp only [hmi]
      rw [if_pos ⟨c1, by rw [← hrow]; exact c2⟩, htx, List.map_set]
      rfl
    have fin2 : ¬ (0 ≤ ms[i].1 ∧ ms[i].1 ≤ (xs.length : Int) - 1) → doTo bytes ms xs (i + 1) = doTo bytes ms xs i := by
      intro c
      rw [hstep]
      unfold doAt
      simp only [hmi]
      rw [if_neg (by rw [← hrow]; exact c)]
    have got : 0 ≤ ms[i].1 → ms[i].1 ≤ (xs.length : Int) - 1 → ∃ y, (doTo bytes ms xs i)[ms[i].1.toNat]? = some y := fun c1 c2 => ⟨_, List.getElem?_eq_getElem (by have := doTo_len bytes ms xs i; omega)⟩
    simp [h1, h2, h7, h13, h14, h15, a1, a2, a3, hq2, hw, hsubm]
    refine c_split (fun hq3 => ?_) (fun hq3 => ?_) <;> simp at hq3 <;> simp [h1, h2, h7, h13, h14, h15, a1, a2, a3, hq2, hw, hsub]
    · have hcut : ∀ z : Int, z = min (max bytes 0) ms[i].2.size → cutT bytes ms[i].2 = ms[i].2.extract 0 z.toNat := by
        intro z hz
        rw [hz]
        rfl
      refine ⟨by split <;> split <;> omega, ?_⟩
      refine callG_use (impl_in_ok _ _ _ _) ?_
      simp [h1, h2, h7, h13, h14, h15, a1, a2, a3, hq2, hw, hsub]
      refine c_split (fun hq4 => ?_) (fun hq4 => ?_) <;> simp at hq4
      · obtain ⟨y, hy⟩ := got hq4.1 hq4.2
        have hlt2 : ms[i].1 < xs.length := by omega
        simp [h1, h2, h7, h13, h14, h15, a1, a2, a3, hq2, hw, hsub, hq4.1, hlt2, hy, strRow, Hp.at_app _ hoo2, hato]
        refine ⟨k - 1, by omega, i + 1, by omega, by omega, (hle.app _).set hoo _, ?_⟩
        rw [Hp.at_set _ (by simp; omega)]
        exact congrArg (fun r => some (⟨r, 1, 9, false⟩ : Ob)) (fin _ (by rw [if_pos (by omega)]; exact hcut _ (by split <;> (try split) <;> omega)) hq4.1 hq4.2)
      · simp [h1, h2, h7, h13, h14, h15, a1, a2, a3, hq2, hw, hsub]
        exact ⟨k - 1, by omega, i + 1, by omega, by omega, hle.app _, by rw [fin2 (fun c => by have := hq4 c.1; omega), Hp.at_app _ hoo2]; exact hato⟩
    · refine callG_use (impl_in_ok _ _ _ _) ?_
      simp [h1, h2, h7, h13, h14, h15, a1, a2, a3, hq2, hw, hsub]
      refine c_split (fun hq4 => ?_) (fun hq4 => ?_) <;> simp at hq4
      · obtain ⟨y, hy⟩ := got hq4.1 hq4.2
        have hlt2 : ms[i].1 < xs.length := by omega
        simp [h1, h2, h7, h13, h14, h15, a1, a2, a3, hq2, hw, hsub, hq4.1, hlt2, hy, strRow, Hp.at_app _ hoo2, hato]
        refine ⟨k - 1, by omega, i + 1, by omega, by omega, (hle.app _).set hoo _, ?_⟩
        rw [Hp.at_set _ (by simp; omega)]
        exact congrArg (fun r => some (⟨r, 1, 9, false⟩ : Ob)) (fin _ (if_neg (by omega)) hq4.1 hq4.2)
      · simp [h1, h2, h7, h13, h14, h15, a1, a2, a3, hq2, hw, hsub]
        exact ⟨k - 1, by omega, i + 1, by omega, by omega, hle.app _, by rw [fin2 (fun c => by have := hq4 c.1; omega), Hp.at_app _ hoo2]; exact hato⟩
  · have : i = ms.length := by omega
    subst this
    have hb1 : xs.length * 16 ≤ 140737488355328 := by omega
    have hl2 := doTo_len bytes ms xs ms.length
    have ht : List.take xs.length ((doTo bytes ms xs ms.length).map strRow) = (doTo bytes ms xs ms.length).map strRow := List.take_of_length_le (by simp [hl2])
    simp [-R_appG, R_app, RA_app, h7, hato, hb1, hl2, ht]
    simp [hx0]
    exact ⟨hle.app _, H'.length, by simp [hl2], hle.1, by simp⟩

theorem DiskNew_ok (H : Hp) : AC Try.prog E 11 [] H (fun v H' => HLe H H' ∧ ∃ o, v = .sl o 0 10 ∧ H.length ≤ o ∧ H'.at o = some ⟨(List.replicate 10 (⟨#[]⟩ : ByteArray)).map strRow, 1, 9, false⟩) := by
  refine AC_by fol (tC_le tab2_ok) h_spec_DiskNew ?_
  simp [c_spec_DiskNew]
  all_goals rfl

end Go.Proofs.Ytkdnijiipegabaa.B

namespace Go.Proofs.Ytkdnijiipegabaa.B
open Go.RowKit Go.Proofs
set_option linter.unusedVariables false
set_option linter.unusedSimpArgs false
variable {E : Env}

theorem cutT_size (bytes : Int) (t : ByteArray) : (cutT bytes t).size ≤ t.size := by
  unfold cutT
  rw [ByteArray.size_extract]
  omega
theorem doTo_size {M : Nat} {bytes : Int} {ms : List Mv} {xs : List ByteArray} (hx : ∀ x ∈ xs, x.size ≤ M) (hm : ∀ m ∈ ms, m.2.size ≤ M) : ∀ n, ∀ y ∈ doTo bytes ms xs n, y.size ≤ M
  | 0 => hx
  | n + 1 => by
    intro y hy
    have ih := doTo_size (bytes := bytes) hx hm n
    have e : doTo bytes ms xs (n + 1) = doAt bytes ms (doTo bytes ms xs n) n := rfl
    rw [e] at hy
    unfold doAt at hy
    split at hy
    · rename_i m hmn
      have hms : m ∈ ms := List.mem_of_getElem? hmn
      split at hy
      · rcases List.mem_or_eq_of_mem_set hy with h | h
        · exact ih y h
        · rw [h]
          split
          · exact Nat.le_trans (cutT_size bytes m.2) (hm m hms)
          · exact hm m hms
      · exact ih y hy
    · exact ih y hy

/-- The reader stays if a slice of strings is written. -/
theorem Rd.strs {H : Hp} {o N r e : Nat} {xs : List ByteArray} {R' : List (List AV)} {ro : Bool} (h : Rd H r N) (ho : H.at o = some ⟨xs.map strRow, 1, e, ro⟩) (hl : R'.length = xs.length) (hne : o ≠ r) : Rd (List.set H o (some ⟨R', 1, e, ro⟩)) r N := by
  obtain ⟨b, bs, p, h1, h2, h3, h4⟩ := h
  have hlt := Hp.at_lt ho
  refine ⟨b, bs, p, (Hp.at_set_ne hne).trans h1, ⟨?_, h2.2⟩, h3, h4⟩
  rcases h2.1 with h | h | ⟨o', i, ob, rfl, a2, a3, a4, a5⟩
  · exact .inl h
  · exact .inr (.inl h)
  · by_cases e1 : o = o'
    · subst e1
      rw [ho] at a2
      cases a2
      simp at a4
      have hb : bs = [] := by
        cases bs with
        | nil => rfl
        | cons n bs =>
          have := congrArg (fun l => l[0]?) a5
          simp [List.getElem?_take_of_lt, byteRow, strRow] at this
      subst hb
      exact .inr (.inr ⟨o, i, ⟨R', 1, e, ro⟩, rfl, Hp.at_set _ hlt, rfl, by simp at a4 ⊢; omega, by simp⟩)
    · exact .inr (.inr ⟨o', i, ob, rfl, (Hp.at_set_ne e1).trans a2, a3, a4, a5⟩)

theorem l71Disk_ok (r N : Nat) (H : Hp) (hr : Rd H r N) (hN : N < 17179869184) :
    AC Try.prog E 38 [.pt r 0 0] H (fun v H' => ∃ xs, Strs H' v xs ∧ xs ≠ [] ∧ xs.length ≤ 10 ∧ (∀ x ∈ xs, x.size ≤ 100000) ∧ Dr r H H' ∧ Rd H' r (N + 3000)) := by
  refine AC_by fol (tC_le tab2_ok) h_spec_l71Disk ?_
  simp [c_spec_l71Disk]
  refine cg_ex (DiskNew_ok H) ?_
  rintro v H1 ⟨hle1, o, rfl, ho, hat⟩
  have hrl := hr.lt
  simp
  refine cg_ex (pick_ok r N 4 H1 (hr.le hle1) (by omega) (by omega)) ?_
  rintro v H2 ⟨n, rfl, hn, hd2, hr2, hlen2⟩
  have hat2 := hd2.2 _ _ (show ¬ o = r by omega) hat
  have hD2 : Dr r H H2 := (hle1.dr r).same hd2
  simp
  refine W_for (fun m t H' => ∃ (o : Nat) (xs : List ByteArray) (j : Nat), j + m ≤ 4 ∧ t 0 = .pt r 0 0 ∧ t 3 = .sl o 0 10 ∧ t 4 = .int .i64 m ∧ H.length ≤ o ∧ H'.at o = some ⟨xs.map strRow, 1, 9, false⟩ ∧ xs.length = 10 ∧ (∀ x ∈ xs, x.size ≤ 100000) ∧ Dr r H H' ∧ Rd H' r (N + 1 + 500 * j)) n ?_ (tC_mono AC_mono) ?_
  · exact ⟨o, List.replicate 10 ⟨#[]⟩, 0, by omega, by simp, by simp, by simp, by omega, hat2, by simp, fun x hx => by rw [List.eq_of_mem_replicate hx]; exact Nat.zero_le _, hD2, hr2⟩
  rintro m t H' ⟨o, xs, j, hjm, t0, t3, t4, ho, hat, hxl, hxs, hD, hR⟩
  simp [t0, t3, t4]
  have hl' := hD.len
  have hst : Strs H' (.sl o 0 10) xs := by
    have := Strs.at (e := 9) (ro := false) hat rfl
    rwa [hxl] at this
  have hx0 : xs ≠ [] := fun h => by rw [h] at hxl; simp at hxl
  refine c_split (fun hq => ?_) (fun hq => ?_) <;> simp at hq
  · simp [t0, t3, t4]
    refine cg_ex (l71Store_ok r _ H' hR (by omega)) ?_
    rintro v3 H3 ⟨s, hs, hsb, hd3, hr3⟩
    have nor : ∀ x, (AV.sl o 0 10).of x → ¬ x = r := fun x hx => by have hx' : o = x := hx; omega
    have hst3 : Strs H3 (.sl o 0 10) xs := Rows.fr hst hd3 nor
    have hat3 := hd3.2 _ _ (show ¬ o = r by omega) hat
    simp
    refine cg_ex (DiskSave_ok (.sl o 0 10) v3 xs s H3 hst3 hxs hs hsb) ?_
    rintro v4 H4 ⟨hle4, w, ms, ok, rfl, hmv, hml, hms⟩
    have hat4 := hle4.2 _ _ hat3
    have hr4 := hr3.le hle4
    have hw1 : IntKind.i64.wrap ((m : Int) - 1) = ((m - 1 : Nat) : Int) := by rw [wrap64 (by omega) (by omega)]; omega
    have hD4 : Dr r H H4 := (hD.same hd3).le_fr hle4
    have fin : ∀ (G G' : Hp) (M o8 : Nat) (zs : List ByteArray), Dr r H4 G → Rd G r (N + 1 + 500 * j + 400 + M) → M ≤ 100 → HLe G G' → G.length ≤ o8 → G'.at o8 = some ⟨zs.map strRow, 1, 9, false⟩ → zs.length = 10 → (∀ x ∈ zs, x.size ≤ 100000) →
        ∃ k', k' < m ∧ ∃ o, ∃ xs : List ByteArray, ∃ j : Nat, j + k' ≤ 4 ∧ o8 = o ∧ ((m - 1 : Nat) : Int) = k' ∧ H.length ≤ o ∧ G'.at o = some ⟨xs.map strRow, 1, 9, false⟩ ∧ xs.length = 10 ∧ (∀ x ∈ xs, x.size ≤ 100000) ∧ Dr r H G' ∧ Rd G' r (N + 1 + 500 * j) := by
      intro G G' M o8 zs a1 a2 a3 a4 a5 a6 a7 a8
      have := hD4.len
      have := a1.len
      exact ⟨m - 1, by omega, o8, zs, j + 1, by omega, rfl, rfl, by omega, a6, a7, a8, (hD4.same a1).le_fr a4, Rd.mono (a2.le a4) (by omega)⟩
    simp
    refine c_split (fun hq2 => ?_) (fun hq2 => ?_) <;> simp at hq2
    · simp [t0, t3, t4, hw1]
      exact ⟨m - 1, by omega, o, xs, j + 1, by omega, rfl, rfl, by omega, hat4, hxl, hxs, hD4, Rd.mono hr4 (by omega)⟩
    · simp [t0, t3, t4, hmv.len, hmv.slc]
      refine cg_ex (pick_ok r _ 3 H4 hr4 (by omega) (by omega)) ?_
      rintro v5 H5 ⟨k, rfl, hk, hd5, hr5, hlen5⟩
      have wr : ∀ x, w.of x → ¬ x = r := fun x hx => by have := hmv.2 x hx; have := hd3.len; omega
      have tail : ∀ (G : Hp) (M c : Nat) (by' : Int) (u : AV), Dr r H4 G → Rd G r (N + 1 + 500 * j + 400 + M) → M ≤ 100 → c ≤ ms.length → Rows 2 G u ((ms.map mvRow).take c) → AC Try.prog E 18 [.sl o 0 10, u, .int .i64 by'] G (fun v G' => ∃ o8, v = .sl o8 0 10 ∧ ∃ k', k' < m ∧ ∃ o, ∃ xs : List ByteArray, ∃ j : Nat, j + k' ≤ 4 ∧ o8 = o ∧ ((m - 1 : Nat) : Int) = k' ∧ H.length ≤ o ∧ G'.at o = some ⟨xs.map strRow, 1, 9, false⟩ ∧ xs.length = 10 ∧ (∀ x ∈ xs, x.size ≤ 100000) ∧ Dr r H G' ∧ Rd G' r (N + 1 + 500 * j)) := by
        intro G M c by' u a1 a2 a3 a4 a5
        have hstG : Strs G (.sl o 0 10) xs := Rows.fr (Rows.le hst3 hle4) a1 nor
        have hmG : Mvs G u (ms.take c) := by
          rw [← List.map_take] at a5
          exact a5
        refine (specDo2_ok (.sl o 0 10) xs u (ms.take c) by' G hstG hx0 (by omega) hmG (by simp; omega)).mono ?_
        rintro v8 H8 ⟨hle8, o8, rfl, ho8, hat8⟩
        refine ⟨o8, by simp [doTo_len, hxl], fin G H8 M o8 _ a1 a2 a3 hle8 ho8 hat8 (by simp [doTo_len, hxl]) (doTo_size hxs (fun x hx => Nat.le_trans (hms x (List.mem_of_mem_take hx)) (by omega)) _)⟩
      simp
      refine c_split (fun hq3 => ?_) (fun hq3 => ?_) <;> simp at hq3
      · have hwl : IntKind.i64.wrap ((ms.length : Int) + 1) = ((ms.length + 1 : Nat) : Int) := by rw [wrap64 (by omega) (by omega)]; omega
        simp [t0, t3, t4, hmv.len, hmv.slc, hwl]
        refine cg_ex (pick_ok r _ _ H5 hr5 (by omega) (by omega)) ?_
        rintro v6 H6 ⟨c, rfl, hc, hd6, hr6, hlen6⟩
        simp [t0, t3, t4]
        refine cg_ex (pick_ok r _ _ H6 hr6 (by omega) (by omega)) ?_
        rintro v7 H7 ⟨e, rfl, he, hd7, hr7, hlen7⟩
        simp [t0, t3, t4]
        have d47 : Dr r H4 H7 := (hd5.same hd6).same hd7
        refine cutG_upto (Rows.fr hmv.rows d47 wr) c rfl (by simp; omega) (fun u u1 u2 u3 => ?_)
        simp [t0, t3, t4]
        refine cg_ex (tail H7 3 c _ u d47 (Rd.mono hr7 (by omega)) (by omega) (by omega) u1) ?_
        rintro v8 H8 ⟨o8, rfl, h8⟩
        simp [t0, t3, t4, hw1]
        exact h8
      · simp [t0, t3, t4]
        refine cutG_upto (Rows.fr hmv.rows hd5 wr) ms.length rfl (by simp) (fun u u1 u2 u3 => ?_)
        simp [t0, t3, t4]
        refine cg_ex (tail H5 1 ms.length _ u hd5 (Rd.mono hr5 (by omega)) (by omega) (by omega) u1) ?_
        rintro v8 H8 ⟨o8, rfl, h8⟩
        simp [t0, t3, t4, hw1]
        exact h8
  · simp [t0, t3, t4]
    refine cg_ex (pick_ok r _ 20 H' hR (by omega) (by omega)) ?_
    rintro v5 H5 ⟨k, rfl, hk, hd5, hr5, hlen5⟩
    simp
    have hat5 := hd5.2 _ _ (show ¬ o = r by omega) hat
    have nor : ∀ x, (AV.sl o 0 10).of x → ¬ x = r := fun x hx => by have hx' : o = x := hx; omega
    have hst5 : Strs H5 (.sl o 0 10) xs := Rows.fr hst hd5 nor
    have u5 := Hp.at_lt hat5
    refine c_split (fun hq3 => ?_) (fun hq3 => ?_) <;> simp at hq3
    · simp [t0, t3, t4]
      refine cg_ex (pick_ok r _ 10 H5 hr5 (by omega) (by omega)) ?_
      rintro v6 H6 ⟨c, rfl, hc, hd6, hr6, hlen6⟩
      have hat6 := hd6.2 _ _ (show ¬ o = r by omega) hat5
      have u6 := Hp.at_lt hat6
      have hcI : (c : Int) < 10 := by omega
      have hcN : c < 10 := by omega
      simp [t0, t3, t4, hat6, hcI, hcN, hxl, strRow]
      obtain ⟨X, hX⟩ : ∃ X : Option Ob, X = some ⟨(xs.map strRow).set c [.str ⟨#[106, 117, 110, 107]⟩], 1, 9, false⟩ := ⟨_, rfl⟩
      rw [← hX]
      have hx7 : Hp.at (List.set H6 o X) o = some ⟨(xs.set c ⟨#[106, 117, 110, 107]⟩).map strRow, 1, 9, false⟩ := by
        rw [Hp.at_set _ u6, hX, List.map_set]
        rfl
      have hs7 := Strs.at (e := 9) (ro := false) hx7 rfl
      rw [List.length_set, hxl] at hs7
      have hF := Fr.one H6 o X
      refine ⟨xs.set c ⟨#[106, 117, 110, 107]⟩, hs7, ?_, by simp [hxl], ?_, ?_, ?_⟩
      · intro h
        have := congrArg List.length h
        simp [hxl] at this
      · intro x hx
        rcases List.mem_or_eq_of_mem_set hx with h | h
        · exact hxs x h
        · rw [h]
          show 4 ≤ 100000
          omega
      · exact (((hD.same hd5).same hd6).trans hF (fun x hx => .inr (by omega)))
      · rw [hX]
        exact Rd.mono (hr6.strs hat6 (by simp) (by omega)) (by omega)
    · simp
      refine c_split (fun hq4 => ?_) (fun hq4 => ?_) <;> simp at hq4
      · simp [t0, t3, t4]
        refine cutG_from hst5 1 rfl (by simp; omega) (fun u u1 u2 => ?_)
        simp
        rw [← List.map_drop] at u1
        refine ⟨xs.drop 1, u1, ?_, by simp [hxl], fun x hx => hxs x (List.mem_of_mem_drop hx), hD.same hd5, Rd.mono hr5 (by omega)⟩
        intro h
        have := congrArg List.length h
        simp [hxl] at this
      · simp [t0, t3, t4]
        exact ⟨xs, hst5, hx0, by omega, hxs, hD.same hd5, Rd.mono hr5 (by omega)⟩

end Go.Proofs.Ytkdnijiipegabaa.B

namespace Go.Proofs.Ytkdnijiipegabaa.B
open Go.RowKit Go.Proofs
set_option linter.unusedVariables false
set_option linter.unusedSimpArgs false
variable {E : Env}

/-- What is drawn. -/
def DrawnR (H : Hp) (v : AV) : Prop := ∃ dv mv xs ms n, v = .tu [dv, mv, .int .i64 n] ∧ Strs H dv xs ∧ xs ≠ [] ∧ xs.length ≤ 10 ∧ (∀ x ∈ xs, x.size ≤ 100000) ∧ Mvs H mv ms ∧ ms.length ≤ 21 ∧ (∀ m ∈ ms, m.2.size ≤ 400)

def k_w2 : CC := (.seq (.plan (.st (some 47) (.mv (.t 6)) none [] (.st (some 48) (.mv (.t 7)) none [] (.st (some 49) (.mv (.t 5)) none [] (.st (some 52) (.mv (.t 5)) none [] (.st (some 50) (.call 41 [(.t 49), (.c (.int .i64 60))]) none [] (.both (.st (some 51) (.lit 3 1 4 [(.int .i64 0), (.int .i64 0), (.int .i64 0), (.int .i64 0)] [(0, (1, (.c (.int .i64 400)))), (1, (1, (.c (.int .i64 400)))), (2, (1, (.t 50))), (3, (1, (.c (.int .i64 (-1)))))]) none [] (.st (some 53) (.call 41 [(.t 52), (.c (.int .i64 4))]) none [] (.st (some 54) (.ia 1 (.t 51) (.t 53)) none [] (.st (some 55) (.ld (.t 54)) none [] (.st (some 2) (.mv (.t 47)) none [] (.st (some 3) (.mv (.t 48)) none [] (.st (some 4) (.mv (.t 55)) none [] .fin))))))) (.st (some 53) (.call 41 [(.t 52), (.c (.int .i64 4))]) none [] (.st (some 2) (.mv (.t 47)) none [] (.st (some 3) (.mv (.t 48)) none [] (.st (some 51) (.lit 3 1 4 [(.int .i64 0), (.int .i64 0), (.int .i64 0), (.int .i64 0)] [(0, (1, (.c (.int .i64 400)))), (1, (1, (.c (.int .i64 400)))), (2, (1, (.t 50))), (3, (1, (.c (.int .i64 (-1)))))]) none [] (.st (some 54) (.ia 1 (.t 51) (.t 53)) none [] (.st (some 55) (.ld (.t 54)) none [] (.st (some 4) (.mv (.t 55)) none [] .fin)))))))))))))) .ret)
def k_w1 : CC := (.seq (.seq (.plan (.st (some 35) (.mv (.t 5)) none [] (.st (some 36) (.call 41 [(.t 35), (.c (.int .i64 12))]) none [] (.st (some 37) (.bin .eql (.t 36) (.c (.int .i64 0))) none [] .fin)))) (.cond (.t 37) (.plan (.st (some 38) (.mv (.t 7)) none [] (.st (some 39) (.lit 3 1 2 [(.int .i64 0), (.int .i64 0)] [(0, (1, (.c (.int .i64 (-1))))), (1, (1, (.c (.int .i64 10))))]) none [] (.st (some 40) (.mv (.t 5)) none [] (.st (some 41) (.call 41 [(.t 40), (.c (.int .i64 2))]) none [] (.st (some 42) (.ia 1 (.t 39) (.t 41)) none [] (.st (some 43) (.ld (.t 42)) none [] (.st (some 44) (.build [(.int .i64 0), (.str ⟨#[]⟩)] [(0, (1, (.t 43))), (1, (1, (.c (.str ⟨#[120]⟩))))]) none [] (.st (some 45) (.lit 44 2 1 [(.int .i64 0), (.str ⟨#[]⟩)] [(0, (2, (.t 44)))]) none [] (.st (some 46) (.app 44 2 24 (.t 38) (.t 45)) none [] (.st (some 7) (.mv (.t 46)) none [] .fin))))))))))) .skip)) k_w2)
theorem e_spec_DrawDiskDo : c_spec_DrawDiskDo = ⟨56, (.seq (.plan (.st (some 2) (.mv (.c .nils)) none [] (.st (some 3) (.mv (.c .nils)) none [] (.st (some 4) (.mv (.c (.int .i64 0))) none [] .fin)))) (.seq (.plan (.st (some 9) (.mv (.t 0)) none [] (.st (some 10) (.call 34 [(.t 9)]) none [] (.st (some 5) (.mv (.t 10)) none [] .fin)))) (.seq (.plan (.st (some 11) (.mv (.t 5)) none [] (.st (some 12) (.call 38 [(.t 11)]) none [] (.st (some 6) (.mv (.t 12)) none [] .fin)))) (.seq (.plan (.st (some 14) (.mv (.t 6)) none [] (.st (some 15) (.mv (.t 5)) none [] (.st (some 16) (.call 40 [(.t 15)]) none [] (.st (some 17) (.call 39 [(.t 14), (.t 16)]) none [] (.st (some 13) (.mv (.t 17)) none [] (.st (some 18) (.ext 0 (.t 13)) none [] (.st (some 19) (.ext 1 (.t 13)) none [] (.st (some 7) (.mv (.t 18)) none [] (.st (some 8) (.mv (.t 19)) none [] .fin)))))))))) (.seq (.seq (.plan (.st (some 20) (.mv (.t 7)) none [] (.st (some 21) (.len (.t 20)) none [] (.st (some 22) (.bin .gtr (.t 21) (.c (.int .i64 0))) none [] (.st (some 23) (.mv (.t 22)) none [] (.st (some 24) (.mv (.t 5)) (some (23, true)) [] (.st (some 25) (.call 41 [(.t 24), (.c (.int .i64 2))]) (some (23, true)) [] (.st (some 26) (.bin .eql (.t 25) (.c (.int .i64 0))) (some (23, true)) [] (.st (some 27) (.pick (.t 23) (.t 26) (.c (.bool false))) none [] .fin))))))))) (.cond (.t 27) (.plan (.st (some 28) (.mv (.t 7)) none [] (.st (some 29) (.mv (.t 5)) none [] (.st (some 30) (.mv (.t 7)) none [] (.st (some 31) (.len (.t 30)) none [] (.st (some 32) (.bin .add (.t 31) (.c (.int .i64 1))) none [] (.st (some 33) (.call 41 [(.t 29), (.t 32)]) none [] (.st (some 34) (.cut 2 (.t 28) none (some (.t 33))) none [] (.st (some 7) (.mv (.t 34)) none [] .fin))))))))) .skip)) k_w1))))), [(.t 2), (.t 3), (.t 4)]⟩ := rfl

theorem w2_ok {Q : Ex → Tm → Hp → Prop} {t : Tm} {H : Hp} {r N : Nat} {dv mv : AV} {xs : List ByteArray} {ms : List Mv} (t5 : t 5 = .pt r 0 0) (t6 : t 6 = dv) (t7 : t 7 = mv)
    (hr : Rd H r N) (hN : N < 100000) (hx : Strs H dv xs) (hm : Mvs H mv ms) (hw : ∀ x, mv.of x → ¬ x = r)
    (hQ : ∀ t' H' n, t' 2 = dv → t' 3 = mv → t' 4 = .int .i64 n → Strs H' dv xs → Mvs H' mv ms → Q .ret t' H') : W (tC tab2 (AC Try.prog E)) k_w2 Q t H := by
  simp [k_w2, t5, t6, t7]
  refine cg_ex (pick_ok r N 60 H hr (by omega) (by omega)) ?_
  rintro v1 H1 ⟨n1, rfl, hn1, hd1, hr1, hlen1⟩
  have hx1 : Strs H1 dv xs := Rows.dr hr hx (by decide) hd1
  have hm1 : Mvs H1 mv ms := Rows.fr hm hd1 hw
  simp [t5, t6, t7]
  refine ⟨?_, ?_⟩
  · have hx2 := hx1.le (HLe.self H1 [some ⟨[[.int .i64 400], [.int .i64 400], [.int .i64 n1], [.int .i64 (-1)]], 1, 3, false⟩])
    have hm2 := hm1.le (HLe.self H1 [some ⟨[[.int .i64 400], [.int .i64 400], [.int .i64 n1], [.int .i64 (-1)]], 1, 3, false⟩])
    have hr2 := hr1.le (HLe.self H1 [some ⟨[[.int .i64 400], [.int .i64 400], [.int .i64 n1], [.int .i64 (-1)]], 1, 3, false⟩])
    have hrl := hr1.lt
    refine cg_ex (pick_ok r _ 4 _ hr2 (by omega) (by omega)) ?_
    rintro v3 H3 ⟨n2, rfl, hn2, hd3, hr3, hlen3⟩
    have b3 := hd3.2 H1.length _ (show ¬ H1.length = r by omega) (Hp.at_app_0.trans Hp.at_0)
    have hx3 : Strs H3 dv xs := Rows.dr hr2 hx2 (by decide) hd3
    have hm3 : Mvs H3 mv ms := Rows.fr hm2 hd3 hw
    have hrow : ∃ k, ([[.int .i64 400], [.int .i64 400], [.int .i64 n1], [.int .i64 (-1)]] : List (List AV))[n2]? = some [.int .i64 k] := by
      have : n2 = 0 ∨ n2 = 1 ∨ n2 = 2 ∨ n2 = 3 := by omega
      rcases this with rfl | rfl | rfl | rfl <;> exact ⟨_, rfl⟩
    obtain ⟨k, hk⟩ := hrow
    have hI : (n2 : Int) < 4 := by omega
    have hI2 : n2 < 4 := by omega
    simp [t5, t6, t7, b3, hk, hI]
    exact hQ _ _ k (by simp [t6]) (by simp [t7]) (by simp) hx3 hm3
  · refine cg_ex (pick_ok r _ 4 _ hr1 (by omega) (by omega)) ?_
    rintro v3 H3 ⟨n2, rfl, hn2, hd3, hr3, hlen3⟩
    have hx3 : Strs H3 dv xs := Rows.dr hr1 hx1 (by decide) hd3
    have hm3 : Mvs H3 mv ms := Rows.fr hm1 hd3 hw
    have hrow : ∃ k, ([[.int .i64 400], [.int .i64 400], [.int .i64 n1], [.int .i64 (-1)]] : List (List AV))[n2]? = some [.int .i64 k] := by
      have : n2 = 0 ∨ n2 = 1 ∨ n2 = 2 ∨ n2 = 3 := by omega
      rcases this with rfl | rfl | rfl | rfl <;> exact ⟨_, rfl⟩
    obtain ⟨k, hk⟩ := hrow
    have hI : (n2 : Int) < 4 := by omega
    have hI2 : n2 < 4 := by omega
    simp [t5, t6, t7, hk, hI]
    exact hQ _ _ k (by simp [t6]) (by simp [t7]) (by simp) (hx3.le (HLe.self _ _)) (hm3.le (HLe.self _ _))

theorem w1_ok {Q : Ex → Tm → Hp → Prop} {t : Tm} {Hb H : Hp} {r N : Nat} {dv mv : AV} {xs : List ByteArray} {ms : List Mv} (t5 : t 5 = .pt r 0 0) (t6 : t 6 = dv) (t7 : t 7 = mv)
    (hle : Hb.length ≤ H.length) (hr : Rd H r N) (hN : N < 10000) (hx : Strs H dv xs) (hm : OwnMv Hb H mv ms) (hml : ms.length ≤ 20) (hms : ∀ m ∈ ms, m.2.size ≤ 400) (hrb : r < Hb.length)
    (hQ : ∀ t' H' n mv' ms', t' 2 = dv → t' 3 = mv' → t' 4 = .int .i64 n → Strs H' dv xs → Mvs H' mv' ms' → ms'.length ≤ 21 → (∀ m ∈ ms', m.2.size ≤ 400) → Q .ret t' H') : W (tC tab2 (AC Try.prog E)) k_w1 Q t H := by
  simp [k_w1, t5, t6, t7]
  have hw : ∀ x, mv.of x → ¬ x = r := fun x hx => by have := hm.2 x hx; omega
  refine cg_ex (pick_ok r N 12 H hr (by omega) (by omega)) ?_
  rintro v1 H1 ⟨n1, rfl, hn1, hd1, hr1, hlen1⟩
  have hx1 : Strs H1 dv xs := Rows.dr hr hx (by decide) hd1
  have hm1 : OwnMv Hb H1 mv ms := hm.fr hd1 hw
  simp [t5, t6, t7]
  refine c_split (fun hq => ?_) (fun hq => ?_) <;> simp at hq
  · simp [t5, t6, t7]
    obtain ⟨L, hL⟩ : ∃ L : Hp, L = [some ⟨[[.int .i64 (-1)], [.int .i64 10]], 1, 3, false⟩] := ⟨_, rfl⟩
    rw [← hL]
    have hx2 := hx1.le (HLe.self H1 L)
    have hm2 := hm1.le (HLe.self H1 L)
    have hr2 := hr1.le (HLe.self H1 L)
    have hrl := hr1.lt
    refine cg_ex (pick_ok r _ 2 _ hr2 (by omega) (by omega)) ?_
    rintro v3 H3 ⟨n2, rfl, hn2, hd3, hr3, hlen3⟩
    have b3 := hd3.2 H1.length _ (show ¬ H1.length = r by omega) (Hp.at_app_0.trans (by rw [hL]; exact Hp.at_0))
    have hx3 : Strs H3 dv xs := Rows.dr hr2 hx2 (by decide) hd3
    have hm3 : OwnMv Hb H3 mv ms := hm2.fr hd3 hw
    have hrow : ∃ k, ([[.int .i64 (-1)], [.int .i64 10]] : List (List AV))[n2]? = some [.int .i64 k] := by
      have : n2 = 0 ∨ n2 = 1 := by omega
      rcases this with rfl | rfl <;> exact ⟨_, rfl⟩
    obtain ⟨k, hk⟩ := hrow
    have hI : (n2 : Int) < 2 := by omega
    have hI2 : n2 < 2 := by omega
    have hlenL : (H1 ++ L).length = H1.length + 1 := by rw [hL]; simp
    simp [t5, t6, t7, b3, hk, hI]
    refine appG_one' (bytes := 24) (R := ms.map mvRow) rfl hm3.1 (by simp; omega) (fun v5 H5 g1 g2 g3 => ?_)
    have hw3 : ∀ x ob, mv.of x → H3.at x = some ob → ob.esz = 2 := fun x ob hx ho => hm3.1.esz hx ho
    have hr5 : Rd H5 r _ := hr3.fr g2 (fun h => hw r h rfl) (fun x ob hx ho => by rw [hw3 x ob hx ho]; decide)
    have hx5 : Strs H5 dv xs := Rows.frz hx3 g2 (fun x ob hx ho => by rw [hw3 x ob hx ho]; decide)
    simp [t5, t6, t7]
    have hm5 : Mvs H5 v5 (ms ++ [(k, ⟨#[120]⟩)]) := by
      have := g1.rows
      simpa [Mvs, mvRow] using this
    refine w2_ok (r := r) (dv := dv) (mv := v5) (xs := xs) (by simp [t5]) (by simp [t6]) (by simp) hr5 (by omega) hx5 hm5 (fun x hx => ?_) (fun t' H' n q1 q2 q3 q4 q5 => hQ t' H' n v5 _ q1 q2 q3 q4 q5 (by simp; omega) ?_)
    · rcases g3 x hx with h | h
      · exact hw x h
      · omega
    · intro m hm
      rcases List.mem_append.1 hm with h | h
      · exact hms m h
      · rw [List.mem_singleton.1 h]
        show 1 ≤ 400
        omega
  · simp
    exact w2_ok (r := r) (dv := dv) (mv := mv) (xs := xs) (by simp [t5]) (by simp [t6]) (by simp [t7]) hr1 (by omega) hx1 hm1.rows hw (fun t' H' n q1 q2 q3 q4 q5 => hQ t' H' n mv _ q1 q2 q3 q4 q5 (by omega) hms)

theorem DrawDiskDo_ok (c : AV) (bs : List Int) (H : Hp) (hc : Bytes H c bs) (hn : bs.length < 4611686018427387904) :
    AC Try.prog E 25 [c] H (fun v H' => DrawnR H' v) := by
  refine AC_by fol (tC_le tab2_ok) h_spec_DrawDiskDo ?_
  rw [e_spec_DrawDiskDo]
  simp
  refine cg_ex (l6Open_ok c bs H hc hn) ?_
  rintro v H1 ⟨r, rfl, ho, hle1, hr1⟩
  simp
  refine cg_ex (l71Disk_ok r 0 H1 hr1 (by omega)) ?_
  rintro dv H2 ⟨xs, hst, hx0, hxl, hxs, hd2, hr2⟩
  simp
  refine cg_ex (l71Store_ok r _ H2 hr2 (by omega)) ?_
  rintro v3 H3 ⟨s, hs, hsb, hd3, hr3⟩
  have hst3 : Strs H3 dv xs := Rows.dr hr2 hst (by decide) hd3
  have hst3' : Strs H3 dv xs := hst3
  simp
  refine cg_ex (DiskSave_ok dv v3 xs s H3 hst3 hxs hs hsb) ?_
  rintro v4 H4 ⟨hle4, w, ms, ok, rfl, hmv, hml, hms⟩
  have hr4 := hr3.le hle4
  have hst4 : Strs H4 dv xs := hst3.le hle4
  have hrl := hr3.lt
  simp [hmv.len, hmv.slc]
  have fin : ∀ (t' : Tm) (H' : Hp) (n : Int) (mv' : AV) (ms' : List Mv), t' 2 = dv → t' 3 = mv' → t' 4 = .int .i64 n → Strs H' dv xs → Mvs H' mv' ms' → ms'.length ≤ 21 → (∀ m ∈ ms', m.2.size ≤ 400) →
      endX [RV.t 2, RV.t 3, RV.t 4] (fun v H' => DrawnR H' v) .ret t' H' := by
    intro t' H' n mv' ms' q1 q2 q3 q4 q5 q6 q7
    simp [q1, q2, q3]
    exact ⟨dv, mv', xs, ms', n, rfl, q4, hx0, hxl, hxs, q5, q6, q7⟩
  refine g_split (fun hq => ?_) (fun hq => ?_) (by simp) <;> simp at hq <;> simp [hq]
  · refine cg_ex (pick_ok r _ 2 H4 hr4 (by omega) (by omega)) ?_
    rintro v5 H5 ⟨k, rfl, hk, hd5, hr5, hlen5⟩
    have hl4 := hle4.1
    have hwr : ∀ x, w.of x → ¬ x = r := fun x hx => by have := hmv.2 x hx; omega
    have hst5 : Strs H5 dv xs := Rows.dr hr4 hst4 (by decide) hd5
    have hmv5 : OwnMv H3 H5 w ms := hmv.fr hd5 hwr
    simp
    refine c_split (fun hq2 => ?_) (fun hq2 => ?_) <;> simp at hq2
    · have hwl : IntKind.i64.wrap ((ms.length : Int) + 1) = ((ms.length + 1 : Nat) : Int) := by rw [wrap64 (by omega) (by omega)]; omega
      simp [hmv.len, hmv.slc, hwl]
      refine cg_ex (pick_ok r _ _ H5 hr5 (by omega) (by omega)) ?_
      rintro v6 H6 ⟨c, rfl, hc, hd6, hr6, hlen6⟩
      have hst6 : Strs H6 dv xs := Rows.dr hr5 hst5 (by decide) hd6
      have hmv6 : OwnMv H3 H6 w ms := hmv5.fr hd6 hwr
      simp
      refine cutG_upto hmv6.rows c rfl (by simp; omega) (fun u u1 u2 u3 => ?_)
      simp
      have hmu : OwnMv H3 H6 u (ms.take c) := ⟨by rw [List.map_take]; exact u3 _ hmv6.1, fun x hx => hmv6.2 x (u2 x hx)⟩
      exact w1_ok (Hb := H3) (r := r) (dv := dv) (mv := u) (xs := xs) (by simp) (by simp) (by simp) (by omega) hr6 (by omega) hst6 hmu (by simp; omega) (fun m hm => hms m (List.mem_of_mem_take hm)) hrl fin
    · simp
      exact w1_ok (Hb := H3) (r := r) (dv := dv) (mv := w) (xs := xs) (by simp) (by simp) (by simp) (by omega) hr5 (by omega) hst5 hmv5 (by omega) hms hrl fin
  · exact w1_ok (Hb := H3) (r := r) (dv := dv) (mv := w) (xs := xs) (by simp) (by simp) (by simp) hle4.1 hr4 (by omega) hst4 hmv (by omega) hms hrl fin

end Go.Proofs.Ytkdnijiipegabaa.B

namespace Go.Proofs.Ytkdnijiipegabaa.B
open Go.RowKit Go.Proofs
set_option linter.unusedVariables false
set_option linter.unusedSimpArgs false
variable {E : Env}

theorem ltSames_ok (a b : AV) (xs ys : List ByteArray) (H : Hp) (ha : Strs H a xs) (hb : Strs H b ys) (hx : xs.length < 4611686018427387904) : AC Try.prog E 26 [a, b] H (fun v H' => v = .bool (decide (xs = ys)) ∧ H' = H) := by
  refine AC_byp (tC_le tab2_ok) h_laws_ltSames (by simp) ?_
  have l1 := ha.len
  have l2 := hb.len
  simp [c_laws_ltSames, l1, l2, ha.slc, hb.slc]
  refine c_split (fun hq => ?_) (fun hq => ?_) <;> simp at hq <;> simp
  · intro h
    subst h
    exact hq rfl
  · refine W_for (fun k t H' => ∃ i : Nat, i + k = xs.length ∧ t 0 = a ∧ t 1 = b ∧ t 5 = .int .i64 i ∧ (∀ j : Nat, j < i → xs[j]? = ys[j]?) ∧ HLe H H') xs.length ?_ (tC_mono AC_mono) ?_
    · exact ⟨0, by simp⟩
    rintro k t H' ⟨i, hik, h0, h1, h5, hI, hle⟩
    simp [h0, h1, h5, l1, ha.slc]
    refine c_split (fun hq2 => ?_) (fun hq2 => ?_) <;> simp at hq2
    · have hw := wrapN (i := i) (by omega)
      obtain ⟨o1, i1, ob1, rfl, a1, a2, a3⟩ := (ha.le hle).get hq2
      obtain ⟨o2, i2, ob2, rfl, b1, b2, b3⟩ := (hb.le hle).get (j := i) (by omega)
      simp [h0, h1, h5, a1, a2, a3, b1, b2, b3, hq2, ← hq]
      refine c_split (fun hq3 => ?_) (fun hq3 => ?_) <;> simp at hq3 <;> simp [h0, h1, h5, hw, hle]
      · intro h
        subst h
        exact hq3 rfl
      · refine ⟨k - 1, by omega, i + 1, by omega, rfl, fun j hj => ?_⟩
        rcases Nat.lt_or_ge j i with h | h
        · exact hI j h
        · have : j = i := by omega
          subst this
          rw [List.getElem?_eq_getElem hq2, List.getElem?_eq_getElem (by omega), hq3]
    · simp [hle]
      apply List.ext_getElem?
      intro j
      rcases Nat.lt_or_ge j i with h | h
      · exact hI j h
      · rw [List.getElem?_eq_none (by omega), List.getElem?_eq_none (by omega)]

theorem doTo_nil (bytes : Int) (xs : List ByteArray) (n : Nat) : doTo bytes [] xs n = xs := by
  induction n with
  | zero => rfl
  | succ n ih =>
    show doAt bytes [] (doTo bytes [] xs n) n = xs
    rw [ih]
    simp [doAt]
/-- What no move is at stays. -/
theorem doTo_off (bytes : Int) (ms : List Mv) (xs : List ByteArray) (i : Nat) (h : ∀ m ∈ ms, m.1 ≠ (i : Int)) (n : Nat) : (doTo bytes ms xs n)[i]? = xs[i]? := by
  induction n with
  | zero => rfl
  | succ n ih =>
    show (doAt bytes ms (doTo bytes ms xs n) n)[i]? = xs[i]?
    rw [← ih]
    unfold doAt
    split
    · rename_i m hm
      split
      · rename_i hc
        have := h m (List.mem_of_getElem? hm)
        rw [List.getElem?_set_ne (by omega)]
      · rfl
    · rfl
theorem cutT_all {bytes : Int} {t : ByteArray} (h : (t.size : Int) ≤ bytes) : cutT bytes t = t := by
  unfold cutT
  have : (min (max bytes 0) (t.size : Int)).toNat = t.size := by omega
  rw [this]
  exact ByteArray.extract_zero_size
theorem doAt_take {bytes : Int} {ms : List Mv} {c i : Nat} (hc : c < ms.length) (hi : i < c) (hs : ∀ m ∈ ms, m.2.size ≤ 400) (d : List ByteArray) : doAt 400 (ms.take c) d i = doAt bytes ms d i := by
  have e1 : (ms.take c)[i]? = some ms[i] := by rw [List.getElem?_take_of_lt hi, List.getElem?_eq_getElem (by omega)]
  have e2 : ms[i]? = some ms[i] := List.getElem?_eq_getElem (by omega)
  unfold doAt
  rw [e1, e2]
  simp only
  have ec := cutT_all (bytes := 400) (t := ms[i].2) (by have := hs _ (List.getElem_mem (show i < ms.length by omega)); omega)
  rw [ec, if_neg (show ¬ i + 1 = ms.length by omega), ite_self]
theorem doTo_take {bytes : Int} {ms : List Mv} {c : Nat} (hc : c < ms.length) (hs : ∀ m ∈ ms, m.2.size ≤ 400) (xs : List ByteArray) : ∀ i, i ≤ c → doTo 400 (ms.take c) xs i = doTo bytes ms xs i
  | 0, _ => rfl
  | i + 1, h => by
    show doAt 400 (ms.take c) (doTo 400 (ms.take c) xs i) i = doAt bytes ms (doTo bytes ms xs i) i
    rw [doTo_take hc hs xs i (by omega), doAt_take hc (by omega) hs]
theorem doTo_drop {bytes : Int} {ms : List Mv} {c : Nat} (hc : c ≤ ms.length) (xs : List ByteArray) : ∀ j, doTo bytes (ms.drop c) (doTo bytes ms xs c) j = doTo bytes ms xs (c + j)
  | 0 => rfl
  | j + 1 => by
    show doAt bytes (ms.drop c) (doTo bytes (ms.drop c) (doTo bytes ms xs c) j) j = doAt bytes ms (doTo bytes ms xs (c + j)) (c + j)
    rw [doTo_drop hc xs j]
    unfold doAt
    rw [List.getElem?_drop]
    split
    · rename_i m hm
      have hlt : c + j < ms.length := by
        rcases Nat.lt_or_ge (c + j) ms.length with h | h
        · exact h
        · rw [List.getElem?_eq_none h] at hm; cases hm
      have : (j + 1 = (ms.drop c).length) = (c + j + 1 = ms.length) := by
        rw [List.length_drop]
        exact propext ⟨fun h => by omega, fun h => by omega⟩
      simp only [this]
    · rfl
theorem doTo_cut {bytes : Int} {ms : List Mv} {c : Nat} (hc : c < ms.length) (hs : ∀ m ∈ ms, m.2.size ≤ 400) (xs : List ByteArray) : doTo bytes (ms.drop c) (doTo 400 (ms.take c) xs (ms.take c).length) (ms.drop c).length = doTo bytes ms xs ms.length := by
  have e1 : (ms.take c).length = c := by rw [List.length_take]; omega
  rw [e1, doTo_take (bytes := bytes) hc hs xs c (Nat.le_refl _), doTo_drop (by omega), List.length_drop]
  congr 1
  omega

theorem Fresh.strs {H H' : Hp} {v : AV} {zs : List ByteArray} {e : Nat} {ro : Bool} (h : Fresh H ⟨zs.map strRow, 1, e, ro⟩ v H') : HLe H H' ∧ Strs H' v zs := by
  obtain ⟨h1, o, rfl, h2, h3⟩ := h
  refine ⟨h1, ?_⟩
  have := Strs.at (e := e) (ro := ro) h3 rfl
  simpa using this
theorem doTo_ne {bytes : Int} {ms : List Mv} {xs : List ByteArray} {n : Nat} (h : xs ≠ []) : doTo bytes ms xs n ≠ [] := fun e => by
  have := doTo_len bytes ms xs n
  rw [e] at this
  exact h (List.length_eq_zero_iff.1 (by simpa using this.symm))

theorem lawDiskDo_ok (a : AV) (cs : List Int) (H : Hp) (ha : Bytes H a cs) (hx : cs.length < 4611686018427387904) :
    AC Try.prog E 7 [a] H (fun v H' => v = .bool true) := by
  refine AC_by fol (tC_le tab2_ok) h_laws_FnDiskDo ?_
  have l1 := ha.len
  simp [c_laws_FnDiskDo, l1, ha.1.slc]
  refine c_split (fun hq => ?_) (fun hq => ?_) <;> simp at hq <;> simp
  refine cg_ex (DrawDiskDo_ok a cs H ha hx) ?_
  rintro v H1 ⟨dv, mv, xs, ms, n, rfl, hst, hx0, hxl, hxs, hm, hml, hms⟩
  simp
  refine cg_ex (implDo2_ok dv xs mv ms n H1 hst hx0 (by omega) hm (by omega)) ?_
  intro v2 H2 h2
  obtain ⟨hle2, hs2⟩ := Fresh.strs h2
  simp
  refine cg_ex (specDo2_ok dv xs mv ms n H2 (hst.le hle2) hx0 (by omega) (hm.le hle2) (by omega)) ?_
  intro v3 H3 h3
  obtain ⟨hle3, hs3⟩ := Fresh.strs h3
  have hs23 := hs2.le hle3
  obtain ⟨zs, hzs⟩ : ∃ zs, zs = doTo n ms xs ms.length := ⟨_, rfl⟩
  rw [← hzs] at hs23 hs3
  have hzl : zs.length = xs.length := by rw [hzs]; exact doTo_len _ _ _ _
  have hst3 := (hst.le hle2).le hle3
  have hm3 := (hm.le hle2).le hle3
  simp
  refine cg_use (ltSames_ok v2 v3 zs zs H3 hs23 hs3 (by omega)) ?_
  simp
  have lz := hs23.len
  have lx := hst3.len
  have lm := hm3.len
  refine W_for (fun m t H' => ∃ i : Nat, i + m = xs.length ∧ t 3 = dv ∧ t 4 = mv ∧ t 5 = .int .i64 n ∧ t 6 = v2 ∧ t 7 = .int .i64 i ∧ H3 = H') xs.length ?_ (tC_mono AC_mono) ?_
  · exact ⟨0, by omega, by simp, by simp, by simp, by simp, by simp, rfl⟩
  rintro m t H' ⟨i, him, t3, t4, t5, t6, t7, rfl⟩
  simp [t3, t4, t5, t6, t7, lz, lx, hs23.slc, hst3.slc]
  refine c_split (fun hq2 => ?_) (fun hq2 => ?_) <;> simp at hq2
  · have hi : i < xs.length := by omega
    have hiz : i < zs.length := by omega
    have hw := wrapN (i := i) (by omega)
    simp
    refine W_for (fun k t H' => ∃ j : Nat, j + k = ms.length ∧ t 3 = dv ∧ t 4 = mv ∧ t 5 = .int .i64 n ∧ t 6 = v2 ∧ t 7 = .int .i64 i ∧ t 8 = .bool ((ms.take j).any (fun m => decide (m.1 = (i : Int)))) ∧ t 9 = .int .i64 j ∧ H3 = H') ms.length ?_ (tC_mono AC_mono) ?_
    · exact ⟨0, by omega, by simp [t3], by simp [t4], by simp [t5], by simp [t6], by simp [t7], by simp, by simp, rfl⟩
    rintro k t H' ⟨j, hjk, t3, t4, t5, t6, t7, t8, t9, rfl⟩
    simp [t3, t4, t5, t6, t7, t8, t9, lm, hm3.slc]
    refine c_split (fun hq3 => ?_) (fun hq3 => ?_) <;> simp at hq3
    · have hj : j < ms.length := by omega
      have hwj := wrapN (i := j) (by omega)
      obtain ⟨o1, i1, ob1, e1, a1, a2, a3⟩ := hm3.get hj
      have estep : (ms.take (j + 1)).any (fun m => decide (m.1 = (i : Int))) = ((ms.take j).any (fun m => decide (m.1 = (i : Int))) || decide (ms[j].1 = (i : Int))) := by
        rw [List.take_succ_eq_append_getElem hj, List.any_append]
        simp
      obtain ⟨B, hB⟩ : ∃ B, B = (ms.take j).any (fun m => decide (m.1 = (i : Int))) := ⟨_, rfl⟩
      rw [← hB] at t8 estep
      have fin : ∀ (t' : Tm), t' 3 = dv → t' 4 = mv → t' 5 = .int .i64 n → t' 6 = v2 → t' 7 = .int .i64 i → t' 8 = .bool (B || decide (ms[j].1 = (i : Int))) → t' 9 = .int .i64 ((j : Int) + 1) →
          ∃ k', k' < k ∧ ∃ j : Nat, j + k' = ms.length ∧ t' 3 = dv ∧ t' 4 = mv ∧ t' 5 = .int .i64 n ∧ t' 6 = v2 ∧ t' 7 = .int .i64 i ∧ t' 8 = .bool ((ms.take j).any (fun m => decide (m.1 = (i : Int)))) ∧ t' 9 = .int .i64 j :=
        fun t' q1 q2 q3 q4 q5 q6 q7 => ⟨k - 1, by omega, j + 1, by omega, q1, q2, q3, q4, q5, by rw [estep]; exact q6, by rw [q7]; rfl⟩
      cases B with
      | true =>
        simp [t3, t4, t5, t6, t7, t8, t9, hwj]
        exact ⟨k - 1, by omega, j + 1, by omega, by simpa using estep, by omega⟩
      | false =>
        simp [t3, t4, t5, t6, t7, t8, t9, hwj, e1, a1, a2, a3, hj]
        exact ⟨k - 1, by omega, j + 1, by omega, by rw [estep, Bool.false_or], by omega⟩
    · have hje : j = ms.length := by omega
      subst hje
      rw [List.take_length] at t8
      obtain ⟨B, hB⟩ : ∃ B, B = ms.any (fun m => decide (m.1 = (i : Int))) := ⟨_, rfl⟩
      rw [← hB] at t8
      obtain ⟨o1, i1, ob1, e1, a1, a2, a3⟩ := hs23.get hiz
      obtain ⟨o2, i2, ob2, e2, b1, b2, b3⟩ := hst3.get hi
      cases B with
      | true =>
        simp [t3, t4, t5, t6, t7, t8, hw]
        exact ⟨m - 1, by omega, i + 1, by omega, by omega⟩
      | false =>
        have heq : zs[i] = xs[i] := by
          have h1 := doTo_off n ms xs i (fun m hm hc => by
            have := List.any_eq_false.1 hB.symm m hm
            simp at this
            exact this hc) ms.length
          rw [← hzs, List.getElem?_eq_getElem hiz, List.getElem?_eq_getElem hi] at h1
          exact Option.some.inj h1
        rw [heq] at a3
        simp [t3, t4, t5, t6, t7, t8, hw, e1, a1, a2, a3, e2, b1, b2, b3, hi, hiz]
        exact ⟨m - 1, by omega, i + 1, by omega, by omega⟩
  · simp [t3, t4, t5, t6, t7, lz, lx, hs23.slc, hst3.slc, hzl]
    refine cg_ex (implDo2_ok dv xs .nils [] n H3 hst3 hx0 (by omega) Rows.nil (by simp)) ?_
    intro v5 H5 h5
    obtain ⟨hle5, hs5⟩ := Fresh.strs h5
    rw [doTo_nil] at hs5
    simp [t3]
    refine cg_use (ltSames_ok v5 dv xs xs H5 hs5 (hst3.le hle5) (by omega)) ?_
    simp

theorem lawDiskDoCut_ok (a b : AV) (cs ys : List Int) (H : Hp) (ha : Bytes H a cs) (hb : Bytes H b ys) (hx : cs.length < 4611686018427387904) (hy : ys.length < 4611686018427387904) :
    AC Try.prog E 8 [a, b] H (fun v H' => v = .bool true) := by
  refine AC_by fol (tC_le tab2_ok) h_laws_FnDiskDoCut ?_
  have l1 := ha.len
  have l2 := hb.len
  simp [c_laws_FnDiskDoCut, l1, l2, ha.1.slc, hb.1.slc]
  refine g_split (fun hq => ?_) (fun hq => ?_) (by simp) <;> simp at hq <;> simp [hq, l1, l2, ha.1.slc, hb.1.slc]
  refine c_split (fun hq2 => ?_) (fun hq2 => ?_) <;> simp at hq2 <;> simp
  refine cg_ex (DrawDiskDo_ok a cs H ha hx) ?_
  rintro v H1 ⟨dv, mv, xs, ms, n, rfl, hst, hx0, hxl, hxs, hm, hml, hms⟩
  simp
  refine cg_ex (implDo2_ok dv xs mv ms n H1 hst hx0 (by omega) hm (by omega)) ?_
  intro v2 H2 h2
  obtain ⟨hle2, hs2⟩ := Fresh.strs h2
  simp
  refine cg_ex (specDo2_ok dv xs mv ms n H2 (hst.le hle2) hx0 (by omega) (hm.le hle2) (by omega)) ?_
  intro v3 H3 h3
  obtain ⟨hle3, hs3⟩ := Fresh.strs h3
  have hs23 := hs2.le hle3
  obtain ⟨zs, hzs⟩ : ∃ zs, zs = doTo n ms xs ms.length := ⟨_, rfl⟩
  rw [← hzs] at hs23 hs3
  have hzl : zs.length = xs.length := by rw [hzs]; exact doTo_len _ _ _ _
  have hst3 := (hst.le hle2).le hle3
  have hm3 := (hm.le hle2).le hle3
  simp
  refine cg_use (ltSames_ok v2 v3 zs zs H3 hs23 hs3 (by omega)) ?_
  simp [hm3.len, hm3.slc]
  refine c_split (fun hq3 => ?_) (fun hq3 => ?_) <;> simp at hq3
  · subst hq3
    simp
    refine cg_ex (specDo2_ok dv xs mv [] n H3 hst3 hx0 (by omega) hm3 (by simp)) ?_
    intro v5 H5 h5
    obtain ⟨hle5, hs5⟩ := Fresh.strs h5
    simp
    refine cg_use (ltSames_ok v2 v5 zs _ H5 (hs23.le hle5) hs5 (by omega)) ?_
    simp [hzs]
  · have hpos : 0 < ms.length := List.length_pos_iff.2 hq3
    have hmod : (ys.length : Int).tmod (ms.length : Int) = ((ys.length % ms.length : Nat) : Int) := by
      rw [Int.tmod_eq_emod_of_nonneg (by omega)]
      exact (Int.natCast_emod _ _).symm
    have hc : ys.length % ms.length < ms.length := Nat.mod_lt _ hpos
    have hcut := doTo_cut (bytes := n) hc hms xs
    generalize ys.length % ms.length = c at hmod hc hcut
    have hl3 := hm3.len
    have hs3' := hm3.slc
    obtain ⟨o1, i1, ob1, e1, a1, a2, a4, a5⟩ : ∃ o i ob, mv = .sl o i ms.length ∧ H3.at o = some ob ∧ ob.esz = 2 ∧ i + ms.length ≤ ob.rows.length ∧ (ob.rows.drop i).take ms.length = ms.map mvRow := by
      rcases hm3 with ⟨_, h⟩ | ⟨_, h⟩ | ⟨o, i, ob, h1, h2, h3, h4, h5⟩
      · exact absurd (by simpa using h) hq3
      · exact absurd (by simpa using h) hq3
      · simp at h1 h4 h5
        exact ⟨o, i, ob, h1, h2, h3, h4, h5⟩
    have hu : Mvs H3 (.sl o1 i1 c) (ms.take c) := by
      refine .inr (.inr ⟨o1, i1, ob1, by simp; omega, a1, a2, by simp; omega, ?_⟩)
      have : ((ob1.rows.drop i1).take ms.length).take c = (ms.map mvRow).take c := by rw [a5]
      rw [List.take_take, Nat.min_eq_left (by omega)] at this
      rw [List.length_map, List.length_take, Nat.min_eq_left (by omega), this, List.map_take]
    have hw : Mvs H3 (.sl o1 (i1 + c) (ms.length - c)) (ms.drop c) := by
      refine .inr (.inr ⟨o1, i1 + c, ob1, by simp, a1, a2, by simp; omega, ?_⟩)
      have : ((ob1.rows.drop i1).take ms.length).drop c = (ms.map mvRow).drop c := by rw [a5]
      rw [List.drop_take, List.drop_drop] at this
      rw [List.length_map, List.length_drop, this, List.map_drop]
    have hcI : (c : Int) ≤ ms.length := by omega
    have hcN : c ≤ ms.length := by omega
    have hsub : ((ms.length : Int) - c).toNat = ms.length - c := by omega
    simp [l2, hb.1.slc, hl3, hs3', hmod, hq3, e1, cutG, optK, a1, a2, hcI, hcN, hsub]
    refine cg_ex (implDo2_ok dv xs _ (ms.take c) 400 H3 hst3 hx0 (by omega) hu (by simp; omega)) ?_
    intro v5 H5 h5
    obtain ⟨hle5, hs5⟩ := Fresh.strs h5
    have a15 := hle5.2 _ _ a1
    simp [e1, a15, a2, hcI, hcN, hsub]
    refine cg_ex (implDo2_ok v5 _ _ (ms.drop c) n H5 hs5 (doTo_ne hx0) (by rw [doTo_len]; omega) (hw.le hle5) (by simp; omega)) ?_
    intro v6 H6 h6
    obtain ⟨hle6, hs6⟩ := Fresh.strs h6
    rw [hcut, ← hzs] at hs6
    simp
    refine cg_use (ltSames_ok v6 v2 zs zs H6 hs6 ((hs23.le hle5).le hle6) (by omega)) ?_
    simp

end Go.Proofs.Ytkdnijiipegabaa.B
