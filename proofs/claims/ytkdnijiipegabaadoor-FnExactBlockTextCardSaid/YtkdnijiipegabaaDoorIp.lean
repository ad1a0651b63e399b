/- The law FnExactBlockText. -/
import Derived.Test.YtkdnijiipegabaaDoorIo
import Derived.Test.YtkdnijiipegabaaDoorIf
import Derived.Test.YtkdnijiipegabaaDoorDa
namespace Go.Proofs.YtkdnijiipegabaaDoor.B
open Go.RowKit Go.Proofs
set_option linter.unusedVariables false
set_option linter.unusedSimpArgs false
variable {E : Env}

theorem szEntry_ok (e : Ent) (left : Int) (H : Hp) (hl : 0 ≤ left ∧ left ≤ 1048576) (hs : e.key.size < 4611686018427387904) :
    AC Tryd.prog E 30 [.ag (entRow e), .int .i64 left] H (fun v H' => v = .int .i64 (if (e.key.size : Int) ≤ left then left - e.key.size else -1) ∧ H' = H) := by
  refine AC_byp (CLe.refl _) h_laws_szEntry (by simp) ?_
  have hw0 : IntKind.i64.wrap (left - e.key.size) = left - e.key.size := wrap64 (by omega) (by omega)
  simp [c_laws_szEntry, entRow, hw0]
  refine c_split (fun hq => ?_) (fun hq => ?_) <;> simp at hq <;> simp
  · intro _
    omega
  · intro _
    omega

def szE (xs : List Ent) : Nat := szL (xs.map (·.key))
theorem szE_take (xs : List Ent) {i : Nat} (h : i < xs.length) : szE (xs.take (i + 1)) = szE (xs.take i) + xs[i].key.size := by
  have := szL_take (xs.map (·.key)) (i := i) (by simpa using h)
  simpa [szE, List.map_take] using this
theorem szE_le (xs : List Ent) (i : Nat) : szE (xs.take i) ≤ szE xs := by
  have := szL_le (xs.map (·.key)) i
  simpa [szE, List.map_take] using this

theorem szEntryS_ok (a : AV) (xs : List Ent) (left : Int) (H : Hp) (ha : Ents H a xs) (hl : 0 ≤ left ∧ left ≤ 1048576) (hx : xs.length < 4611686018427387904) (hs : Short xs) :
    AC Tryd.prog E 11 [a, .int .i64 left] H (fun v H' => v = .int .i64 (if (xs.length : Int) + szE xs ≤ left then left - xs.length - szE xs else -1) ∧ H' = H) := by
  refine AC_byp (CLe.refl _) h_laws_szEntryS (by simp) ?_
  have l1 := ha.len
  have hw0 : IntKind.i64.wrap (left - xs.length) = left - xs.length := wrap64 (by omega) (by omega)
  simp [c_laws_szEntryS, l1, ha.slc, hw0]
  refine c_split (fun hq => ?_) (fun hq => ?_) <;> simp at hq <;> simp
  · intro _
    omega
  · refine W_for (fun k t H' => ∃ i : Nat, i + k = xs.length ∧ t 0 = a ∧ t 1 = .int .i64 (left - xs.length - szE (xs.take i)) ∧ t 5 = .int .i64 i ∧ 0 ≤ left - xs.length - szE (xs.take i) ∧ HLe H H') xs.length ?_ AC_mono ?_
    · exact ⟨0, by simp [szE, szL]; omega⟩
    rintro k t H' ⟨i, hik, h0, h1, h5, hp, hle⟩
    simp [h0, h1, h5, l1, ha.slc]
    refine c_split (fun hq2 => ?_) (fun hq2 => ?_) <;> simp at hq2
    · have hw := wrapN (i := i) (by omega)
      obtain ⟨o1, i1, ob1, rfl, a1, a2, a3⟩ := (ha.le hle).get hq2
      have hsz := hs _ (List.getElem_mem hq2)
      have hst := szE_take xs hq2
      simp [h0, h1, h5, a1, a2, a3, hq2]
      refine callG_use (szEntry_ok xs[i] _ H' ⟨by omega, by omega⟩ hsz) ?_
      simp [h0, h1, h5]
      refine c_split (fun hq3 => ?_) (fun hq3 => ?_) <;> simp at hq3 <;> simp [h0, h1, h5, hw, hle]
      · have := szE_le xs (i + 1)
        intro _
        split at hq3 <;> omega
      · split at hq3
        · refine ⟨k - 1, by omega, i + 1, by omega, ?_, by omega, by omega⟩
          rw [if_pos (by omega)]
          omega
        · omega
    · have : i = xs.length := by omega
      subst this
      simp at hp
      simp [h0, h1, h5, hle]
      intro _
      omega

theorem toEntry_ok (e : Ent) (H : Hp) :
    AC Tryd.prog E 34 [.ag (entRow e)] H (fun v H' => v = .ag (entRow e) ∧ H' = H) := by
  refine AC_byp (CLe.refl _) h_laws_toEntry (by simp [entRow]) ?_
  simp [c_laws_toEntry, entRow]

theorem toEntryS_ok (a : AV) (xs : List Ent) (H : Hp) (ha : Ents H a xs) (hx : xs.length ≤ 1048576) :
    AC Tryd.prog E 13 [a] H (Fresh H ⟨xs.map entRow, 4, 56, false⟩) := by
  refine AC_by fol (CLe.refl _) h_laws_toEntryS ?_
  have l1 := ha.len
  simp [c_laws_toEntryS, l1, ha.slc]
  refine ⟨by omega, ?_⟩
  rw [if_pos (by omega)]
  simp
  refine W_for (fun k t H' => ∃ i : Nat, i + k = xs.length ∧ t 0 = a ∧ t 3 = .sl H.length 0 xs.length ∧ t 4 = .int .i64 i ∧ H' = H ++ [some ⟨fillR entRow [.str ⟨#[]⟩, .int .i64 0, .bool false, .int .i64 0] xs i, 4, 56, false⟩]) xs.length ?_ AC_mono ?_
  · exact ⟨0, by simp [fillR_0]⟩
  rintro k t H' ⟨i, hik, h0, h3, h4, rfl⟩
  simp [h0, h3, h4, l1, ha.slc]
  refine c_split (fun hq2 => ?_) (fun hq2 => ?_) <;> simp at hq2
  · have hw := wrapN (i := i) (by omega)
    obtain ⟨o1, i1, ob1, rfl, a1, a2, a3⟩ := (ha.le (HLe.self H [some ⟨fillR entRow [.str ⟨#[]⟩, .int .i64 0, .bool false, .int .i64 0] xs i, 4, 56, false⟩])).get hq2
    have hs := fillR_set (f := entRow) (z := [.str ⟨#[]⟩, .int .i64 0, .bool false, .int .i64 0]) hq2
    simp [h0, h3, h4, a1, a2, a3, hq2, fillR_get hq2]
    refine callG_use (toEntry_ok xs[i] _) ?_
    simp [h0, h3, h4, a1, a2, a3, hq2, fillR_get hq2, hw, entRow]
    exact ⟨k - 1, by omega, i + 1, by omega, by omega, hs⟩
  · have : i = xs.length := by omega
    subst this
    simp [h3, fillR_n]
    exact ⟨HLe.self _ _, H.length, by simp, Nat.le_refl _, by simp⟩

theorem eqEntry_ok (m n : Ent) (H : Hp) :
    AC Tryd.prog E 37 [.ag (entRow m), .ag (entRow n)] H (fun v H' => v = .bool (decide (m = n)) ∧ H' = H) := by
  refine AC_byp (CLe.refl _) h_laws_eqEntry (by simp) ?_
  obtain ⟨m1, m2, m3, m4⟩ := m
  obtain ⟨n1, n2, n3, n4⟩ := n
  simp [c_laws_eqEntry, entRow]
  refine c_split (fun hq => ?_) (fun hq => ?_) <;> simp at hq <;> simp
  · intro h
    exact absurd h hq
  · refine c_split (fun hq2 => ?_) (fun hq2 => ?_) <;> simp at hq2 <;> simp [hq, hq2]
    refine c_split (fun hq3 => ?_) (fun hq3 => ?_) <;> simp at hq3 <;> simp [hq, hq2, hq3]
    refine c_split (fun hq4 => ?_) (fun hq4 => ?_) <;> simp at hq4 <;> simp [hq, hq2, hq3, hq4]

theorem eqEntryS_ok (a b : AV) (xs ys : List Ent) (H : Hp) (ha : Ents H a xs) (hb : Ents H b ys) (hx : xs.length < 9223372036854775807) : AC Tryd.prog E 15 [a, b] H (fun v H' => v = .bool (decide (xs = ys)) ∧ H' = H) := by
  refine AC_byp (CLe.refl _) h_laws_eqEntryS (by simp) ?_
  have l1 := ha.len
  have l2 := hb.len
  simp [c_laws_eqEntryS, l1, l2, ha.slc, hb.slc]
  refine c_split (fun hq => ?_) (fun hq => ?_) <;> simp at hq <;> simp
  · intro h
    subst h
    exact hq rfl
  · refine W_for (fun k t H' => ∃ i : Nat, i + k = xs.length ∧ t 0 = a ∧ t 1 = b ∧ t 5 = .int .i64 i ∧ (∀ j : Nat, j < i → xs[j]? = ys[j]?) ∧ HLe H H') xs.length ?_ AC_mono ?_
    · exact ⟨0, by simp⟩
    rintro k t H' ⟨i, hik, h0, h1, h5, hI, hle⟩
    simp [h0, h1, h5, l1, ha.slc]
    refine c_split (fun hq2 => ?_) (fun hq2 => ?_) <;> simp at hq2
    · have hw := wrapN (i := i) (by omega)
      obtain ⟨o1, i1, ob1, rfl, a1, a2, a3⟩ := (ha.le hle).get hq2
      obtain ⟨o2, i2, ob2, rfl, b1, b2, b3⟩ := (hb.le hle).get (j := i) (by omega)
      simp [h0, h1, h5, a1, a2, a3, b1, b2, b3, hq2, ← hq]
      refine callG_use (eqEntry_ok xs[i] ys[i] H') ?_
      simp
      refine c_split (fun hq3 => ?_) (fun hq3 => ?_) <;> simp at hq3 <;> simp [h0, h1, h5, hw, hle]
      · intro h
        subst h
        exact hq3 rfl
      · refine ⟨k - 1, by omega, i + 1, by omega, by omega, fun j hj => ?_⟩
        rcases Nat.lt_or_ge j i with h | h
        · exact hI j h
        · have : j = i := by omega
          subst this
          rw [List.getElem?_eq_getElem hq2, List.getElem?_eq_getElem (by omega), hq3]
    · simp [hle]
      apply List.ext_getElem?
      intro j
      rcases Nat.lt_or_ge j i with h | h
      · exact hI j h
      · rw [List.getElem?_eq_none (by omega), List.getElem?_eq_none (by omega)]

theorem Ty.ents {H : Hp} {v : AV} (h : Ty H (.kl [.ks, .ki .i64, .kb, .ki .i64]) v) : ∃ xs : List Ent, Ents H v xs ∧ xs.length ≤ 140737488351232 ∧ ∀ s ∈ xs, s.key.size ≤ 140737488351232 := by
  obtain ⟨rows, h1, h2, h3⟩ := h.sl
  obtain ⟨xs, rfl, hq⟩ := rows_map (f := entRow) (Q := fun s => s.key.size ≤ 140737488351232) (fun r hr => by
    obtain ⟨v, us, rfl, a1, a2⟩ := (h3 r hr).cons
    obtain ⟨w, us, rfl, b1, b2⟩ := a2.cons
    obtain ⟨x, us, rfl, c1, c2⟩ := b2.cons
    obtain ⟨y, us, rfl, d1, d2⟩ := c2.cons
    obtain ⟨s, rfl, hs⟩ := a1.str
    obtain ⟨n, rfl, _⟩ := b1.int
    obtain ⟨g, rfl⟩ := c1.bool
    obtain ⟨m, rfl, _⟩ := d1.int
    rw [d2.nil]
    exact ⟨⟨s, n, g, m⟩, rfl, hs⟩)
  exact ⟨xs, h1, by simpa using h2, hq⟩

theorem lawExactBlockText_ok (hE : Tab10 E) (a : AV) (xs : List Ent) (H : Hp) (ha : Ents H a xs) (hx : xs.length < 4611686018427387904) (hs : Short xs) :
    AC Tryd.prog E 5 [a] H (fun v H' => v = .bool true) := by
  refine AC_by fol (CLe.refl _) h_laws_FnExactBlockText ?_
  simp [c_laws_FnExactBlockText]
  refine callG_use (szEntryS_ok a xs _ H ha (by omega) hx hs) ?_
  simp
  refine c_split (fun hq => ?_) (fun hq => ?_) <;> simp at hq <;> simp
  have hq1 : (xs.length : Int) + szE xs ≤ 1048576 := by
    split at hq
    · assumption
    · omega
  refine callG_ex (toEntryS_ok a xs H ha (by omega)) ?_
  rintro v1 H1 ⟨hle1, o1, rfl, ho1, hat1⟩
  simp
  have hE1 : Ents H1 (.sl o1 0 xs.length) xs := by simpa [Ents] using Rows.whole hat1
  refine callG_use (BlockText_ok _ xs H1 hE1 hs (by omega)) ?_
  simp
  refine callG_ex (toEntryS_ok a xs H1 (ha.le hle1) (by omega)) ?_
  rintro v2 H2 ⟨hle2, o2, rfl, ho2, hat2⟩
  simp
  have hE2 : Ents H2 (.sl o2 0 xs.length) xs := by simpa [Ents] using Rows.whole hat2
  refine callG_use (implBlockText_ok hE _ xs H2 hE2 hs (by omega)) ?_
  simp
  refine callG_ex (toEntryS_ok a xs H2 ((ha.le hle1).le hle2) (by omega)) ?_
  rintro v3 H3 ⟨hle3, o3, rfl, ho3, hat3⟩
  simp
  have hE3 : Ents H3 (.sl o3 0 xs.length) xs := by simpa [Ents] using Rows.whole hat3
  refine callG_use (eqEntryS_ok _ _ xs xs H3 (hE2.le hle3) hE3 (by omega)) ?_
  simp

end Go.Proofs.YtkdnijiipegabaaDoor.B
