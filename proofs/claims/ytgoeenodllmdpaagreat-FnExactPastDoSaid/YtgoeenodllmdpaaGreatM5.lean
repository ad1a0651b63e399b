/- A part of the proof: The exact laws' own functions: entries, deeds. Stores in memory of one's own; what marks make of them. The exact laws' own functions: marks of entries, texts, numbers, levels. The exact laws' own functions: marks of deeds, sieves, stores. The exact laws' own functions: marks of stores. The exact laws' own functions: what is alike is found alike. The exact laws' own functions: the size of a store, of deeds. The exact laws' own functions: the size of stores, and of deeds. The exact laws' own functions: copies of stores and deeds. The exact laws' own functions: copies of sieves and stores. The exact laws' own functions: copies of stores. The law FnExactPastAll. The exact laws' own functions: what marks have written is there. The law FnExactPastDo. There is no condition. -/
import Derived.Test.YtgoeenodllmdpaaGreatM0
import Derived.Test.YtgoeenodllmdpaaGreatM1
import Derived.Test.YtgoeenodllmdpaaGreatM2
import Derived.Test.YtgoeenodllmdpaaGreatM3
import Derived.Test.YtgoeenodllmdpaaGreatM4
namespace Go.Proofs.YtgoeenodllmdpaaGreat.B
open Go.RowKit Go.Proofs
set_option linter.unusedVariables false
set_option linter.unusedSimpArgs false
variable {E : Env}

theorem szEntry_ok (e : Ent) (left : Int) (H : Hp) (hl : 0 ≤ left ∧ left ≤ 1048576) (hs : e.key.size < 4611686018427387904) :
    AC Tryz.prog E 193 [.ag (entRow e), .int .i64 left] H (fun v H' => v = .int .i64 (if (e.key.size : Int) ≤ left then left - e.key.size else -1) ∧ H' = H) := by
  refine AC_byp (CLe.refl _) h_laws_szEntry (by simp) ?_
  have hw0 : IntKind.i64.wrap (left - e.key.size) = left - e.key.size := wrap64 (by omega) (by omega)
  simp [c_laws_szEntry, entRow, hw0]
  refine c_split (fun hq => ?_) (fun hq => ?_) <;> simp at hq <;> simp
  · intro _
    omega
  · intro _
    omega

def szE (xs : List Ent) : Nat := szL (xs.map (·.key))
theorem szE_take (xs : List Ent) {i : Nat} (h : i < xs.length) : szE (xs.take (i + 1)) = szE (xs.take i) + xs[i].key.size := by
  have := szL_take (xs.map (·.key)) (i := i) (by simpa using h)
  simpa [szE, List.map_take] using this
theorem szE_le (xs : List Ent) (i : Nat) : szE (xs.take i) ≤ szE xs := by
  have := szL_le (xs.map (·.key)) i
  simpa [szE, List.map_take] using this

theorem szEntryS_ok (a : AV) (xs : List Ent) (left : Int) (H : Hp) (ha : Ents H a xs) (hl : 0 ≤ left ∧ left ≤ 1048576) (hx : xs.length < 4611686018427387904) (hs : Short xs) :
    AC Tryz.prog E 122 [a, .int .i64 left] H (fun v H' => v = .int .i64 (if (xs.length : Int) + szE xs ≤ left then left - xs.length - szE xs else -1) ∧ H' = H) := by
  refine AC_byp (CLe.refl _) h_laws_szEntryS (by simp) ?_
  have l1 := ha.len
  have hw0 : IntKind.i64.wrap (left - xs.length) = left - xs.length := wrap64 (by omega) (by omega)
  simp [c_laws_szEntryS, l1, ha.slc, hw0]
  refine c_split (fun hq => ?_) (fun hq => ?_) <;> simp at hq <;> simp
  · intro _
    omega
  · refine W_for (fun k t H' => ∃ i : Nat, i + k = xs.length ∧ t 0 = a ∧ t 1 = .int .i64 (left - xs.length - szE (xs.take i)) ∧ t 5 = .int .i64 i ∧ 0 ≤ left - xs.length - szE (xs.take i) ∧ HLe H H') xs.length ?_ AC_mono ?_
    · exact ⟨0, by simp [szE, szL]; omega⟩
    rintro k t H' ⟨i, hik, h0, h1, h5, hp, hle⟩
    simp [h0, h1, h5, l1, ha.slc]
    refine c_split (fun hq2 => ?_) (fun hq2 => ?_) <;> simp at hq2
    · have hw := wrapN (i := i) (by omega)
      obtain ⟨o1, i1, ob1, rfl, a1, a2, a3⟩ := (ha.le hle).get hq2
      have hsz := hs _ (List.getElem_mem hq2)
      have hst := szE_take xs hq2
      simp [h0, h1, h5, a1, a2, a3, hq2]
      refine callG_use (szEntry_ok xs[i] _ H' ⟨by omega, by omega⟩ hsz) ?_
      simp [h0, h1, h5]
      refine c_split (fun hq3 => ?_) (fun hq3 => ?_) <;> simp at hq3 <;> simp [h0, h1, h5, hw, hle]
      · have := szE_le xs (i + 1)
        intro _
        split at hq3 <;> omega
      · split at hq3
        · refine ⟨k - 1, by omega, i + 1, by omega, ?_, by omega, by omega⟩
          rw [if_pos (by omega)]
          omega
        · omega
    · have : i = xs.length := by omega
      subst this
      simp at hp
      simp [h0, h1, h5, hle]
      intro _
      omega

theorem toEntry_ok (e : Ent) (H : Hp) :
    AC Tryz.prog E 195 [.ag (entRow e)] H (fun v H' => v = .ag (entRow e) ∧ H' = H) := by
  refine AC_byp (CLe.refl (AC Tryz.prog E)) h_laws_toEntry (by simp [entRow]) ?_
  obtain ⟨k, n, g, m⟩ := e
  simp only [c_laws_toEntry, entRow]
  refine W_cut AC_mono (fun t H' => t 1 = .pt H.length 0 0 ∧ t 2 = .pt (H.length + 1) 0 0 ∧ HLe H H' ∧ H'.length = H.length + 2 ∧ H'.at H.length = some ⟨[[.str k, .int .i64 n, .bool g, .int .i64 m]], 4, 198, false⟩ ∧ H'.at (H.length + 1) = some ⟨[[.str ⟨#[]⟩, .int .i64 0, .bool false, .int .i64 0]], 4, 99, false⟩) ?_ ?_
  · simp
  rintro t H1 ⟨t1, t2, hle1, hl1, b0, b1⟩
  refine W_cut AC_mono (fun t H' => t 1 = .pt H.length 0 0 ∧ t 2 = .pt (H.length + 1) 0 0 ∧ t 3 = .pt (H.length + 2) 0 0 ∧ HLe H H' ∧ H'.at H.length = some ⟨[[.str k, .int .i64 n, .bool g, .int .i64 m]], 4, 198, false⟩ ∧ H'.at (H.length + 1) = some ⟨[[.str ⟨#[]⟩, .int .i64 0, .bool false, .int .i64 0]], 4, 99, false⟩ ∧ H'.at (H.length + 2) = some ⟨[[.str ⟨#[]⟩, .int .i64 0, .bool false, .int .i64 0]], 4, 99, false⟩) ?_ ?_
  · simp [t1, t2, hl1]
    refine ⟨hle1.app _, (HLe.self _ _).2 _ _ b0, (HLe.self _ _).2 _ _ b1, ?_⟩
    rw [← hl1]
    simp
  clear hle1 hl1 b0 b1 t1 t2
  rintro t H1 ⟨t1, t2, t3, hle1, b0, b1, b2⟩
  have u1 := Hp.at_lt b1
  have u2 := Hp.at_lt b2
  have n1 : H.length + 2 ≠ H.length := by omega
  have n2 : H.length + 2 ≠ H.length + 1 := by omega
  simp [t1, t2, t3, b0, b1, b2, u1, u2, Hp.at_set, Hp.at_set_ne, n1, n2]
  exact (hle1.set (by omega) _).set (by omega) _

theorem toEntryS_ok (a : AV) (xs : List Ent) (H : Hp) (ha : Ents H a xs) (hx : xs.length ≤ 1048576) :
    AC Tryz.prog E 127 [a] H (Fresh H ⟨xs.map entRow, 4, 99, false⟩) := by
  refine AC_by fol (CLe.refl _) h_laws_toEntryS ?_
  have l1 := ha.len
  simp [c_laws_toEntryS, l1, ha.slc]
  refine ⟨by omega, ?_⟩
  rw [if_pos (by omega)]
  simp
  refine W_for (fun k t H' => ∃ i : Nat, i + k = xs.length ∧ t 0 = a ∧ t 3 = .sl H.length 0 xs.length ∧ t 4 = .int .i64 i ∧ H' = H ++ [some ⟨fillR entRow [.str ⟨#[]⟩, .int .i64 0, .bool false, .int .i64 0] xs i, 4, 99, false⟩]) xs.length ?_ AC_mono ?_
  · exact ⟨0, by simp [fillR_0]⟩
  rintro k t H' ⟨i, hik, h0, h3, h4, rfl⟩
  simp [h0, h3, h4, l1, ha.slc]
  refine c_split (fun hq2 => ?_) (fun hq2 => ?_) <;> simp at hq2
  · have hw := wrapN (i := i) (by omega)
    obtain ⟨o1, i1, ob1, rfl, a1, a2, a3⟩ := (ha.le (HLe.self H [some ⟨fillR entRow [.str ⟨#[]⟩, .int .i64 0, .bool false, .int .i64 0] xs i, 4, 99, false⟩])).get hq2
    have hs := fillR_set (f := entRow) (z := [.str ⟨#[]⟩, .int .i64 0, .bool false, .int .i64 0]) hq2
    simp [h0, h3, h4, a1, a2, a3, hq2, fillR_get hq2]
    refine callG_use (toEntry_ok xs[i] _) ?_
    simp [h0, h3, h4, a1, a2, a3, hq2, fillR_get hq2, hw, entRow]
    exact ⟨k - 1, by omega, i + 1, by omega, by omega, hs⟩
  · have : i = xs.length := by omega
    subst this
    simp [h3, fillR_n]
    exact ⟨HLe.self _ _, H.length, by simp, Nat.le_refl _, by simp⟩

theorem eqEntry_ok (m n : Ent) (H : Hp) :
    AC Tryz.prog E 132 [.ag (entRow m), .ag (entRow n)] H (fun v H' => v = .bool (decide (m = n)) ∧ H' = H) := by
  refine AC_byp (CLe.refl _) h_laws_eqEntry (by simp) ?_
  obtain ⟨m1, m2, m3, m4⟩ := m
  obtain ⟨n1, n2, n3, n4⟩ := n
  simp [c_laws_eqEntry, entRow]
  refine c_split (fun hq => ?_) (fun hq => ?_) <;> simp at hq <;> simp
  · intro h
    exact absurd h hq
  · refine c_split (fun hq2 => ?_) (fun hq2 => ?_) <;> simp at hq2 <;> simp [hq, hq2]
    refine c_split (fun hq3 => ?_) (fun hq3 => ?_) <;> simp at hq3 <;> simp [hq, hq2, hq3]
    refine c_split (fun hq4 => ?_) (fun hq4 => ?_) <;> simp at hq4 <;> simp [hq, hq2, hq3, hq4]

theorem eqEntryS_ok (a b : AV) (xs ys : List Ent) (H : Hp) (ha : Ents H a xs) (hb : Ents H b ys) (hx : xs.length < 9223372036854775807) : AC Tryz.prog E 55 [a, b] H (fun v H' => v = .bool (decide (xs = ys)) ∧ H' = H) := by
  refine AC_byp (CLe.refl _) h_laws_eqEntryS (by simp) ?_
  have l1 := ha.len
  have l2 := hb.len
  simp [c_laws_eqEntryS, l1, l2, ha.slc, hb.slc]
  refine c_split (fun hq => ?_) (fun hq => ?_) <;> simp at hq <;> simp
  · intro h
    subst h
    exact hq rfl
  · refine W_for (fun k t H' => ∃ i : Nat, i + k = xs.length ∧ t 0 = a ∧ t 1 = b ∧ t 5 = .int .i64 i ∧ (∀ j : Nat, j < i → xs[j]? = ys[j]?) ∧ HLe H H') xs.length ?_ AC_mono ?_
    · exact ⟨0, by simp⟩
    rintro k t H' ⟨i, hik, h0, h1, h5, hI, hle⟩
    simp [h0, h1, h5, l1, ha.slc]
    refine c_split (fun hq2 => ?_) (fun hq2 => ?_) <;> simp at hq2
    · have hw := wrapN (i := i) (by omega)
      obtain ⟨o1, i1, ob1, rfl, a1, a2, a3⟩ := (ha.le hle).get hq2
      obtain ⟨o2, i2, ob2, rfl, b1, b2, b3⟩ := (hb.le hle).get (j := i) (by omega)
      simp [h0, h1, h5, a1, a2, a3, b1, b2, b3, hq2, ← hq]
      refine callG_use (eqEntry_ok xs[i] ys[i] H') ?_
      simp
      refine c_split (fun hq3 => ?_) (fun hq3 => ?_) <;> simp at hq3 <;> simp [h0, h1, h5, hw, hle]
      · intro h
        subst h
        exact hq3 rfl
      · refine ⟨k - 1, by omega, i + 1, by omega, by omega, fun j hj => ?_⟩
        rcases Nat.lt_or_ge j i with h | h
        · exact hI j h
        · have : j = i := by omega
          subst this
          rw [List.getElem?_eq_getElem hq2, List.getElem?_eq_getElem (by omega), hq3]
    · simp [hle]
      apply List.ext_getElem?
      intro j
      rcases Nat.lt_or_ge j i with h | h
      · exact hI j h
      · rw [List.getElem?_eq_none (by omega), List.getElem?_eq_none (by omega)]

theorem szDeed_ok (d : Dd) (left : Int) (H : Hp) (hl : 0 ≤ left ∧ left ≤ 1048576) (hs : d.key.size < 4611686018427387904) :
    AC Tryz.prog E 126 [ddAV d, .int .i64 left] H (fun v H' => v = .int .i64 (if left - d.key.size < 0 then -1 else left - d.key.size) ∧ H' = H) := by
  refine AC_byp (CLe.refl (AC Tryz.prog E)) h_laws_szDeed (by simp) ?_
  have hw : IntKind.i64.wrap (left - (d.key.size : Int)) = left - d.key.size := wrap64 (by omega) (by omega)
  simp [c_laws_szDeed, ddAV, hw]
  refine c_split (fun hq => ?_) (fun hq => ?_) <;> simp at hq
  · rw [if_pos (by omega)]
    simp
  · rw [if_neg (by omega)]
    simp
theorem toDeed_ok (d : Dd) (H : Hp) : AC Tryz.prog E 131 [ddAV d] H (fun v H' => v = ddAV d ∧ H' = H) := by
  refine AC_byp (CLe.refl (AC Tryz.prog E)) h_laws_toDeed (by simp [ddAV]) ?_
  simp [c_laws_toDeed, ddAV]

def mkE (K : Int) (j : Nat) : Ent := ⟨markT (K + 4 * j), K + 4 * j + 1, decide ((K + 4 * j + 2).tmod 3 = 0), K + 4 * j + 3⟩
theorem markEntryS_ok (o e : Nat) (F : List (List AV)) (xs : List Ent) (K : Int) (H : Hp) (ho : H.at o = some ⟨F, 4, e, false⟩) (hn : xs.length ≤ F.length) (hF : F.take xs.length = xs.map entRow) (hK : 0 ≤ K ∧ K < 1152921504606846976) (hx : xs.length < 1099511627776) :
    AC Tryz.prog E 60 [.sl o 0 xs.length, .int .i64 K] H (fun v H' => v = .int .i64 (K + 4 * xs.length) ∧ H' = List.set H o (some ⟨overR (fun j => entRow (mkE K j)) F xs.length, 4, e, false⟩)) := by
  refine AC_by fol (CLe.refl _) h_laws_markEntryS ?_
  have hlt := Hp.at_lt ho
  simp [c_laws_markEntryS]
  refine W_for (fun k t H' => ∃ i : Nat, i + k = xs.length ∧ t 0 = .sl o 0 xs.length ∧ t 1 = .int .i64 (K + 4 * i) ∧ t 5 = .int .i64 i ∧ H' = List.set H o (some ⟨overR (fun j => entRow (mkE K j)) F i, 4, e, false⟩)) xs.length ?_ AC_mono ?_
  · exact ⟨0, by simp [overR_0, Hp.set_self ho]⟩
  rintro k t H' ⟨i, hik, h0, h1, h5, rfl⟩
  simp [h0, h1, h5]
  refine c_split (fun hq2 => ?_) (fun hq2 => ?_) <;> simp at hq2
  · have hw := wrapN (i := i) (by omega)
    have w1 : IntKind.i64.wrap (K + 4 * (i : Int) + 1) = K + 4 * (i : Int) + 1 := wrap64 (by omega) (by omega)
    have w2 : IntKind.i64.wrap (K + 4 * (i : Int) + 1 + 1) = K + 4 * (i : Int) + 2 := by rw [wrap64 (by omega) (by omega)]; omega
    have w3 : IntKind.i64.wrap (K + 4 * (i : Int) + 2 + 1) = K + 4 * (i : Int) + 3 := by rw [wrap64 (by omega) (by omega)]; omega
    have w4 : IntKind.i64.wrap (K + 4 * (i : Int) + 3 + 1) = K + 4 * ((i + 1 : Nat) : Int) := by rw [wrap64 (by omega) (by omega)]; omega
    have hiF : i < F.length := by omega
    have hrow : F[i] = entRow xs[i] := by
      have : (F.take xs.length)[i]? = (xs.map entRow)[i]? := by rw [hF]
      rw [List.getElem?_take_of_lt hq2, List.getElem?_eq_getElem hiF, List.getElem?_map, List.getElem?_eq_getElem hq2] at this
      exact Option.some.inj this
    have hs := overR_set (f := fun j => entRow (mkE K j)) hiF
    have hg := overR_get (f := fun j => entRow (mkE K j)) hiF
    rw [hrow] at hg
    obtain ⟨m, hm⟩ : ∃ m, m = xs[i] := ⟨_, rfl⟩
    rw [← hm] at hg
    obtain ⟨R, hR⟩ : ∃ R, R = overR (fun j => entRow (mkE K j)) F i := ⟨_, rfl⟩
    rw [← hR] at hg hs ⊢
    have hRl : i < R.length := (List.getElem?_eq_some_iff.1 hg).1
    have gs : ∀ row : List AV, (R.set i row)[i]? = some row := fun row => by rw [List.getElem?_set_self hRl]
    simp only [entRow] at hg
    simp [h0, h1, h5]
    refine callG_use (markText_ok _ _ (by omega)) ?_
    simp [h0, h1, h5, Hp.at_set _ hlt, hg, gs, hq2, hw, w1, w2, w3, w4]
    refine ⟨k - 1, by omega, i + 1, by omega, by omega, by omega, ?_⟩
    rw [← hs]
    rfl
  · have : i = xs.length := by omega
    subst this
    simp [h1]

theorem heldEntryS_ok (a : AV) (xs : List Ent) (K : Int) (H : Hp) (ha : Ents H a xs) (hK : 0 ≤ K ∧ K < 1152921504606846976) (hn : xs.length < 1099511627776) (hx : ∀ (j : Nat) (h : j < xs.length), xs[j] = mkE K j) :
    AC Tryz.prog E 61 [a, .int .i64 K] H (fun v H' => v = .int .i64 (K + 4 * xs.length) ∧ H' = H) := by
  refine AC_byp (CLe.refl _) h_laws_heldEntryS (by simp) ?_
  have l1 := ha.len
  simp [c_laws_heldEntryS]
  refine W_for (fun k t H' => ∃ i : Nat, i + k = xs.length ∧ t 0 = a ∧ t 1 = .int .i64 (K + 4 * i) ∧ t 5 = .int .i64 i ∧ HLe H H') xs.length ?_ AC_mono ?_
  · exact ⟨0, by simp⟩
  rintro k t H' ⟨i, hik, h0, h1, h5, hle⟩
  simp [h0, h1, h5, l1, ha.slc]
  refine c_split (fun hq2 => ?_) (fun hq2 => ?_) <;> simp at hq2
  · have hw := wrapN (i := i) (by omega)
    have w1 : IntKind.i64.wrap (K + 4 * (i : Int) + 1) = K + 4 * (i : Int) + 1 := wrap64 (by omega) (by omega)
    have w2 : IntKind.i64.wrap (K + 4 * (i : Int) + 1 + 1) = K + 4 * (i : Int) + 2 := by rw [wrap64 (by omega) (by omega)]; omega
    have w3 : IntKind.i64.wrap (K + 4 * (i : Int) + 2 + 1) = K + 4 * (i : Int) + 3 := by rw [wrap64 (by omega) (by omega)]; omega
    have w4 : IntKind.i64.wrap (K + 4 * (i : Int) + 3 + 1) = K + 4 * ((i + 1 : Nat) : Int) := by rw [wrap64 (by omega) (by omega)]; omega
    obtain ⟨o1, i1, ob1, rfl, a1, a2, a3⟩ := (ha.le hle).get hq2
    rw [hx i hq2] at a3
    simp only [entRow, mkE] at a3
    simp [h0, h1, h5, a1, a2, a3, hq2]
    refine callG_use (markText_ok _ _ (by omega)) ?_
    simp [h0, h1, h5, a1, a2, a3, hq2, hw, w1, w2, w3, w4, hle]
    exact ⟨k - 1, by omega, i + 1, by omega, by omega, by omega⟩
  · have : i = xs.length := by omega
    subst this
    simp [h1, hle]
end Go.Proofs.YtgoeenodllmdpaaGreat.B


namespace Go.Proofs.YtgoeenodllmdpaaGreat.B
open Go.RowKit Go.Proofs
set_option linter.unusedVariables false
set_option linter.unusedSimpArgs false
variable {E : Env}

def LvX (X : Nat → Prop) (H : Hp) (row : List AV) (es : List Ent) : Prop := ∃ u, row = [u] ∧ Own 4 99 H u (es.map entRow) ∧ ∀ y, u.of y → X y
def SvX (X : Nat → Prop) (H : Hp) (row : List AV) (s : Sv) : Prop := ∃ r, row = [.str s.l, .str s.m, .str s.f, r, .int .i64 s.k] ∧ Own 1 9 H r (s.r.map strRow) ∧ ∀ y, r.of y → X y
structure OSt (X : Nat → Prop) (H : Hp) (a b c d : AV) (lr sr : List (List AV)) (s : Sr) : Prop where
  ot : Own 4 99 H a (s.top.map entRow)
  ol : Own 1 23 H b lr
  rl : All2 (LvX X H) lr s.lev
  os : Own 5 66 H c sr
  rs : All2 (SvX X H) sr s.sv
  oi : Own 1 3 H d (s.tms.map intRow)
  xs : ∀ y, a.of y ∨ b.of y ∨ c.of y ∨ d.of y → X y
  sep : SepS a lr sr

theorem All2.of_get {α β : Type} {P : α → β → Prop} : ∀ {xs : List α} {ys : List β}, xs.length = ys.length → (∀ (i : Nat) (h : i < xs.length) (h' : i < ys.length), P xs[i] ys[i]) → All2 P xs ys
  | [], [], _, _ => trivial
  | a :: xs, b :: ys, hl, h => ⟨h 0 (by simp) (by simp), All2.of_get (by simpa using hl) (fun i h1 h2 => h (i + 1) (by simpa using h1) (by simpa using h2))⟩
  | [], _ :: _, hl, _ => by simp at hl
  | _ :: _, [], hl, _ => by simp at hl
theorem OSt.st {X : Nat → Prop} {H : Hp} {a b c d : AV} {lr sr : List (List AV)} {s : Sr} (h : OSt X H a b c d lr sr s) : St H (stAV a b c s d) s :=
  ⟨a, b, c, d, lr, sr, rfl, h.ot.rows, h.ol.rows, All2.mono (fun _ _ ⟨u, k1, k2, _⟩ => ⟨u, k1, k2.rows⟩) h.rl, h.os.rows, All2.mono (fun _ _ ⟨u, k1, k2, _⟩ => ⟨u, k1, k2.rows, fun _ _ h => h⟩) h.rs, h.oi.rows⟩
theorem OSt.le {X : Nat → Prop} {H H' : Hp} {a b c d : AV} {lr sr : List (List AV)} {s : Sr} (h : OSt X H a b c d lr sr s) (hle : HLe H H') : OSt X H' a b c d lr sr s :=
  ⟨h.ot.le hle, h.ol.le hle, All2.mono (fun _ _ ⟨u, k1, k2, k3⟩ => ⟨u, k1, k2.le hle, k3⟩) h.rl, h.os.le hle, All2.mono (fun _ _ ⟨u, k1, k2, k3⟩ => ⟨u, k1, k2.le hle, k3⟩) h.rs, h.oi.le hle, h.xs, h.sep⟩
theorem Own.cases {esz ety : Nat} {H : Hp} {v : AV} {R : List (List AV)} (h : Own esz ety H v R) :
    ((v = .nils ∨ v = .sz) ∧ R = []) ∨ ∃ o F, v = .sl o 0 R.length ∧ H.at o = some ⟨F, esz, ety, false⟩ ∧ R.length ≤ F.length ∧ F.take R.length = R := by
  rcases h with ⟨h1, h2⟩ | ⟨h1, h2⟩ | ⟨o, ob, h1, h2, h3, h4, h5, h6, h7⟩
  · exact .inl ⟨.inl h1, h2⟩
  · exact .inl ⟨.inr h1, h2⟩
  · obtain ⟨F, z1, z2, z3⟩ := ob
    simp only at h3 h4 h5 h6 h7
    subst h3
    subst h4
    subst h5
    exact .inr ⟨o, F, h1, h2, h6, h7⟩
theorem over_take (f : Nat → List AV) (F : List (List AV)) (n : Nat) : (overR f F n).take n = (List.range n).map f := by
  unfold overR
  rw [List.take_append_of_le_length (by simp), List.take_of_length_le (by simp)]
theorem over_len (f : Nat → List AV) {F : List (List AV)} {n : Nat} (h : n ≤ F.length) : (overR f F n).length = F.length := by
  simp [overR]
  omega
theorem Own.over {esz ety : Nat} {H : Hp} {o n : Nat} {F : List (List AV)} (f : Nat → List AV) (h : H.at o = some ⟨F, esz, ety, false⟩) (hn : n ≤ F.length) :
    Own esz ety (List.set H o (some ⟨overR f F n, esz, ety, false⟩)) (.sl o 0 n) ((List.range n).map f) :=
  .inr (.inr ⟨o, _, by simp, Hp.at_set _ (Hp.at_lt h), rfl, rfl, rfl, by simp [over_len f hn, hn], by simp [over_take]⟩)

def mkEs (K : Int) (n : Nat) : List Ent := (List.range n).map (mkE K)
def mkSs (K : Int) (n : Nat) : List ByteArray := (List.range n).map (fun j : Nat => markT (K + j))
def mkIs (K : Int) (n : Nat) : List Int := (List.range n).map (fun j : Nat => K + j)
def lvN : List (List Ent) → Nat
  | [] => 0
  | es :: r => 4 * es.length + lvN r
def mkLv : Int → List (List Ent) → List (List Ent)
  | _, [] => []
  | K, es :: r => mkEs K es.length :: mkLv (K + 4 * es.length) r
def mkSv (K : Int) (s : Sv) : Sv := ⟨markT K, markT (K + 1), markT (K + 2), mkSs (K + 3) s.r.length, K + 3 + s.r.length⟩
def svN : List Sv → Nat
  | [] => 0
  | s :: r => 4 + s.r.length + svN r
def mkSvs : Int → List Sv → List Sv
  | _, [] => []
  | K, s :: r => mkSv K s :: mkSvs (K + (4 + s.r.length)) r
def mkSt (K : Int) (s : Sr) : Sr := ⟨mkEs K s.top.length, mkLv (K + 4 * s.top.length) s.lev, mkSvs (K + 4 * s.top.length + lvN s.lev) s.sv, s.keep, s.time, mkIs (K + 4 * s.top.length + lvN s.lev + svN s.sv) s.tms.length⟩
def stN (s : Sr) : Nat := 4 * s.top.length + lvN s.lev + svN s.sv + s.tms.length
@[simp] theorem mkEs_len (K : Int) (n : Nat) : (mkEs K n).length = n := by simp [mkEs]
@[simp] theorem mkSs_len (K : Int) (n : Nat) : (mkSs K n).length = n := by simp [mkSs]
@[simp] theorem mkIs_len (K : Int) (n : Nat) : (mkIs K n).length = n := by simp [mkIs]
theorem mkLv_len : ∀ (K : Int) (xs : List (List Ent)), (mkLv K xs).length = xs.length
  | _, [] => rfl
  | K, es :: r => by simp [mkLv, mkLv_len _ r]
theorem mkSvs_len : ∀ (K : Int) (xs : List Sv), (mkSvs K xs).length = xs.length
  | _, [] => rfl
  | K, es :: r => by simp [mkSvs, mkSvs_len _ r]
theorem lvN_take : ∀ (xs : List (List Ent)) (i : Nat) (h : i < xs.length), lvN (xs.take (i + 1)) = lvN (xs.take i) + 4 * xs[i].length
  | es :: r, 0, _ => by simp [lvN]
  | es :: r, i + 1, h => by
    have := lvN_take r i (by simpa using h)
    simp only [List.take_succ_cons, lvN, List.getElem_cons_succ]
    omega
theorem svN_take : ∀ (xs : List Sv) (i : Nat) (h : i < xs.length), svN (xs.take (i + 1)) = svN (xs.take i) + (4 + xs[i].r.length)
  | es :: r, 0, _ => by simp [svN]
  | es :: r, i + 1, h => by
    have := svN_take r i (by simpa using h)
    simp only [List.take_succ_cons, svN, List.getElem_cons_succ]
    omega
theorem lvN_le : ∀ (xs : List (List Ent)) (i : Nat), lvN (xs.take i) ≤ lvN xs
  | [], i => by simp
  | es :: r, 0 => by simp [lvN]
  | es :: r, i + 1 => by
    have := lvN_le r i
    simp only [List.take_succ_cons, lvN]
    omega
theorem svN_le : ∀ (xs : List Sv) (i : Nat), svN (xs.take i) ≤ svN xs
  | [], i => by simp
  | es :: r, 0 => by simp [svN]
  | es :: r, i + 1 => by
    have := svN_le r i
    simp only [List.take_succ_cons, svN]
    omega
theorem mkLv_get : ∀ (K : Int) (xs : List (List Ent)) (i : Nat) (h : i < xs.length) (h' : i < (mkLv K xs).length), (mkLv K xs)[i] = mkEs (K + lvN (xs.take i)) xs[i].length
  | K, es :: r, 0, _, _ => by simp [mkLv, lvN]
  | K, es :: r, i + 1, h, h' => by
    have := mkLv_get (K + 4 * es.length) r i (by simpa using h) (by simpa [mkLv] using h')
    simp only [mkLv, List.getElem_cons_succ, List.take_succ_cons, lvN]
    rw [this]
    congr 1
    push_cast
    omega
theorem mkSvs_get : ∀ (K : Int) (xs : List Sv) (i : Nat) (h : i < xs.length) (h' : i < (mkSvs K xs).length), (mkSvs K xs)[i] = mkSv (K + svN (xs.take i)) xs[i]
  | K, es :: r, 0, _, _ => by simp [mkSvs, svN]
  | K, es :: r, i + 1, h, h' => by
    have := mkSvs_get (K + (4 + es.r.length)) r i (by simpa using h) (by simpa [mkSvs] using h')
    simp only [mkSvs, List.getElem_cons_succ, List.take_succ_cons, svN]
    rw [this]
    congr 1
    push_cast
    omega
theorem lvN_le2 {B : Nat} : ∀ (xs : List (List Ent)), (∀ es ∈ xs, es.length ≤ B) → lvN xs ≤ 4 * B * xs.length
  | [], _ => by simp [lvN]
  | es :: r, h => by
    have h1 := lvN_le2 r (fun e he => h e (List.mem_cons_of_mem _ he))
    have h2 := h es List.mem_cons_self
    simp only [lvN, List.length_cons, Nat.mul_add, Nat.mul_one]
    omega
theorem svN_le2 {B : Nat} : ∀ (xs : List Sv), (∀ s ∈ xs, s.r.length ≤ B) → svN xs ≤ (4 + B) * xs.length
  | [], _ => by simp [svN]
  | es :: r, h => by
    have h1 := svN_le2 r (fun e he => h e (List.mem_cons_of_mem _ he))
    have h2 := h es List.mem_cons_self
    simp only [svN, List.length_cons, Nat.mul_add, Nat.mul_one]
    omega
def mixL {α : Type} (xs ys : List α) (i : Nat) : List α := xs.take i ++ ys.drop i
theorem mixL_0 {α : Type} (xs ys : List α) : mixL xs ys 0 = ys := by simp [mixL]
theorem mixL_n {α : Type} {xs ys : List α} (h : xs.length = ys.length) : mixL xs ys ys.length = xs := by simp [mixL, ← h]
theorem mixL_len {α : Type} {xs ys : List α} (h : xs.length = ys.length) (i : Nat) : (mixL xs ys i).length = ys.length := by
  simp [mixL]
  omega
theorem mixL_get {α : Type} {xs ys : List α} (h : xs.length = ys.length) {i j : Nat} (hj : j < (mixL xs ys i).length) (hx : j < xs.length) (hy : j < ys.length) : (mixL xs ys i)[j] = if j < i then xs[j] else ys[j] := by
  apply Option.some.inj
  rw [← List.getElem?_eq_getElem hj]
  unfold mixL
  rw [List.getElem?_append, List.getElem?_take, List.getElem?_drop, List.length_take]
  by_cases hlt : j < i
  · rw [if_pos (by omega), if_pos hlt, if_pos hlt, List.getElem?_eq_getElem hx]
  · rw [if_neg (by omega), if_neg hlt, show i + (j - min i xs.length) = j by omega, List.getElem?_eq_getElem hy]
theorem mix_step {α β : Type} {P P' : α → β → Prop} {R R' : List α} {xs ys : List β} {i : Nat} (h : All2 P R (mixL xs ys i)) (hl : xs.length = ys.length) (hi : i < ys.length) (hR : R'.length = R.length)
    (h1 : ∀ (hr : i < R'.length) (hx : i < xs.length), P' R'[i] xs[i]) (h2 : ∀ (j : Nat) (b : β) (h : j < R.length) (h' : j < R'.length), j ≠ i → P R[j] b → P' R'[j] b) : All2 P' R' (mixL xs ys (i + 1)) := by
  have hlen := h.length
  rw [mixL_len hl] at hlen
  refine All2.of_get (by rw [mixL_len hl, hR, hlen]) (fun j hj hj' => ?_)
  have hjy : j < ys.length := by omega
  rw [mixL_get hl hj' (by omega) hjy]
  have hp := h.get j (by omega) (by rw [mixL_len hl]; omega)
  rw [mixL_get hl (by rw [mixL_len hl]; omega) (by omega) hjy] at hp
  by_cases hji : j = i
  · subst hji
    rw [if_pos (by omega)]
    exact h1 _ _
  · have hp2 := h2 j _ (by omega) hj hji hp
    by_cases hlt : j < i
    · rw [if_pos hlt] at hp2
      rw [if_pos (by omega)]
      exact hp2
    · rw [if_neg hlt] at hp2
      rw [if_neg (by omega)]
      exact hp2
theorem pw_ne {R : List (List AV)} (h : R.Pairwise RowOff) {i j : Nat} (hi : i < R.length) (hj : j < R.length) (hn : i ≠ j) : RowOff R[i] R[j] := by
  rcases Nat.lt_or_ge i j with hl | hl
  · exact List.pairwise_iff_getElem.1 h i j hi hj hl
  · exact fun y h1 h2 => List.pairwise_iff_getElem.1 h j i hj hi (by omega) y h2 h1
theorem pw_set {R : List (List AV)} (h : R.Pairwise RowOff) {i : Nat} (hi : i < R.length) {row : List AV} (hr : ∀ y, rowOf row y → rowOf R[i] y) : (R.set i row).Pairwise RowOff := by
  refine List.pairwise_iff_getElem.2 (fun a b ha hb hab y h1 h2 => ?_)
  simp only [List.length_set] at ha hb
  rw [List.getElem_set] at h1 h2
  have k1 : rowOf R[a] y := by
    split at h1
    · rename_i e; subst e; exact hr y h1
    · exact h1
  have k2 : rowOf R[b] y := by
    split at h2
    · rename_i e; subst e; exact hr y h2
    · exact h2
  exact List.pairwise_iff_getElem.1 h a b ha hb hab y k1 k2

end Go.Proofs.YtgoeenodllmdpaaGreat.B


namespace Go.Proofs.YtgoeenodllmdpaaGreat.B
open Go.RowKit Go.Proofs
set_option linter.unusedVariables false
set_option linter.unusedSimpArgs false
variable {E : Env}

theorem markEntryS_o (g : AV) (q : List Ent) (K : Int) (H : Hp) (hg : Own 4 99 H g (q.map entRow)) (hK : 0 ≤ K ∧ K < 1152921504606846976) (hx : q.length < 1099511627776) :
    AC Tryz.prog E 60 [g, .int .i64 K] H (fun v H' => v = .int .i64 (K + 4 * q.length) ∧ Fr g.of H H' ∧ Own 4 99 H' g ((mkEs K q.length).map entRow)) := by
  rcases hg.cases with ⟨hv, hq⟩ | ⟨o, F, rfl, h1, h2, h3⟩
  · have hq : q = [] := by simpa using hq
    subst hq
    have hl : lenV g = .int .i64 0 := by rcases hv with rfl | rfl <;> rfl
    refine AC_by fol (CLe.refl _) h_laws_markEntryS ?_
    simp [c_laws_markEntryS]
    refine W_for (fun k t H' => t 0 = g ∧ t 1 = .int .i64 K ∧ t 5 = .int .i64 0 ∧ H' = H) 0 (by simp) AC_mono ?_
    rintro k t H' ⟨h0, h1, h5, rfl⟩
    simp [h0, h1, h5, hl, hg.rows.slc]
    exact ⟨Fr.refl _ _, by simpa [mkEs] using hg⟩
  · rw [List.length_map] at h2 h3 ⊢
    refine (markEntryS_ok o _ F q K H h1 h2 h3 hK hx).mono (fun v H' e => ⟨e.1, ?_, ?_⟩)
    · rw [e.2]
      exact (Fr.refl _ _).set (.inl rfl) _
    · rw [e.2]
      have := Own.over (fun j => entRow (mkE K j)) h1 h2
      simpa [mkEs, List.map_map, Function.comp_def] using this

theorem markStringS_f (o : Nat) (F : List (List AV)) (e n : Nat) (K : Int) (H : Hp) (ho : H.at o = some ⟨F, 1, e, false⟩) (hnF : n ≤ F.length) (hR : ∀ r ∈ F.take n, r.length = 1) (hK : 0 ≤ K ∧ K < 1152921504606846976) (hn : n < 1099511627776) :
    AC Tryz.prog E 198 [.sl o 0 n, .int .i64 K] H (fun v H' => v = .int .i64 (K + n) ∧ H' = List.set H o (some ⟨overR (markR K) F n, 1, e, false⟩)) := by
  refine AC_by fol (CLe.refl _) h_laws_markStringS ?_
  have hlt := Hp.at_lt ho
  simp [c_laws_markStringS]
  refine W_for (fun k t H' => ∃ i : Nat, i + k = n ∧ t 0 = .sl o 0 n ∧ t 1 = .int .i64 (K + i) ∧ t 5 = .int .i64 i ∧ H' = List.set H o (some ⟨overR (markR K) F i, 1, e, false⟩)) n ?_ AC_mono ?_
  · exact ⟨0, by simp [overR_0, Hp.set_self ho]⟩
  rintro k t H' ⟨i, hik, h0, h1, h5, rfl⟩
  simp [h0, h1, h5]
  refine c_split (fun hq2 => ?_) (fun hq2 => ?_) <;> simp at hq2
  · have hw := wrapN (i := i) (by omega)
    have hw2 : IntKind.i64.wrap (K + i + 1) = K + ((i + 1 : Nat) : Int) := by rw [wrap64 (by omega) (by omega)]; omega
    have hiF : i < F.length := by omega
    have hs := overR_set (f := markR K) hiF
    have hrl := hR F[i] (List.mem_take_iff_getElem.2 ⟨i, by omega, rfl⟩)
    obtain ⟨x, hx⟩ := List.length_eq_one_iff.1 hrl
    simp [h0, h1, h5]
    refine callG_use (markText_ok _ _ (by omega)) ?_
    simp [h0, h1, h5, Hp.at_set _ hlt, overR_get hiF, hx, hq2, hw, hw2]
    refine ⟨k - 1, by omega, i + 1, by omega, by omega, ?_⟩
    rw [← hs]
    rfl
  · have : i = n := by omega
    subst this
    simp [h1]
theorem rowLen1 {α : Type} {f : α → AV} {F : List (List AV)} {xs : List α} {n : Nat} (h : F.take n = xs.map (fun x => [f x])) : ∀ r ∈ F.take n, r.length = 1 := by
  intro r hr
  rw [h] at hr
  obtain ⟨x, _, rfl⟩ := List.mem_map.1 hr
  rfl
theorem markStringS_o (g : AV) (q : List ByteArray) (K : Int) (H : Hp) (hg : Own 1 9 H g (q.map strRow)) (hK : 0 ≤ K ∧ K < 1152921504606846976) (hx : q.length < 1099511627776) :
    AC Tryz.prog E 198 [g, .int .i64 K] H (fun v H' => v = .int .i64 (K + q.length) ∧ Fr g.of H H' ∧ Own 1 9 H' g ((mkSs K q.length).map strRow)) := by
  rcases hg.cases with ⟨hv, hq⟩ | ⟨o, F, rfl, h1, h2, h3⟩
  · have hq : q = [] := by simpa using hq
    subst hq
    have hl : lenV g = .int .i64 0 := by rcases hv with rfl | rfl <;> rfl
    refine AC_by fol (CLe.refl _) h_laws_markStringS ?_
    simp [c_laws_markStringS]
    refine W_for (fun k t H' => t 0 = g ∧ t 1 = .int .i64 K ∧ t 5 = .int .i64 0 ∧ H' = H) 0 (by simp) AC_mono ?_
    rintro k t H' ⟨h0, h1, h5, rfl⟩
    simp [h0, h1, h5, hl, hg.rows.slc]
    exact ⟨Fr.refl _ _, by simpa [mkSs] using hg⟩
  · rw [List.length_map] at h2 h3 ⊢
    refine (markStringS_f o F _ _ K H h1 h2 (rowLen1 (f := AV.str) (by rw [h3]; rfl)) hK hx).mono (fun v H' e => ⟨e.1, ?_, ?_⟩)
    · rw [e.2]
      exact (Fr.refl _ _).set (.inl rfl) _
    · rw [e.2]
      have := Own.over (markR K) h1 h2
      simpa [mkSs, List.map_map, Function.comp_def, strRow, show markR K = (fun j : Nat => [AV.str (markT (K + j))]) from rfl] using this

def markN (K : Int) (j : Nat) : List AV := [.int .i64 (K + j)]
theorem markIntS_f (o : Nat) (F : List (List AV)) (e n : Nat) (K : Int) (H : Hp) (ho : H.at o = some ⟨F, 1, e, false⟩) (hnF : n ≤ F.length) (hR : ∀ r ∈ F.take n, r.length = 1) (hK : 0 ≤ K ∧ K < 1152921504606846976) (hn : n < 1099511627776) :
    AC Tryz.prog E 139 [.sl o 0 n, .int .i64 K] H (fun v H' => v = .int .i64 (K + n) ∧ H' = List.set H o (some ⟨overR (markN K) F n, 1, e, false⟩)) := by
  refine AC_by fol (CLe.refl _) h_laws_markIntS ?_
  have hlt := Hp.at_lt ho
  simp [c_laws_markIntS]
  refine W_for (fun k t H' => ∃ i : Nat, i + k = n ∧ t 0 = .sl o 0 n ∧ t 1 = .int .i64 (K + i) ∧ t 5 = .int .i64 i ∧ H' = List.set H o (some ⟨overR (markN K) F i, 1, e, false⟩)) n ?_ AC_mono ?_
  · exact ⟨0, by simp [overR_0, Hp.set_self ho]⟩
  rintro k t H' ⟨i, hik, h0, h1, h5, rfl⟩
  simp [h0, h1, h5]
  refine c_split (fun hq2 => ?_) (fun hq2 => ?_) <;> simp at hq2
  · have hw := wrapN (i := i) (by omega)
    have hw2 : IntKind.i64.wrap (K + i + 1) = K + ((i + 1 : Nat) : Int) := by rw [wrap64 (by omega) (by omega)]; omega
    have hiF : i < F.length := by omega
    have hs := overR_set (f := markN K) hiF
    have hrl := hR F[i] (List.mem_take_iff_getElem.2 ⟨i, by omega, rfl⟩)
    obtain ⟨x, hx⟩ := List.length_eq_one_iff.1 hrl
    simp [h0, h1, h5, Hp.at_set _ hlt, overR_get hiF, hx, hq2, hw, hw2]
    refine ⟨k - 1, by omega, i + 1, by omega, by omega, ?_⟩
    rw [← hs]
    rfl
  · have : i = n := by omega
    subst this
    simp [h1]
theorem markIntS_o (g : AV) (q : List Int) (K : Int) (H : Hp) (hg : Own 1 3 H g (q.map intRow)) (hK : 0 ≤ K ∧ K < 1152921504606846976) (hx : q.length < 1099511627776) :
    AC Tryz.prog E 139 [g, .int .i64 K] H (fun v H' => v = .int .i64 (K + q.length) ∧ Fr g.of H H' ∧ Own 1 3 H' g ((mkIs K q.length).map intRow)) := by
  rcases hg.cases with ⟨hv, hq⟩ | ⟨o, F, rfl, h1, h2, h3⟩
  · have hq : q = [] := by simpa using hq
    subst hq
    have hl : lenV g = .int .i64 0 := by rcases hv with rfl | rfl <;> rfl
    refine AC_by fol (CLe.refl _) h_laws_markIntS ?_
    simp [c_laws_markIntS]
    refine W_for (fun k t H' => t 0 = g ∧ t 1 = .int .i64 K ∧ t 5 = .int .i64 0 ∧ H' = H) 0 (by simp) AC_mono ?_
    rintro k t H' ⟨h0, h1, h5, rfl⟩
    simp [h0, h1, h5, hl, hg.rows.slc]
    exact ⟨Fr.refl _ _, by simpa [mkIs] using hg⟩
  · rw [List.length_map] at h2 h3 ⊢
    refine (markIntS_f o F _ _ K H h1 h2 (rowLen1 (f := AV.int .i64) (by rw [h3]; rfl)) hK hx).mono (fun v H' e => ⟨e.1, ?_, ?_⟩)
    · rw [e.2]
      exact (Fr.refl _ _).set (.inl rfl) _
    · rw [e.2]
      have := Own.over (markN K) h1 h2
      simpa [mkIs, List.map_map, Function.comp_def, intRow, show markN K = (fun j : Nat => [AV.int .i64 (K + j)]) from rfl] using this

theorem markEntrySS_ok (X : Nat → Prop) (b : AV) (lr : List (List AV)) (lev : List (List Ent)) (K : Int) (H : Hp) (hb : Own 1 23 H b lr) (hr : All2 (LvX X H) lr lev) (hp : lr.Pairwise RowOff) (hK : 0 ≤ K ∧ K + lvN lev < 1152921504606846976) (hx : ∀ es ∈ lev, es.length < 1099511627776) (hn : lev.length < 1099511627776) :
    AC Tryz.prog E 137 [b, .int .i64 K] H (fun v H' => v = .int .i64 (K + lvN lev) ∧ Fr (fun y => ∃ row ∈ lr, rowOf row y) H H' ∧ All2 (LvX X H') lr (mkLv K lev)) := by
  refine AC_by fol (CLe.refl _) h_laws_markEntrySS ?_
  have ll := hr.length
  have l1 := hb.rows.len
  rw [ll] at l1
  have hml : (mkLv K lev).length = lev.length := mkLv_len _ _
  simp [c_laws_markEntrySS]
  refine W_for (fun k t H' => ∃ i : Nat, i + k = lev.length ∧ t 0 = b ∧ t 1 = .int .i64 (K + lvN (lev.take i)) ∧ t 5 = .int .i64 i ∧ Fr (fun y => ∃ row ∈ lr, rowOf row y) H H' ∧ Own 1 23 H' b lr ∧ All2 (LvX X H') lr (mixL (mkLv K lev) lev i)) lev.length ?_ AC_mono ?_
  · exact ⟨0, by simp, by simp, by simp [lvN], by simp, Fr.refl _ _, hb, by rw [mixL_0]; exact hr⟩
  rintro k t H' ⟨i, hik, h0, h1, h5, hF, hb', hr'⟩
  simp [h0, h1, h5, l1, hb.rows.slc]
  refine c_split (fun hq2 => ?_) (fun hq2 => ?_) <;> simp at hq2
  · have hw := wrapN (i := i) (by omega)
    have hil : i < lr.length := by omega
    obtain ⟨o1, i1, ob1, rfl, a1, a2, a3⟩ := hb'.rows.get (j := i) hil
    have hg := hr'.get i hil (by rw [mixL_len hml]; omega)
    rw [mixL_get hml _ (by omega) hq2, if_neg (by omega)] at hg
    obtain ⟨u, hu, hue, huX⟩ := hg
    rw [hu] at a3
    have hlt := lvN_take lev i hq2
    have hle := lvN_le lev (i + 1)
    have hxl := hx _ (List.getElem_mem hq2)
    simp [h0, h1, h5, a1, a2, a3, hil]
    refine callG_ex (markEntryS_o u lev[i] _ H' hue (by omega) hxl) ?_
    rintro v H2 ⟨rfl, hF2, hu2⟩
    simp [h0, h1, h5, hw]
    refine ⟨k - 1, by omega, i + 1, by omega, ?_, by omega, hF.trans hF2 (fun o ho => .inl ⟨lr[i], List.getElem_mem hil, by rw [hu]; exact ⟨u, by simp, ho⟩⟩), ?_, ?_⟩
    · rw [hlt]; push_cast; omega
    · refine hb'.frE hF2 (fun y ob hy ho => ?_)
      rcases hue.cases with ⟨rfl | rfl, _⟩ | ⟨o, F, rfl, g1, _, _⟩
      · exact hy.elim
      · exact hy.elim
      · have : o = y := hy
        subst this
        rw [g1] at ho
        cases ho
        simp
    · refine mix_step hr' hml hq2 rfl (fun hr hx => ?_) (fun j bb hj hj' hji ⟨w, w1, w2, w3⟩ => ⟨w, w1, ?_, w3⟩)
      · rw [mkLv_get _ _ _ hq2]
        exact ⟨u, hu, hu2, huX⟩
      · refine w2.fr hF2 (fun y hy hy2 => ?_)
        exact pw_ne hp hj hil hji y (by rw [w1]; exact ⟨w, by simp, hy⟩) (by rw [hu]; exact ⟨u, by simp, hy2⟩)
  · have : i = lev.length := by omega
    subst this
    rw [mixL_n hml] at hr'
    simp [h1]
    exact ⟨hF, hr'⟩

end Go.Proofs.YtgoeenodllmdpaaGreat.B


namespace Go.Proofs.YtgoeenodllmdpaaGreat.B
open Go.RowKit Go.Proofs
set_option linter.unusedVariables false
set_option linter.unusedSimpArgs false
variable {E : Env}

def mkD (K : Int) (j : Nat) : Dd := ⟨K + 3 * j, markT (K + 3 * j + 1), K + 3 * j + 2⟩
theorem markDeedS_f (o e : Nat) (F : List (List AV)) (xs : List Dd) (K : Int) (H : Hp) (ho : H.at o = some ⟨F, 3, e, false⟩) (hn : xs.length ≤ F.length) (hF : F.take xs.length = xs.map ddRow) (hK : 0 ≤ K ∧ K < 1152921504606846976) (hx : xs.length < 1099511627776) :
    AC Tryz.prog E 59 [.sl o 0 xs.length, .int .i64 K] H (fun v H' => v = .int .i64 (K + 3 * xs.length) ∧ H' = List.set H o (some ⟨overR (fun j => ddRow (mkD K j)) F xs.length, 3, e, false⟩)) := by
  refine AC_by fol (CLe.refl _) h_laws_markDeedS ?_
  have hlt := Hp.at_lt ho
  simp [c_laws_markDeedS]
  refine W_for (fun k t H' => ∃ i : Nat, i + k = xs.length ∧ t 0 = .sl o 0 xs.length ∧ t 1 = .int .i64 (K + 3 * i) ∧ t 5 = .int .i64 i ∧ H' = List.set H o (some ⟨overR (fun j => ddRow (mkD K j)) F i, 3, e, false⟩)) xs.length ?_ AC_mono ?_
  · exact ⟨0, by simp [overR_0, Hp.set_self ho]⟩
  rintro k t H' ⟨i, hik, h0, h1, h5, rfl⟩
  simp [h0, h1, h5]
  refine c_split (fun hq2 => ?_) (fun hq2 => ?_) <;> simp at hq2
  · have hw := wrapN (i := i) (by omega)
    have w1 : IntKind.i64.wrap (K + 3 * (i : Int) + 1) = K + 3 * (i : Int) + 1 := wrap64 (by omega) (by omega)
    have w2 : IntKind.i64.wrap (K + 3 * (i : Int) + 1 + 1) = K + 3 * (i : Int) + 2 := by rw [wrap64 (by omega) (by omega)]; omega
    have w3 : IntKind.i64.wrap (K + 3 * (i : Int) + 2 + 1) = K + 3 * ((i + 1 : Nat) : Int) := by rw [wrap64 (by omega) (by omega)]; omega
    have hiF : i < F.length := by omega
    have hrow : F[i] = ddRow xs[i] := by
      have : (F.take xs.length)[i]? = (xs.map ddRow)[i]? := by rw [hF]
      rw [List.getElem?_take_of_lt hq2, List.getElem?_eq_getElem hiF, List.getElem?_map, List.getElem?_eq_getElem hq2] at this
      exact Option.some.inj this
    have hs := overR_set (f := fun j => ddRow (mkD K j)) hiF
    have hg := overR_get (f := fun j => ddRow (mkD K j)) hiF
    rw [hrow] at hg
    obtain ⟨m, hm⟩ : ∃ m, m = xs[i] := ⟨_, rfl⟩
    rw [← hm] at hg
    obtain ⟨R, hR⟩ : ∃ R, R = overR (fun j => ddRow (mkD K j)) F i := ⟨_, rfl⟩
    rw [← hR] at hg hs ⊢
    have hRl : i < R.length := (List.getElem?_eq_some_iff.1 hg).1
    have gs : ∀ row : List AV, (R.set i row)[i]? = some row := fun row => by rw [List.getElem?_set_self hRl]
    simp only [ddRow] at hg
    simp [h0, h1, h5, Hp.at_set _ hlt, hg, gs, hq2, w1]
    refine callG_use (markText_ok _ _ (by omega)) ?_
    simp [h0, h1, h5, Hp.at_set _ hlt, hg, gs, hq2, hw, w1, w2, w3]
    refine ⟨k - 1, by omega, i + 1, by omega, by omega, by omega, ?_⟩
    rw [← hs]
    rfl
  · have : i = xs.length := by omega
    subst this
    simp [h1]
theorem markDeedS_o (g : AV) (q : List Dd) (K : Int) (H : Hp) (hg : Own 3 47 H g (q.map ddRow)) (hK : 0 ≤ K ∧ K < 1152921504606846976) (hx : q.length < 1099511627776) :
    AC Tryz.prog E 59 [g, .int .i64 K] H (fun v H' => v = .int .i64 (K + 3 * q.length) ∧ Fr g.of H H') := by
  rcases hg.cases with ⟨hv, hq⟩ | ⟨o, F, rfl, h1, h2, h3⟩
  · have hq : q = [] := by simpa using hq
    subst hq
    have hl : lenV g = .int .i64 0 := by rcases hv with rfl | rfl <;> rfl
    refine AC_by fol (CLe.refl _) h_laws_markDeedS ?_
    simp [c_laws_markDeedS]
    refine W_for (fun k t H' => t 0 = g ∧ t 1 = .int .i64 K ∧ t 5 = .int .i64 0 ∧ H' = H) 0 (by simp) AC_mono ?_
    rintro k t H' ⟨h0, h1, h5, rfl⟩
    simp [h0, h1, h5, hl, hg.rows.slc]
    exact Fr.refl _ _
  · rw [List.length_map] at h2 h3 ⊢
    refine (markDeedS_f o _ F q K H h1 h2 h3 hK hx).mono (fun v H' e => ⟨e.1, ?_⟩)
    rw [e.2]
    exact (Fr.refl _ _).set (.inl rfl) _

set_option maxHeartbeats 1600000 in
theorem markSieveS_ok (X : Nat → Prop) (c : AV) (sr : List (List AV)) (sv : List Sv) (K : Int) (H : Hp) (hc : Own 5 66 H c sr) (hr : All2 (SvX X H) sr sv) (hp : sr.Pairwise RowOff) (hK : 0 ≤ K ∧ K + svN sv < 1152921504606846976) (hx : ∀ s ∈ sv, s.r.length < 1099511627776) (hn : sv.length < 1099511627776) :
    AC Tryz.prog E 138 [c, .int .i64 K] H (fun v H' => v = .int .i64 (K + svN sv) ∧ Fr (fun y => c.of y ∨ ∃ row ∈ sr, rowOf row y) H H' ∧ ∃ sr', Own 5 66 H' c sr' ∧ All2 (SvX X H') sr' (mkSvs K sv)) := by
  refine AC_by fol (CLe.refl _) h_laws_markSieveS ?_
  have ll := hr.length
  have hml : (mkSvs K sv).length = sv.length := mkSvs_len _ _
  simp [c_laws_markSieveS]
  refine W_for (fun k t H' => ∃ (i : Nat) (R : List (List AV)), i + k = sv.length ∧ t 0 = c ∧ t 1 = .int .i64 (K + svN (sv.take i)) ∧ t 5 = .int .i64 i ∧ Fr (fun y => c.of y ∨ ∃ row ∈ sr, rowOf row y) H H' ∧ Own 5 66 H' c R ∧ All2 (SvX X H') R (mixL (mkSvs K sv) sv i) ∧ R.Pairwise RowOff ∧ (∀ row ∈ R, ∀ y, rowOf row y → ∃ row' ∈ sr, rowOf row' y)) sv.length ?_ AC_mono ?_
  · exact ⟨0, sr, by simp, by simp, by simp [svN], by simp, Fr.refl _ _, hc, by rw [mixL_0]; exact hr, hp, fun row h y hy => ⟨row, h, hy⟩⟩
  rintro k t H' ⟨i, R, hik, h0, h1, h5, hF, hc', hr', hp', hsub⟩
  have hRl := hr'.length
  rw [mixL_len hml] at hRl
  have l1 := hc'.rows.len
  rw [hRl] at l1
  simp [h0, h1, h5, l1, hc'.rows.slc]
  refine c_split (fun hq2 => ?_) (fun hq2 => ?_) <;> simp at hq2
  · have hw := wrapN (i := i) (by omega)
    have hil : i < R.length := by omega
    have hg := hr'.get i hil (by rw [mixL_len hml]; omega)
    rw [mixL_get hml _ (by omega) hq2, if_neg (by omega)] at hg
    obtain ⟨r, hrow, hre, hrX⟩ := hg
    have hlt := svN_take sv i hq2
    have hle := svN_le sv (i + 1)
    have hxl := hx _ (List.getElem_mem hq2)
    have hmk : ∀ h3, (mkSvs K sv)[i]'h3 = mkSv (K + svN (sv.take i)) sv[i] := fun h' => mkSvs_get K sv i hq2 h'
    obtain ⟨x, hxd⟩ : ∃ x, x = sv[i] := ⟨_, rfl⟩
    rw [← hxd] at hrow hre hlt hxl hmk
    obtain ⟨q, hqd⟩ : ∃ q : Int, q = K + svN (sv.take i) := ⟨_, rfl⟩
    rw [← hqd] at h1 hmk
    have w1 : IntKind.i64.wrap (q + 1) = q + 1 := wrap64 (by omega) (by omega)
    have w2 : IntKind.i64.wrap (q + 1 + 1) = q + 2 := by rw [wrap64 (by omega) (by omega)]; omega
    have w3 : IntKind.i64.wrap (q + 2 + 1) = q + 3 := by rw [wrap64 (by omega) (by omega)]; omega
    have w4 : IntKind.i64.wrap (q + 3 + x.r.length + 1) = K + svN (sv.take (i + 1)) := by rw [wrap64 (by omega) (by omega)]; omega
    rcases hc'.cases with ⟨_, e⟩ | ⟨o, F, rfl, g1, g2, g3⟩
    · rw [e] at hil
      simp at hil
    have hiF : i < F.length := by omega
    have hFi : F[i]? = some [.str x.l, .str x.m, .str x.f, r, .int .i64 x.k] := by
      have : (F.take R.length)[i]? = R[i]? := by rw [g3]
      rw [List.getElem?_take_of_lt hil, List.getElem?_eq_getElem hil, hrow] at this
      exact this
    have hlt1 := Hp.at_lt g1
    have gs : ∀ row : List AV, (F.set i row)[i]? = some row := fun row => by rw [List.getElem?_set_self hiF]
    simp [h0, h1, h5]
    refine callG_use (markText_ok _ _ (by omega)) ?_
    simp [h0, h1, h5, g1, Hp.at_set _ hlt1, hFi, gs, hil, w1]
    refine callG_use (markText_ok _ _ (by omega)) ?_
    simp [h0, h1, h5, g1, Hp.at_set _ hlt1, hFi, gs, hil, w1, w2]
    refine callG_use (markText_ok _ _ (by omega)) ?_
    simp [h0, h1, h5, g1, Hp.at_set _ hlt1, hFi, gs, hil, w1, w2, w3]
    obtain ⟨G, hG⟩ : ∃ G : Hp, G = List.set H' o (some ⟨F.set i [.str (markT q), .str (markT (q + 1)), .str (markT (q + 2)), r, .int .i64 x.k], 5, 66, false⟩) := ⟨_, rfl⟩
    rw [← hG]
    have FG : Fr (fun y => y = o) H' G := by rw [hG]; exact Fr.one _ _ _
    have bG : G.at o = some ⟨F.set i [.str (markT q), .str (markT (q + 1)), .str (markT (q + 2)), r, .int .i64 x.k], 5, 66, false⟩ := by rw [hG]; exact Hp.at_set _ hlt1
    have hne : ∀ y ob, y = o → H'.at y = some ob → ob.ety ≠ 9 := fun y ob hy ho => by
      rw [hy, g1] at ho
      cases ho
      simp
    have hrG := hre.frE FG hne
    refine callG_ex (markStringS_o r x.r (q + 3) G hrG (by omega) hxl) ?_
    rintro v H2 ⟨rfl, hF2, hr2⟩
    have b2 := hF2.2 _ _ (fun hy => by have := hrG.ety hy bG; simp at this) bG
    have hlt2 := Hp.at_lt b2
    simp [h0, h1, h5, b2, Hp.at_set _ hlt2, gs, hil, w4, hw]
    obtain ⟨H3, hH3⟩ : ∃ H3 : Hp, H3 = List.set H2 o (some ⟨F.set i [.str (markT q), .str (markT (q + 1)), .str (markT (q + 2)), r, .int .i64 (q + 3 + x.r.length)], 5, 66, false⟩) := ⟨_, rfl⟩
    rw [← hH3]
    have F3 : Fr (fun y => y = o) H2 H3 := by rw [hH3]; exact Fr.one _ _ _
    have hne2 : ∀ y ob, y = o → H2.at y = some ob → ob.ety ≠ 9 := fun y ob hy ho => by
      rw [hy, b2] at ho
      cases ho
      simp
    have hrR : ∀ y, r.of y → ∃ row' ∈ sr, rowOf row' y := fun y hy => hsub _ (List.getElem_mem hil) y (by rw [hrow]; exact ⟨r, by simp, hy⟩)
    refine ⟨k - 1, by omega, i + 1, by omega, rfl, by omega, ?_, R.set i [.str (markT q), .str (markT (q + 1)), .str (markT (q + 2)), r, .int .i64 (q + 3 + x.r.length)], ?_, ?_, ?_, ?_⟩
    · refine ((hF.trans FG (fun y hy => .inl (.inl hy.symm))).trans hF2 (fun y hy => .inl (.inr (hrR y hy)))).trans F3 (fun y hy => .inl (.inl hy.symm))
    · refine .inr (.inr ⟨o, ⟨_, 5, 66, false⟩, by simp, by rw [hH3]; exact Hp.at_set _ hlt2, rfl, rfl, rfl, by simp; omega, ?_⟩)
      simp only [List.length_set]
      rw [List.take_set, g3]
    · refine mix_step hr' hml hq2 (by simp) (fun hr hx => ?_) (fun j bb hj hj' hji ⟨w, k1, k2, k3⟩ => ⟨w, by rw [List.getElem_set_ne (by omega)]; exact k1, ?_, k3⟩)
      · rw [hmk, List.getElem_set_self]
        exact ⟨r, rfl, hr2.frE F3 hne2, hrX⟩
      · refine ((k2.frE FG hne).fr hF2 (fun y hy hy2 => ?_)).frE F3 hne2
        exact pw_ne hp' hj hil hji y (by rw [k1]; exact ⟨w, by simp, hy⟩) (by rw [hrow]; exact ⟨r, by simp, hy2⟩)
    · refine pw_set hp' hil (fun y ⟨u, hu, hy⟩ => ?_)
      rw [hrow]
      simp only [List.mem_cons, List.not_mem_nil, or_false] at hu
      rcases hu with rfl | rfl | rfl | rfl | rfl
      · exact hy.elim
      · exact hy.elim
      · exact hy.elim
      · exact ⟨u, by simp, hy⟩
      · exact hy.elim
    · intro row hrw y hy
      rcases List.mem_or_eq_of_mem_set hrw with h | rfl
      · exact hsub row h y hy
      · obtain ⟨u, hu, hy⟩ := hy
        simp only [List.mem_cons, List.not_mem_nil, or_false] at hu
        rcases hu with rfl | rfl | rfl | rfl | rfl
        · exact hy.elim
        · exact hy.elim
        · exact hy.elim
        · exact hrR y hy
        · exact hy.elim
  · have : i = sv.length := by omega
    subst this
    rw [mixL_n hml] at hr'
    simp [h1]
    exact ⟨hF, R, hc', hr'⟩

end Go.Proofs.YtgoeenodllmdpaaGreat.B


namespace Go.Proofs.YtgoeenodllmdpaaGreat.B
open Go.RowKit Go.Proofs
set_option linter.unusedVariables false
set_option linter.unusedSimpArgs false
variable {E : Env}

theorem Fr.ety {S : Nat → Prop} {H H' : Hp} {P : Nat → Prop} (hf : Fr S H H') (hS : ∀ y ob, S y → H.at y = some ob → P ob.ety) {o : Nat} {ob : Ob} (ho : H.at o = some ob) (hne : ¬ P ob.ety) : H'.at o = some ob :=
  hf.2 _ _ (fun hs => hne (hS _ _ hs ho)) ho
theorem markStore_ok (X : Nat → Prop) (a b c d : AV) (lr sr : List (List AV)) (s : Sr) (K : Int) (H : Hp) (h : OSt X H a b c d lr sr s) (hK : 0 ≤ K ∧ K + stN s < 1152921504606846976) (hb : StB s) :
    AC Tryz.prog E 58 [stAV a b c s d, .int .i64 K] H (fun v H' => v = .int .i64 (K + stN s) ∧ Fr X H H' ∧ St H' (stAV a b c s d) (mkSt K s)) := by
  obtain ⟨ot, ol, rl, os, rs, oi, hX, hoff, hpl, hps⟩ := h
  obtain ⟨y1, y2, y3, y4, y5, y6, y7, y8, y9⟩ := hb
  have hN : stN s = 4 * s.top.length + lvN s.lev + svN s.sv + s.tms.length := rfl
  refine AC_by fol (CLe.refl _) h_laws_markStore ?_
  obtain ⟨H1, hH1⟩ : ∃ H1 : Hp, H1 = H ++ [some ⟨[[a, b, c, .int .i64 s.keep, .int .i64 s.time, d]], 6, 28, false⟩] := ⟨_, rfl⟩
  have hle1 : HLe H H1 := by rw [hH1]; exact HLe.self _ _
  have b0 : H1.at H.length = some ⟨[[a, b, c, .int .i64 s.keep, .int .i64 s.time, d]], 6, 28, false⟩ := by rw [hH1]; simp
  simp [c_laws_markStore, stAV, ot.rows.one, ol.rows.one, os.rows.one, oi.rows.one, ← hH1, b0]
  -- the top
  have ot1 := ot.le hle1
  refine callG_ex (markEntryS_o a s.top K H1 ot1 (by omega) (by have := y1.1; omega)) ?_
  rintro v H2 ⟨rfl, F2, a2⟩
  have e2 : ∀ y ob, a.of y → H1.at y = some ob → ob.ety = 99 := fun y ob hy ho => ot1.ety hy ho
  have n2 : ∀ e, e ≠ 99 → ∀ y ob, a.of y → H1.at y = some ob → ob.ety ≠ e := fun e he y ob hy ho => by rw [e2 y ob hy ho]; exact he.symm
  have b2 := F2.ety (P := fun e => e = 99) e2 b0 (by simp)
  have ol2 := (ol.le hle1).frE F2 (n2 _ (by simp))
  have os2 := (os.le hle1).frE F2 (n2 _ (by simp))
  have oi2 := (oi.le hle1).frE F2 (n2 _ (by simp))
  have rl2 : All2 (LvX X H2) lr s.lev := by
    refine All2.of_get rl.length (fun i hi hi' => ?_)
    obtain ⟨u, k1, k2, k3⟩ := rl.get i hi hi'
    exact ⟨u, k1, (k2.le hle1).fr F2 (fun y hy hy2 => hoff y hy2 u (by rw [← k1]; exact List.getElem_mem hi) hy), k3⟩
  have rs2 : All2 (SvX X H2) sr s.sv := All2.mono (fun _ _ ⟨u, k1, k2, k3⟩ => ⟨u, k1, (k2.le hle1).frE F2 (n2 _ (by simp)), k3⟩) rs
  simp [b2]
  -- the levels
  refine callG_ex (markEntrySS_ok X b lr s.lev _ H2 ol2 rl2 hpl ⟨by omega, by omega⟩ (fun es he => (y2 es he).1) y3) ?_
  rintro v H3 ⟨rfl, F3, rl3⟩
  have rlu : ∀ y, (∃ row ∈ lr, rowOf row y) → ∃ (u : AV) (es : List Ent), [u] ∈ lr ∧ u.of y ∧ Own 4 99 H2 u (es.map entRow) ∧ X y := by
    rintro y ⟨row, hrow, w, hw, hy⟩
    obtain ⟨es, u, rfl, hu, hX⟩ := All2.mem1 rl2 row hrow
    rw [List.mem_singleton.1 hw] at hy
    exact ⟨u, es, hrow, hy, hu, hX y hy⟩
  have e3 : ∀ y ob, (∃ row ∈ lr, rowOf row y) → H2.at y = some ob → ob.ety = 99 := fun y ob hy ho => by
    obtain ⟨u, es, _, hy, hu, _⟩ := rlu y hy
    exact hu.ety hy ho
  have n3 : ∀ e, e ≠ 99 → ∀ y ob, (∃ row ∈ lr, rowOf row y) → H2.at y = some ob → ob.ety ≠ e := fun e he y ob hy ho => by rw [e3 y ob hy ho]; exact he.symm
  have b3 := F3.ety (P := fun e => e = 99) e3 b2 (by simp)
  have a3 := a2.fr F3 (fun y hy hy2 => by
    obtain ⟨u, es, hu, hyu, _⟩ := rlu y hy2
    exact hoff y hy u hu hyu)
  have ol3 := ol2.frE F3 (n3 _ (by simp))
  have os3 := os2.frE F3 (n3 _ (by simp))
  have oi3 := oi2.frE F3 (n3 _ (by simp))
  have rs3 : All2 (SvX X H3) sr s.sv := All2.mono (fun _ _ ⟨u, k1, k2, k3⟩ => ⟨u, k1, k2.frE F3 (n3 _ (by simp)), k3⟩) rs2
  simp [b3]
  -- the sieves
  refine callG_ex (markSieveS_ok X c sr s.sv _ H3 os3 rs3 hps ⟨by omega, by omega⟩ y6 y4) ?_
  rintro v H4 ⟨rfl, F4, sr4, os4, rs4⟩
  have rsu : ∀ y, (∃ row ∈ sr, rowOf row y) → ∃ (r : AV) (x : Sv), r.of y ∧ Own 1 9 H3 r (x.r.map strRow) ∧ X y := by
    rintro y ⟨row, hrow, w, hw, hy⟩
    obtain ⟨x, r, rfl, hr, hX⟩ := All2.mem1 rs3 row hrow
    simp only [List.mem_cons, List.not_mem_nil, or_false] at hw
    rcases hw with rfl | rfl | rfl | rfl | rfl
    · exact hy.elim
    · exact hy.elim
    · exact hy.elim
    · exact ⟨w, x, hy, hr, hX y hy⟩
    · exact hy.elim
  have e4 : ∀ y ob, (c.of y ∨ ∃ row ∈ sr, rowOf row y) → H3.at y = some ob → (ob.ety = 66 ∨ ob.ety = 9) := fun y ob hy ho => by
    rcases hy with hy | hy
    · exact .inl (os3.ety hy ho)
    · obtain ⟨r, x, hy, hr, _⟩ := rsu y hy
      exact .inr (hr.ety hy ho)
  have n4 : ∀ e, e ≠ 66 → e ≠ 9 → ∀ y ob, (c.of y ∨ ∃ row ∈ sr, rowOf row y) → H3.at y = some ob → ob.ety ≠ e := fun e h1 h2 y ob hy ho => by
    rcases e4 y ob hy ho with h | h
    · rw [h]; exact h1.symm
    · rw [h]; exact h2.symm
  have b4 := F4.ety (P := fun e => e = 66 ∨ e = 9) e4 b3 (by simp)
  have a4 := a3.frE F4 (n4 _ (by simp) (by simp))
  have ol4 := ol3.frE F4 (n4 _ (by simp) (by simp))
  have oi4 := oi3.frE F4 (n4 _ (by simp) (by simp))
  have rl4 : All2 (LvX X H4) lr (mkLv (K + 4 * s.top.length) s.lev) := All2.mono (fun _ _ ⟨u, k1, k2, k3⟩ => ⟨u, k1, k2.frE F4 (n4 _ (by simp) (by simp)), k3⟩) rl3
  simp [b4]
  -- the times
  refine callG_ex (markIntS_o d s.tms _ H4 oi4 ⟨by omega, by omega⟩ y5) ?_
  rintro v H5 ⟨rfl, F5, oi5⟩
  have e5 : ∀ y ob, d.of y → H4.at y = some ob → ob.ety = 3 := fun y ob hy ho => oi4.ety hy ho
  have n5 : ∀ e, e ≠ 3 → ∀ y ob, d.of y → H4.at y = some ob → ob.ety ≠ e := fun e he y ob hy ho => by rw [e5 y ob hy ho]; exact he.symm
  simp
  refine ⟨by omega, ?_, ?_⟩
  · have g1 : Fr X H H1 := hle1.fr
    have g2 := g1.trans F2 (fun y hy => .inl (hX y (.inl hy)))
    have g3 := g2.trans F3 (fun y hy => .inl (by obtain ⟨_, _, _, _, _, h⟩ := rlu y hy; exact h))
    have g4 := g3.trans F4 (fun y hy => by
      rcases hy with hy | hy
      · exact .inl (hX y (.inr (.inr (.inl hy))))
      · exact .inl (by obtain ⟨_, _, _, _, h⟩ := rsu y hy; exact h))
    exact g4.trans F5 (fun y hy => .inl (hX y (.inr (.inr (.inr hy)))))
  · refine ⟨a, b, c, d, lr, sr4, rfl, (a4.frE F5 (n5 _ (by simp))).rows, (ol4.frE F5 (n5 _ (by simp))).rows, ?_, (os4.frE F5 (n5 _ (by simp))).rows, ?_, oi5.rows⟩
    · exact All2.mono (fun _ _ ⟨u, k1, k2, k3⟩ => ⟨u, k1, (k2.frE F5 (n5 _ (by simp))).rows⟩) rl4
    · exact All2.mono (fun _ _ ⟨u, k1, k2, k3⟩ => ⟨u, k1, (k2.frE F5 (n5 _ (by simp))).rows, fun _ _ h => h⟩) rs4

end Go.Proofs.YtgoeenodllmdpaaGreat.B


namespace Go.Proofs.YtgoeenodllmdpaaGreat.B
open Go.RowKit Go.Proofs
set_option linter.unusedVariables false
set_option linter.unusedSimpArgs false
variable {E : Env}

theorem eqIntS_same (a b : AV) (xs : List Int) (H : Hp) (ha : Ints H a xs) (hb : Ints H b xs) (hx : xs.length < 4611686018427387904) : AC Tryz.prog E 135 [a, b] H (fun v H' => v = .bool true ∧ H' = H) := by
  refine AC_byp (CLe.refl _) h_laws_eqIntS (by simp) ?_
  have l1 := ha.len
  have l2 := hb.len
  simp [c_laws_eqIntS, l1, l2, ha.slc, hb.slc]
  refine W_for (fun k t H' => ∃ i : Nat, i + k = xs.length ∧ t 0 = a ∧ t 1 = b ∧ t 5 = .int .i64 i ∧ HLe H H') xs.length ?_ AC_mono ?_
  · exact ⟨0, by simp⟩
  rintro k t H' ⟨i, hik, h0, h1, h5, hle⟩
  simp [h0, h1, h5, l1, ha.slc]
  refine c_split (fun hq2 => ?_) (fun hq2 => ?_) <;> simp at hq2
  · have hw := wrapN (i := i) (by omega)
    obtain ⟨o1, i1, ob1, rfl, a1, a2, a3⟩ := (ha.le hle).get hq2
    obtain ⟨o2, i2, ob2, rfl, b1, b2, b3⟩ := (hb.le hle).get hq2
    simp [h0, h1, h5, a1, a2, a3, b1, b2, b3, hq2, hw, hle]
    exact ⟨k - 1, by omega, i + 1, by omega, by omega⟩
  · simp [hle]
theorem eqDeed_same (d : Dd) (H : Hp) : AC Tryz.prog E 136 [ddAV d, ddAV d] H (fun v H' => v = .bool true ∧ H' = H) := by
  refine AC_byp (CLe.refl _) h_laws_eqDeed (by simp) ?_
  simp [c_laws_eqDeed, ddAV]
theorem eqDeedS_same (a b : AV) (xs : List Dd) (H : Hp) (ha : Dds H a xs) (hb : Dds H b xs) (hx : xs.length < 4611686018427387904) : AC Tryz.prog E 57 [a, b] H (fun v H' => v = .bool true ∧ H' = H) := by
  refine AC_byp (CLe.refl _) h_laws_eqDeedS (by simp) ?_
  have l1 : lenV a = .int .i64 xs.length := by simpa using Rows.len ha
  have l2 : lenV b = .int .i64 xs.length := by simpa using Rows.len hb
  simp [c_laws_eqDeedS, l1, l2, Rows.slc ha, Rows.slc hb]
  refine W_for (fun k t H' => ∃ i : Nat, i + k = xs.length ∧ t 0 = a ∧ t 1 = b ∧ t 5 = .int .i64 i ∧ HLe H H') xs.length ?_ AC_mono ?_
  · exact ⟨0, by simp⟩
  rintro k t H' ⟨i, hik, h0, h1, h5, hle⟩
  simp [h0, h1, h5, l1, Rows.slc ha]
  refine c_split (fun hq2 => ?_) (fun hq2 => ?_) <;> simp at hq2
  · have hw := wrapN (i := i) (by omega)
    obtain ⟨o1, i1, ob1, rfl, a1, a2, a3⟩ := (Rows.le ha hle).get (j := i) (by simpa using hq2)
    obtain ⟨o2, i2, ob2, rfl, b1, b2, b3⟩ := (Rows.le hb hle).get (j := i) (by simpa using hq2)
    simp only [List.getElem_map, ddRow] at a3 b3
    simp [h0, h1, h5, a1, a2, a3, b1, b2, b3, hq2]
    have htd := eqDeed_same (E := E) xs[i] H'
    simp only [ddAV] at htd
    refine callG_use htd ?_
    simp [h0, h1, h5, hw, hle]
    exact ⟨k - 1, by omega, i + 1, by omega, by omega⟩
  · simp [hle]
theorem eqEntryS_same (a b : AV) (xs : List Ent) (H : Hp) (ha : Ents H a xs) (hb : Ents H b xs) (hx : xs.length < 9223372036854775807) : AC Tryz.prog E 55 [a, b] H (fun v H' => v = .bool true ∧ H' = H) :=
  (eqEntryS_ok a b xs xs H ha hb hx).mono (fun v H' h => ⟨by simpa using h.1, h.2⟩)
theorem eqStringS_same (a b : AV) (xs : List ByteArray) (H : Hp) (ha : Strs H a xs) (hb : Strs H b xs) (hx : xs.length < 9223372036854775807) : AC Tryz.prog E 243 [a, b] H (fun v H' => v = .bool true ∧ H' = H) :=
  (eqStringS_ok a b xs xs H ha hb hx).mono (fun v H' h => ⟨by simpa using h.1, h.2⟩)
theorem eqEntrySS_same (a b : AV) (ar br : List (List AV)) (lev : List (List Ent)) (H : Hp) (ha : Rows 1 H a ar) (hb : Rows 1 H b br) (har : All2 (LvRow H) ar lev) (hbr : All2 (LvRow H) br lev) (hx : ∀ es ∈ lev, es.length < 4611686018427387904) (hn : lev.length < 4611686018427387904) :
    AC Tryz.prog E 133 [a, b] H (fun v H' => v = .bool true ∧ H' = H) := by
  refine AC_byp (CLe.refl _) h_laws_eqEntrySS (by simp) ?_
  have la := har.length
  have lb := hbr.length
  have l1 := ha.len
  have l2 := hb.len
  rw [la] at l1
  rw [lb] at l2
  simp [c_laws_eqEntrySS, l1, l2, ha.slc, hb.slc]
  refine W_for (fun k t H' => ∃ i : Nat, i + k = lev.length ∧ t 0 = a ∧ t 1 = b ∧ t 5 = .int .i64 i ∧ HLe H H') lev.length ?_ AC_mono ?_
  · exact ⟨0, by simp⟩
  rintro k t H' ⟨i, hik, h0, h1, h5, hle⟩
  simp [h0, h1, h5, l1, ha.slc]
  refine c_split (fun hq2 => ?_) (fun hq2 => ?_) <;> simp at hq2
  · have hw := wrapN (i := i) (by omega)
    have hil : i < ar.length := by omega
    have hil2 : i < br.length := by omega
    obtain ⟨o1, i1, ob1, rfl, a1, a2, a3⟩ := ha.get (j := i) hil
    obtain ⟨o2, i2, ob2, rfl, b1, b2, b3⟩ := hb.get (j := i) hil2
    obtain ⟨u, hu, hue⟩ := har.get i hil hq2
    obtain ⟨w, hw1, hwe⟩ := hbr.get i hil2 hq2
    rw [hu] at a3
    rw [hw1] at b3
    have a1' := hle.2 _ _ a1
    have b1' := hle.2 _ _ b1
    simp [h0, h1, h5, a1', a2, a3, b1', b2, b3, hil, hil2]
    refine callG_use (eqEntryS_same u w lev[i] H' (hue.le hle) (hwe.le hle) (by have := hx _ (List.getElem_mem hq2); omega)) ?_
    simp [h0, h1, h5, hw, hle]
    exact ⟨k - 1, by omega, i + 1, by omega, by omega⟩
  · simp [hle]
theorem eqSieve_same (s : Sv) (r r' : AV) (H : Hp) (hr : Strs H r s.r) (hr' : Strs H r' s.r) (hx : s.r.length < 4611686018427387904) :
    AC Tryz.prog E 197 [svAV s r, svAV s r'] H (fun v H' => v = .bool true ∧ H' = H) := by
  refine AC_byp (CLe.refl _) h_laws_eqSieve (by simp) ?_
  obtain ⟨H1, hH1⟩ : ∃ H1 : Hp, H1 = H ++ [some ⟨[[.str s.l, .str s.m, .str s.f, r, .int .i64 s.k]], 5, 66, false⟩, some ⟨[[.str s.l, .str s.m, .str s.f, r', .int .i64 s.k]], 5, 66, false⟩] := ⟨_, rfl⟩
  have hle1 : HLe H H1 := by rw [hH1]; exact HLe.self _ _
  have b0 : H1.at H.length = some ⟨[[.str s.l, .str s.m, .str s.f, r, .int .i64 s.k]], 5, 66, false⟩ := by rw [hH1]; simp
  have b1 : H1.at (H.length + 1) = some ⟨[[.str s.l, .str s.m, .str s.f, r', .int .i64 s.k]], 5, 66, false⟩ := by rw [hH1]; simp
  simp [c_laws_eqSieve, svAV, Rows.one hr, Rows.one hr', ← hH1, b0, b1]
  refine callG_use (eqStringS_same r r' s.r H1 (hr.le hle1) (hr'.le hle1) (by omega)) ?_
  simp [b0, b1, hle1]
theorem eqSieveS_same (a b : AV) (ar br : List (List AV)) (sv : List Sv) (H : Hp) (ha : Rows 5 H a ar) (hb : Rows 5 H b br) (har : All2 (SvRow H (fun _ => False)) ar sv) (hbr : All2 (SvRow H (fun _ => False)) br sv) (hx : ∀ s ∈ sv, s.r.length < 4611686018427387904) (hn : sv.length < 4611686018427387904) :
    AC Tryz.prog E 134 [a, b] H (fun v H' => v = .bool true ∧ H' = H) := by
  refine AC_byp (CLe.refl _) h_laws_eqSieveS (by simp) ?_
  have la := har.length
  have lb := hbr.length
  have l1 := ha.len
  have l2 := hb.len
  rw [la] at l1
  rw [lb] at l2
  simp [c_laws_eqSieveS, l1, l2, ha.slc, hb.slc]
  refine W_for (fun k t H' => ∃ i : Nat, i + k = sv.length ∧ t 0 = a ∧ t 1 = b ∧ t 5 = .int .i64 i ∧ HLe H H') sv.length ?_ AC_mono ?_
  · exact ⟨0, by simp⟩
  rintro k t H' ⟨i, hik, h0, h1, h5, hle⟩
  simp [h0, h1, h5, l1, ha.slc]
  refine c_split (fun hq2 => ?_) (fun hq2 => ?_) <;> simp at hq2
  · have hw := wrapN (i := i) (by omega)
    have hil : i < ar.length := by omega
    have hil2 : i < br.length := by omega
    obtain ⟨o1, i1, ob1, rfl, a1, a2, a3⟩ := ha.get (j := i) hil
    obtain ⟨o2, i2, ob2, rfl, b1, b2, b3⟩ := hb.get (j := i) hil2
    obtain ⟨u, hu, hue, _⟩ := har.get i hil hq2
    obtain ⟨w, hw1, hwe, _⟩ := hbr.get i hil2 hq2
    rw [hu] at a3
    rw [hw1] at b3
    have a1' := hle.2 _ _ a1
    have b1' := hle.2 _ _ b1
    simp [h0, h1, h5, a1', a2, a3, b1', b2, b3, hil, hil2]
    have hsk := eqSieve_same (E := E) sv[i] u w H' (hue.le hle) (hwe.le hle) (hx _ (List.getElem_mem hq2))
    simp only [svAV] at hsk
    refine callG_use hsk ?_
    simp [h0, h1, h5, hw, hle]
    exact ⟨k - 1, by omega, i + 1, by omega, by omega⟩
  · simp [hle]
theorem eqStore_same (v v' : AV) (s : Sr) (H : Hp) (hs : St H v s) (hs' : St H v' s) (hb : StB s) :
    AC Tryz.prog E 56 [v, v'] H (fun u H' => u = .bool true ∧ H' = H) := by
  obtain ⟨a, b, c, d, lr, sr, rfl, f1, f2, f3, f4, f5, f6⟩ := hs
  obtain ⟨a', b', c', d', lr', sr', rfl, g1, g2, g3, g4, g5, g6⟩ := hs'
  obtain ⟨y1, y2, y3, y4, y5, y6, y7, y8, y9⟩ := hb
  refine AC_byp (CLe.refl _) h_laws_eqStore (by simp) ?_
  obtain ⟨H1, hH1⟩ : ∃ H1 : Hp, H1 = H ++ [some ⟨[[a, b, c, .int .i64 s.keep, .int .i64 s.time, d]], 6, 28, false⟩, some ⟨[[a', b', c', .int .i64 s.keep, .int .i64 s.time, d']], 6, 28, false⟩] := ⟨_, rfl⟩
  have hle1 : HLe H H1 := by rw [hH1]; exact HLe.self _ _
  have b0 : H1.at H.length = some ⟨[[a, b, c, .int .i64 s.keep, .int .i64 s.time, d]], 6, 28, false⟩ := by rw [hH1]; simp
  have b1 : H1.at (H.length + 1) = some ⟨[[a', b', c', .int .i64 s.keep, .int .i64 s.time, d']], 6, 28, false⟩ := by rw [hH1]; simp
  simp [c_laws_eqStore, stAV, Rows.one f1, f2.one, f4.one, Rows.one f6, Rows.one g1, g2.one, g4.one, Rows.one g6, ← hH1, b0, b1]
  refine callG_use (eqEntryS_same a a' s.top H1 (f1.le hle1) (g1.le hle1) (by have := y1.1; omega)) ?_
  simp [b0, b1]
  refine callG_use (eqEntrySS_same b b' lr lr' s.lev H1 (f2.le hle1) (g2.le hle1) (All2.mono (fun _ _ => LvRow.le hle1) f3) (All2.mono (fun _ _ => LvRow.le hle1) g3) (fun es he => by have := (y2 es he).1; omega) (by omega)) ?_
  simp [b0, b1]
  refine callG_use (eqSieveS_same c c' sr sr' s.sv H1 (f4.le hle1) (g4.le hle1) (All2.mono (fun _ _ => SvRow.le hle1) f5) (All2.mono (fun _ _ => SvRow.le hle1) g5) (fun x hx => by have := y6 x hx; omega) (by omega)) ?_
  simp [b0, b1]
  refine callG_use (eqIntS_same d d' s.tms H1 (f6.le hle1) (g6.le hle1) (by omega)) ?_
  simp [hle1]

end Go.Proofs.YtgoeenodllmdpaaGreat.B


namespace Go.Proofs.YtgoeenodllmdpaaGreat.B
open Go.RowKit Go.Proofs
set_option linter.unusedVariables false
set_option linter.unusedSimpArgs false
variable {E : Env}

def szR (n : Nat) (left : Int) : Int := if (n : Int) ≤ left then left - n else -1
def sumN {α : Type} (f : α → Nat) : List α → Nat
  | [] => 0
  | x :: xs => f x + sumN f xs
theorem sumN_take {α : Type} (f : α → Nat) : ∀ (xs : List α) (i : Nat) (h : i < xs.length), sumN f (xs.take (i + 1)) = sumN f (xs.take i) + f xs[i]
  | x :: xs, 0, _ => by simp [sumN]
  | x :: xs, i + 1, h => by
    have := sumN_take f xs i (by simpa using h)
    simp only [List.take_succ_cons, sumN, List.getElem_cons_succ]
    omega
theorem sumN_le {α : Type} (f : α → Nat) : ∀ (xs : List α) (i : Nat), sumN f (xs.take i) ≤ sumN f xs
  | [], i => by simp
  | x :: xs, 0 => by simp [sumN]
  | x :: xs, i + 1 => by
    have := sumN_le f xs i
    simp only [List.take_succ_cons, sumN]
    omega
theorem sumN_mem {α : Type} (f : α → Nat) : ∀ (xs : List α) (x : α), x ∈ xs → f x ≤ sumN f xs
  | y :: xs, x, h => by
    simp only [sumN]
    rcases List.mem_cons.1 h with rfl | h
    · omega
    · have := sumN_mem f xs x h
      omega
theorem szR_neg {n : Nat} {left : Int} (h : 0 ≤ left) : szR n left < 0 ↔ ¬ (n : Int) ≤ left := by
  unfold szR
  split <;> omega
theorem szR_step {α : Type} {f : α → Nat} {xs : List α} {i m : Nat} {left : Int} (h : i < xs.length) (h0 : 0 ≤ left - m - sumN f (xs.take i)) :
    (¬ 0 ≤ szR (f xs[i]) (left - m - sumN f (xs.take i)) → szR (m + sumN f xs) left = -1) ∧ (0 ≤ szR (f xs[i]) (left - m - sumN f (xs.take i)) → szR (f xs[i]) (left - m - sumN f (xs.take i)) = left - m - sumN f (xs.take (i + 1)) ∧ 0 ≤ left - m - sumN f (xs.take (i + 1))) := by
  have h1 := sumN_take f xs i h
  have h2 := sumN_le f xs (i + 1)
  unfold szR
  refine ⟨fun hn => ?_, fun hp => ?_⟩
  · split at hn
    · omega
    · rw [if_neg (by omega)]
  · split at hp
    · rw [if_pos (by assumption)]
      omega
    · omega
theorem szR_end {α : Type} {f : α → Nat} {xs : List α} {m : Nat} {left : Int} (h0 : 0 ≤ left - m - sumN f xs) : left - m - sumN f xs = szR (m + sumN f xs) left := by
  unfold szR
  rw [if_pos (by omega)]
  omega

def szEn (es : List Ent) : Nat := es.length + szE es
def szSn (r : List ByteArray) : Nat := r.length + szL r
def szVn (s : Sv) : Nat := s.l.size + s.m.size + s.f.size + szSn s.r
def szDn (d : Dd) : Nat := d.key.size
def szStn (s : Sr) : Nat := szEn s.top + (s.lev.length + sumN szEn s.lev) + (s.sv.length + sumN szVn s.sv) + s.tms.length
theorem szEntryS_ok' (a : AV) (xs : List Ent) (left : Int) (H : Hp) (ha : Ents H a xs) (hl : 0 ≤ left ∧ left ≤ 1048576) (hx : xs.length < 4611686018427387904) (hs : Short xs) :
    AC Tryz.prog E 122 [a, .int .i64 left] H (fun v H' => v = .int .i64 (szR (szEn xs) left) ∧ H' = H) := by
  refine (szEntryS_ok a xs left H ha hl hx hs).mono (fun v H' h => ⟨?_, h.2⟩)
  rw [h.1]
  have e : szEn xs = xs.length + szE xs := rfl
  unfold szR
  by_cases hc : (xs.length : Int) + szE xs ≤ left
  · rw [if_pos hc, if_pos (by omega)]
    congr 1
    omega
  · rw [if_neg hc, if_neg (by omega)]
theorem szStringS_ok' (a : AV) (xs : List ByteArray) (left : Int) (H : Hp) (ha : Strs H a xs) (hl : 0 ≤ left ∧ left ≤ 1048576) (hx : xs.length < 4611686018427387904) (hs : ∀ s ∈ xs, s.size < 4611686018427387904) :
    AC Tryz.prog E 241 [a, .int .i64 left] H (fun v H' => v = .int .i64 (szR (szSn xs) left) ∧ H' = H) := by
  refine (szStringS_ok a xs left H ha hl hx hs).mono (fun v H' h => ⟨?_, h.2⟩)
  rw [h.1]
  have e : szSn xs = xs.length + szL xs := rfl
  unfold szR
  by_cases hc : (xs.length : Int) + szL xs ≤ left
  · rw [if_pos hc, if_pos (by omega)]
    congr 1
    omega
  · rw [if_neg hc, if_neg (by omega)]
theorem szDeed_ok' (d : Dd) (left : Int) (H : Hp) (hl : 0 ≤ left ∧ left ≤ 1048576) (hs : d.key.size < 4611686018427387904) :
    AC Tryz.prog E 126 [ddAV d, .int .i64 left] H (fun v H' => v = .int .i64 (szR (szDn d) left) ∧ H' = H) := by
  refine (szDeed_ok d left H hl hs).mono (fun v H' h => ⟨?_, h.2⟩)
  rw [h.1]
  have e : szDn d = d.key.size := rfl
  unfold szR
  by_cases hc : left - (d.key.size : Int) < 0
  · rw [if_pos hc, if_neg (by omega)]
  · rw [if_neg hc, if_pos (by omega), e]

theorem szEntrySS_ok (b : AV) (lr : List (List AV)) (lev : List (List Ent)) (left : Int) (H : Hp) (hb : Rows 1 H b lr) (hr : All2 (LvRow H) lr lev) (hl : 0 ≤ left ∧ left ≤ 1048576) (hx : ∀ es ∈ lev, es.length < 4611686018427387904 ∧ Short es) (hn : lev.length < 4611686018427387904) :
    AC Tryz.prog E 123 [b, .int .i64 left] H (fun v H' => v = .int .i64 (szR (lev.length + sumN szEn lev) left) ∧ H' = H) := by
  refine AC_byp (CLe.refl _) h_laws_szEntrySS (by simp) ?_
  have ll := hr.length
  have l1 := hb.len
  rw [ll] at l1
  have hw0 : IntKind.i64.wrap (left - lev.length) = left - lev.length := wrap64 (by omega) (by omega)
  simp [c_laws_szEntrySS, l1, hb.slc, hw0]
  refine c_split (fun hq => ?_) (fun hq => ?_) <;> simp at hq <;> simp
  · unfold szR
    rw [if_neg (by omega)]
  · refine W_for (fun k t H' => ∃ i : Nat, i + k = lev.length ∧ t 0 = b ∧ t 1 = .int .i64 (left - lev.length - sumN szEn (lev.take i)) ∧ t 5 = .int .i64 i ∧ 0 ≤ left - lev.length - sumN szEn (lev.take i) ∧ HLe H H') lev.length ?_ AC_mono ?_
    · exact ⟨0, by simp [sumN]; omega⟩
    rintro k t H' ⟨i, hik, h0, h1, h5, hp, hle⟩
    simp [h0, h1, h5, l1, hb.slc]
    refine c_split (fun hq2 => ?_) (fun hq2 => ?_) <;> simp at hq2
    · have hw := wrapN (i := i) (by omega)
      have hil : i < lr.length := by omega
      obtain ⟨o1, i1, ob1, rfl, a1, a2, a3⟩ := hb.get (j := i) hil
      obtain ⟨u, hu, hue⟩ := hr.get i hil hq2
      rw [hu] at a3
      have a1' := hle.2 _ _ a1
      obtain ⟨e1, e2⟩ := hx _ (List.getElem_mem hq2)
      obtain ⟨st1, st2⟩ := szR_step (f := szEn) hq2 hp
      simp [h0, h1, h5, a1', a2, a3, hil]
      refine callG_use (szEntryS_ok' u lev[i] _ H' (hue.le hle) ⟨by omega, by omega⟩ e1 e2) ?_
      obtain ⟨r, hrr⟩ : ∃ r, r = szR (szEn lev[i]) (left - lev.length - sumN szEn (lev.take i)) := ⟨_, rfl⟩
      rw [← hrr] at st1 st2 ⊢
      simp [h0, h1, h5]
      refine c_split (fun hq3 => ?_) (fun hq3 => ?_) <;> simp at hq3 <;> simp [h0, h1, h5, hw, hle]
      · rw [st1 (by omega)]
      · obtain ⟨s1, s2⟩ := st2 hq3
        exact ⟨k - 1, by omega, i + 1, by omega, s1, by omega, by omega⟩
    · have : i = lev.length := by omega
      subst this
      simp at hp
      simp [h0, h1, h5, hle]
      exact szR_end (by omega)

theorem szSieve_ok (s : Sv) (r : AV) (left : Int) (H : Hp) (hr : Strs H r s.r) (hl : 0 ≤ left ∧ left ≤ 1048576) (hx : s.r.length < 4611686018427387904 ∧ (∀ x ∈ s.r, x.size < 4611686018427387904) ∧ s.l.size < 4611686018427387904 ∧ s.m.size < 4611686018427387904 ∧ s.f.size < 4611686018427387904) :
    AC Tryz.prog E 194 [svAV s r, .int .i64 left] H (fun v H' => v = .int .i64 (szR (szVn s) left) ∧ H' = H) := by
  refine AC_byp (CLe.refl _) h_laws_szSieve (by simp) ?_
  obtain ⟨x1, x2, x3, x4, x5⟩ := hx
  have hw0 : IntKind.i64.wrap (left - s.l.size) = left - s.l.size := wrap64 (by omega) (by omega)
  obtain ⟨H1, hH1⟩ : ∃ H1 : Hp, H1 = H ++ [some ⟨[[.str s.l, .str s.m, .str s.f, r, .int .i64 s.k]], 5, 200, false⟩] := ⟨_, rfl⟩
  have hle1 : HLe H H1 := by rw [hH1]; exact HLe.self _ _
  have b0 : H1.at H.length = some ⟨[[.str s.l, .str s.m, .str s.f, r, .int .i64 s.k]], 5, 200, false⟩ := by rw [hH1]; simp
  have hv : szVn s = s.l.size + s.m.size + s.f.size + szSn s.r := rfl
  have no : ∀ {q : Prop}, (q → (szVn s : Int) ≤ left → False) → q → szR (szVn s) left = -1 := fun h hq => by
    unfold szR
    rw [if_neg (fun h2 => h hq h2)]
  simp [c_laws_szSieve, svAV, Rows.one hr, ← hH1, b0, hw0]
  refine c_split (fun hq => ?_) (fun hq => ?_) <;> simp at hq <;> simp
  · refine ⟨(no (fun _ h => by omega) hq).symm, hle1⟩
  have hw1 : IntKind.i64.wrap (left - s.l.size - s.m.size) = left - s.l.size - s.m.size := wrap64 (by omega) (by omega)
  simp [b0, hw1]
  refine c_split (fun hq2 => ?_) (fun hq2 => ?_) <;> simp at hq2 <;> simp
  · refine ⟨(no (fun _ h => by omega) hq2).symm, hle1⟩
  have hw2 : IntKind.i64.wrap (left - s.l.size - s.m.size - s.f.size) = left - s.l.size - s.m.size - s.f.size := wrap64 (by omega) (by omega)
  simp [b0, hw2]
  refine c_split (fun hq3 => ?_) (fun hq3 => ?_) <;> simp at hq3 <;> simp
  · refine ⟨(no (fun _ h => by omega) hq3).symm, hle1⟩
  simp [b0]
  refine callG_use (szStringS_ok' r s.r _ H1 (hr.le hle1) ⟨by omega, by omega⟩ x1 x2) ?_
  simp
  refine c_split (fun hq4 => ?_) (fun hq4 => ?_) <;> simp at hq4 <;> simp
  · refine ⟨?_, hle1⟩
    refine (no (q := szR (szSn s.r) (left - s.l.size - s.m.size - s.f.size) < 0) (fun h h2 => ?_) hq4).symm
    rw [szR_neg (by omega)] at h
    omega
  · refine ⟨?_, hle1⟩
    unfold szR at hq4 ⊢
    split at hq4
    · rename_i h
      rw [if_pos h, if_pos (by omega)]
      omega
    · omega

end Go.Proofs.YtgoeenodllmdpaaGreat.B


namespace Go.Proofs.YtgoeenodllmdpaaGreat.B
open Go.RowKit Go.Proofs
set_option linter.unusedVariables false
set_option linter.unusedSimpArgs false
variable {E : Env}

theorem szIntS_ok (a : AV) (xs : List Int) (left : Int) (H : Hp) (ha : Ints H a xs) (hl : 0 ≤ left ∧ left ≤ 1048576) (hx : xs.length < 4611686018427387904) :
    AC Tryz.prog E 125 [a, .int .i64 left] H (fun v H' => v = .int .i64 (szR xs.length left) ∧ H' = H) := by
  refine AC_byp (CLe.refl _) h_laws_szIntS (by simp) ?_
  have l1 := ha.len
  have hw0 : IntKind.i64.wrap (left - xs.length) = left - xs.length := wrap64 (by omega) (by omega)
  simp [c_laws_szIntS, l1, ha.slc, hw0]
  refine c_split (fun hq => ?_) (fun hq => ?_) <;> simp at hq <;> simp
  · unfold szR
    rw [if_neg (by omega)]
  · unfold szR
    rw [if_pos (by omega)]
structure SvB (s : Sv) : Prop where
  n : s.r.length < 4611686018427387904
  r : ∀ x ∈ s.r, x.size < 4611686018427387904
  l : s.l.size < 4611686018427387904
  m : s.m.size < 4611686018427387904
  f : s.f.size < 4611686018427387904
theorem szSieveS_ok (c : AV) (sr : List (List AV)) (sv : List Sv) (left : Int) (H : Hp) (hc : Rows 5 H c sr) (hr : All2 (SvRow H (fun _ => False)) sr sv) (hl : 0 ≤ left ∧ left ≤ 1048576) (hx : ∀ s ∈ sv, SvB s) (hn : sv.length < 4611686018427387904) :
    AC Tryz.prog E 124 [c, .int .i64 left] H (fun v H' => v = .int .i64 (szR (sv.length + sumN szVn sv) left) ∧ H' = H) := by
  refine AC_byp (CLe.refl _) h_laws_szSieveS (by simp) ?_
  have ll := hr.length
  have l1 := hc.len
  rw [ll] at l1
  have hw0 : IntKind.i64.wrap (left - sv.length) = left - sv.length := wrap64 (by omega) (by omega)
  simp [c_laws_szSieveS, l1, hc.slc, hw0]
  refine c_split (fun hq => ?_) (fun hq => ?_) <;> simp at hq <;> simp
  · unfold szR
    rw [if_neg (by omega)]
  · refine W_for (fun k t H' => ∃ i : Nat, i + k = sv.length ∧ t 0 = c ∧ t 1 = .int .i64 (left - sv.length - sumN szVn (sv.take i)) ∧ t 5 = .int .i64 i ∧ 0 ≤ left - sv.length - sumN szVn (sv.take i) ∧ HLe H H') sv.length ?_ AC_mono ?_
    · exact ⟨0, by simp [sumN]; omega⟩
    rintro k t H' ⟨i, hik, h0, h1, h5, hp, hle⟩
    simp [h0, h1, h5, l1, hc.slc]
    refine c_split (fun hq2 => ?_) (fun hq2 => ?_) <;> simp at hq2
    · have hw := wrapN (i := i) (by omega)
      have hil : i < sr.length := by omega
      obtain ⟨o1, i1, ob1, rfl, a1, a2, a3⟩ := hc.get (j := i) hil
      obtain ⟨u, hu, hue, _⟩ := hr.get i hil hq2
      rw [hu] at a3
      have a1' := hle.2 _ _ a1
      have e1 := hx _ (List.getElem_mem hq2)
      obtain ⟨st1, st2⟩ := szR_step (f := szVn) hq2 hp
      simp [h0, h1, h5, a1', a2, a3, hil]
      have hsk := szSieve_ok (E := E) sv[i] u (left - sv.length - sumN szVn (sv.take i)) H' (hue.le hle) ⟨by omega, by omega⟩ ⟨e1.n, e1.r, e1.l, e1.m, e1.f⟩
      simp only [svAV] at hsk
      refine callG_use hsk ?_
      obtain ⟨r, hrr⟩ : ∃ r, r = szR (szVn sv[i]) (left - sv.length - sumN szVn (sv.take i)) := ⟨_, rfl⟩
      rw [← hrr] at st1 st2 ⊢
      simp [h0, h1, h5]
      refine c_split (fun hq3 => ?_) (fun hq3 => ?_) <;> simp at hq3 <;> simp [h0, h1, h5, hw, hle]
      · rw [st1 (by omega)]
      · obtain ⟨s1, s2⟩ := st2 hq3
        exact ⟨k - 1, by omega, i + 1, by omega, s1, by omega, by omega⟩
    · have : i = sv.length := by omega
      subst this
      simp at hp
      simp [h0, h1, h5, hle]
      exact szR_end (by omega)
theorem szDeedS_ok (a : AV) (ds : List Dd) (left : Int) (H : Hp) (ha : Dds H a ds) (hl : 0 ≤ left ∧ left ≤ 1048576) (hx : ∀ d ∈ ds, d.key.size < 4611686018427387904) (hn : ds.length < 4611686018427387904) :
    AC Tryz.prog E 52 [a, .int .i64 left] H (fun v H' => v = .int .i64 (szR (ds.length + sumN szDn ds) left) ∧ H' = H) := by
  refine AC_byp (CLe.refl _) h_laws_szDeedS (by simp) ?_
  have l1 : lenV a = .int .i64 ds.length := by simpa using Rows.len ha
  have hsl : slC a := Rows.slc ha
  have hw0 : IntKind.i64.wrap (left - ds.length) = left - ds.length := wrap64 (by omega) (by omega)
  simp [c_laws_szDeedS, l1, hsl, hw0]
  refine c_split (fun hq => ?_) (fun hq => ?_) <;> simp at hq <;> simp
  · unfold szR
    rw [if_neg (by omega)]
  · refine W_for (fun k t H' => ∃ i : Nat, i + k = ds.length ∧ t 0 = a ∧ t 1 = .int .i64 (left - ds.length - sumN szDn (ds.take i)) ∧ t 5 = .int .i64 i ∧ 0 ≤ left - ds.length - sumN szDn (ds.take i) ∧ HLe H H') ds.length ?_ AC_mono ?_
    · exact ⟨0, by simp [sumN]; omega⟩
    rintro k t H' ⟨i, hik, h0, h1, h5, hp, hle⟩
    simp [h0, h1, h5, l1, hsl]
    refine c_split (fun hq2 => ?_) (fun hq2 => ?_) <;> simp at hq2
    · have hw := wrapN (i := i) (by omega)
      obtain ⟨o1, i1, ob1, rfl, a1, a2, a3⟩ := (Rows.le ha hle).get (j := i) (by simpa using hq2)
      simp only [List.getElem_map, ddRow] at a3
      have e1 := hx _ (List.getElem_mem hq2)
      obtain ⟨st1, st2⟩ := szR_step (f := szDn) hq2 hp
      simp [h0, h1, h5, a1, a2, a3, hq2]
      have hsk := szDeed_ok' (E := E) ds[i] (left - ds.length - sumN szDn (ds.take i)) H' ⟨by omega, by omega⟩ e1
      simp only [ddAV] at hsk
      refine callG_use hsk ?_
      obtain ⟨r, hrr⟩ : ∃ r, r = szR (szDn ds[i]) (left - ds.length - sumN szDn (ds.take i)) := ⟨_, rfl⟩
      rw [← hrr] at st1 st2 ⊢
      simp [h0, h1, h5]
      refine c_split (fun hq3 => ?_) (fun hq3 => ?_) <;> simp at hq3 <;> simp [h0, h1, h5, hw, hle]
      · rw [st1 (by omega)]
      · obtain ⟨s1, s2⟩ := st2 hq3
        exact ⟨k - 1, by omega, i + 1, by omega, s1, by omega, by omega⟩
    · have : i = ds.length := by omega
      subst this
      simp at hp
      simp [h0, h1, h5, hle]
      exact szR_end (by omega)
structure StW (s : Sr) : Prop where
  t : s.top.length < 4611686018427387904 ∧ Fits s.top
  l : ∀ es ∈ s.lev, es.length < 4611686018427387904 ∧ Fits es
  ln : s.lev.length < 4611686018427387904
  sn : s.sv.length < 4611686018427387904
  sv : ∀ x ∈ s.sv, SvB x
  i : s.tms.length < 4611686018427387904
  i1 : I64 s.time
  i2 : I64 s.keep
  i3 : ∀ t ∈ s.tms, I64 t
structure StM (s : Sr) : Prop where
  t : s.top.length ≤ 1048576
  ln : s.lev.length ≤ 1048576
  l : ∀ es ∈ s.lev, es.length ≤ 1048576
  sn : s.sv.length ≤ 1048576
  sv : ∀ x ∈ s.sv, x.r.length ≤ 1048576
  i : s.tms.length ≤ 1048576
theorem StW.small {s : Sr} (h : szStn s ≤ 1048576) : StM s := by
  have hN : szStn s = szEn s.top + (s.lev.length + sumN szEn s.lev) + (s.sv.length + sumN szVn s.sv) + s.tms.length := rfl
  have h1 : szEn s.top = s.top.length + szE s.top := rfl
  refine ⟨by omega, by omega, fun es he => ?_, by omega, fun x hx => ?_, by omega⟩
  · have := sumN_mem szEn s.lev es he
    have h2 : szEn es = es.length + szE es := rfl
    omega
  · have := sumN_mem szVn s.sv x hx
    have h2 : szVn x = x.l.size + x.m.size + x.f.size + szSn x.r := rfl
    have h3 : szSn x.r = x.r.length + szL x.r := rfl
    omega
theorem StW.stB {s : Sr} (h : StW s) (k : StM s) : StB s := by
  refine ⟨⟨by have := k.t; omega, h.t.2⟩, fun es he => ⟨by have := k.l es he; omega, (h.l es he).2⟩, by have := k.ln; omega, by have := k.sn; omega, by have := k.i; omega, fun x hx => by have := k.sv x hx; omega, h.i1, h.i2, h.i3⟩
theorem StM.n {s : Sr} (k : StM s) : stN s ≤ 100000000000000 := by
  have h1 := lvN_le2 s.lev k.l
  have h2 := svN_le2 s.sv k.sv
  have := k.t
  have := k.ln
  have := k.sn
  have := k.i
  unfold stN
  omega
theorem szR_pos {n : Nat} {left : Int} (h : ¬ szR n left < 0) (hl : 0 ≤ left) : (n : Int) ≤ left ∧ szR n left = left - n := by
  unfold szR at h ⊢
  split at h
  · rename_i h2
    rw [if_pos h2]
    exact ⟨h2, rfl⟩
  · omega
theorem szStore_ok (v : AV) (s : Sr) (left : Int) (H : Hp) (hs : St H v s) (hl : 0 ≤ left ∧ left ≤ 1048576) (hb : StW s) :
    AC Tryz.prog E 51 [v, .int .i64 left] H (fun u H' => u = .int .i64 (szR (szStn s) left) ∧ H' = H) := by
  obtain ⟨a, b, c, d, lr, sr, rfl, f1, f2, f3, f4, f5, f6⟩ := hs
  obtain ⟨y1, y2, y3, y4, hv, y5, y7, y8, y9⟩ := hb
  refine AC_byp (CLe.refl _) h_laws_szStore (by simp) ?_
  have hN : szStn s = szEn s.top + (s.lev.length + sumN szEn s.lev) + (s.sv.length + sumN szVn s.sv) + s.tms.length := rfl
  have no : ¬ (szStn s : Int) ≤ left → szR (szStn s) left = -1 := fun h => by
    unfold szR
    rw [if_neg h]
  obtain ⟨H1, hH1⟩ : ∃ H1 : Hp, H1 = H ++ [some ⟨[[a, b, c, .int .i64 s.keep, .int .i64 s.time, d]], 6, 77, false⟩] := ⟨_, rfl⟩
  have hle1 : HLe H H1 := by rw [hH1]; exact HLe.self _ _
  have b0 : H1.at H.length = some ⟨[[a, b, c, .int .i64 s.keep, .int .i64 s.time, d]], 6, 77, false⟩ := by rw [hH1]; simp
  simp [c_laws_szStore, stAV, Rows.one f1, f2.one, f4.one, Rows.one f6, ← hH1, b0]
  refine callG_use (szEntryS_ok' a s.top left H1 (f1.le hle1) hl y1.1 y1.2.short) ?_
  simp
  refine c_split (fun hq => ?_) (fun hq => ?_) <;> simp at hq <;> simp
  · rw [szR_neg hl.1] at hq
    exact ⟨(no (by omega)).symm, hle1⟩
  obtain ⟨p1, q1⟩ := szR_pos (n := szEn s.top) (left := left) (by omega) hl.1
  rw [q1]
  simp [b0]
  obtain ⟨nL, hL⟩ : ∃ n, n = s.lev.length + sumN szEn s.lev := ⟨_, rfl⟩
  obtain ⟨nS, hS⟩ : ∃ n, n = s.sv.length + sumN szVn s.sv := ⟨_, rfl⟩
  rw [← hL, ← hS] at hN
  have cL := szEntrySS_ok (E := E) b lr s.lev (left - szEn s.top) H1 (f2.le hle1) (All2.mono (fun _ _ => LvRow.le hle1) f3) ⟨by omega, by omega⟩ (fun es he => ⟨(y2 es he).1, (y2 es he).2.short⟩) (by omega)
  rw [← hL] at cL
  refine callG_use cL ?_
  simp
  refine c_split (fun hq2 => ?_) (fun hq2 => ?_) <;> simp at hq2 <;> simp
  · rw [szR_neg (by omega)] at hq2
    exact ⟨(no (by omega)).symm, hle1⟩
  obtain ⟨p2, q2⟩ := szR_pos (n := nL) (left := left - szEn s.top) (by omega) (by omega)
  rw [q2]
  simp [b0]
  have cS := szSieveS_ok (E := E) c sr s.sv (left - szEn s.top - nL) H1 (f4.le hle1) (All2.mono (fun _ _ => SvRow.le hle1) f5) ⟨by omega, by omega⟩ hv (by omega)
  rw [← hS] at cS
  refine callG_use cS ?_
  simp
  refine c_split (fun hq3 => ?_) (fun hq3 => ?_) <;> simp at hq3 <;> simp
  · rw [szR_neg (by omega)] at hq3
    exact ⟨(no (by omega)).symm, hle1⟩
  obtain ⟨p3, q3⟩ := szR_pos (n := nS) (left := left - szEn s.top - nL) (by omega) (by omega)
  rw [q3]
  simp [b0]
  refine callG_use (szIntS_ok d s.tms (left - szEn s.top - nL - nS) H1 (f6.le hle1) ⟨by omega, by omega⟩ (by omega)) ?_
  simp
  refine c_split (fun hq4 => ?_) (fun hq4 => ?_) <;> simp at hq4 <;> simp
  · rw [szR_neg (by omega)] at hq4
    exact ⟨(no (by omega)).symm, hle1⟩
  obtain ⟨p4, q4⟩ := szR_pos (n := s.tms.length) (left := left - szEn s.top - nL - nS) (by omega) (by omega)
  rw [q4]
  refine ⟨?_, hle1⟩
  unfold szR
  rw [if_pos (by omega)]
  omega

end Go.Proofs.YtgoeenodllmdpaaGreat.B


namespace Go.Proofs.YtgoeenodllmdpaaGreat.B
open Go.RowKit Go.Proofs
set_option linter.unusedVariables false
set_option linter.unusedSimpArgs false
variable {E : Env}

theorem Fresh.own {α : Type} {esz ety : Nat} {row : α → List AV} {H H' : Hp} {v : AV} {xs : List α} (h : Fresh H ⟨xs.map row, esz, ety, false⟩ v H') : HLe H H' ∧ OwnM esz ety row H H' v xs := by
  obtain ⟨h1, o, rfl, h2, h3⟩ := h
  exact ⟨h1, Own.obj h3 rfl, fun y hy => by simp at hy; omega⟩
theorem toIntS_ok (a : AV) (xs : List Int) (H : Hp) (ha : Ints H a xs) (hx : xs.length ≤ 1048576) :
    AC Tryz.prog E 130 [a] H (Fresh H ⟨xs.map intRow, 1, 3, false⟩) := by
  refine AC_by fol (CLe.refl _) h_laws_toIntS ?_
  have l1 := ha.len
  simp [c_laws_toIntS, l1, ha.slc]
  refine ⟨by omega, ?_⟩
  rw [if_pos (by omega)]
  simp
  refine W_for (fun k t H' => ∃ i : Nat, i + k = xs.length ∧ t 0 = a ∧ t 3 = .sl H.length 0 xs.length ∧ t 4 = .int .i64 i ∧ H' = H ++ [some ⟨fillR intRow [.int .i64 0] xs i, 1, 3, false⟩]) xs.length ?_ AC_mono ?_
  · exact ⟨0, by simp [fillR_0]⟩
  rintro k t H' ⟨i, hik, h0, h3, h4, rfl⟩
  simp [h0, h3, h4, l1, ha.slc]
  refine c_split (fun hq2 => ?_) (fun hq2 => ?_) <;> simp at hq2
  · have hw := wrapN (i := i) (by omega)
    obtain ⟨o1, i1, ob1, rfl, a1, a2, a3⟩ := (ha.le (HLe.self H [some ⟨fillR intRow [.int .i64 0] xs i, 1, 3, false⟩])).get hq2
    have hs := fillR_set (f := intRow) (z := [.int .i64 0]) hq2
    simp [h0, h3, h4, a1, a2, a3, hq2, fillR_get hq2, hw]
    exact ⟨k - 1, by omega, i + 1, by omega, by omega, hs⟩
  · have : i = xs.length := by omega
    subst this
    simp [h3, fillR_n]
    exact ⟨HLe.self _ _, H.length, by simp, Nat.le_refl _, by simp⟩

theorem toDeedS_ok (a : AV) (xs : List Dd) (H : Hp) (ha : Dds H a xs) (hx : xs.length ≤ 1048576) :
    AC Tryz.prog E 54 [a] H (Fresh H ⟨xs.map ddRow, 3, 47, false⟩) := by
  refine AC_by fol (CLe.refl _) h_laws_toDeedS ?_
  have l1 : lenV a = .int .i64 xs.length := by simpa using Rows.len ha
  have hsl : slC a := Rows.slc ha
  simp [c_laws_toDeedS, l1, hsl]
  refine ⟨by omega, ?_⟩
  rw [if_pos (by omega)]
  simp
  refine W_for (fun k t H' => ∃ i : Nat, i + k = xs.length ∧ t 0 = a ∧ t 3 = .sl H.length 0 xs.length ∧ t 4 = .int .i64 i ∧ H' = H ++ [some ⟨fillR ddRow [.int .i64 0, .str ⟨#[]⟩, .int .i64 0] xs i, 3, 47, false⟩]) xs.length ?_ AC_mono ?_
  · exact ⟨0, by simp [fillR_0]⟩
  rintro k t H' ⟨i, hik, h0, h3, h4, rfl⟩
  simp [h0, h3, h4, l1, hsl]
  refine c_split (fun hq2 => ?_) (fun hq2 => ?_) <;> simp at hq2
  · have hw := wrapN (i := i) (by omega)
    obtain ⟨o1, i1, ob1, rfl, a1, a2, a3⟩ := (Rows.le ha (HLe.self H [some ⟨fillR ddRow [.int .i64 0, .str ⟨#[]⟩, .int .i64 0] xs i, 3, 47, false⟩])).get (j := i) (by simpa using hq2)
    simp only [List.getElem_map, ddRow] at a3
    rw [List.length_map] at l1 ⊢
    have hs := fillR_set (f := ddRow) (z := [.int .i64 0, .str ⟨#[]⟩, .int .i64 0]) hq2
    simp [h0, h3, h4, a1, a2, a3, hq2, fillR_get hq2]
    have htd := toDeed_ok (E := E) xs[i] (H ++ [some ⟨fillR ddRow [.int .i64 0, .str ⟨#[]⟩, .int .i64 0] xs i, 3, 47, false⟩])
    simp only [ddAV] at htd
    refine callG_use htd ?_
    simp [h0, h3, h4, a1, a2, a3, hq2, fillR_get hq2, hw]
    exact ⟨k - 1, by omega, i + 1, by omega, by omega, hs⟩
  · have : i = xs.length := by omega
    subst this
    simp [h3, fillR_n]
    exact ⟨HLe.self _ _, H.length, by simp, Nat.le_refl _, by simp⟩

structure TLv (H H' : Hp) (L n i : Nat) (lr : List (List AV)) (lev : List (List Ent)) : Prop where
  bx : H'.at L = some ⟨lr ++ List.replicate (n - i) [.nils], 1, 23, false⟩
  rl : All2 (LvX (fun y => H.length ≤ y) H') lr (lev.take i)
  pw : lr.Pairwise RowOff
  lt : ∀ row ∈ lr, ∀ y, rowOf row y → y < H'.length
  le : HLe H H'
theorem TLv.add {H H' H2 : Hp} {L n i : Nat} {lr : List (List AV)} {lev : List (List Ent)} {u : AV} (h : TLv H H' L n i lr lev) (hi : i < lev.length) (hin : i < n) (hL : H.length ≤ L) (hle : HLe H' H2) (hu : OwnE H' H2 u lev[i]) :
    TLv H (List.set H2 L (some ⟨(lr ++ List.replicate (n - i) [AV.nils]).set i [u], 1, 23, false⟩)) L n (i + 1) (lr ++ [[u]]) lev := by
  obtain ⟨h1, h2, h3, h4, h5⟩ := h
  have hll : lr.length = i := by
    have := h2.length
    rw [this, List.length_take]
    omega
  have bL := hle.2 _ _ h1
  have F := Fr.one H2 L (some ⟨(lr ++ List.replicate (n - i) [AV.nils]).set i [u], 1, 23, false⟩)
  have hne : ∀ y ob, y = L → H2.at y = some ob → ob.ety ≠ 99 := fun y ob hy ho => by
    rw [hy, bL] at ho
    cases ho
    simp
  refine ⟨?_, ?_, ?_, ?_, ?_⟩
  · rw [Hp.at_set _ (Hp.at_lt bL)]
    congr 2
    rw [List.set_append_right _ _ (by omega), hll, Nat.sub_self]
    obtain ⟨m, hm⟩ : ∃ m, n - i = m + 1 := ⟨n - i - 1, by omega⟩
    rw [hm, List.replicate_succ, List.set_cons_zero, show n - (i + 1) = m by omega]
    simp
  · rw [← List.take_append_getElem hi]
    refine All2.append (All2.mono (fun _ _ ⟨w, k1, k2, k3⟩ => ⟨w, k1, (k2.le hle).frE F hne, k3⟩) h2) ⟨⟨u, rfl, hu.1.frE F hne, fun y hy => Nat.le_trans h5.1 (hu.2 y hy)⟩, trivial⟩
  · refine pw_add h3 h4 (fun y ⟨w, hw, hy⟩ => ?_)
    rw [List.mem_singleton.1 hw] at hy
    exact hu.2 y hy
  · intro row hrow y hy
    simp only [List.length_set]
    rcases List.mem_append.1 hrow with h | h
    · exact Nat.lt_of_lt_of_le (h4 row h y hy) hle.1
    · rw [List.mem_singleton.1 h] at hy
      obtain ⟨w, hw, hy⟩ := hy
      rw [List.mem_singleton.1 hw] at hy
      exact hu.1.lt hy
  · exact (h5.trans hle).set hL _
theorem toEntrySS_ok (b : AV) (lr0 : List (List AV)) (lev : List (List Ent)) (H : Hp) (hb : Rows 1 H b lr0) (hr : All2 (LvRow H) lr0 lev) (hn : lev.length ≤ 1048576) (hx : ∀ es ∈ lev, es.length ≤ 1048576) :
    AC Tryz.prog E 128 [b] H (fun v H' => HLe H H' ∧ ∃ lr, Own 1 23 H' v lr ∧ All2 (LvX (fun y => H.length ≤ y) H') lr lev ∧ lr.Pairwise RowOff ∧ ∀ y, v.of y → H.length ≤ y) := by
  refine AC_by fol (CLe.refl _) h_laws_toEntrySS ?_
  have ll := hr.length
  have l1 := hb.len
  rw [ll] at l1
  simp [c_laws_toEntrySS, l1, hb.slc]
  refine ⟨by omega, ?_⟩
  rw [if_pos (by omega)]
  simp
  refine W_for (fun k t H' => ∃ i lr, i + k = lev.length ∧ t 0 = b ∧ t 3 = .sl H.length 0 lev.length ∧ t 4 = .int .i64 (i : Nat) ∧ TLv H H' H.length lev.length i lr lev) lev.length ?_ AC_mono ?_
  · exact ⟨0, [], by simp, by simp, by simp, by simp, by simp, trivial, List.Pairwise.nil, (fun _ h => by cases h), HLe.self _ _⟩
  rintro k t H' ⟨i, lr, hik, h0, h3, h4, hT⟩
  simp [h0, h3, h4, l1, hb.slc]
  refine c_split (fun hq2 => ?_) (fun hq2 => ?_) <;> simp at hq2
  · have hw := wrapN (i := i) (by omega)
    have hil : i < lr0.length := by omega
    obtain ⟨o1, i1, ob1, rfl, a1, a2, a3⟩ := hb.get (j := i) hil
    obtain ⟨u, hu, hue⟩ := hr.get i hil hq2
    rw [hu] at a3
    have a1' := hT.le.2 _ _ a1
    simp [h0, h3, h4, a1', a2, a3, hil]
    refine callG_ex (toEntryS_ok u lev[i] H' (hue.le hT.le) (hx _ (List.getElem_mem hq2))) ?_
    intro v H2 hf
    obtain ⟨hle2, hv⟩ := hf.own
    have bL := hle2.2 _ _ hT.bx
    have hll : lr.length = i := by
      have := hT.rl.length
      rw [this, List.length_take]
      omega
    have hg : (lr ++ List.replicate (lev.length - i) [AV.nils])[i]? = some [.nils] := by
      rw [List.getElem?_append_right (by omega), hll, Nat.sub_self, List.getElem?_replicate]
      simp
      omega
    have hT2 := hT.add hq2 hq2 (Nat.le_refl _) hle2 hv
    obtain ⟨R, hR⟩ : ∃ R, R = lr ++ List.replicate (lev.length - i) [AV.nils] := ⟨_, rfl⟩
    rw [← hR] at bL hg hT2
    simp [h0, h3, h4, bL, hg, hq2, hw, Rows.cells hv.rows, Rows.cells1 hv.rows]
    exact ⟨k - 1, by omega, i + 1, by omega, by omega, lr ++ [[v]], hT2⟩
  · have : i = lev.length := by omega
    subst this
    obtain ⟨g1, g2, g3, g4, g5⟩ := hT
    rw [List.take_length] at g2
    have hll := g2.length
    simp [h3]
    have g1' : H'.at H.length = some ⟨lr, 1, 23, false⟩ := by simpa using g1
    exact ⟨g5, lr, ⟨Own.obj g1' hll.symm, g2, g3⟩⟩

end Go.Proofs.YtgoeenodllmdpaaGreat.B


namespace Go.Proofs.YtgoeenodllmdpaaGreat.B
open Go.RowKit Go.Proofs
set_option linter.unusedVariables false
set_option linter.unusedSimpArgs false
variable {E : Env}

theorem toSieve_ok (s : Sv) (r : AV) (H : Hp) (hr : Strs H r s.r) (hx : s.r.length ≤ 1048576) :
    AC Tryz.prog E 196 [svAV s r] H (fun v H' => HLe H H' ∧ ∃ r', v = svAV s r' ∧ OwnS H H' r' s.r) := by
  obtain ⟨l, m, f, rs, k⟩ := s
  simp only at hr hx
  refine AC_by fol (CLe.refl (AC Tryz.prog E)) h_laws_toSieve ?_
  simp only [c_laws_toSieve, svAV]
  refine W_cut AC_mono (fun t H' => t 1 = .pt H.length 0 0 ∧ t 2 = .pt (H.length + 1) 0 0 ∧ HLe H H' ∧ H'.length = H.length + 2 ∧ H'.at H.length = some ⟨[[.str l, .str m, .str f, r, .int .i64 k]], 5, 200, false⟩ ∧ H'.at (H.length + 1) = some ⟨[[.str ⟨#[]⟩, .str ⟨#[]⟩, .str ⟨#[]⟩, .nils, .int .i64 0]], 5, 66, false⟩) ?_ ?_
  · simp [Rows.one hr]
  rintro t H1 ⟨t1, t2, hle1, hl1, b0, b1⟩
  refine W_cut AC_mono (fun t H' => t 1 = .pt H.length 0 0 ∧ t 2 = .pt (H.length + 1) 0 0 ∧ t 3 = .pt (H.length + 2) 0 0 ∧ HLe H H' ∧ H'.at H.length = some ⟨[[.str l, .str m, .str f, r, .int .i64 k]], 5, 200, false⟩ ∧ H'.at (H.length + 1) = some ⟨[[.str ⟨#[]⟩, .str ⟨#[]⟩, .str ⟨#[]⟩, .nils, .int .i64 0]], 5, 66, false⟩ ∧ H'.at (H.length + 2) = some ⟨[[.str ⟨#[]⟩, .str ⟨#[]⟩, .str ⟨#[]⟩, .nils, .int .i64 0]], 5, 66, false⟩) ?_ ?_
  · simp [t1, t2, hl1]
    refine ⟨hle1.app _, (HLe.self _ _).2 _ _ b0, (HLe.self _ _).2 _ _ b1, ?_⟩
    rw [← hl1]
    simp
  clear hle1 hl1 b0 b1 t1 t2
  rintro t H1 ⟨t1, t2, t3, hle1, b0, b1, b2⟩
  have u1 := Hp.at_lt b1
  have u2 := Hp.at_lt b2
  have n1 : H.length + 2 ≠ H.length := by omega
  have n2 : H.length + 2 ≠ H.length + 1 := by omega
  simp [t1, t2, t3, b0, b1, b2, u1, u2, Hp.at_set, Hp.at_set_ne, n1, n2]
  obtain ⟨G, hG⟩ : ∃ G : Hp, G = List.set H1 (H.length + 2) (some ⟨[[.str l, .str m, .str f, .nils, .int .i64 0]], 5, 66, false⟩) := ⟨_, rfl⟩
  rw [← hG]
  have hleG : HLe H G := by rw [hG]; exact hle1.set (by omega) _
  have g0 : G.at H.length = some ⟨[[.str l, .str m, .str f, r, .int .i64 k]], 5, 200, false⟩ := by rw [hG, Hp.at_set_ne (by omega)]; exact b0
  have g1 : G.at (H.length + 1) = some ⟨[[.str ⟨#[]⟩, .str ⟨#[]⟩, .str ⟨#[]⟩, .nils, .int .i64 0]], 5, 66, false⟩ := by rw [hG, Hp.at_set_ne (by omega)]; exact b1
  have g2 : G.at (H.length + 2) = some ⟨[[.str l, .str m, .str f, .nils, .int .i64 0]], 5, 66, false⟩ := by rw [hG]; exact Hp.at_set _ u2
  refine callG_ex (toStringS_ok r rs G (hr.le hleG) hx) ?_
  intro v H2 hf
  obtain ⟨hle2, hv⟩ := hf.own (row := strRow)
  have k0 := hle2.2 _ _ g0
  have k1 := hle2.2 _ _ g1
  have k2 := hle2.2 _ _ g2
  have w1 := Hp.at_lt k1
  have w2 := Hp.at_lt k2
  simp [t1, t2, t3, k0, k1, k2, w1, w2, Hp.at_set, Hp.at_set_ne, n1, n2, Rows.cells hv.rows, Rows.cells1 hv.rows, Rows.one hv.rows]
  have F : Fr (fun y => y = H.length + 2 ∨ y = H.length + 1) H2 (List.set (List.set H2 (H.length + 2) (some ⟨[[.str l, .str m, .str f, v, .int .i64 k]], 5, 66, false⟩)) (H.length + 1) (some ⟨[[.str l, .str m, .str f, v, .int .i64 k]], 5, 66, false⟩)) :=
    ((Fr.refl _ _).set (.inl (.inl rfl)) _).set (.inl (.inr rfl)) _
  refine ⟨((hleG.trans hle2).set (by omega) _).set (by omega) _, ?_⟩
  refine (hv.frE F (fun y ob hy ho => ?_)).base hleG.1
  rcases hy with rfl | rfl
  · rw [k2] at ho
    cases ho
    simp
  · rw [k1] at ho
    cases ho
    simp

structure TSv (H H' : Hp) (L n i : Nat) (sr : List (List AV)) (sv : List Sv) : Prop where
  bx : H'.at L = some ⟨sr ++ List.replicate (n - i) [.str ⟨#[]⟩, .str ⟨#[]⟩, .str ⟨#[]⟩, .nils, .int .i64 0], 5, 66, false⟩
  rl : All2 (SvX (fun y => H.length ≤ y) H') sr (sv.take i)
  pw : sr.Pairwise RowOff
  lt : ∀ row ∈ sr, ∀ y, rowOf row y → y < H'.length
  le : HLe H H'
theorem rowOf_sv {x y z r k : AV} {q : Nat} (h : rowOf [x, y, z, r, k] q) (hx : ∀ n, ¬ x.of n) (hy : ∀ n, ¬ y.of n) (hz : ∀ n, ¬ z.of n) (hk : ∀ n, ¬ k.of n) : r.of q := by
  obtain ⟨u, hu, h⟩ := h
  simp only [List.mem_cons, List.not_mem_nil, or_false] at hu
  rcases hu with rfl | rfl | rfl | rfl | rfl
  · exact (hx _ h).elim
  · exact (hy _ h).elim
  · exact (hz _ h).elim
  · exact h
  · exact (hk _ h).elim
theorem TSv.add {H H' H2 : Hp} {L n i : Nat} {sr : List (List AV)} {sv : List Sv} {r : AV} (h : TSv H H' L n i sr sv) (hi : i < sv.length) (hin : i < n) (hL : H.length ≤ L) (hle : HLe H' H2) (hu : OwnS H' H2 r sv[i].r) :
    TSv H (List.set H2 L (some ⟨(sr ++ List.replicate (n - i) [AV.str ⟨#[]⟩, .str ⟨#[]⟩, .str ⟨#[]⟩, .nils, .int .i64 0]).set i [.str sv[i].l, .str sv[i].m, .str sv[i].f, r, .int .i64 sv[i].k], 5, 66, false⟩)) L n (i + 1) (sr ++ [[.str sv[i].l, .str sv[i].m, .str sv[i].f, r, .int .i64 sv[i].k]]) sv := by
  obtain ⟨h1, h2, h3, h4, h5⟩ := h
  have hll : sr.length = i := by
    have := h2.length
    rw [this, List.length_take]
    omega
  have bL := hle.2 _ _ h1
  have F := Fr.one H2 L (some ⟨(sr ++ List.replicate (n - i) [AV.str ⟨#[]⟩, .str ⟨#[]⟩, .str ⟨#[]⟩, .nils, .int .i64 0]).set i [.str sv[i].l, .str sv[i].m, .str sv[i].f, r, .int .i64 sv[i].k], 5, 66, false⟩)
  have hne : ∀ y ob, y = L → H2.at y = some ob → ob.ety ≠ 9 := fun y ob hy ho => by
    rw [hy, bL] at ho
    cases ho
    simp
  refine ⟨?_, ?_, ?_, ?_, ?_⟩
  · rw [Hp.at_set _ (Hp.at_lt bL)]
    congr 2
    rw [List.set_append_right _ _ (by omega), hll, Nat.sub_self]
    obtain ⟨m, hm⟩ : ∃ m, n - i = m + 1 := ⟨n - i - 1, by omega⟩
    rw [hm, List.replicate_succ, List.set_cons_zero, show n - (i + 1) = m by omega]
    simp
  · rw [← List.take_append_getElem hi]
    refine All2.append (All2.mono (fun _ _ ⟨w, k1, k2, k3⟩ => ⟨w, k1, (k2.le hle).frE F hne, k3⟩) h2) ⟨⟨r, rfl, hu.1.frE F hne, fun y hy => Nat.le_trans h5.1 (hu.2 y hy)⟩, trivial⟩
  · refine pw_add h3 h4 (fun y hy => hu.2 y (rowOf_sv hy (fun _ h => h) (fun _ h => h) (fun _ h => h) (fun _ h => h)))
  · intro row hrow y hy
    simp only [List.length_set]
    rcases List.mem_append.1 hrow with h | h
    · exact Nat.lt_of_lt_of_le (h4 row h y hy) hle.1
    · rw [List.mem_singleton.1 h] at hy
      exact hu.1.lt (rowOf_sv hy (fun _ h => h) (fun _ h => h) (fun _ h => h) (fun _ h => h))
  · exact (h5.trans hle).set hL _
theorem toSieveS_ok (c : AV) (sr0 : List (List AV)) (sv : List Sv) (H : Hp) (hc : Rows 5 H c sr0) (hr : All2 (SvRow H (fun _ => False)) sr0 sv) (hn : sv.length ≤ 1048576) (hx : ∀ s ∈ sv, s.r.length ≤ 1048576) :
    AC Tryz.prog E 129 [c] H (fun v H' => HLe H H' ∧ ∃ sr, Own 5 66 H' v sr ∧ All2 (SvX (fun y => H.length ≤ y) H') sr sv ∧ sr.Pairwise RowOff ∧ ∀ y, v.of y → H.length ≤ y) := by
  refine AC_by fol (CLe.refl _) h_laws_toSieveS ?_
  have ll := hr.length
  have l1 := hc.len
  rw [ll] at l1
  simp [c_laws_toSieveS, l1, hc.slc]
  refine ⟨by omega, ?_⟩
  rw [if_pos (by omega)]
  simp
  refine W_for (fun k t H' => ∃ i sr, i + k = sv.length ∧ t 0 = c ∧ t 3 = .sl H.length 0 sv.length ∧ t 4 = .int .i64 (i : Nat) ∧ TSv H H' H.length sv.length i sr sv) sv.length ?_ AC_mono ?_
  · exact ⟨0, [], by simp, by simp, by simp, by simp, by simp, trivial, List.Pairwise.nil, (fun _ h => by cases h), HLe.self _ _⟩
  rintro k t H' ⟨i, sr, hik, h0, h3, h4, hT⟩
  simp [h0, h3, h4, l1, hc.slc]
  refine c_split (fun hq2 => ?_) (fun hq2 => ?_) <;> simp at hq2
  · have hw := wrapN (i := i) (by omega)
    have hil : i < sr0.length := by omega
    obtain ⟨o1, i1, ob1, rfl, a1, a2, a3⟩ := hc.get (j := i) hil
    obtain ⟨u, hu, hue, _⟩ := hr.get i hil hq2
    rw [hu] at a3
    have a1' := hT.le.2 _ _ a1
    simp [h0, h3, h4, a1', a2, a3, hil]
    have hsk := toSieve_ok (E := E) sv[i] u H' (hue.le hT.le) (hx _ (List.getElem_mem hq2))
    simp only [svAV] at hsk
    refine callG_ex hsk ?_
    rintro v H2 ⟨hle2, r, rfl, hv⟩
    have bL := hle2.2 _ _ hT.bx
    have hll : sr.length = i := by
      have := hT.rl.length
      rw [this, List.length_take]
      omega
    have hg : (sr ++ List.replicate (sv.length - i) [AV.str ⟨#[]⟩, .str ⟨#[]⟩, .str ⟨#[]⟩, .nils, .int .i64 0])[i]? = some [AV.str ⟨#[]⟩, .str ⟨#[]⟩, .str ⟨#[]⟩, .nils, .int .i64 0] := by
      rw [List.getElem?_append_right (by omega), hll, Nat.sub_self, List.getElem?_replicate]
      simp
      omega
    have hT2 := hT.add hq2 hq2 (Nat.le_refl _) hle2 hv
    obtain ⟨R, hR⟩ : ∃ R, R = sr ++ List.replicate (sv.length - i) [AV.str ⟨#[]⟩, .str ⟨#[]⟩, .str ⟨#[]⟩, .nils, .int .i64 0] := ⟨_, rfl⟩
    rw [← hR] at bL hg hT2
    simp [h0, h3, h4, bL, hg, hq2, hw, Rows.cells hv.rows, Rows.cells1 hv.rows, Rows.one hv.rows]
    exact ⟨k - 1, by omega, i + 1, by omega, by omega, _, hT2⟩
  · have : i = sv.length := by omega
    subst this
    obtain ⟨g1, g2, g3, g4, g5⟩ := hT
    rw [List.take_length] at g2
    have hll := g2.length
    simp [h3]
    have g1' : H'.at H.length = some ⟨sr, 5, 66, false⟩ := by simpa using g1
    exact ⟨g5, sr, ⟨Own.obj g1' hll.symm, g2, g3⟩⟩

end Go.Proofs.YtgoeenodllmdpaaGreat.B


namespace Go.Proofs.YtgoeenodllmdpaaGreat.B
open Go.RowKit Go.Proofs
set_option linter.unusedVariables false
set_option linter.unusedSimpArgs false
variable {E : Env}

set_option maxHeartbeats 1600000 in
theorem toStore_ok (v : AV) (s : Sr) (H : Hp) (hs : St H v s) (hb : s.top.length ≤ 1048576 ∧ s.lev.length ≤ 1048576 ∧ (∀ es ∈ s.lev, es.length ≤ 1048576) ∧ s.sv.length ≤ 1048576 ∧ (∀ x ∈ s.sv, x.r.length ≤ 1048576) ∧ s.tms.length ≤ 1048576) :
    AC Tryz.prog E 53 [v] H (fun u H' => HLe H H' ∧ ∃ a b c d lr sr, u = stAV a b c s d ∧ OSt (fun y => H.length ≤ y) H' a b c d lr sr s) := by
  obtain ⟨a, b, c, d, lr, sr, rfl, f1, f2, f3, f4, f5, f6⟩ := hs
  obtain ⟨y1, y2, y3, y4, y5, y6⟩ := hb
  refine AC_by fol (CLe.refl (AC Tryz.prog E)) h_laws_toStore ?_
  simp only [c_laws_toStore, stAV]
  refine W_cut AC_mono (fun t H' => t 1 = .pt H.length 0 0 ∧ t 2 = .pt (H.length + 1) 0 0 ∧ HLe H H' ∧ H'.length = H.length + 2 ∧ H'.at H.length = some ⟨[[a, b, c, .int .i64 s.keep, .int .i64 s.time, d]], 6, 77, false⟩ ∧ H'.at (H.length + 1) = some ⟨[[.nils, .nils, .nils, .int .i64 0, .int .i64 0, .nils]], 6, 28, false⟩) ?_ ?_
  · simp [Rows.one f1, f2.one, f4.one, Rows.one f6]
  rintro t H1 ⟨t1, t2, hle1, hl1, b0, b1⟩
  refine W_cut AC_mono (fun t H' => t 1 = .pt H.length 0 0 ∧ t 2 = .pt (H.length + 1) 0 0 ∧ t 3 = .pt (H.length + 2) 0 0 ∧ HLe H H' ∧ H'.at H.length = some ⟨[[a, b, c, .int .i64 s.keep, .int .i64 s.time, d]], 6, 77, false⟩ ∧ H'.at (H.length + 1) = some ⟨[[.nils, .nils, .nils, .int .i64 0, .int .i64 0, .nils]], 6, 28, false⟩ ∧ H'.at (H.length + 2) = some ⟨[[.nils, .nils, .nils, .int .i64 0, .int .i64 0, .nils]], 6, 28, false⟩) ?_ ?_
  · simp [t1, t2, hl1]
    refine ⟨hle1.app _, (HLe.self _ _).2 _ _ b0, (HLe.self _ _).2 _ _ b1, ?_⟩
    rw [← hl1]
    simp
  clear hle1 hl1 b0 b1 t1 t2
  rintro t H1 ⟨t1, t2, t3, hle1, b0, b1, b2⟩
  -- the top
  refine W_cut AC_mono (fun t H' => ∃ v1, t 1 = .pt H.length 0 0 ∧ t 2 = .pt (H.length + 1) 0 0 ∧ t 3 = .pt (H.length + 2) 0 0 ∧ HLe H H' ∧ H'.at H.length = some ⟨[[a, b, c, .int .i64 s.keep, .int .i64 s.time, d]], 6, 77, false⟩ ∧ H'.at (H.length + 1) = some ⟨[[.nils, .nils, .nils, .int .i64 0, .int .i64 0, .nils]], 6, 28, false⟩ ∧ H'.at (H.length + 2) = some ⟨[[v1, .nils, .nils, .int .i64 0, .int .i64 0, .nils]], 6, 28, false⟩ ∧ OwnE H H' v1 s.top) ?_ ?_
  · simp [t1, t2, t3, b0]
    refine callG_ex (toEntryS_ok a s.top H1 (f1.le hle1) y1) ?_
    intro v H2 hf
    obtain ⟨hle2, hv⟩ := hf.own
    have k0 := hle2.2 _ _ b0
    have k1 := hle2.2 _ _ b1
    have k2 := hle2.2 _ _ b2
    have w2 := Hp.at_lt k2
    simp [t1, t2, t3, k2, w2, Rows.cells hv.rows, Rows.cells1 hv.rows, Rows.one hv.rows]
    refine ⟨(hle1.trans hle2).set (by omega) _, ?_, ?_, v, Hp.at_set _ w2, (hv.frE (Fr.one _ _ _) (fun y ob hy ho => ?_)).base hle1.1⟩
    · rw [Hp.at_set_ne (by omega)]; exact k0
    · rw [Hp.at_set_ne (by omega)]; exact k1
    · rw [hy, k2] at ho
      cases ho
      simp
  clear hle1 b0 b1 b2 t1 t2 t3
  rintro t H1 ⟨v1, t1, t2, t3, hle1, b0, b1, b2, o1⟩
  -- the levels
  refine W_cut AC_mono (fun t H' => ∃ v2 lr2, t 1 = .pt H.length 0 0 ∧ t 2 = .pt (H.length + 1) 0 0 ∧ t 3 = .pt (H.length + 2) 0 0 ∧ HLe H H' ∧ H'.at H.length = some ⟨[[a, b, c, .int .i64 s.keep, .int .i64 s.time, d]], 6, 77, false⟩ ∧ H'.at (H.length + 1) = some ⟨[[.nils, .nils, .nils, .int .i64 0, .int .i64 0, .nils]], 6, 28, false⟩ ∧ H'.at (H.length + 2) = some ⟨[[v1, v2, .nils, .int .i64 0, .int .i64 0, .nils]], 6, 28, false⟩ ∧ OwnE H H' v1 s.top ∧
    Own 1 23 H' v2 lr2 ∧ All2 (LvX (fun y => H.length ≤ y) H') lr2 s.lev ∧ lr2.Pairwise RowOff ∧ (∀ y, v2.of y → H.length ≤ y) ∧ OffT v1 lr2) ?_ ?_
  · simp [t1, t2, t3, b0]
    refine callG_ex (toEntrySS_ok b lr s.lev H1 (f2.le hle1) (All2.mono (fun _ _ => LvRow.le hle1) f3) y2 y3) ?_
    rintro v H2 ⟨hle2, lr2, ov, rl, pw, hy⟩
    have k0 := hle2.2 _ _ b0
    have k1 := hle2.2 _ _ b1
    have k2 := hle2.2 _ _ b2
    have w2 := Hp.at_lt k2
    have hne : ∀ e, e ≠ 28 → ∀ y ob, y = H.length + 2 → H2.at y = some ob → ob.ety ≠ e := fun e he y ob hy ho => by
      rw [hy, k2] at ho
      cases ho
      exact he.symm
    simp [t1, t2, t3, k2, w2, ov.rows.cells, ov.rows.cells1, ov.rows.one]
    refine ⟨(hle1.trans hle2).set (by omega) _, ?_, ?_, v, Hp.at_set _ w2, (o1.le hle2).frE (Fr.one _ _ _) (hne _ (by simp)), lr2, ov.frE (Fr.one _ _ _) (hne _ (by simp)), All2.mono (fun _ _ ⟨u, q1, q2, q3⟩ => ⟨u, q1, q2.frE (Fr.one _ _ _) (hne _ (by simp)), fun y hy => Nat.le_trans hle1.1 (q3 y hy)⟩) rl, pw, fun y h => Nat.le_trans hle1.1 (hy y h), fun y h1 u hu h2 => ?_⟩
    · rw [Hp.at_set_ne (by omega)]; exact k0
    · rw [Hp.at_set_ne (by omega)]; exact k1
    · have q1 := o1.1.lt h1
      obtain ⟨es, u', e, _, q2⟩ := All2.mem1 rl _ hu
      have : u = u' := by simpa using e
      subst this
      have := q2 y h2
      omega
  clear hle1 b0 b1 b2 t1 t2 t3 o1
  rintro t H1 ⟨v2, lr2, t1, t2, t3, hle1, b0, b1, b2, o1, o2, r2, p2, x2, hoff⟩
  -- the sieves
  refine W_cut AC_mono (fun t H' => ∃ v3 sr3, t 1 = .pt H.length 0 0 ∧ t 2 = .pt (H.length + 1) 0 0 ∧ t 3 = .pt (H.length + 2) 0 0 ∧ HLe H H' ∧ H'.at H.length = some ⟨[[a, b, c, .int .i64 s.keep, .int .i64 s.time, d]], 6, 77, false⟩ ∧ H'.at (H.length + 1) = some ⟨[[.nils, .nils, .nils, .int .i64 0, .int .i64 0, .nils]], 6, 28, false⟩ ∧ H'.at (H.length + 2) = some ⟨[[v1, v2, v3, .int .i64 0, .int .i64 0, .nils]], 6, 28, false⟩ ∧ OwnE H H' v1 s.top ∧
    Own 1 23 H' v2 lr2 ∧ All2 (LvX (fun y => H.length ≤ y) H') lr2 s.lev ∧ Own 5 66 H' v3 sr3 ∧ All2 (SvX (fun y => H.length ≤ y) H') sr3 s.sv ∧ sr3.Pairwise RowOff ∧ (∀ y, v3.of y → H.length ≤ y)) ?_ ?_
  · simp [t1, t2, t3, b0]
    refine callG_ex (toSieveS_ok c sr s.sv H1 (f4.le hle1) (All2.mono (fun _ _ => SvRow.le hle1) f5) y4 y5) ?_
    rintro v H2 ⟨hle2, sr3, ov, rl, pw, hy⟩
    have k0 := hle2.2 _ _ b0
    have k1 := hle2.2 _ _ b1
    have k2 := hle2.2 _ _ b2
    have w2 := Hp.at_lt k2
    have hne : ∀ e, e ≠ 28 → ∀ y ob, y = H.length + 2 → H2.at y = some ob → ob.ety ≠ e := fun e he y ob hy ho => by
      rw [hy, k2] at ho
      cases ho
      exact he.symm
    simp [t1, t2, t3, k2, w2, ov.rows.cells, ov.rows.cells1, ov.rows.one]
    refine ⟨(hle1.trans hle2).set (by omega) _, ?_, ?_, v, Hp.at_set _ w2, (o1.le hle2).frE (Fr.one _ _ _) (hne _ (by simp)), (o2.le hle2).frE (Fr.one _ _ _) (hne _ (by simp)), All2.mono (fun _ _ ⟨u, q1, q2, q3⟩ => ⟨u, q1, (q2.le hle2).frE (Fr.one _ _ _) (hne _ (by simp)), q3⟩) r2, sr3, ov.frE (Fr.one _ _ _) (hne _ (by simp)), All2.mono (fun _ _ ⟨u, q1, q2, q3⟩ => ⟨u, q1, q2.frE (Fr.one _ _ _) (hne _ (by simp)), fun y hy => Nat.le_trans hle1.1 (q3 y hy)⟩) rl, pw, fun y h => Nat.le_trans hle1.1 (hy y h)⟩
    · rw [Hp.at_set_ne (by omega)]; exact k0
    · rw [Hp.at_set_ne (by omega)]; exact k1
  clear hle1 b0 b1 b2 t1 t2 t3 o1 o2 r2
  rintro t H1 ⟨v3, sr3, t1, t2, t3, hle1, b0, b1, b2, o1, o2, r2, o3, r3, p3, x3⟩
  -- the numbers
  have u2 := Hp.at_lt b2
  simp [t1, t2, t3, b0, b2, u2, Hp.at_set, Hp.at_set_ne]
  obtain ⟨G, hG⟩ : ∃ G : Hp, G = List.set H1 (H.length + 2) (some ⟨[[v1, v2, v3, .int .i64 s.keep, .int .i64 s.time, .nils]], 6, 28, false⟩) := ⟨_, rfl⟩
  rw [← hG]
  have FG : Fr (fun y => y = H.length + 2) H1 G := by rw [hG]; exact Fr.one _ _ _
  have hleG : HLe H G := by rw [hG]; exact hle1.set (by omega) _
  have g0 : G.at H.length = some ⟨[[a, b, c, .int .i64 s.keep, .int .i64 s.time, d]], 6, 77, false⟩ := by rw [hG, Hp.at_set_ne (by omega)]; exact b0
  have g1 : G.at (H.length + 1) = some ⟨[[.nils, .nils, .nils, .int .i64 0, .int .i64 0, .nils]], 6, 28, false⟩ := by rw [hG, Hp.at_set_ne (by omega)]; exact b1
  have g2 : G.at (H.length + 2) = some ⟨[[v1, v2, v3, .int .i64 s.keep, .int .i64 s.time, .nils]], 6, 28, false⟩ := by rw [hG]; exact Hp.at_set _ u2
  have hneG : ∀ e, e ≠ 28 → ∀ y ob, y = H.length + 2 → H1.at y = some ob → ob.ety ≠ e := fun e he y ob hy ho => by
    rw [hy, b2] at ho
    cases ho
    exact he.symm
  refine callG_ex (toIntS_ok d s.tms G (f6.le hleG) y6) ?_
  intro v H2 hf
  obtain ⟨hle2, hv⟩ := hf.own
  have k0 := hle2.2 _ _ g0
  have k1 := hle2.2 _ _ g1
  have k2 := hle2.2 _ _ g2
  have w1 := Hp.at_lt k1
  have w2 := Hp.at_lt k2
  have n2 : H.length + 2 ≠ H.length + 1 := by omega
  simp [t1, t2, t3, k1, k2, w1, w2, Hp.at_set, Hp.at_set_ne, n2, hv.rows.cells, hv.rows.cells1, hv.rows.one, o1.rows.cells, o1.rows.cells1, o1.rows.one, o2.rows.cells, o2.rows.cells1, o2.rows.one, o3.rows.cells, o3.rows.cells1, o3.rows.one]
  obtain ⟨H3, hH3⟩ : ∃ H3 : Hp, H3 = List.set (List.set H2 (H.length + 2) (some ⟨[[v1, v2, v3, .int .i64 s.keep, .int .i64 s.time, v]], 6, 28, false⟩)) (H.length + 1) (some ⟨[[v1, v2, v3, .int .i64 s.keep, .int .i64 s.time, v]], 6, 28, false⟩) := ⟨_, rfl⟩
  rw [← hH3]
  have F3 : Fr (fun y => y = H.length + 2 ∨ y = H.length + 1) H2 H3 := by
    rw [hH3]
    exact ((Fr.refl _ _).set (.inl (.inl rfl)) _).set (.inl (.inr rfl)) _
  have hne3 : ∀ e, e ≠ 28 → ∀ y ob, (y = H.length + 2 ∨ y = H.length + 1) → H2.at y = some ob → ob.ety ≠ e := fun e he y ob hy ho => by
    rcases hy with hy | hy
    · rw [hy, k2] at ho
      cases ho
      exact he.symm
    · rw [hy, k1] at ho
      cases ho
      exact he.symm
  have mv : ∀ {esz e : Nat} {w : AV} {R : List (List AV)}, e ≠ 28 → Own esz e H1 w R → Own esz e H3 w R := fun he h => ((h.frE FG (hneG _ he)).le hle2).frE F3 (hne3 _ he)

  refine ⟨by rw [hH3]; exact ((hleG.trans hle2).set (by omega) _).set (by omega) _, v1, v2, v3, v, ⟨rfl, rfl, rfl, rfl⟩, lr2, sr3, ⟨mv (by simp) o1.1, mv (by simp) o2, All2.mono (fun _ _ ⟨u, q1, q2, q3⟩ => ⟨u, q1, mv (by simp) q2, q3⟩) r2, mv (by simp) o3, All2.mono (fun _ _ ⟨u, q1, q2, q3⟩ => ⟨u, q1, mv (by simp) q2, q3⟩) r3, hv.1.frE F3 (hne3 _ (by simp)), ?_, hoff, p2, p3⟩⟩
  rintro y (h | h | h | h)
  · exact o1.2 y h
  · exact x2 y h
  · exact x3 y h
  · exact Nat.le_trans hleG.1 (hv.2 y h)

end Go.Proofs.YtgoeenodllmdpaaGreat.B


namespace Go.Proofs.YtgoeenodllmdpaaGreat.B
open Go.RowKit Go.Proofs
set_option linter.unusedVariables false
set_option linter.unusedSimpArgs false
variable {E : Env}

theorem rows_all {α : Type} {P : List AV → α → Prop} {Q : α → Prop} : ∀ {rows : List (List AV)}, (∀ r ∈ rows, ∃ x, P r x ∧ Q x) → ∃ xs : List α, All2 P rows xs ∧ ∀ x ∈ xs, Q x
  | [], _ => ⟨[], trivial, by simp⟩
  | r :: rows, h => by
    obtain ⟨x, hx, hq⟩ := h r (by simp)
    obtain ⟨xs, h1, h2⟩ := rows_all (fun r hr => h r (List.mem_cons_of_mem _ hr))
    refine ⟨x :: xs, ⟨hx, h1⟩, fun y hy => ?_⟩
    rcases List.mem_cons.1 hy with rfl | hy
    · exact hq
    · exact h2 y hy
theorem Ty.entsF {H : Hp} {v : AV} (h : Ty H (.kl [.ks, .ki .i64, .kb, .ki .i64]) v) : ∃ xs : List Ent, Ents H v xs ∧ xs.length < 4611686018427387904 ∧ Fits xs := by
  obtain ⟨rows, h1, h2, h3⟩ := h.sl
  obtain ⟨xs, rfl, hq⟩ := rows_map (f := entRow) (Q := Fit) (fun r hr => by
    obtain ⟨v, us, rfl, a1, a2⟩ := (h3 r hr).cons
    obtain ⟨w, us, rfl, b1, b2⟩ := a2.cons
    obtain ⟨x, us, rfl, c1, c2⟩ := b2.cons
    obtain ⟨y, us, rfl, d1, d2⟩ := c2.cons
    obtain ⟨s, rfl, hs⟩ := a1.str
    obtain ⟨n, rfl, hn⟩ := b1.int
    obtain ⟨g, rfl⟩ := c1.bool
    obtain ⟨m, rfl, hm⟩ := d1.int
    rw [d2.nil]
    exact ⟨⟨s, n, g, m⟩, rfl, show s.size < 4611686018427387904 by omega, hn, hm⟩)
  exact ⟨xs, h1, by simp at h2; omega, hq⟩
theorem Ty.ints {H : Hp} {v : AV} (h : Ty H (.kl [.ki .i64]) v) : ∃ xs : List Int, Ints H v xs ∧ xs.length < 4611686018427387904 ∧ ∀ t ∈ xs, I64 t := by
  obtain ⟨rows, h1, h2, h3⟩ := h.sl
  obtain ⟨xs, rfl, hq⟩ := rows_map (f := intRow) (Q := I64) (fun r hr => by
    obtain ⟨v, us, rfl, a1, a2⟩ := (h3 r hr).cons
    obtain ⟨n, rfl, hn⟩ := a1.int
    rw [a2.nil]
    exact ⟨n, rfl, hn⟩)
  exact ⟨xs, h1, by simp at h2; omega, hq⟩
theorem Ty.deeds {H : Hp} {v : AV} (h : Ty H (.kl [.ki .i64, .ks, .ki .i64]) v) : ∃ xs : List Dd, Dds H v xs ∧ xs.length < 4611686018427387904 ∧ ∀ d ∈ xs, d.key.size < 4611686018427387904 := by
  obtain ⟨rows, h1, h2, h3⟩ := h.sl
  obtain ⟨xs, rfl, hq⟩ := rows_map (f := ddRow) (Q := fun d => d.key.size < 4611686018427387904) (fun r hr => by
    obtain ⟨v, us, rfl, a1, a2⟩ := (h3 r hr).cons
    obtain ⟨w, us, rfl, b1, b2⟩ := a2.cons
    obtain ⟨x, us, rfl, c1, c2⟩ := b2.cons
    obtain ⟨n, rfl, hn⟩ := a1.int
    obtain ⟨s, rfl, hs⟩ := b1.str
    obtain ⟨m, rfl, hm⟩ := c1.int
    rw [c2.nil]
    exact ⟨⟨n, s, m⟩, rfl, show s.size < 4611686018427387904 by omega⟩)
  exact ⟨xs, h1, by simp at h2; omega, hq⟩
theorem Ty.levels {H : Hp} {v : AV} (h : Ty H (.kl [.kl [.ks, .ki .i64, .kb, .ki .i64]]) v) : ∃ (rows : List (List AV)) (xs : List (List Ent)), Rows 1 H v rows ∧ All2 (LvRow H) rows xs ∧ xs.length < 4611686018427387904 ∧ ∀ es ∈ xs, es.length < 4611686018427387904 ∧ Fits es := by
  obtain ⟨rows, h1, h2, h3⟩ := h.sl
  obtain ⟨xs, ha, hq⟩ := rows_all (P := LvRow H) (Q := fun es : List Ent => es.length < 4611686018427387904 ∧ Fits es) (fun r hr => by
    obtain ⟨v, us, rfl, a1, a2⟩ := (h3 r hr).cons
    obtain ⟨es, e1, e2, e3⟩ := a1.entsF
    rw [a2.nil]
    exact ⟨es, ⟨v, rfl, e1⟩, e2, e3⟩)
  exact ⟨rows, xs, h1, ha, by rw [← ha.length]; omega, hq⟩
theorem Ty.sieves {H : Hp} {v : AV} (h : Ty H (.kl [.ks, .ks, .ks, .kl [.ks], .ki .i64]) v) : ∃ (rows : List (List AV)) (xs : List Sv), Rows 5 H v rows ∧ All2 (SvRow H (fun _ => False)) rows xs ∧ xs.length < 4611686018427387904 ∧ ∀ x ∈ xs, SvB x := by
  obtain ⟨rows, h1, h2, h3⟩ := h.sl
  obtain ⟨xs, ha, hq⟩ := rows_all (P := SvRow H (fun _ => False)) (Q := SvB) (fun r hr => by
    obtain ⟨v, us, rfl, a1, a2⟩ := (h3 r hr).cons
    obtain ⟨w, us, rfl, b1, b2⟩ := a2.cons
    obtain ⟨x, us, rfl, c1, c2⟩ := b2.cons
    obtain ⟨y, us, rfl, d1, d2⟩ := c2.cons
    obtain ⟨z, us, rfl, e1, e2⟩ := d2.cons
    obtain ⟨l, rfl, hl⟩ := a1.str
    obtain ⟨m, rfl, hm⟩ := b1.str
    obtain ⟨f, rfl, hf⟩ := c1.str
    obtain ⟨rs, hr1, hr2, hr3⟩ := d1.strs
    obtain ⟨n, rfl, hn⟩ := e1.int
    rw [e2.nil]
    exact ⟨⟨l, m, f, rs, n⟩, ⟨y, rfl, hr1, fun _ _ h => h⟩, ⟨show rs.length < 4611686018427387904 by omega, fun q hq => by have := hr3 q hq; omega, show l.size < 4611686018427387904 by omega, show m.size < 4611686018427387904 by omega, show f.size < 4611686018427387904 by omega⟩⟩)
  exact ⟨rows, xs, h1, ha, by rw [← ha.length]; omega, hq⟩
abbrev shStore : List Sh := [.kl [.ks, .ki .i64, .kb, .ki .i64], .kl [.kl [.ks, .ki .i64, .kb, .ki .i64]], .kl [.ks, .ks, .ks, .kl [.ks], .ki .i64], .ki .i64, .ki .i64, .kl [.ki .i64]]
theorem Tys.store {H : Hp} {vs : List AV} (h : Tys H shStore vs) : ∃ s, St H (.ag vs) s ∧ StW s := by
  obtain ⟨a, us, rfl, h1, h⟩ := h.cons
  obtain ⟨b, us, rfl, h2, h⟩ := h.cons
  obtain ⟨c, us, rfl, h3, h⟩ := h.cons
  obtain ⟨k, us, rfl, h4, h⟩ := h.cons
  obtain ⟨t, us, rfl, h5, h⟩ := h.cons
  obtain ⟨d, us, rfl, h6, h⟩ := h.cons
  obtain rfl := h.nil
  obtain ⟨top, a1, a2, a3⟩ := h1.entsF
  obtain ⟨lr, lev, b1, b2, b3, b4⟩ := h2.levels
  obtain ⟨sr, sv, c1, c2, c3, c4⟩ := h3.sieves
  obtain ⟨keep, rfl, hk⟩ := h4.int
  obtain ⟨time, rfl, ht⟩ := h5.int
  obtain ⟨tms, d1, d2, d3⟩ := h6.ints
  exact ⟨⟨top, lev, sv, keep, time, tms⟩, ⟨a, b, c, d, lr, sr, rfl, a1, b1, b2, c1, c2, d1⟩, ⟨a2, a3⟩, b4, b3, c3, c4, d2, ht, hk, d3⟩

theorem OSt.bound {X : Nat → Prop} {H : Hp} {a b c d : AV} {lr sr : List (List AV)} {s : Sr} (h : OSt X H a b c d lr sr s) : OSt (fun y => X y ∧ y < H.length) H a b c d lr sr s := by
  obtain ⟨h1, h2, h3, h4, h5, h6, h7, h8⟩ := h
  refine ⟨h1, h2, All2.mono (fun _ _ ⟨u, q1, q2, q3⟩ => ⟨u, q1, q2, fun y hy => ⟨q3 y hy, q2.lt hy⟩⟩) h3, h4, All2.mono (fun _ _ ⟨u, q1, q2, q3⟩ => ⟨u, q1, q2, fun y hy => ⟨q3 y hy, q2.lt hy⟩⟩) h5, h6, fun y hy => ⟨h7 y hy, ?_⟩, h8⟩
  rcases hy with h | h | h | h
  · exact h1.lt h
  · exact h2.lt h
  · exact h4.lt h
  · exact h6.lt h

end Go.Proofs.YtgoeenodllmdpaaGreat.B


namespace Go.Proofs.YtgoeenodllmdpaaGreat.B
open Go.RowKit Go.Proofs
set_option linter.unusedVariables false
set_option linter.unusedSimpArgs false
variable {E : Env}

theorem heldEntryS_mk (a : AV) (n : Nat) (K : Int) (H : Hp) (ha : Ents H a (mkEs K n)) (hK : 0 ≤ K ∧ K < 1152921504606846976) (hn : n < 1099511627776) :
    AC Tryz.prog E 61 [a, .int .i64 K] H (fun v H' => v = .int .i64 (K + 4 * n) ∧ H' = H) := by
  have h := heldEntryS_ok (E := E) a (mkEs K n) K H ha hK (by rw [mkEs_len]; exact hn) (fun j h => by simp [mkEs])
  rw [mkEs_len] at h
  exact h
theorem heldStringS_mk (a : AV) (n : Nat) (K : Int) (H : Hp) (ha : Strs H a (mkSs K n)) (hK : 0 ≤ K ∧ K < 1152921504606846976) (hn : n < 1152921504606846976) :
    AC Tryz.prog E 199 [a, .int .i64 K] H (fun v H' => v = .int .i64 (K + n) ∧ H' = H) := by
  have h := heldStringS_ok (E := E) a (mkSs K n) K H ha hK (by rw [mkSs_len]; exact hn) (fun j h => by simp [mkSs])
  rw [mkSs_len] at h
  exact h
theorem heldIntS_mk (a : AV) (n : Nat) (K : Int) (H : Hp) (ha : Ints H a (mkIs K n)) (hK : 0 ≤ K ∧ K < 1152921504606846976) (hn : n < 1152921504606846976) :
    AC Tryz.prog E 143 [a, .int .i64 K] H (fun v H' => v = .int .i64 (K + n) ∧ H' = H) := by
  refine AC_byp (CLe.refl _) h_laws_heldIntS (by simp) ?_
  have l1 := ha.len
  rw [mkIs_len] at l1
  simp [c_laws_heldIntS]
  refine W_for (fun k t H' => ∃ i : Nat, i + k = n ∧ t 0 = a ∧ t 1 = .int .i64 (K + i) ∧ t 5 = .int .i64 i ∧ HLe H H') n ?_ AC_mono ?_
  · exact ⟨0, by simp⟩
  rintro k t H' ⟨i, hik, h0, h1, h5, hle⟩
  simp [h0, h1, h5, l1, ha.slc]
  refine c_split (fun hq2 => ?_) (fun hq2 => ?_) <;> simp at hq2
  · have hw := wrapN (i := i) (by omega)
    have hw2 : IntKind.i64.wrap (K + i + 1) = K + ((i + 1 : Nat) : Int) := by rw [wrap64 (by omega) (by omega)]; omega
    obtain ⟨o1, i1, ob1, rfl, a1, a2, a3⟩ := (ha.le hle).get (j := i) (by simpa using hq2)
    have hx : (mkIs K n)[i]'(by simpa using hq2) = K + i := by simp [mkIs]
    rw [hx] at a3
    rw [mkIs_len] at l1 ⊢
    simp [h0, h1, h5, a1, a2, a3, hq2, hw, hw2, hle]
    exact ⟨k - 1, by omega, i + 1, by omega, by omega⟩
  · have : i = n := by omega
    subst this
    simp [h1, hle]
theorem heldEntrySS_mk (b : AV) (lr : List (List AV)) (lev : List (List Ent)) (K : Int) (H : Hp) (hb : Rows 1 H b lr) (hr : All2 (LvRow H) lr (mkLv K lev)) (hK : 0 ≤ K ∧ K + lvN lev < 1152921504606846976) (hx : ∀ es ∈ lev, es.length < 1099511627776) (hn : lev.length < 1099511627776) :
    AC Tryz.prog E 141 [b, .int .i64 K] H (fun v H' => v = .int .i64 (K + lvN lev) ∧ H' = H) := by
  refine AC_byp (CLe.refl _) h_laws_heldEntrySS (by simp) ?_
  have hml : (mkLv K lev).length = lev.length := mkLv_len _ _
  have ll := hr.length
  have l1 := hb.len
  rw [ll, hml] at l1
  simp [c_laws_heldEntrySS]
  refine W_for (fun k t H' => ∃ i : Nat, i + k = lev.length ∧ t 0 = b ∧ t 1 = .int .i64 (K + lvN (lev.take i)) ∧ t 5 = .int .i64 i ∧ HLe H H') lev.length ?_ AC_mono ?_
  · exact ⟨0, by simp [lvN]⟩
  rintro k t H' ⟨i, hik, h0, h1, h5, hle⟩
  simp [h0, h1, h5, l1, hb.slc]
  refine c_split (fun hq2 => ?_) (fun hq2 => ?_) <;> simp at hq2
  · have hw := wrapN (i := i) (by omega)
    have hil : i < lr.length := by omega
    obtain ⟨o1, i1, ob1, rfl, a1, a2, a3⟩ := hb.get (j := i) hil
    obtain ⟨u, hu, hue⟩ := hr.get i hil (by omega)
    rw [mkLv_get _ _ _ hq2] at hue
    rw [hu] at a3
    have a1' := hle.2 _ _ a1
    have hlt := lvN_take lev i hq2
    have hlv := lvN_le lev (i + 1)
    have hxl := hx _ (List.getElem_mem hq2)
    have hneg : ¬ (K + lvN (lev.take i) + 4 * (lev[i].length : Int) < 0) := by omega
    simp [h0, h1, h5, a1', a2, a3, hil]
    refine callG_use (heldEntryS_mk u lev[i].length _ H' (hue.le hle) ⟨by omega, by omega⟩ hxl) ?_
    simp [h0, h1, h5, hw, hle, hneg]
    exact ⟨k - 1, by omega, i + 1, by omega, by omega, by omega⟩
  · have : i = lev.length := by omega
    subst this
    simp [h1, hle]
theorem heldSieveS_mk (c : AV) (sr : List (List AV)) (sv : List Sv) (K : Int) (H : Hp) (hc : Rows 5 H c sr) (hr : All2 (SvRow H (fun _ => False)) sr (mkSvs K sv)) (hK : 0 ≤ K ∧ K + svN sv < 1152921504606846976) (hx : ∀ s ∈ sv, s.r.length < 1099511627776) (hn : sv.length < 1099511627776) :
    AC Tryz.prog E 142 [c, .int .i64 K] H (fun v H' => v = .int .i64 (K + svN sv) ∧ H' = H) := by
  refine AC_byp (CLe.refl _) h_laws_heldSieveS (by simp) ?_
  have hml : (mkSvs K sv).length = sv.length := mkSvs_len _ _
  have ll := hr.length
  have l1 := hc.len
  rw [ll, hml] at l1
  simp [c_laws_heldSieveS]
  refine W_for (fun k t H' => ∃ i : Nat, i + k = sv.length ∧ t 0 = c ∧ t 1 = .int .i64 (K + svN (sv.take i)) ∧ t 5 = .int .i64 i ∧ HLe H H') sv.length ?_ AC_mono ?_
  · exact ⟨0, by simp [svN]⟩
  rintro k t H' ⟨i, hik, h0, h1, h5, hle⟩
  simp [h0, h1, h5, l1, hc.slc]
  refine c_split (fun hq2 => ?_) (fun hq2 => ?_) <;> simp at hq2
  · have hw := wrapN (i := i) (by omega)
    have hil : i < sr.length := by omega
    obtain ⟨o1, i1, ob1, rfl, a1, a2, a3⟩ := hc.get (j := i) hil
    obtain ⟨u, hu, hue, _⟩ := hr.get i hil (by omega)
    rw [mkSvs_get _ _ _ hq2] at hu hue
    rw [hu] at a3
    have a1' := hle.2 _ _ a1
    have hlt := svN_take sv i hq2
    have hlv := svN_le sv (i + 1)
    have hxl := hx _ (List.getElem_mem hq2)
    obtain ⟨x, hxd⟩ : ∃ x, x = sv[i] := ⟨_, rfl⟩
    obtain ⟨q, hqd⟩ : ∃ q : Int, q = K + svN (sv.take i) := ⟨_, rfl⟩
    rw [← hxd] at a3 hue hlt hxl
    rw [← hqd] at a3 hue h1
    simp only [mkSv] at a3 hue
    have w1 : IntKind.i64.wrap (q + 1) = q + 1 := wrap64 (by omega) (by omega)
    have w2 : IntKind.i64.wrap (q + 1 + 1) = q + 2 := by rw [wrap64 (by omega) (by omega)]; omega
    have w3 : IntKind.i64.wrap (q + 2 + 1) = q + 3 := by rw [wrap64 (by omega) (by omega)]; omega
    have w4 : IntKind.i64.wrap (q + 3 + x.r.length + 1) = K + svN (sv.take (i + 1)) := by rw [wrap64 (by omega) (by omega)]; omega
    have hneg : ¬ (q + 3 + (x.r.length : Int) < 0) := by omega
    simp [h0, h1, h5, a1', a2, a3, hil]
    refine callG_use (markText_ok _ _ (by omega)) ?_
    simp [h0, h1, h5, a1', a2, a3, hil, w1]
    refine callG_use (markText_ok _ _ (by omega)) ?_
    simp [h0, h1, h5, a1', a2, a3, hil, w1, w2]
    refine callG_use (markText_ok _ _ (by omega)) ?_
    simp [h0, h1, h5, a1', a2, a3, hil, w1, w2, w3]
    refine callG_use (heldStringS_mk u x.r.length _ H' (hue.le hle) ⟨by omega, by omega⟩ (by omega)) ?_
    simp [h0, h1, h5, a1', a2, a3, hil, hw, hle, hneg, w4]
    exact ⟨k - 1, by omega, i + 1, by omega, by omega, by omega⟩
  · have : i = sv.length := by omega
    subst this
    simp [h1, hle]
theorem heldStore_mk (v : AV) (s : Sr) (K : Int) (H : Hp) (hs : St H v (mkSt K s)) (hK : 0 ≤ K ∧ K + stN s < 1152921504606846976) (hb : StB s) :
    AC Tryz.prog E 62 [v, .int .i64 K] H (fun u H' => u = .int .i64 (K + stN s) ∧ H' = H) := by
  obtain ⟨a, b, c, d, lr, sr, rfl, f1, f2, f3, f4, f5, f6⟩ := hs
  obtain ⟨y1, y2, y3, y4, y5, y6, y7, y8, y9⟩ := hb
  have hN : stN s = 4 * s.top.length + lvN s.lev + svN s.sv + s.tms.length := rfl
  simp only [mkSt] at f1 f3 f5 f6
  refine AC_byp (CLe.refl _) h_laws_heldStore (by simp) ?_
  obtain ⟨H1, hH1⟩ : ∃ H1 : Hp, H1 = H ++ [some ⟨[[a, b, c, .int .i64 s.keep, .int .i64 s.time, d]], 6, 28, false⟩] := ⟨_, rfl⟩
  have hle1 : HLe H H1 := by rw [hH1]; exact HLe.self _ _
  have b0 : H1.at H.length = some ⟨[[a, b, c, .int .i64 s.keep, .int .i64 s.time, d]], 6, 28, false⟩ := by rw [hH1]; simp
  have e1 : ¬ (K + 4 * (s.top.length : Int) < 0) := by omega
  have e2 : ¬ (K + 4 * (s.top.length : Int) + lvN s.lev < 0) := by omega
  have e3 : ¬ (K + 4 * (s.top.length : Int) + lvN s.lev + svN s.sv < 0) := by omega
  have e4 : ¬ (K + 4 * (s.top.length : Int) + lvN s.lev + svN s.sv + s.tms.length < 0) := by omega
  simp [c_laws_heldStore, stAV, mkSt, Rows.one f1, f2.one, f4.one, Rows.one f6, ← hH1, b0]
  refine callG_use (heldEntryS_mk a s.top.length K H1 (f1.le hle1) ⟨by omega, by omega⟩ y1.1) ?_
  simp [e1, b0]
  refine callG_use (heldEntrySS_mk b lr s.lev _ H1 (f2.le hle1) (All2.mono (fun _ _ => LvRow.le hle1) f3) ⟨by omega, by omega⟩ (fun es he => (y2 es he).1) y3) ?_
  simp [e2, b0]
  refine callG_use (heldSieveS_mk c sr s.sv _ H1 (f4.le hle1) (All2.mono (fun _ _ => SvRow.le hle1) f5) ⟨by omega, by omega⟩ y6 y4) ?_
  simp [e3, b0]
  refine callG_use (heldIntS_mk d s.tms.length _ H1 (f6.le hle1) ⟨by omega, by omega⟩ (by omega)) ?_
  simp [e4, hle1]
  omega

end Go.Proofs.YtgoeenodllmdpaaGreat.B


namespace Go.Proofs.YtgoeenodllmdpaaGreat.B
open Go.RowKit Go.Proofs
set_option linter.unusedVariables false
set_option linter.unusedSimpArgs false
variable {E : Env}

def s00 : Sr := ⟨[], [], [], 0, 0, []⟩
theorem RetS.val {H0 H : Hp} {u : AV} {o : Option Sr} (h : RetS H0 H u o) : HLe H0 H ∧ ∃ w, u = .tu [w, .bool o.isSome] ∧ St H w (o.getD s00) := by
  obtain ⟨h1, h2⟩ := h
  refine ⟨h1, ?_⟩
  cases o with
  | none => exact ⟨zst, h2, .nils, .nils, .nils, .nils, [], [], rfl, Rows.nil, Rows.nil, trivial, Rows.nil, trivial, Rows.nil⟩
  | some x =>
    obtain ⟨w, e, hm⟩ := h2
    exact ⟨w, e, hm.st⟩
theorem RetF.val {H0 H : Hp} {u : AV} {o : Option Sr} (h : RetF H0 H u o) : HLe H0 H ∧ ∃ a b c d lr sr, u = .tu [stAV a b c (o.getD s00) d, .bool o.isSome] ∧ OSt (fun y => H0.length ≤ y) H a b c d lr sr (o.getD s00) := by
  obtain ⟨h1, h2⟩ := h
  refine ⟨h1, ?_⟩
  cases o with
  | none => exact ⟨.nils, .nils, .nils, .nils, [], [], h2, Own.nils, Own.nils, trivial, Own.nils, trivial, Own.nils, (fun y hy => by rcases hy with h | h | h | h <;> exact h.elim), OffT.nil _, List.Pairwise.nil, List.Pairwise.nil⟩
  | some x =>
    obtain ⟨w, e, a, b, c, d, lr, sr, rfl, k1, k2, k3, k4, k5, k6, k7, k8⟩ := h2
    exact ⟨a, b, c, d, lr, sr, e, k1, k2, k3, k4, k5, k6, k7, k8⟩
theorem OSt.fr {X S : Nat → Prop} {H H' : Hp} {a b c d : AV} {lr sr : List (List AV)} {s : Sr} (h : OSt X H a b c d lr sr s) (hf : Fr S H H') (hS : ∀ y, X y → ¬ S y) : OSt X H' a b c d lr sr s := by
  obtain ⟨h1, h2, h3, h4, h5, h6, h7, h8⟩ := h
  exact ⟨h1.fr hf (fun y hy => hS y (h7 y (.inl hy))), h2.fr hf (fun y hy => hS y (h7 y (.inr (.inl hy)))), All2.mono (fun _ _ ⟨u, q1, q2, q3⟩ => ⟨u, q1, q2.fr hf (fun y hy => hS y (q3 y hy)), q3⟩) h3,
    h4.fr hf (fun y hy => hS y (h7 y (.inr (.inr (.inl hy))))), All2.mono (fun _ _ ⟨u, q1, q2, q3⟩ => ⟨u, q1, q2.fr hf (fun y hy => hS y (q3 y hy)), q3⟩) h5, h6.fr hf (fun y hy => hS y (h7 y (.inr (.inr (.inr hy))))), h7, h8⟩
theorem Small.stM {s : Sr} (h : Small s) : StM s := by
  obtain ⟨h1, h2, h3, h4, h5, h6, h7, h8, h9⟩ := h
  exact ⟨by have := h1.1; omega, by omega, fun es he => by have := (h2 es he).1; omega, by omega, fun x hx => by have := h5 x hx; omega, by omega⟩
theorem past_fits {s : Sr} {ds : List Dd} : StM ((pastR s ds).getD s00) ∧ StB ((pastR s ds).getD s00) := by
  cases h : pastR s ds with
  | none =>
    refine ⟨⟨by simp [s00], by simp [s00], by simp [s00], by simp [s00], by simp [s00], by simp [s00]⟩, ⟨by simp [s00], by simp [s00, Fits]⟩, by simp [s00], by simp [s00], by simp [s00], by simp [s00], by simp [s00], by simp [s00, I64], by simp [s00, I64], by simp [s00]⟩
  | some x => exact ⟨(pastR_small h).stM, (pastR_small h).stB⟩
set_option maxHeartbeats 1600000 in
theorem lawExactPastDo_ok (v u : AV) (s : Sr) (ds : List Dd) (H : Hp) (hs : St H v s) (hw : StW s) (hu : Dds H u ds) (hk : ∀ d ∈ ds, d.key.size < 4611686018427387904) (hdn : ds.length < 4611686018427387904) :
    AC Tryz.prog E 12 [v, u] H (fun w H' => w = .bool true) := by
  have hs0 := hs
  obtain ⟨a, b, c, d, rfl, n1, n2, n3, n4, _, _⟩ := hs.shape
  refine AC_by fol (CLe.refl (AC Tryz.prog E)) h_laws_FnExactPastDo ?_
  obtain ⟨H1, hH1⟩ : ∃ H1 : Hp, H1 = H ++ [some ⟨[[a, b, c, .int .i64 s.keep, .int .i64 s.time, d]], 6, 77, false⟩] := ⟨_, rfl⟩
  have hle1 : HLe H H1 := by rw [hH1]; exact HLe.self _ _
  have b1 : H1.at H.length = some ⟨[[a, b, c, .int .i64 s.keep, .int .i64 s.time, d]], 6, 77, false⟩ := by rw [hH1]; simp
  simp [c_laws_FnExactPastDo, n1, n2, n3, n4, ← hH1, b1]
  refine callG_use (szStore_ok _ s 1048576 H1 (hs0.le hle1) ⟨by omega, by omega⟩ hw) ?_
  simp
  refine c_split (fun hq => ?_) (fun hq => ?_) <;> simp at hq <;> simp
  obtain ⟨p1, q1⟩ := szR_pos (n := szStn s) (left := 1048576) (by omega) (by omega)
  have hM := StW.small (by omega : szStn s ≤ 1048576)
  have hB := hw.stB hM
  have hN := hM.n
  rw [q1]
  refine callG_use (szDeedS_ok u ds (1048576 - szStn s) H1 (Rows.le hu hle1) ⟨by omega, by omega⟩ hk hdn) ?_
  simp
  refine c_split (fun hq2 => ?_) (fun hq2 => ?_) <;> simp at hq2 <;> simp
  obtain ⟨p2, q2⟩ := szR_pos (n := ds.length + sumN szDn ds) (left := 1048576 - szStn s) (by omega) (by omega)
  have hdl : ds.length ≤ 1048576 := by omega
  have hsz : s.top.length ≤ 1048576 ∧ s.lev.length ≤ 1048576 ∧ (∀ es ∈ s.lev, es.length ≤ 1048576) ∧ s.sv.length ≤ 1048576 ∧ (∀ x ∈ s.sv, x.r.length ≤ 1048576) ∧ s.tms.length ≤ 1048576 := ⟨hM.t, hM.ln, hM.l, hM.sn, hM.sv, hM.i⟩
  obtain ⟨hXM, hXB⟩ := past_fits (s := s) (ds := ds)
  obtain ⟨x, hx⟩ : ∃ x, x = (pastR s ds).getD s00 := ⟨_, rfl⟩
  obtain ⟨ok, hok⟩ : ∃ ok, ok = (pastR s ds).isSome := ⟨_, rfl⟩
  rw [← hx] at hXM hXB
  have hXN := hXM.n
  -- the reference
  simp [b1]
  refine callG_ex (toStore_ok _ s H1 (hs0.le hle1) hsz) ?_
  rintro va H2 ⟨hle2, a1, a2, a3, a4, lr1, sr1, rfl, oa⟩
  have b2 := hle2.2 _ _ b1
  have h12 := hle1.trans hle2
  simp
  refine callG_ex (toDeedS_ok u ds H2 (Rows.le hu h12) hdl) ?_
  intro vb H3 hf
  obtain ⟨hle3, ob⟩ := hf.own
  have b3 := hle3.2 _ _ b2
  have h13 := h12.trans hle3
  simp
  refine callG_ex (PastDo_ok _ vb s ds H3 (oa.st.le hle3) hB ob.rows hk) ?_
  intro v0 H4 hret
  obtain ⟨hle4, w, hv0, ow⟩ := hret.val
  rw [← hx] at ow
  rw [← hok] at hv0
  subst hv0
  have ow0 := ow
  obtain ⟨wa, wb, wc, wd, rfl, m1, m2, m3, m4, _, _⟩ := ow.shape
  have b4 := hle4.2 _ _ b3
  have h14 := h13.trans hle4
  obtain ⟨G4, hG4⟩ : ∃ G : Hp, G = H4 ++ [some ⟨[[wa, wb, wc, .int .i64 x.keep, .int .i64 x.time, wd]], 6, 28, false⟩] := ⟨_, rfl⟩
  have hleG4 : HLe H4 G4 := by rw [hG4]; exact HLe.self _ _
  have c4 : G4.at H4.length = some ⟨[[wa, wb, wc, .int .i64 x.keep, .int .i64 x.time, wd]], 6, 28, false⟩ := by rw [hG4]; simp
  have bG4 := hleG4.2 _ _ b4
  have h1G4 := h14.trans hleG4
  simp [m1, m2, m3, m4, ← hG4, bG4]
  -- the arguments
  refine callG_ex (toStore_ok _ s G4 (hs0.le h1G4) hsz) ?_
  rintro vx H5 ⟨hle5, x1, x2, x3, x4, lr2, sr2, rfl, ox⟩
  have b5 := hle5.2 _ _ bG4
  have c5 := hle5.2 _ _ c4
  have h15 := h1G4.trans hle5
  have ox' := ox.bound
  obtain ⟨G, hG⟩ : ∃ G : Hp, G = H5 ++ [some ⟨[[x1, x2, x3, .int .i64 s.keep, .int .i64 s.time, x4]], 6, 28, false⟩] := ⟨_, rfl⟩
  have hleG : HLe H5 G := by rw [hG]; exact HLe.self _ _
  have bx : G.at H5.length = some ⟨[[x1, x2, x3, .int .i64 s.keep, .int .i64 s.time, x4]], 6, 28, false⟩ := by rw [hG]; simp
  have bG := hleG.2 _ _ b5
  have cG := hleG.2 _ _ c5
  have h1G := h15.trans hleG
  simp [stAV, ox.ot.rows.one, ox.ol.rows.one, ox.os.rows.one, ox.oi.rows.one, ← hG]
  refine callG_ex (toDeedS_ok u ds G (Rows.le hu h1G) hdl) ?_
  intro vd H6 hf
  obtain ⟨hle6, od⟩ := hf.own
  have b6 := hle6.2 _ _ bG
  have c6 := hle6.2 _ _ cG
  have bx6 := hle6.2 _ _ bx
  have h5x := hleG.trans hle6
  simp [bx6]
  have sx6 := ox.st.le h5x
  simp only [stAV] at sx6
  refine callG_ex (implPastDo_ok _ vd s ds H6 sx6 hB od.rows hk) ?_
  intro v1 H7 hret
  obtain ⟨hle7, g1, g2, g3, g4, lrg, srg, hv1, og⟩ := hret.val
  rw [← hx] at hv1 og
  rw [← hok] at hv1
  subst hv1
  have og' := og.bound
  obtain ⟨K, hK⟩ : ∃ K : Hp, K = H7 ++ [some ⟨[[g1, g2, g3, .int .i64 x.keep, .int .i64 x.time, g4]], 6, 28, false⟩] := ⟨_, rfl⟩
  have hleK : HLe H7 K := by rw [hK]; exact HLe.self _ _
  have bg : K.at H7.length = some ⟨[[g1, g2, g3, .int .i64 x.keep, .int .i64 x.time, g4]], 6, 28, false⟩ := by rw [hK]; simp
  have b7 := hleK.2 _ _ (hle7.2 _ _ b6)
  have c7 := hleK.2 _ _ (hle7.2 _ _ c6)
  have bx7 := hleK.2 _ _ (hle7.2 _ _ bx6)
  have h67 := hle7.trans hleK
  have h57 := h5x.trans h67
  have h47 := hle5.trans h57
  have h17 := h1G4.trans h47
  simp [stAV, og.ot.rows.one, og.ol.rows.one, og.os.rows.one, og.oi.rows.one, ← hK, bg, c7]
  have sg7 := og.st.le hleK
  simp only [stAV] at sg7
  refine callG_use (eqStore_same _ _ x K sg7 (ow0.le (hleG4.trans h47)) hXB) ?_
  simp [b7, bx7]
  -- the arguments are as they were
  refine callG_ex (toStore_ok _ s K (hs0.le h17) hsz) ?_
  rintro ve H8 ⟨hle8, e1, e2, e3, e4, lr3, sr3, rfl, oe⟩
  have b8 := hle8.2 _ _ b7
  have bx8 := hle8.2 _ _ bx7
  simp [bx8]
  have sx8 := ox.st.le (h57.trans hle8)
  simp only [stAV] at sx8
  refine callG_use (eqStore_same _ _ s H8 sx8 oe.st hB) ?_
  simp
  refine callG_ex (toDeedS_ok u ds H8 (Rows.le hu (h17.trans hle8)) hdl) ?_
  intro vf H9 hf
  obtain ⟨hle9, ofd⟩ := hf.own
  have h79 := hle8.trans hle9
  have b9 := h79.2 _ _ b7
  have c9 := h79.2 _ _ c7
  have bg9 := h79.2 _ _ bg
  have bx9 := h79.2 _ _ bx7
  have h69 := h67.trans h79
  have od9 := od.le h69
  simp
  refine callG_use (eqDeedS_same vd vf ds H9 od9.rows ofd.rows (by omega)) ?_
  simp [bx9]
  -- the arguments are marked
  have lA := Hp.at_lt b1
  have lB := hle2.1
  have lC := hle3.1
  have lD := hle4.1
  have lE := Hp.at_lt c4
  have lF := hle5.1
  have lG := Hp.at_lt bx
  have lH := hle6.1
  have lI := hle7.1
  have lJ := Hp.at_lt bg
  have mS := markStore_ok (E := E) _ x1 x2 x3 x4 lr2 sr2 s 1 H9 (ox'.le (h57.trans h79)) ⟨by omega, by omega⟩ hB
  simp only [stAV] at mS
  refine callG_ex mS ?_
  rintro k1 H10 ⟨rfl, F10, _⟩
  simp
  have od10 : Own 3 47 H10 vd (ds.map ddRow) := od9.1.fr F10 (fun y h1 h2 => by have := od.2 y h1; omega)
  refine callG_ex (markDeedS_o vd ds (1 + stN s) H10 od10 ⟨by omega, by omega⟩ (by omega)) ?_
  rintro k2 H11 ⟨rfl, F11⟩
  have lod : ∀ y, vd.of y → G.length ≤ y ∧ y < H6.length := fun y hy => ⟨od.2 y hy, od.1.lt hy⟩
  have og9 := og'.le (hleK.trans h79)
  have og11 := (og9.fr F10 (fun y h1 h2 => by omega)).fr F11 (fun y h1 h2 => by have := lod y h2; omega)
  have h411 : HLe H4 H11 := (((hleG4.trans h47).trans h79).fr_le F10 (fun y h => by omega)).fr_le F11 (fun y h => by have := lod y h; omega)
  have c11 := F11.2 _ _ (fun h => by have := lod _ h; omega) (F10.2 _ _ (fun h => by omega) c9)
  have bg11 := F11.2 _ _ (fun h => by have := lod _ h; omega) (F10.2 _ _ (fun h => by omega) bg9)
  have b11 := F11.2 _ _ (fun h => by have := lod _ h; omega) (F10.2 _ _ (fun h => by omega) b9)
  have hneg : ¬ (1 + (stN s : Int) + 3 * ds.length < 0) := by omega
  have sg11 := og11.st
  simp only [stAV] at sg11
  simp [hneg, c11, bg11]
  refine callG_use (eqStore_same _ _ x H11 sg11 (ow0.le h411) hXB) ?_
  simp [bg11]
  -- the result is marked
  have mG := markStore_ok (E := E) _ g1 g2 g3 g4 lrg srg x 1 H11 og11 ⟨by omega, by omega⟩ hXB
  simp only [stAV] at mG
  refine callG_ex mG ?_
  rintro k3 H12 ⟨rfl, F12, sg12⟩
  have hneg2 : ¬ (1 + (stN x : Int) < 0) := by omega
  have bg12 := F12.2 _ _ (fun h => by omega) bg11
  have c12 := F12.2 _ _ (fun h => by omega) c11
  have b12 := F12.2 _ _ (fun h => by omega) b11
  simp [bg12]
  refine callG_use (heldStore_mk _ x 1 H12 sg12 ⟨by omega, by omega⟩ hXB) ?_
  simp [hneg2, b12]
  -- once more
  have h412 : HLe H4 H12 := h411.fr_le F12 (fun y h => by omega)
  refine callG_ex (toStore_ok _ s H12 (hs0.le (h14.trans h412)) hsz) ?_
  rintro vz H13 ⟨hle13, z1, z2, z3, z4, lr4, sr4, rfl, oz⟩
  simp
  refine callG_ex (toDeedS_ok u ds H13 (Rows.le hu ((h14.trans h412).trans hle13)) hdl) ?_
  intro vy H14 hf
  obtain ⟨hle14, oy⟩ := hf.own
  simp
  refine callG_ex (implPastDo_ok _ vy s ds H14 (oz.st.le hle14) hB oy.rows hk) ?_
  intro v2 H15 hret
  obtain ⟨hle15, y1, y2, y3, y4, lry, sry, hv2, oh⟩ := hret.val
  rw [← hx] at hv2 oh
  rw [← hok] at hv2
  subst hv2
  obtain ⟨Q, hQ⟩ : ∃ Q : Hp, Q = H15 ++ [some ⟨[[y1, y2, y3, .int .i64 x.keep, .int .i64 x.time, y4]], 6, 28, false⟩] := ⟨_, rfl⟩
  have hleQ : HLe H15 Q := by rw [hQ]; exact HLe.self _ _
  have by_ : Q.at H15.length = some ⟨[[y1, y2, y3, .int .i64 x.keep, .int .i64 x.time, y4]], 6, 28, false⟩ := by rw [hQ]; simp
  have h12Q := ((hle13.trans hle14).trans hle15).trans hleQ
  have bgQ := h12Q.2 _ _ bg12
  have cQ := h12Q.2 _ _ c12
  simp [stAV, oh.ot.rows.one, oh.ol.rows.one, oh.os.rows.one, oh.oi.rows.one, ← hQ, by_, cQ]
  have sh := oh.st.le hleQ
  simp only [stAV] at sh
  refine callG_use (eqStore_same _ _ x Q sh (ow0.le (h412.trans h12Q)) hXB) ?_
  simp [bgQ]
  refine callG_use (heldStore_mk _ x 1 Q (sg12.le h12Q) ⟨by omega, by omega⟩ hXB) ?_
  simp [hneg2]

end Go.Proofs.YtgoeenodllmdpaaGreat.B

