/- The functions of laws/exact.go for strings and moves. -/
import Derived.Test.YtkdnijiipegabaaBs
import Derived.Test.YtkdnijiipegabaaCb
namespace Go.Proofs.Ytkdnijiipegabaa.B
open Go.RowKit Go.Proofs
set_option linter.unusedVariables false
set_option linter.unusedSimpArgs false
variable {E : Env}

/-- A function whose result holds no memory. -/
theorem AC_byp {C : CallP} (hC : CLe C (AC Try.prog E)) {f : Nat} {cf : CF} (hc : compF Try.prog f = some cf) {args : List AV} {H : Hp} {r : AV} (hp : r.plain = true) (h : W C cf.body (endX cf.res (fun v H' => v = r ∧ HLe H H')) (initT args) H) :
    AC Try.prog E f args H (fun v H' => v = r ∧ H' = H) := by
  refine AC.gc ((AC_by fol hC hc h).mono (fun v H' e => ⟨e.2, by rw [e.1]; exact hp, e.1, rfl⟩))
theorem CLe.refl (C : CallP) : CLe C C := fun _ _ _ _ h => h
theorem AC_use {f : Nat} {args : List AV} {H H2 : Hp} {r : AV} {K : AV → Hp → Prop} (h : AC Try.prog E f args H (fun v H' => v = r ∧ H' = H2)) (hk : K r H2) : AC Try.prog E f args H K := h.mono (fun v H' e => by rw [e.1, e.2]; exact hk)
theorem callG_use {P : Program} {f : Nat} {args : List AV} {H H2 : Hp} {r : AV} {d : Option Nat} {ag} {p : Plan} {t : Tm} {K : Tm → Hp → Prop} (h : AC P E f args H (fun v H' => v = r ∧ H' = H2))
    (hk : againG ag (updO t d r) H2 ∧ RgP (AC P E) p (updO t d r) H2 K) : callG (AC P E) f args d ag p t H K := h.mono (fun v H' e => by rw [e.1, e.2]; exact hk)
theorem callG_ex {P : Program} {f : Nat} {args : List AV} {H : Hp} {R : AV → Hp → Prop} {d : Option Nat} {ag} {p : Plan} {t : Tm} {K : Tm → Hp → Prop} (h : AC P E f args H R)
    (hk : ∀ v H', R v H' → againG ag (updO t d v) H' ∧ RgP (AC P E) p (updO t d v) H' K) : callG (AC P E) f args d ag p t H K := h.mono hk
theorem wrapN {i : Nat} (h : i < 9223372036854775807) : IntKind.i64.wrap ((i : Int) + 1) = ((i + 1 : Nat) : Int) := wrap64 (by omega) (by omega)

theorem eqStringS_ok (a b : AV) (xs ys : List ByteArray) (H : Hp) (ha : Strs H a xs) (hb : Strs H b ys) (hx : xs.length < 9223372036854775807) : AC Try.prog E 13 [a, b] H (fun v H' => v = .bool (decide (xs = ys)) ∧ H' = H) := by
  refine AC_byp (CLe.refl _) h_laws_eqStringS (by simp) ?_
  have l1 := ha.len
  have l2 := hb.len
  simp [c_laws_eqStringS, l1, l2, ha.slc, hb.slc]
  refine c_split (fun hq => ?_) (fun hq => ?_) <;> simp at hq <;> simp
  · intro h
    subst h
    exact hq rfl
  · refine W_for (fun k t H' => ∃ i : Nat, i + k = xs.length ∧ t 0 = a ∧ t 1 = b ∧ t 5 = .int .i64 i ∧ (∀ j : Nat, j < i → xs[j]? = ys[j]?) ∧ HLe H H') xs.length ?_ AC_mono ?_
    · exact ⟨0, by simp⟩
    rintro k t H' ⟨i, hik, h0, h1, h5, hI, hle⟩
    simp [h0, h1, h5, l1, ha.slc]
    refine c_split (fun hq2 => ?_) (fun hq2 => ?_) <;> simp at hq2
    · have hw := wrapN (i := i) (by omega)
      obtain ⟨o1, i1, ob1, rfl, a1, a2, a3⟩ := (ha.le hle).get hq2
      obtain ⟨o2, i2, ob2, rfl, b1, b2, b3⟩ := (hb.le hle).get (j := i) (by omega)
      simp [h0, h1, h5, a1, a2, a3, b1, b2, b3, hq2, ← hq]
      refine c_split (fun hq3 => ?_) (fun hq3 => ?_) <;> simp at hq3 <;> simp [h0, h1, h5, hw, hle]
      · intro h
        subst h
        exact hq3 rfl
      · refine ⟨k - 1, by omega, i + 1, by omega, rfl, fun j hj => ?_⟩
        rcases Nat.lt_or_ge j i with h | h
        · exact hI j h
        · have : j = i := by omega
          subst this
          rw [List.getElem?_eq_getElem hq2, List.getElem?_eq_getElem (by omega), hq3]
    · simp [hle]
      apply List.ext_getElem?
      intro j
      rcases Nat.lt_or_ge j i with h | h
      · exact hI j h
      · rw [List.getElem?_eq_none (by omega), List.getElem?_eq_none (by omega)]

theorem impl_in_ok (n l h : Int) (H : Hp) : AC Try.prog E 32 [.int .i64 n, .int .i64 l, .int .i64 h] H (fun v H' => v = .bool (decide (l ≤ n ∧ n ≤ h)) ∧ H' = H) := by
  refine AC_by fol (CLe.refl (AC Try.prog E)) h_impl_in ?_
  simp [c_impl_in]
  refine g_split (fun hq => ?_) (fun hq => ?_) (by simp) <;> simp at hq <;> simp [hq]
  omega
theorem l6In_ok (n l h : Int) (H : Hp) : AC Try.prog E 29 [.int .i64 n, .int .i64 l, .int .i64 h] H (fun v H' => v = .bool (decide (l ≤ n ∧ n ≤ h)) ∧ H' = H) := by
  refine AC_by fol (CLe.refl (AC Try.prog E)) h_spec_l6In ?_
  simp [c_spec_l6In]
  refine g_split (fun hq => ?_) (fun hq => ?_) (by simp) <;> simp at hq <;> simp [hq]
  omega

/-- The size of strings. -/
def szL (xs : List ByteArray) : Nat := (xs.map ByteArray.size).sum
theorem szL_take (xs : List ByteArray) {i : Nat} (h : i < xs.length) : szL (xs.take (i + 1)) = szL (xs.take i) + xs[i].size := by
  unfold szL
  rw [List.take_succ_eq_append_getElem h, List.map_append, List.sum_append]
  simp
theorem szL_le (xs : List ByteArray) (i : Nat) : szL (xs.take i) ≤ szL xs := by
  have h : szL xs = szL (xs.take i) + szL (xs.drop i) := by
    unfold szL
    rw [← List.sum_append, ← List.map_append, List.take_append_drop]
  omega

theorem szStringS_ok (a : AV) (xs : List ByteArray) (left : Int) (H : Hp) (ha : Strs H a xs) (hl : 0 ≤ left ∧ left ≤ 1048576) (hx : xs.length < 4611686018427387904) (hs : ∀ s ∈ xs, s.size < 4611686018427387904) :
    AC Try.prog E 16 [a, .int .i64 left] H (fun v H' => v = .int .i64 (if (xs.length : Int) + szL xs ≤ left then left - xs.length - szL xs else -1) ∧ H' = H) := by
  refine AC_byp (CLe.refl _) h_laws_szStringS (by simp) ?_
  have l1 := ha.len
  have hw0 : IntKind.i64.wrap (left - xs.length) = left - xs.length := wrap64 (by omega) (by omega)
  simp [c_laws_szStringS, l1, ha.slc, hw0]
  refine c_split (fun hq => ?_) (fun hq => ?_) <;> simp at hq <;> simp
  · intro _
    omega
  · refine W_for (fun k t H' => ∃ i : Nat, i + k = xs.length ∧ t 0 = a ∧ t 1 = .int .i64 (left - xs.length - szL (xs.take i)) ∧ t 5 = .int .i64 i ∧ 0 ≤ left - xs.length - szL (xs.take i) ∧ HLe H H') xs.length ?_ AC_mono ?_
    · exact ⟨0, by simp [szL]; omega⟩
    rintro k t H' ⟨i, hik, h0, h1, h5, hp, hle⟩
    simp [h0, h1, h5, l1, ha.slc]
    refine c_split (fun hq2 => ?_) (fun hq2 => ?_) <;> simp at hq2
    · have hw := wrapN (i := i) (by omega)
      obtain ⟨o1, i1, ob1, rfl, a1, a2, a3⟩ := (ha.le hle).get hq2
      have hsz := hs _ (List.getElem_mem hq2)
      have hst := szL_take xs hq2
      have hw1 : IntKind.i64.wrap (left - xs.length - szL (xs.take i) - xs[i].size) = left - xs.length - szL (xs.take (i + 1)) := by
        rw [wrap64 (by omega) (by omega), hst]
        omega
      simp [h0, h1, h5, a1, a2, a3, hq2, hw1]
      refine c_split (fun hq3 => ?_) (fun hq3 => ?_) <;> simp at hq3 <;> simp [h0, h1, h5, hw, hle]
      · have := szL_le xs (i + 1)
        intro _
        omega
      · exact ⟨k - 1, by omega, i + 1, by omega, rfl, rfl, by omega⟩
    · have : i = xs.length := by omega
      subst this
      simp at hp
      simp [h0, h1, h5, hle]
      intro _
      omega

/-- Moves. -/
abbrev Mv := Int × ByteArray
def mvRow (m : Mv) : List AV := [.int .i64 m.1, .str m.2]
def Mvs (H : Hp) (v : AV) (ms : List Mv) : Prop := Rows 2 H v (ms.map mvRow)
theorem Mvs.le {H H' : Hp} {v : AV} {xs : List Mv} (h : Mvs H v xs) (hle : HLe H H') : Mvs H' v xs := Rows.le h hle
theorem Mvs.len {H : Hp} {v : AV} {xs : List Mv} (h : Mvs H v xs) : lenV v = .int .i64 xs.length := by simpa using Rows.len h
theorem Mvs.slc {H : Hp} {v : AV} {xs : List Mv} (h : Mvs H v xs) : slC v := Rows.slc h
theorem Mvs.get {H : Hp} {v : AV} {xs : List Mv} (h : Mvs H v xs) {j : Nat} (hj : j < xs.length) :
    ∃ o i ob, v = .sl o i xs.length ∧ H.at o = some ob ∧ ob.esz = 2 ∧ ob.rows[i + j]? = some [.int .i64 xs[j].1, .str xs[j].2] := by
  obtain ⟨o, i, ob, h1, h2, h3, h4⟩ := Rows.get h (j := j) (by simpa using hj)
  exact ⟨o, i, ob, by simpa using h1, h2, h3, by simpa [mvRow] using h4⟩

theorem szMove_ok (at_ : Int) (tx : ByteArray) (left : Int) (H : Hp) (hl : 0 ≤ left ∧ left ≤ 1048576) (hs : tx.size < 4611686018427387904) :
    AC Try.prog E 28 [.ag [.int .i64 at_, .str tx], .int .i64 left] H (fun v H' => v = .int .i64 (if (tx.size : Int) ≤ left then left - tx.size else -1) ∧ H' = H) := by
  refine AC_byp (CLe.refl _) h_laws_szMove (by simp) ?_
  have hw0 : IntKind.i64.wrap (left - tx.size) = left - tx.size := wrap64 (by omega) (by omega)
  simp [c_laws_szMove, hw0]
  refine c_split (fun hq => ?_) (fun hq => ?_) <;> simp at hq <;> simp
  · intro _
    omega
  · intro _
    omega

def szM (xs : List Mv) : Nat := szL (xs.map (·.2))
theorem szM_take (xs : List Mv) {i : Nat} (h : i < xs.length) : szM (xs.take (i + 1)) = szM (xs.take i) + xs[i].2.size := by
  have := szL_take (xs.map (·.2)) (i := i) (by simpa using h)
  simpa [szM, List.map_take] using this
theorem szM_le (xs : List Mv) (i : Nat) : szM (xs.take i) ≤ szM xs := by
  have := szL_le (xs.map (·.2)) i
  simpa [szM, List.map_take] using this

theorem szMoveS_ok (a : AV) (xs : List Mv) (left : Int) (H : Hp) (ha : Mvs H a xs) (hl : 0 ≤ left ∧ left ≤ 1048576) (hx : xs.length < 4611686018427387904) (hs : ∀ s ∈ xs, s.2.size < 4611686018427387904) :
    AC Try.prog E 17 [a, .int .i64 left] H (fun v H' => v = .int .i64 (if (xs.length : Int) + szM xs ≤ left then left - xs.length - szM xs else -1) ∧ H' = H) := by
  refine AC_byp (CLe.refl _) h_laws_szMoveS (by simp) ?_
  have l1 := ha.len
  have hw0 : IntKind.i64.wrap (left - xs.length) = left - xs.length := wrap64 (by omega) (by omega)
  simp [c_laws_szMoveS, l1, ha.slc, hw0]
  refine c_split (fun hq => ?_) (fun hq => ?_) <;> simp at hq <;> simp
  · intro _
    omega
  · refine W_for (fun k t H' => ∃ i : Nat, i + k = xs.length ∧ t 0 = a ∧ t 1 = .int .i64 (left - xs.length - szM (xs.take i)) ∧ t 5 = .int .i64 i ∧ 0 ≤ left - xs.length - szM (xs.take i) ∧ HLe H H') xs.length ?_ AC_mono ?_
    · exact ⟨0, by simp [szM, szL]; omega⟩
    rintro k t H' ⟨i, hik, h0, h1, h5, hp, hle⟩
    simp [h0, h1, h5, l1, ha.slc]
    refine c_split (fun hq2 => ?_) (fun hq2 => ?_) <;> simp at hq2
    · have hw := wrapN (i := i) (by omega)
      obtain ⟨o1, i1, ob1, rfl, a1, a2, a3⟩ := (ha.le hle).get hq2
      have hsz := hs _ (List.getElem_mem hq2)
      have hst := szM_take xs hq2
      simp [h0, h1, h5, a1, a2, a3, hq2]
      refine callG_use (szMove_ok _ _ _ H' ⟨by omega, by omega⟩ hsz) ?_
      simp [h0, h1, h5]
      refine c_split (fun hq3 => ?_) (fun hq3 => ?_) <;> simp at hq3 <;> simp [h0, h1, h5, hw, hle]
      · have := szM_le xs (i + 1)
        intro _
        split at hq3 <;> omega
      · split at hq3
        · refine ⟨k - 1, by omega, i + 1, by omega, ?_, by omega, by omega⟩
          rw [if_pos (by omega)]
          omega
        · omega
    · have : i = xs.length := by omega
      subst this
      simp at hp
      simp [h0, h1, h5, hle]
      intro _
      omega

def strRow (s : ByteArray) : List AV := [.str s]
theorem toStringS_ok (a : AV) (xs : List ByteArray) (H : Hp) (ha : Strs H a xs) (hx : xs.length ≤ 1048576) :
    AC Try.prog E 19 [a] H (Fresh H ⟨xs.map strRow, 1, 9, false⟩) := by
  refine AC_by fol (CLe.refl _) h_laws_toStringS ?_
  have l1 := ha.len
  simp [c_laws_toStringS, l1, ha.slc]
  refine ⟨by omega, ?_⟩
  rw [if_pos (by omega)]
  simp
  refine W_for (fun k t H' => ∃ i : Nat, i + k = xs.length ∧ t 0 = a ∧ t 3 = .sl H.length 0 xs.length ∧ t 4 = .int .i64 i ∧ H' = H ++ [some ⟨fillR strRow [.str ⟨#[]⟩] xs i, 1, 9, false⟩]) xs.length ?_ AC_mono ?_
  · exact ⟨0, by simp [fillR_0]⟩
  rintro k t H' ⟨i, hik, h0, h3, h4, rfl⟩
  simp [h0, h3, h4, l1, ha.slc]
  refine c_split (fun hq2 => ?_) (fun hq2 => ?_) <;> simp at hq2
  · have hw := wrapN (i := i) (by omega)
    obtain ⟨o1, i1, ob1, rfl, a1, a2, a3⟩ := (ha.le (HLe.self H [some ⟨fillR strRow [.str ⟨#[]⟩] xs i, 1, 9, false⟩])).get hq2
    have hs := fillR_set (f := strRow) (z := [.str ⟨#[]⟩]) hq2
    simp [h0, h3, h4, a1, a2, a3, hq2, fillR_get hq2, hw]
    exact ⟨k - 1, by omega, i + 1, by omega, by omega, hs⟩
  · have : i = xs.length := by omega
    subst this
    simp [h3, fillR_n]
    exact ⟨HLe.self _ _, H.length, by simp, Nat.le_refl _, by simp⟩

theorem toMove_ok (at_ : Int) (tx : ByteArray) (H : Hp) :
    AC Try.prog E 30 [.ag [.int .i64 at_, .str tx]] H (fun v H' => v = .ag [.int .i64 at_, .str tx] ∧ H' = H) := by
  refine AC_byp (CLe.refl _) h_laws_toMove (by simp) ?_
  simp [c_laws_toMove]

theorem toMoveS_ok (a : AV) (xs : List Mv) (H : Hp) (ha : Mvs H a xs) (hx : xs.length ≤ 1048576) :
    AC Try.prog E 20 [a] H (Fresh H ⟨xs.map mvRow, 2, 44, false⟩) := by
  refine AC_by fol (CLe.refl _) h_laws_toMoveS ?_
  have l1 := ha.len
  simp [c_laws_toMoveS, l1, ha.slc]
  refine ⟨by omega, ?_⟩
  rw [if_pos (by omega)]
  simp
  refine W_for (fun k t H' => ∃ i : Nat, i + k = xs.length ∧ t 0 = a ∧ t 3 = .sl H.length 0 xs.length ∧ t 4 = .int .i64 i ∧ H' = H ++ [some ⟨fillR mvRow [.int .i64 0, .str ⟨#[]⟩] xs i, 2, 44, false⟩]) xs.length ?_ AC_mono ?_
  · exact ⟨0, by simp [fillR_0]⟩
  rintro k t H' ⟨i, hik, h0, h3, h4, rfl⟩
  simp [h0, h3, h4, l1, ha.slc]
  refine c_split (fun hq2 => ?_) (fun hq2 => ?_) <;> simp at hq2
  · have hw := wrapN (i := i) (by omega)
    obtain ⟨o1, i1, ob1, rfl, a1, a2, a3⟩ := (ha.le (HLe.self H [some ⟨fillR mvRow [.int .i64 0, .str ⟨#[]⟩] xs i, 2, 44, false⟩])).get hq2
    have hs := fillR_set (f := mvRow) (z := [.int .i64 0, .str ⟨#[]⟩]) hq2
    simp [h0, h3, h4, a1, a2, a3, hq2, fillR_get hq2]
    refine callG_use (toMove_ok _ _ _) ?_
    simp [h0, h3, h4, a1, a2, a3, hq2, fillR_get hq2, hw]
    exact ⟨k - 1, by omega, i + 1, by omega, by omega, hs⟩
  · have : i = xs.length := by omega
    subst this
    simp [h3, fillR_n]
    exact ⟨HLe.self _ _, H.length, by simp, Nat.le_refl _, by simp⟩

theorem eqMove_ok (m n : Mv) (H : Hp) :
    AC Try.prog E 33 [.ag (mvRow m), .ag (mvRow n)] H (fun v H' => v = .bool (decide (m = n)) ∧ H' = H) := by
  refine AC_byp (CLe.refl _) h_laws_eqMove (by simp) ?_
  obtain ⟨m1, m2⟩ := m
  obtain ⟨n1, n2⟩ := n
  simp [c_laws_eqMove, mvRow]
  refine c_split (fun hq => ?_) (fun hq => ?_) <;> simp at hq <;> simp
  · intro h
    exact absurd h hq
  · refine c_split (fun hq2 => ?_) (fun hq2 => ?_) <;> simp at hq2 <;> simp [hq, hq2]

theorem eqMoveS_ok (a b : AV) (xs ys : List Mv) (H : Hp) (ha : Mvs H a xs) (hb : Mvs H b ys) (hx : xs.length < 9223372036854775807) : AC Try.prog E 22 [a, b] H (fun v H' => v = .bool (decide (xs = ys)) ∧ H' = H) := by
  refine AC_byp (CLe.refl _) h_laws_eqMoveS (by simp) ?_
  have l1 := ha.len
  have l2 := hb.len
  simp [c_laws_eqMoveS, l1, l2, ha.slc, hb.slc]
  refine c_split (fun hq => ?_) (fun hq => ?_) <;> simp at hq <;> simp
  · intro h
    subst h
    exact hq rfl
  · refine W_for (fun k t H' => ∃ i : Nat, i + k = xs.length ∧ t 0 = a ∧ t 1 = b ∧ t 5 = .int .i64 i ∧ (∀ j : Nat, j < i → xs[j]? = ys[j]?) ∧ HLe H H') xs.length ?_ AC_mono ?_
    · exact ⟨0, by simp⟩
    rintro k t H' ⟨i, hik, h0, h1, h5, hI, hle⟩
    simp [h0, h1, h5, l1, ha.slc]
    refine c_split (fun hq2 => ?_) (fun hq2 => ?_) <;> simp at hq2
    · have hw := wrapN (i := i) (by omega)
      obtain ⟨o1, i1, ob1, rfl, a1, a2, a3⟩ := (ha.le hle).get hq2
      obtain ⟨o2, i2, ob2, rfl, b1, b2, b3⟩ := (hb.le hle).get (j := i) (by omega)
      simp [h0, h1, h5, a1, a2, a3, b1, b2, b3, hq2, ← hq]
      refine callG_use (eqMove_ok xs[i] ys[i] H') ?_
      simp
      refine c_split (fun hq3 => ?_) (fun hq3 => ?_) <;> simp at hq3 <;> simp [h0, h1, h5, hw, hle]
      · intro h
        subst h
        exact hq3 rfl
      · refine ⟨k - 1, by omega, i + 1, by omega, by omega, fun j hj => ?_⟩
        rcases Nat.lt_or_ge j i with h | h
        · exact hI j h
        · have : j = i := by omega
          subst this
          rw [List.getElem?_eq_getElem hq2, List.getElem?_eq_getElem (by omega), hq3]
    · simp [hle]
      apply List.ext_getElem?
      intro j
      rcases Nat.lt_or_ge j i with h | h
      · exact hI j h
      · rw [List.getElem?_eq_none (by omega), List.getElem?_eq_none (by omega)]

/-- The digits of a mark. -/
def markB (k : Int) : ByteArray := strOf [IntKind.u8.wrap (IntKind.i64.wrap (48 + k.tmod 10))]
def markL : Nat → Int → ByteArray → ByteArray
  | 0, _, out => out
  | f + 1, k, out => if 0 < k then markL f (IntKind.i64.wrap (k.tdiv 10)) (markB k ++ out) else out
def markT (k : Int) : ByteArray := if k ≤ 0 then ⟨#[109, 48]⟩ else ⟨#[109]⟩ ++ markL k.toNat k ⟨#[]⟩
theorem markB_size (k : Int) : (markB k).size = 1 := by simp [markB, strOf, ByteArray.size_push]
theorem markL_size : ∀ (f : Nat) (k : Int) (out : ByteArray), (markL f k out).size ≤ out.size + f
  | 0, k, out => by simp [markL]
  | f + 1, k, out => by
    simp only [markL]
    split
    · have := markL_size f (IntKind.i64.wrap (k.tdiv 10)) (markB k ++ out)
      rw [ByteArray.size_append, markB_size] at this
      omega
    · omega
theorem tdiv10 {k : Int} (h : 0 < k) (h2 : k < 9223372036854775807) : IntKind.i64.wrap (k.tdiv 10) = k / 10 := by
  have e : k.tdiv 10 = k / 10 := Int.tdiv_eq_ediv_of_nonneg (by omega)
  rw [e, wrap64 (by omega) (by omega)]

theorem markText_ok (K : Int) (H : Hp) (hK : K < 4611686018427387904) : AC Try.prog E 27 [.int .i64 K] H (fun v H' => v = .str (markT K) ∧ H' = H) := by
  refine AC_byp (CLe.refl _) h_laws_markText (by simp) ?_
  simp [c_laws_markText]
  refine c_split (fun hq => ?_) (fun hq => ?_) <;> simp at hq <;> simp
  · simp [markT, hq]
  · refine W_for (fun f t H' => ∃ kt out, t 0 = .int .i64 kt ∧ t 3 = .str out ∧ markL f kt out = markL K.toNat K ⟨#[]⟩ ∧ kt ≤ f ∧ 0 ≤ kt ∧ (out.size : Int) + kt ≤ K ∧ HLe H H') K.toNat ?_ AC_mono ?_
    · exact ⟨K, ⟨#[]⟩, by simp, by simp, rfl, by omega, by omega, by simp [ByteArray.size], HLe.refl _⟩
    rintro f t H' ⟨kt, out, h0, h3, hm, hf, hk0, hsz, hle⟩
    simp [h0, h3]
    refine c_split (fun hq2 => ?_) (fun hq2 => ?_) <;> simp at hq2
    · obtain ⟨f, rfl⟩ : ∃ g, f = g + 1 := ⟨f - 1, by omega⟩
      have e1 : strOf [IntKind.u8.wrap (IntKind.i64.wrap (48 + kt.tmod 10))] = markB kt := rfl
      simp only [markL, if_pos hq2] at hm
      simp [h0, h3, e1]
      have hd := tdiv10 (k := kt) hq2 (by omega)
      have hb := markB_size kt
      exact ⟨by omega, f, by omega, hm, by omega, by omega, by omega, hle.app _⟩
    · have : kt = 0 := by omega
      subst this
      have hend : markL f 0 out = out := by cases f <;> simp [markL]
      have hs2 := markL_size K.toNat K ⟨#[]⟩
      rw [hend] at hm
      simp [h0, h3, hle]
      have e0 : (⟨#[109]⟩ : ByteArray).size = 1 := rfl
      refine ⟨by omega, ?_⟩
      unfold markT
      rw [if_neg (by omega), hm]

def markR (k : Int) (j : Nat) : List AV := [.str (markT (k + j))]
theorem markStringS_ok (o : Nat) (R : List (List AV)) (e : Nat) (K : Int) (H : Hp) (ho : H.at o = some ⟨R, 1, e, false⟩) (hR : ∀ r ∈ R, r.length = 1) (hK : 0 ≤ K ∧ K < 1152921504606846976) (hn : R.length < 1152921504606846976) :
    AC Try.prog E 14 [.sl o 0 R.length, .int .i64 K] H (fun v H' => v = .int .i64 (K + R.length) ∧ H' = List.set H o (some ⟨(List.range R.length).map (markR K), 1, e, false⟩)) := by
  refine AC_by fol (CLe.refl _) h_laws_markStringS ?_
  have hlt := Hp.at_lt ho
  simp [c_laws_markStringS]
  refine W_for (fun k t H' => ∃ i : Nat, i + k = R.length ∧ t 0 = .sl o 0 R.length ∧ t 1 = .int .i64 (K + i) ∧ t 5 = .int .i64 i ∧ H' = List.set H o (some ⟨overR (markR K) R i, 1, e, false⟩)) R.length ?_ AC_mono ?_
  · exact ⟨0, by simp [overR_0, Hp.set_self ho]⟩
  rintro k t H' ⟨i, hik, h0, h1, h5, rfl⟩
  simp [h0, h1, h5]
  refine c_split (fun hq2 => ?_) (fun hq2 => ?_) <;> simp at hq2
  · have hw := wrapN (i := i) (by omega)
    have hw2 : IntKind.i64.wrap (K + i + 1) = K + ((i + 1 : Nat) : Int) := by rw [wrap64 (by omega) (by omega)]; omega
    have hs := overR_set (f := markR K) hq2
    have hrl := hR _ (List.getElem_mem hq2)
    obtain ⟨x, hx⟩ := List.length_eq_one_iff.1 hrl
    simp [h0, h1, h5]
    refine callG_use (markText_ok _ _ (by omega)) ?_
    simp [h0, h1, h5, Hp.at_set _ hlt, overR_get hq2, hx, hq2, hw, hw2]
    refine ⟨k - 1, by omega, i + 1, by omega, by omega, ?_⟩
    rw [← hs]
    rfl
  · have : i = R.length := by omega
    subst this
    simp [h1, overR_n]

theorem markStringS_own (v : AV) (R : List (List AV)) (e : Nat) (K : Int) (H : Hp) (ho : OwnR 1 e H v R) (hR : ∀ r ∈ R, r.length = 1) (hK : 0 ≤ K ∧ K < 1152921504606846976) (hn : R.length < 1152921504606846976) :
    AC Try.prog E 14 [v, .int .i64 K] H (fun u H' => u = .int .i64 (K + R.length) ∧ But v H H' ∧ OwnR 1 e H' v ((List.range R.length).map (markR K))) := by
  rcases ho with ⟨rfl, rfl⟩ | ⟨o, rfl, ho⟩
  · refine AC_by fol (CLe.refl _) h_laws_markStringS ?_
    simp [c_laws_markStringS]
    refine W_for (fun k t H' => t 0 = .nils ∧ t 1 = .int .i64 K ∧ t 5 = .int .i64 0 ∧ H' = H) 0 (by simp) AC_mono ?_
    rintro k t H' ⟨h0, h1, h5, rfl⟩
    simp [h0, h1, h5, But.refl, OwnR]
  · exact (markStringS_ok o R e K H ho hR hK hn).mono (fun u H' hh => ⟨hh.1, hh.2 ▸ But.set _ _ _ _ _, .inr ⟨o, by simp, by rw [hh.2, Hp.at_set _ (Hp.at_lt ho)]⟩⟩)

theorem heldStringS_ok (a : AV) (xs : List ByteArray) (K : Int) (H : Hp) (ha : Strs H a xs) (hK : 0 ≤ K ∧ K < 1152921504606846976) (hn : xs.length < 1152921504606846976) (hx : ∀ (j : Nat) (h : j < xs.length), xs[j] = markT (K + j)) :
    AC Try.prog E 15 [a, .int .i64 K] H (fun v H' => v = .int .i64 (K + xs.length) ∧ H' = H) := by
  refine AC_byp (CLe.refl _) h_laws_heldStringS (by simp) ?_
  have l1 := ha.len
  simp [c_laws_heldStringS]
  refine W_for (fun k t H' => ∃ i : Nat, i + k = xs.length ∧ t 0 = a ∧ t 1 = .int .i64 (K + i) ∧ t 5 = .int .i64 i ∧ HLe H H') xs.length ?_ AC_mono ?_
  · exact ⟨0, by simp⟩
  rintro k t H' ⟨i, hik, h0, h1, h5, hle⟩
  simp [h0, h1, h5, l1, ha.slc]
  refine c_split (fun hq2 => ?_) (fun hq2 => ?_) <;> simp at hq2
  · have hw := wrapN (i := i) (by omega)
    have hw2 : IntKind.i64.wrap (K + i + 1) = K + ((i + 1 : Nat) : Int) := by rw [wrap64 (by omega) (by omega)]; omega
    obtain ⟨o1, i1, ob1, rfl, a1, a2, a3⟩ := (ha.le hle).get hq2
    simp [h0, h1, h5, a1, a2, a3, hq2]
    refine callG_use (markText_ok _ _ (by omega)) ?_
    simp [h0, h1, h5, a1, a2, a3, hq2, hx i hq2, hw, hw2, hle]
    exact ⟨k - 1, by omega, i + 1, by omega, by omega⟩
  · have : i = xs.length := by omega
    subst this
    simp [h1, hle]

end Go.Proofs.Ytkdnijiipegabaa.B
