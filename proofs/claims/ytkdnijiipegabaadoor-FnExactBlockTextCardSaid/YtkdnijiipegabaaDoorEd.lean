/- The reference's reader of codes, and what it draws. -/
import Derived.Test.YtkdnijiipegabaaDoorEc
namespace Go.Proofs.YtkdnijiipegabaaDoor.B
open Go.RowKit Go.Proofs
set_option linter.unusedVariables false
set_option linter.unusedSimpArgs false
variable {E : Env}

theorem Fr.one (H : Hp) (o : Nat) (x : Option Ob) : Fr (fun y => y = o) H (List.set H o x) := (Fr.refl (fun y => y = o) H).set (.inl rfl) x
theorem appG_one' {ety esz bytes n : Nat} {x : AV} {row : List AV} {H : Hp} {R : List (List AV)} {C : CallP} {d : Option Nat} {ag : List (Option Nat × AOp × Option (Nat × Bool))} {p : Plan} {t : Tm} {K : Tm → Hp → Prop}
    (hl : n = H.length) (hx : Own esz ety H x R) (hb : (R.length + 1) * bytes ≤ 140737488355328)
    (hk : ∀ v H', Own esz ety H' v (R ++ [row]) → Fr x.of H H' → (∀ o, v.of o → x.of o ∨ H.length ≤ o) → againG ag (updO t d v) H' ∧ RgP C p (updO t d v) H' K) :
    appG x (.sl n 0 1) ety esz bytes C d ag p t (H ++ [some ⟨[row], esz, ety, false⟩]) K := by
  subst hl
  exact appG_one hx hb hk

theorem Rows.ne_of {esz : Nat} {H : Hp} {v : AV} {R : List (List AV)} (h : Rows esz H v R) {o : Nat} {ob : Ob} (ho : H.at o = some ob) (he : ob.esz ≠ esz) {x : Nat} (hx : v.of x) : x ≠ o := by
  rcases h with ⟨rfl, _⟩ | ⟨rfl, _⟩ | ⟨o', i, ob', rfl, a2, a3, _⟩
  · exact hx.elim
  · exact hx.elim
  · rintro rfl
    have : o' = x := hx
    subst this
    rw [ho] at a2
    cases a2
    exact he a3
theorem Rows.apart {e1 e2 : Nat} {H : Hp} {v w : AV} {R1 R2 : List (List AV)} (h : Rows e1 H v R1) (k : Rows e2 H w R2) (he : e1 ≠ e2) {x : Nat} (hx : v.of x) : ¬ w.of x := by
  intro hw
  rcases k with ⟨rfl, _⟩ | ⟨rfl, _⟩ | ⟨o', i, ob', rfl, a2, a3, _⟩
  · exact hw.elim
  · exact hw.elim
  · have : o' = x := hw
    subst this
    exact h.ne_of a2 (by rw [a3]; exact he.symm) hx rfl

def byteRow (n : Int) : List AV := [.int .u8 n]
/-- A slice of bytes. -/
def Bytes (H : Hp) (v : AV) (bs : List Int) : Prop := Rows 1 H v (bs.map byteRow) ∧ ∀ n ∈ bs, 0 ≤ n ∧ n < 256
theorem Bytes.len {H : Hp} {v : AV} {bs : List Int} (h : Bytes H v bs) : lenV v = .int .i64 bs.length := by simpa using h.1.len
/-- A reader: it has read so many times at most. -/
def Rd (H : Hp) (o : Nat) (N : Nat) : Prop := ∃ b bs, ∃ p : Nat, H.at o = some ⟨[[b, .int .i64 p]], 2, 60, false⟩ ∧ Bytes H b bs ∧ bs.length ≤ 2000 ∧ p ≤ N
theorem Rd.mono {H : Hp} {o N M : Nat} (h : Rd H o N) (hM : N ≤ M) : Rd H o M := by
  obtain ⟨b, bs, p, h1, h2, h3, h4⟩ := h
  exact ⟨b, bs, p, h1, h2, h3, by omega⟩
theorem Rd.fr {S : Nat → Prop} {H H' : Hp} {o N : Nat} (h : Rd H o N) (hf : Fr S H H') (hs : ¬ S o) (hb : ∀ x ob, S x → H.at x = some ob → ob.esz ≠ 1) : Rd H' o N := by
  obtain ⟨b, bs, p, h1, h2, h3, h4⟩ := h
  refine ⟨b, bs, p, hf.2 _ _ hs h1, ⟨?_, h2.2⟩, h3, h4⟩
  rcases h2.1 with h | h | ⟨o', i, ob, rfl, a2, a3, a4⟩
  · exact .inl h
  · exact .inr (.inl h)
  · exact .inr (.inr ⟨o', i, ob, rfl, hf.2 _ _ (fun hh => hb o' ob hh a2 a3) a2, a3, a4⟩)
theorem Rd.le {H H' : Hp} {o N : Nat} (h : Rd H o N) (hle : HLe H H') : Rd H' o N := h.fr (hle.fr (S := fun _ => False)) (fun h => h) (fun _ _ h => h.elim)
theorem Rd.lt {H : Hp} {o N : Nat} (h : Rd H o N) : o < H.length := by
  obtain ⟨b, bs, p, h1, _⟩ := h
  exact Hp.at_lt h1
/-- What drawing does to memory. -/
abbrev Dr (o : Nat) (H H' : Hp) : Prop := Fr (fun x => x = o) H H'

theorem l6Open_ok (c : AV) (bs : List Int) (H : Hp) (hc : Bytes H c bs) (hn : bs.length < 4611686018427387904) :
    AC Tryd.prog E 26 [c] H (fun v H' => ∃ o, v = .pt o 0 0 ∧ H.length ≤ o ∧ HLe H H' ∧ Rd H' o 0) := by
  refine AC_by fol (tC_le tab2_ok) h_spec_l6Open ?_
  have l1 := hc.len
  simp [c_spec_l6Open, l1, hc.1.slc]
  have fin : ∀ (u : AV) (cs : List Int), Rows 1 H u (cs.map byteRow) → (∀ n ∈ cs, 0 ≤ n ∧ n < 256) → cs.length ≤ 2000 → Rd (H ++ [some ⟨[[u, .int .i64 0]], 2, 60, false⟩]) H.length 0 :=
    fun u cs h1 h2 h3 => ⟨u, cs, 0, by simp, ⟨h1.le (HLe.self _ _), h2⟩, h3, Nat.le_refl _⟩
  refine c_split (fun hq => ?_) (fun hq => ?_) <;> simp at hq
  · simp
    refine cutG_upto hc.1 2000 rfl (by simp; omega) (fun u u1 u2 _ => ?_)
    rw [← List.map_take] at u1
    simp [u1.cells, u1.cells1, u1.one]
    exact fin u _ u1 (fun n hn => hc.2 n (List.mem_of_mem_take hn)) (by simp; omega)
  · simp [hc.1.cells, hc.1.cells1, hc.1.one]
    exact fin c bs hc.1 hc.2 (by omega)

theorem xor_pos {x y : Int} (hx : 0 ≤ x ∧ x < 4611686018427387904) (hy : 0 ≤ y ∧ y < 4611686018427387904) : ∃ z : Int, binV .xor (.int .i64 x) (.int .i64 y) = .int .i64 z ∧ 0 ≤ z ∧ z < 9223372036854775808 := by
  have hlt : (BitVec.ofInt IntKind.i64.bits x ^^^ BitVec.ofInt IntKind.i64.bits y).toNat < 2 ^ 62 := by
    rw [BitVec.toNat_xor]
    have e : ∀ z : Int, 0 ≤ z ∧ z < 4611686018427387904 → (BitVec.ofInt IntKind.i64.bits z).toNat < 2 ^ 62 := by
      intro z hz
      rw [BitVec.toNat_ofInt]
      have : IntKind.i64.bits = 64 := rfl
      rw [this]
      omega
    exact Nat.xor_lt_two_pow (e x hx) (e y hy)
  refine ⟨_, rfl, ?_, ?_⟩
  · rw [wrap64 (by omega) (by omega)]
    omega
  · rw [wrap64 (by omega) (by omega)]
    omega

theorem pick_ok (o N : Nat) (n : Int) (H : Hp) (hr : Rd H o N) (hN : N < 1099511627776) (hn : n < 4611686018427387904) :
    AC Tryd.prog E 28 [.pt o 0 0, .int .i64 n] H (fun v H' => ∃ m : Nat, v = .int .i64 m ∧ ((m : Int) < n ∨ m = 0) ∧ Dr o H H' ∧ Rd H' o (N + 1) ∧ H'.length = H.length) := by
  obtain ⟨b, bs, p, hat, hb, hbl, hp⟩ := hr
  have hlt := Hp.at_lt hat
  have hw := wrapN (i := p) (by omega)
  have hw1 : IntKind.i64.wrap (((p + 1 : Nat) : Int) - 1) = p := by rw [wrap64 (by omega) (by omega)]; omega
  have l1 := hb.len
  have s1 := hb.1.slc
  have fin : ∀ x : Option Ob, x = some ⟨[[b, .int .i64 ((p + 1 : Nat) : Int)]], 2, 60, false⟩ → Dr o H (List.set H o x) ∧ Rd (List.set H o x) o (N + 1) ∧ (List.set H o x).length = H.length := by
    rintro x rfl
    refine ⟨(Fr.refl (fun x => x = o) H).set (.inl rfl) _, ⟨b, bs, p + 1, Hp.at_set _ hlt, ⟨?_, hb.2⟩, hbl, by omega⟩, by simp⟩
    rcases hb.1 with h | h | ⟨o', i, ob, rfl, a2, a3, a4⟩
    · exact .inl h
    · exact .inr (.inl h)
    · refine .inr (.inr ⟨o', i, ob, rfl, ?_, a3, a4⟩)
      rw [Hp.at_set_ne]
      · exact a2
      · rintro rfl
        rw [hat] at a2
        cases a2
        cases a3
  have f0 := fin _ rfl
  refine AC_by fol (tC_le tab2_ok) h_spec_l6Rd_pick ?_
  by_cases hn1 : n < 1
  · simp [c_spec_l6Rd_pick, hat, Hp.at_set _ hlt, hw, hn1]
    exact ⟨0, rfl, .inr rfl, by simpa using f0⟩
  · simp [c_spec_l6Rd_pick, hat, Hp.at_set _ hlt, hw, hn1, l1, s1]
    refine c_split (fun hq => ?_) (fun hq => ?_) <;> simp at hq
    · simp
      exact ⟨0, rfl, .inr rfl, by simpa using f0⟩
    · have hpos : 0 < bs.length := List.length_pos_iff.2 hq
      obtain ⟨o', i', ob, rfl, a2, a3, _⟩ := hb.1.get (j := 0) (by simpa using hpos)
      have row : ∀ j (h : j < bs.length), ob.rows[i' + j]? = some [.int .u8 bs[j]] := by
        intro j h
        obtain ⟨o2, i2, ob2, e1, e2, e3, e4⟩ := hb.1.get (j := j) (by simpa using h)
        cases e1
        rw [a2] at e2
        cases e2
        simpa [byteRow] using e4
      have hne : o ≠ o' := by
        rintro rfl
        rw [hat] at a2
        cases a2
        cases a3
      have hat' : ∀ x, Hp.at (List.set H o x) o' = some ob := fun x => by rw [Hp.at_set_ne hne]; exact a2
      simp at f0
      have hwp : IntKind.i64.wrap (p : Int) = p := wrap64 (by omega) (by omega)
      simp [hat, Hp.at_set _ hlt, hat', hwp, a3]
      refine c_split (fun hq2 => ?_) (fun hq2 => ?_) <;> simp at hq2
      · have hbd := hb.2 _ (List.getElem_mem hq2)
        have hwb : IntKind.i64.wrap bs[p] = bs[p] := wrap64 (by omega) (by omega)
        have hm : bs[p].tmod n = ((bs[p].tmod n).toNat : Int) := by
          have := Int.tmod_nonneg n hbd.1
          omega
        have hn0 : n ≠ 0 := by omega
        have hlt2 : bs[p].tmod n < n := Int.tmod_lt_of_pos _ (by omega)
        simp [hat, Hp.at_set _ hlt, hat', hq2, a3, row p hq2, hwb, hn0]
        exact ⟨(bs[p].tmod n).toNat, hm, .inl (by omega), f0⟩
      · have q1 : p % bs.length < bs.length := Nat.mod_lt _ hpos
        have q2 : (p * 7 + 3) % bs.length < bs.length := Nat.mod_lt _ hpos
        have m1 : (p : Int).tmod (bs.length : Int) = ((p % bs.length : Nat) : Int) := by
          rw [Int.tmod_eq_emod_of_nonneg (by omega)]
          exact (Int.natCast_emod _ _).symm
        have m2 : ((p : Int) * 7 + 3).tmod (bs.length : Int) = (((p * 7 + 3) % bs.length : Nat) : Int) := by
          rw [Int.tmod_eq_emod_of_nonneg (by omega), Int.natCast_emod]
          rfl
        have d1 : (p : Int).tdiv (bs.length : Int) = ((p / bs.length : Nat) : Int) := by
          rw [Int.tdiv_eq_ediv_of_nonneg (by omega)]
          exact (Int.natCast_ediv _ _).symm
        have d2 : p / bs.length ≤ p := Nat.div_le_self _ _
        have b1 := hb.2 _ (List.getElem_mem q1)
        have b2 := hb.2 _ (List.getElem_mem q2)
        have r1 := row _ q1
        have r2 := row _ q2
        generalize bs[p % bs.length] = A at b1 r1
        generalize bs[(p * 7 + 3) % bs.length] = B at b2 r2
        generalize p % bs.length = i1 at q1 m1 r1
        generalize (p * 7 + 3) % bs.length = i2 at q2 m2 r2
        generalize p / bs.length = qq at d1 d2
        have w1 : IntKind.i64.wrap A = A := wrap64 (by omega) (by omega)
        have w2 : IntKind.i64.wrap B = B := wrap64 (by omega) (by omega)
        have w3 : IntKind.i64.wrap (A * 131) = A * 131 := wrap64 (by omega) (by omega)
        have w4 : IntKind.i64.wrap (B * 1117) = B * 1117 := wrap64 (by omega) (by omega)
        have w5 : IntKind.i64.wrap (A * 131 + B * 1117) = A * 131 + B * 1117 := wrap64 (by omega) (by omega)
        have w6 : IntKind.i64.wrap ((p : Int) * 29) = p * 29 := wrap64 (by omega) (by omega)
        have w7 : IntKind.i64.wrap (A * 131 + B * 1117 + p * 29) = A * 131 + B * 1117 + p * 29 := wrap64 (by omega) (by omega)
        have w8 : IntKind.i64.wrap (qq : Int) = qq := wrap64 (by omega) (by omega)
        have w9 : IntKind.i64.wrap ((qq : Int) * 53) = qq * 53 := wrap64 (by omega) (by omega)
        obtain ⟨X, hXe⟩ : ∃ X : Int, X = A * 131 + B * 1117 + p * 29 + qq * 53 := ⟨_, rfl⟩
        have w10 : IntKind.i64.wrap (A * 131 + B * 1117 + p * 29 + qq * 53) = X := by rw [hXe]; exact wrap64 (by omega) (by omega)
        have w11 : IntKind.i64.wrap ((p : Int) * 7) = p * 7 := wrap64 (by omega) (by omega)
        have w12 : IntKind.i64.wrap ((p : Int) * 7 + 3) = p * 7 + 3 := wrap64 (by omega) (by omega)
        have hX : 0 ≤ X ∧ X < 4611686018427387904 := by omega
        have e1 : X.tdiv 64 = X / 64 := Int.tdiv_eq_ediv_of_nonneg hX.1
        have w13 : IntKind.i64.wrap (X / 64) = X / 64 := wrap64 (by omega) (by omega)
        obtain ⟨Z, hZ, z1, z2⟩ := xor_pos (x := X) (y := X / 64) hX (by omega)
        have hn0 : n ≠ 0 := by omega
        have hbn : bs.length ≠ 0 := by omega
        have hm : Z.tmod n = ((Z.tmod n).toNat : Int) := by
          have := Int.tmod_nonneg n z1
          omega
        have hlt2 : Z.tmod n < n := Int.tmod_lt_of_pos _ (by omega)
        simp [-binV_ixor, hat, Hp.at_set _ hlt, hat', a3, hn0, hq, m1, m2, d1, r1, r2, q1, q2, w1, w2, w3, w4, w5, w6, w7, w8, w9, w10, w11, w12, w13, e1, hZ]
        exact ⟨(Z.tmod n).toNat, hm, .inl (by omega), f0⟩

end Go.Proofs.YtkdnijiipegabaaDoor.B
