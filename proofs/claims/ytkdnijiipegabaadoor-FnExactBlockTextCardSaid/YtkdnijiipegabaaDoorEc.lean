/- The reference's functions for keys, runs and texts. -/
import Derived.Test.YtkdnijiipegabaaDoorEb
namespace Go.Proofs.YtkdnijiipegabaaDoor.B
open Go.RowKit Go.Proofs
set_option linter.unusedVariables false
set_option linter.unusedSimpArgs false
variable {E : Env}

/-- Strings that are one's own, made since. -/
abbrev OwnS := OwnM (α := ByteArray) 1 9 strRow
theorem strRow_map (xs : List ByteArray) : xs.map strRow = xs.map fun s => [.str s] := rfl
theorem OwnS.strs {H0 H : Hp} {v : AV} {xs : List ByteArray} (h : OwnS H0 H v xs) : Strs H v xs := h.1.rows
theorem OwnM.strs {ety : Nat} {H0 H : Hp} {v : AV} {xs : List ByteArray} (h : OwnM 1 ety strRow H0 H v xs) : Strs H v xs := h.1.rows
theorem OwnM.ents {ety : Nat} {H0 H : Hp} {v : AV} {xs : List Ent} (h : OwnM 4 ety entRow H0 H v xs) : Ents H v xs := h.1.rows
theorem Strs.at {H : Hp} {o n e : Nat} {ro : Bool} {xs : List ByteArray} (h : H.at o = some ⟨xs.map strRow, 1, e, ro⟩) (hn : n = xs.length) : Strs H (.sl o 0 n) xs := by
  subst hn
  have := Rows.whole h
  simp only [List.length_map] at this
  exact this

/-- How far a join has come. -/
def joinS (xs ys : List Ent) : Nat → Nat × List Ent
  | 0 => (0, [])
  | k + 1 =>
    let s := joinS xs ys k
    match ys[k]? with
    | some b => (s.1 + ((xs.drop s.1).takeWhile (fun a => ahead a b)).length, s.2 ++ (xs.drop s.1).takeWhile (fun a => ahead a b) ++ [b])
    | none => s
theorem joinS_le (xs ys : List Ent) : ∀ k, (joinS xs ys k).1 ≤ xs.length ∧ (joinS xs ys k).2.length = (joinS xs ys k).1 + min k ys.length
  | 0 => by simp [joinS]
  | k + 1 => by
    obtain ⟨h1, h2⟩ := joinS_le xs ys k
    simp only [joinS]
    split
    · rename_i b hb
      have hk : k < ys.length := (List.getElem?_eq_some_iff.1 hb).1
      have h3 : ((xs.drop (joinS xs ys k).1).takeWhile (fun a => ahead a b)).length ≤ (xs.drop (joinS xs ys k).1).length := (List.takeWhile_sublist _).length_le
      simp only [List.length_drop] at h3
      simp only [List.length_append, List.length_singleton, h2]
      omega
    · rename_i hb
      have hk : ys.length ≤ k := List.getElem?_eq_none_iff.1 hb
      omega
theorem joinS_eq : ∀ (ys xs : List Ent), (joinS xs ys ys.length).2 ++ xs.drop (joinS xs ys ys.length).1 = joinL xs ys := by
  have key : ∀ (ys xs : List Ent) (c : List Ent) (n : Nat), True := fun _ _ _ _ => trivial
  have gen : ∀ (k : Nat) (ys xs : List Ent), k ≤ ys.length → (joinS xs ys k).2 ++ joinL (xs.drop (joinS xs ys k).1) (ys.drop k) = joinL xs ys := by
    intro k
    induction k with
    | zero => intro ys xs _; simp [joinS]
    | succ k ih =>
      intro ys xs hk
      have h0 := ih ys xs (by omega)
      have hb : ys[k]? = some ys[k] := List.getElem?_eq_getElem (by omega)
      rw [List.drop_eq_getElem_cons (show k < ys.length by omega)] at h0
      simp only [joinL] at h0
      simp only [joinS, hb]
      rw [← h0]
      simp only [List.append_assoc, List.singleton_append]
      congr 2
      rw [← List.drop_drop]
      have e : ∀ (l : List Ent) (p : Ent → Bool), l.drop (l.takeWhile p).length = l.dropWhile p := by
        intro l p
        calc l.drop (l.takeWhile p).length = (l.takeWhile p ++ l.dropWhile p).drop (l.takeWhile p).length := by rw [List.takeWhile_append_dropWhile]
          _ = l.dropWhile p := List.drop_left
      rw [e]
  intro ys xs
  have := gen ys.length ys xs (Nat.le_refl _)
  simpa [joinL] using this
theorem joinL_len (xs ys : List Ent) : (joinL xs ys).length = xs.length + ys.length := by
  rw [← joinS_eq]
  obtain ⟨h1, h2⟩ := joinS_le xs ys ys.length
  simp [h2]
  omega

abbrev OwnE := OwnM (α := Ent) 4 56 entRow
theorem twl_step {xs : List Ent} {p : Ent → Bool} {j : Nat} (hj : j < xs.length) (hall : ∀ e ∈ xs.take j, p e = true) (hp : p xs[j] = true) : ∀ e ∈ xs.take (j + 1), p e = true := by
  rw [List.take_succ_eq_append_getElem hj]
  intro e he
  rcases List.mem_append.1 he with h | h
  · exact hall e h
  · rw [List.mem_singleton.1 h]; exact hp
theorem twl_end {xs : List Ent} {p : Ent → Bool} {j : Nat} (hall : ∀ e ∈ xs.take j, p e = true) (hp : ∀ h : j < xs.length, p xs[j] = false) : xs.takeWhile p = xs.take j := by
  have h1 : ∀ (l m : List Ent), (∀ e ∈ l, p e = true) → (l ++ m).takeWhile p = l ++ m.takeWhile p := by
    intro l m hl
    induction l with
    | nil => rfl
    | cons x l ih =>
      rw [List.cons_append, List.takeWhile_cons, hl x (by simp), ih (fun e he => hl e (List.mem_cons_of_mem _ he))]
      rfl
  conv => lhs; rw [← List.take_append_drop j xs]
  rw [h1 _ _ hall]
  rcases Nat.lt_or_ge j xs.length with hj | hj
  · rw [List.drop_eq_getElem_cons hj, List.takeWhile_cons, hp hj]
    simp
  · rw [List.drop_of_length_le hj]
    simp

theorem sumStep (n : Int) (h : 0 ≤ n ∧ n < 9973) (b : Int) (hb : 0 ≤ b ∧ b < 256) : IntKind.i64.wrap (IntKind.i64.wrap (IntKind.i64.wrap (n * 31) + b) + 1) = n * 31 + b + 1 := by
  rw [wrap64 (n := n * 31) (by omega) (by omega), wrap64 (n := n * 31 + b) (by omega) (by omega), wrap64 (by omega) (by omega)]

/-- The sum of the first bytes. -/
def sumTo (s : ByteArray) : Nat → Int
  | 0 => 7
  | i + 1 => (sumTo s i * 31 + bt s i + 1) % 9973
theorem sumTo_bound (s : ByteArray) : ∀ i, 0 ≤ sumTo s i ∧ sumTo s i < 9973
  | 0 => by simp [sumTo]
  | i + 1 => by simp only [sumTo]; omega
theorem bt_at {s : ByteArray} {i : Nat} (h : i < s.data.toList.length) : bt s i = (s.data.toList[i]).toNat := by
  have h2 : i < s.data.size := by simpa using h
  have e : s[i]? = some s.data[i] := by
    rw [getElem?_pos s i h2]
    rfl
  simp only [bt, Int.toNat_natCast, e, Option.map_some, Option.getD_some]
  simp
theorem sumTo_eq (s : ByteArray) : sumTo s s.size = sumB s := by
  have key : ∀ i, i ≤ s.data.toList.length → sumTo s i = (s.data.toList.take i).foldl (fun n b => (n * 31 + (b.toNat : Int) + 1) % 9973) 7 := by
    intro i
    induction i with
    | zero => intro _; simp [sumTo]
    | succ i ih =>
      intro hi
      rw [List.take_succ_eq_append_getElem (by omega), List.foldl_append]
      simp only [List.foldl_cons, List.foldl_nil, sumTo]
      rw [ih (by omega), bt_at (by omega)]
  have hl : s.data.toList.length = s.size := Array.length_toList
  have := key s.size (by omega)
  rw [this, List.take_of_length_le (by omega)]
  rfl
theorem sumB_bound (s : ByteArray) : 0 ≤ sumB s ∧ sumB s < 9973 := by
  rw [← sumTo_eq]
  exact sumTo_bound s _

theorem specSum_ok (s : ByteArray) (H : Hp) (hk : s.size < 4611686018427387904) : AC Tryd.prog E 42 [.str s] H (fun v H' => v = .int .i64 (sumB s) ∧ H' = H) := by
  refine AC_byp (tC_le tab2_ok) h_spec_BlockSum (by simp) ?_
  simp [c_spec_BlockSum]
  refine W_for (fun m t H' => ∃ i : Nat, i + m = s.size ∧ t 0 = .str s ∧ t 3 = .int .i64 (sumTo s i) ∧ t 4 = .int .i64 i ∧ H' = H) s.size ?_ (tC_mono AC_mono) ?_
  · exact ⟨0, by simp [sumTo]⟩
  rintro m t H' ⟨i, him, h0, h3, h4, rfl⟩
  simp [h0, h3, h4]
  refine c_split (fun hq => ?_) (fun hq => ?_) <;> simp at hq
  · have hw := wrapN (i := i) (by omega)
    have hs := sumStep _ (sumTo_bound s i) _ (u8_le s i)
    have hb := sumTo_bound s i
    have hu := u8_le s i
    have ht : (sumTo s i * 31 + bt s i + 1).tmod 9973 = (sumTo s i * 31 + bt s i + 1) % 9973 := Int.tmod_eq_emod_of_nonneg (by omega)
    simp [h0, h3, h4, hq, wrap_bt, hs, ht, hw]
    exact ⟨m - 1, by omega, i + 1, by omega, rfl, rfl⟩
  · have : i = s.size := by omega
    subst this
    simp [h3, sumTo_eq]
theorem implSum_ok (s : ByteArray) (H : Hp) (hk : s.size < 4611686018427387904) : AC Tryd.prog E 52 [.str s] H (fun v H' => v = .int .i64 (sumB s) ∧ H' = H) := by
  refine AC_byp (tC_le tab2_ok) h_impl_BlockSum (by simp) ?_
  simp [c_impl_BlockSum]
  refine W_for (fun m t H' => ∃ i : Nat, i + m = s.size ∧ t 0 = .str s ∧ t 3 = .int .i64 (sumTo s i) ∧ t 6 = .int .i64 s.size ∧ t 7 = .int .i64 i ∧ H' = H) s.size ?_ (tC_mono AC_mono) ?_
  · exact ⟨0, by simp [sumTo]⟩
  rintro m t H' ⟨i, him, h0, h3, h6, h7, rfl⟩
  simp [h0, h3, h6, h7]
  refine c_split (fun hq => ?_) (fun hq => ?_) <;> simp at hq
  · have hw := wrapN (i := i) (by omega)
    have hs := sumStep _ (sumTo_bound s i) _ (u8_le s i)
    rw [Int.mul_comm] at hs
    have hb := sumTo_bound s i
    have hu := u8_le s i
    have ht : (31 * sumTo s i + bt s i + 1).tmod 9973 = (sumTo s i * 31 + bt s i + 1) % 9973 := by
      rw [Int.mul_comm]
      exact Int.tmod_eq_emod_of_nonneg (by omega)
    simp [h0, h3, h6, h7, hq, wrap_bt, hs, ht, hw]
    exact ⟨m - 1, by omega, i + 1, by omega, rfl, rfl⟩
  · have : i = s.size := by omega
    subst this
    simp [h3, sumTo_eq]

theorem dec_lt {n : Int} (h : n < 0) : dec n = lit1 45 ++ dec (-n) := by
  simp only [dec, Lib.itoa, if_pos h, if_neg (show ¬ -n < 0 by omega)]
  have : (-n).toNat = n.natAbs := by omega
  rw [this]
  rfl
theorem dec_small {n : Int} (h0 : 0 ≤ n) (h : n < 10) : dec n = lit1 (UInt8.ofNat (48 + n.toNat)) := by
  simp only [dec, Lib.itoa, if_neg (show ¬ n < 0 by omega)]
  rw [Lib.decDigits, dif_pos (by omega)]
  rfl
theorem dec_big {n : Int} (h0 : 10 ≤ n) : dec n = dec (n / 10) ++ lit1 (UInt8.ofNat (48 + (n % 10).toNat)) := by
  simp only [dec, Lib.itoa, if_neg (show ¬ n < 0 by omega), if_neg (show ¬ n / 10 < 0 by omega)]
  rw [Lib.decDigits, dif_neg (by omega)]
  have e1 : n.toNat / 10 = (n / 10).toNat := by omega
  have e2 : n.toNat % 10 = (n % 10).toNat := by omega
  rw [e1, e2]
  have : ∀ (a b : List UInt8), (⟨(a ++ b).toArray⟩ : ByteArray) = ⟨a.toArray⟩ ++ ⟨b.toArray⟩ := by
    intro a b
    apply ByteArray.ext
    simp
  exact this _ _
theorem dec_size (n : Int) (h : -9223372036854775808 ≤ n ∧ n < 9223372036854775808) : (dec n).size ≤ 20 := by
  have pos : ∀ (k : Nat) (n : Int), 0 ≤ n → n < 10 ^ (k + 1) → (dec n).size ≤ k + 1 := by
    intro k
    induction k with
    | zero =>
      intro n h0 h1
      rw [dec_small h0 (by simpa using h1)]
      exact Nat.le_refl _
    | succ k ih =>
      intro n h0 h1
      by_cases h : n < 10
      · rw [dec_small h0 h]
        show 1 ≤ _
        omega
      · rw [dec_big (by omega), ByteArray.size_append]
        have := ih (n / 10) (by omega) (by
          rw [Int.pow_succ] at h1
          omega)
        have e : (lit1 (UInt8.ofNat (48 + (n % 10).toNat))).size = 1 := rfl
        omega
  by_cases h0 : n < 0
  · rw [dec_lt h0, ByteArray.size_append]
    have := pos 18 (-n) (by omega) (by omega)
    have e : (lit1 45).size = 1 := rfl
    omega
  · have := pos 18 n (by omega) (by omega)
    omega

theorem strOf1 (n : Int) (h0 : 0 ≤ n) (h1 : n < 10) : strOf [IntKind.u8.wrap (IntKind.i64.wrap (48 + n))] = lit1 (UInt8.ofNat (48 + n.toNat)) := by
  have e : IntKind.u8.wrap (IntKind.i64.wrap (48 + n)) = 48 + n := by
    rw [wrap64 (by omega) (by omega), IntKind.wrap_u8]
    omega
  rw [e]
  have : (48 + n).toNat = 48 + n.toNat := by omega
  simp only [strOf, List.foldl_cons, List.foldl_nil, this]
  rfl

theorem l6Dec_pos : ∀ (k : Nat) (n : Int) (H : Hp), n.toNat < k → 0 ≤ n ∧ n < 9223372036854775808 → AC Tryd.prog E 19 [.int .i64 n] H (fun v H' => v = .str (dec n) ∧ H' = H) := by
  intro k
  induction k with
  | zero => intro n H h; omega
  | succ k ih =>
    intro n H hk hn
    refine AC_byp (tC_le tab2_ok) h_spec_l6Dec (by simp) ?_
    have a1 : ¬ n < -9223372036854775807 := by omega
    have a2 : ¬ n < 0 := by omega
    simp [c_spec_l6Dec, a1, a2]
    refine c_split (fun hq3 => ?_) (fun hq3 => ?_) <;> simp at hq3 <;> simp
    · rw [strOf1 n hn.1 hq3]
      exact (dec_small hn.1 hq3).symm
    · have e1 : IntKind.i64.wrap (n.tdiv 10) = n / 10 := by
        rw [Int.tdiv_eq_ediv_of_nonneg hn.1]
        exact wrap64 (by omega) (by omega)
      have e2 : n.tmod 10 = n % 10 := Int.tmod_eq_emod_of_nonneg hn.1
      have e3 := strOf1 (n % 10) (by omega) (by omega)
      have e4 := dec_size (n / 10) (by omega)
      have e5 : (lit1 (UInt8.ofNat (48 + (n % 10).toNat))).size = 1 := rfl
      rw [e1, e2]
      refine ⟨cg_use (ih (n / 10) _ (by omega) (by omega)) ?_, cg_use (ih (n / 10) _ (by omega) (by omega)) ?_⟩
      · simp [e3, e5, -UInt8.ofNat_add]
        exact ⟨by omega, (dec_big hq3).symm⟩
      · simp [e3, e5, -UInt8.ofNat_add]
        exact ⟨by omega, (dec_big hq3).symm⟩
theorem l6Dec_ok (n : Int) (H : Hp) (hn : -9223372036854775808 ≤ n ∧ n < 9223372036854775808) : AC Tryd.prog E 19 [.int .i64 n] H (fun v H' => v = .str (dec n) ∧ H' = H) := by
  by_cases h0 : 0 ≤ n
  · exact l6Dec_pos (n.toNat + 1) n H (by omega) ⟨h0, hn.2⟩
  · refine AC_byp (tC_le tab2_ok) h_spec_l6Dec (by simp) ?_
    simp [c_spec_l6Dec]
    refine c_split (fun hq => ?_) (fun hq => ?_) <;> simp at hq <;> simp
    · have : n = -9223372036854775808 := by omega
      subst this
      decide +kernel
    · have a2 : n < 0 := by omega
      have hw : IntKind.i64.wrap (-n) = -n := wrap64 (by omega) (by omega)
      have e4 := dec_size (-n) (by omega)
      simp [a2, hw]
      refine cg_use (l6Dec_pos ((-n).toNat + 1) (-n) _ (by omega) (by omega)) ?_
      have e5 : (⟨#[45]⟩ : ByteArray).size = 1 := rfl
      simp [e5]
      exact ⟨by omega, (dec_lt a2).symm⟩

/-- An entry that a machine can hold. -/
def I64 (n : Int) : Prop := -9223372036854775808 ≤ n ∧ n < 9223372036854775808
def Fit (e : Ent) : Prop := e.key.size < 4611686018427387904 ∧ I64 e.val ∧ I64 e.time
def Fits (es : List Ent) : Prop := ∀ e ∈ es, Fit e
theorem Fits.short {es : List Ent} (h : Fits es) : Short es := fun e he => (h e he).1
theorem entOk_fit {e : Ent} (h : entOk e = true) : Fit e ∧ e.key.size ≤ 5 := by
  simp only [entOk, keyOk, Bool.and_eq_true, decide_eq_true_eq] at h
  exact ⟨⟨by omega, ⟨by omega, by omega⟩, by omega, by omega⟩, h.1.1.1.2⟩
theorem runOk_fits {r : List Ent} (h : runOk r = true) : Fits r ∧ r.length ≤ 40 ∧ ∀ e ∈ r, e.key.size ≤ 5 := by
  simp only [runOk, decide_eq_true_eq] at h
  have key : ∀ e ∈ r, entOk e = true := by
    intro e he
    obtain ⟨i, hi, rfl⟩ := List.mem_iff_getElem.1 he
    exact (h.1 i hi).1
  exact ⟨fun e he => (entOk_fit (key e he)).1, h.2, fun e he => (entOk_fit (key e he)).2⟩
theorem entText_size {e : Ent} (h : Fit e) : (entText e).size ≤ e.key.size + 43 := by
  have h1 := dec_size e.val h.2.1
  have h2 := dec_size e.time h.2.2
  have e1 : ∀ c, (lit1 c).size = 1 := fun _ => rfl
  unfold entText
  split <;> simp only [ByteArray.size_append, e1] <;> omega

theorem l21Entry_ok (e : Ent) (H : Hp) (he : Fit e) : AC Tryd.prog E 43 [.ag (entRow e)] H (fun v H' => v = .str (entText e) ∧ H' = H) := by
  refine AC_byp (tC_le tab2_ok) h_spec_l21Entry (by simp) ?_
  have h1 := dec_size e.val he.2.1
  have h2 := dec_size e.time he.2.2
  have e1 : ∀ c : UInt8, (⟨#[c]⟩ : ByteArray).size = 1 := fun _ => rfl
  have h0 := he.1
  simp [c_spec_l21Entry, entRow, e1]
  refine c_split (fun hq => ?_) (fun hq => ?_) <;> simp [e1]
  · refine ⟨by omega, cg_use (l6Dec_ok e.time _ he.2.2) ?_⟩
    simp [e1]
    refine ⟨by omega, by omega, ?_⟩
    simp [entText, hq, lit1]
  · refine ⟨by omega, cg_use (l6Dec_ok e.val _ he.2.1) ?_⟩
    simp [e1]
    refine ⟨by omega, by omega, ?_⟩
    refine cg_use (l6Dec_ok e.time _ he.2.2) ?_
    simp [e1]
    refine ⟨by omega, by omega, ?_⟩
    simp [entText, hq, lit1]

theorem runText_take (r : List Ent) {i : Nat} (h : i < r.length) : runText (r.take (i + 1)) = runText (r.take i) ++ entText r[i] := by
  unfold runText
  rw [List.take_succ_eq_append_getElem h, List.foldl_append]
  rfl
theorem runText_size (r : List Ent) (h : ∀ e ∈ r, Fit e ∧ e.key.size ≤ 1000) : ∀ i, i ≤ r.length → (runText (r.take i)).size ≤ 1043 * i
  | 0, _ => by simp [runText]
  | i + 1, hi => by
    have := runText_size r h i (by omega)
    rw [runText_take r (by omega), ByteArray.size_append]
    have h1 := h r[i] (List.getElem_mem (by omega))
    have h2 := entText_size h1.1
    omega
theorem l21Run_ok (a : AV) (r : List Ent) (H : Hp) (ha : Ents H a r) (hr : ∀ e ∈ r, Fit e ∧ e.key.size ≤ 1000) (hn : r.length < 1099511627776) : AC Tryd.prog E 33 [a] H (fun v H' => v = .str (runText r) ∧ H' = H) := by
  refine AC_byp (tC_le tab2_ok) h_spec_l21Run (by simp) ?_
  have l1 := ha.len
  simp [c_spec_l21Run]
  refine W_for (fun m t H' => ∃ i : Nat, i + m = r.length ∧ t 0 = a ∧ t 3 = .str (runText (r.take i)) ∧ t 4 = .int .i64 i ∧ H' = H) r.length ?_ (tC_mono AC_mono) ?_
  · exact ⟨0, by simp, by simp, by simp; rfl, by simp, rfl⟩
  rintro m t H' ⟨i, him, h0, h3, h4, rfl⟩
  simp [h0, h3, h4, l1, ha.slc]
  refine c_split (fun hq => ?_) (fun hq => ?_) <;> simp at hq
  · have hw := wrapN (i := i) (by omega)
    obtain ⟨o1, i1, ob1, rfl, a1, a2, a3⟩ := ha.get hq
    have hf := hr r[i] (List.getElem_mem hq)
    have hs := runText_size r hr i (by omega)
    have hs2 := entText_size hf.1
    have ht := runText_take r hq
    simp [h0, h3, h4, hq, a1, a2, a3]
    refine cg_use (l21Entry_ok r[i] _ hf.1) ?_
    simp [h0, h3, h4, hw, ← ht]
    exact ⟨by omega, m - 1, by omega, i + 1, by omega, rfl, rfl⟩
  · have : i = r.length := by omega
    subst this
    simp [h3]

end Go.Proofs.YtkdnijiipegabaaDoor.B
