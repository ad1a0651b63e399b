/- Deeds have texts of their own, in plain Lean. -/
import Derived.Test.YtkdnijiipegabaaDoorIc
namespace Go.Proofs.YtkdnijiipegabaaDoor.B
open Go.RowKit Go.Proofs
set_option linter.unusedVariables false
set_option linter.unusedSimpArgs false

abbrev ByteArray.ls (b : ByteArray) : List UInt8 := b.data.toList
theorem ls_app (a b : ByteArray) : (a ++ b).data.toList = a.data.toList ++ b.data.toList := by
  rw [ByteArray.data_append, Array.toList_append]
theorem ls_inj {a b : ByteArray} (h : a.data.toList = b.data.toList) : a = b := by
  cases a
  cases b
  simp only at h
  rw [Array.toList_inj.1 h]
/-- What digits say. -/
def valOf (l : List UInt8) : Nat := l.foldl (fun a b => a * 10 + (b.toNat - 48)) 0
theorem valOf_app (l : List UInt8) (b : UInt8) : valOf (l ++ [b]) = valOf l * 10 + (b.toNat - 48) := by
  unfold valOf
  rw [List.foldl_append]
  rfl
theorem dig_toNat {n : Nat} (h : n < 10) : (UInt8.ofNat (48 + n)).toNat = 48 + n := by
  rw [UInt8.toNat_ofNat']
  omega
theorem valOf_dec (u : Nat) : valOf (Lib.decDigits u) = u := by
  induction u using Nat.strongRecOn with
  | _ u ih =>
    rw [Lib.decDigits]
    split
    · rename_i h
      show 0 * 10 + ((UInt8.ofNat (48 + u)).toNat - 48) = u
      rw [dig_toNat h]
      omega
    · rename_i h
      rw [valOf_app, ih (u / 10) (by omega), dig_toNat (by omega)]
      omega
theorem dec_ls {n : Int} (h : 0 ≤ n) : (dec n).data.toList = Lib.decDigits n.toNat := by
  show (Lib.itoa n).toArray.toList = _
  unfold Lib.itoa
  rw [if_neg (by omega)]
theorem dec_inj {m n : Int} (hm : 0 ≤ m) (hn : 0 ≤ n) (h : (dec m).data.toList = (dec n).data.toList) : m = n := by
  rw [dec_ls hm, dec_ls hn] at h
  have := congrArg valOf h
  rw [valOf_dec, valOf_dec] at this
  omega
/-- Up to the first of a byte. -/
theorem cut_at {c : UInt8} : ∀ {a b x y : List UInt8}, (∀ u ∈ a, u ≠ c) → (∀ u ∈ b, u ≠ c) → (x = [] ∨ ∃ z, x = c :: z) → (y = [] ∨ ∃ z, y = c :: z) → a ++ x = b ++ y → a = b ∧ x = y
  | [], [], x, y, _, _, _, _, h => ⟨rfl, h⟩
  | [], b :: bs, x, y, _, hb, hx, _, h => by
    rcases hx with rfl | ⟨z, rfl⟩
    · cases h
    · injection h with h1 _
      exact absurd h1.symm (hb b (by simp))
  | a :: as', [], x, y, ha, _, _, hy, h => by
    rcases hy with rfl | ⟨z, rfl⟩
    · cases h
    · injection h with h1 _
      exact absurd h1 (ha a (by simp))
  | a :: as', b :: bs, x, y, ha, hb, hx, hy, h => by
    injection h with h1 h2
    obtain ⟨h3, h4⟩ := cut_at (fun u hu => ha u (by simp [hu])) (fun u hu => hb u (by simp [hu])) hx hy h2
    exact ⟨by rw [h1, h3], h4⟩
theorem keyOk_mem {k : ByteArray} (h : keyOk k = true) : ∀ u ∈ k.data.toList, 97 ≤ u.toNat ∧ u.toNat ≤ 100 := by
  simp only [keyOk, decide_eq_true_eq] at h
  intro u hu
  obtain ⟨i, hi, rfl⟩ := List.mem_iff_getElem.1 hu
  have hs : k.data.toList.length = k.size := Array.length_toList
  have := h.1 i (by omega)
  rw [bt_at (by omega)] at this
  have e : ∀ (h' : i < k.data.toList.length), k.data.toList[i] = k[i]'(by omega) := fun _ => Array.getElem_toList ..
  omega
theorem keyOk_space {k : ByteArray} (h : keyOk k = true) : ∀ u ∈ k.data.toList, u ≠ 32 := fun u hu e => by
  have := keyOk_mem h u hu
  rw [e] at this
  exact absurd this.1 (by decide)

def dTail (d : Dd) : List UInt8 := (if dKeyed d.kind = true then 32 :: 46 :: d.key.data.toList else []) ++ (if dCounted d.kind = true then 32 :: (dec d.num).data.toList else [])
theorem deedT_ls {d : Dd} (h : deedOk d = true) : (deedT d).data.toList = (dWord d.kind).data.toList ++ dTail d := by
  unfold deedT dTail
  rw [if_pos h, ls_app, ls_app, List.append_assoc]
  congr 1
  congr 1
  · split
    · rw [ls_app]; rfl
    · rfl
  · split
    · rw [ls_app]; rfl
    · rfl
theorem deedOk_kind {d : Dd} (h : deedOk d = true) : d.kind = 1 ∨ d.kind = 2 ∨ d.kind = 3 ∨ d.kind = 4 ∨ d.kind = 5 ∨ d.kind = 6 := by
  simp only [deedOk, Bool.and_eq_true, decide_eq_true_eq] at h
  omega
theorem dWord_space {k : Int} (h : k = 1 ∨ k = 2 ∨ k = 3 ∨ k = 4 ∨ k = 5 ∨ k = 6) : ∀ u ∈ (dWord k).data.toList, u ≠ 32 := by
  rcases h with rfl | rfl | rfl | rfl | rfl | rfl <;> decide
theorem dWord_inj {k l : Int} (h : k = 1 ∨ k = 2 ∨ k = 3 ∨ k = 4 ∨ k = 5 ∨ k = 6) (h' : l = 1 ∨ l = 2 ∨ l = 3 ∨ l = 4 ∨ l = 5 ∨ l = 6) (e : (dWord k).data.toList = (dWord l).data.toList) : k = l := by
  rcases h with rfl | rfl | rfl | rfl | rfl | rfl <;> rcases h' with rfl | rfl | rfl | rfl | rfl | rfl <;> first | rfl | exact absurd e (by decide)
theorem dTail_form (d : Dd) : dTail d = [] ∨ ∃ z, dTail d = 32 :: z := by
  unfold dTail
  split
  · exact .inr ⟨_, rfl⟩
  · split
    · exact .inr ⟨_, rfl⟩
    · exact .inl rfl
/-- Deeds of one text are one deed. -/
theorem deedT_inj {d e : Dd} (hd : deedOk d = true) (he : deedOk e = true) (h : deedT d = deedT e) : d = e := by
  have hl : (deedT d).data.toList = (deedT e).data.toList := by rw [h]
  rw [deedT_ls hd, deedT_ls he] at hl
  obtain ⟨h1, h2⟩ := cut_at (dWord_space (deedOk_kind hd)) (dWord_space (deedOk_kind he)) (dTail_form d) (dTail_form e) hl
  have hk := dWord_inj (deedOk_kind hd) (deedOk_kind he) h1
  obtain ⟨k, a, m⟩ := d
  obtain ⟨l, b, n⟩ := e
  simp only at hk
  subst hk
  simp only [deedOk, Bool.and_eq_true, Bool.or_eq_true, decide_eq_true_eq] at hd he
  obtain ⟨-, ⟨⟨ha, hm⟩, ha2⟩, hm2⟩ := hd
  obtain ⟨-, ⟨⟨hb, hn⟩, hb2⟩, hn2⟩ := he
  unfold dTail at h2
  simp only at h2
  have key : a = b ∧ m = n := by
    cases hK : dKeyed k with
    | true =>
      cases hC : dCounted k with
      | true =>
        simp only [hK, hC, if_true, List.cons_append] at h2
        injection h2 with _ h3
        injection h3 with _ h4
        obtain ⟨h5, h6⟩ := cut_at (keyOk_space ha) (keyOk_space hb) (.inr ⟨_, rfl⟩) (.inr ⟨_, rfl⟩) h4
        injection h6 with _ h7
        exact ⟨ls_inj h5, dec_inj hm.1 hn.1 h7⟩
      | false =>
        simp only [hK, hC, if_true, Bool.false_eq_true, if_false, List.append_nil] at h2
        injection h2 with _ h3
        injection h3 with _ h4
        rw [hC] at hm2 hn2
        simp only [Bool.false_eq_true, false_or] at hm2 hn2
        exact ⟨ls_inj h4, by rw [hm2, hn2]⟩
    | false =>
      rw [hK] at ha2 hb2
      simp only [Bool.false_eq_true, false_or] at ha2 hb2
      refine ⟨by rw [ha2, hb2], ?_⟩
      cases hC : dCounted k with
      | true =>
        simp only [hK, hC, if_true, Bool.false_eq_true, if_false, List.nil_append] at h2
        injection h2 with _ h3
        exact dec_inj hm.1 hn.1 h3
      | false =>
        rw [hC] at hm2 hn2
        simp only [Bool.false_eq_true, false_or] at hm2 hn2
        rw [hm2, hn2]
  rw [key.1, key.2]
theorem deedT_nil {d : Dd} (h : deedT d ≠ ⟨#[]⟩) : deedOk d = true := by
  cases hd : deedOk d with
  | true => rfl
  | false =>
    exfalso
    apply h
    unfold deedT
    rw [hd]
    rfl

end Go.Proofs.YtkdnijiipegabaaDoor.B
