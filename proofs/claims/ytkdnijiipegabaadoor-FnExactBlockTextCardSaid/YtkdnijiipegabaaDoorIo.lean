/- The program's blocks: texts. -/
import Derived.Test.YtkdnijiipegabaaDoorIn
import Derived.Test.YtkdnijiipegabaaDoorIm
import Derived.Test.YtkdnijiipegabaaDoorIb
import Derived.Test.YtkdnijiipegabaaDoorHa
namespace Go.Proofs.YtkdnijiipegabaaDoor.B
open Go.RowKit Go.Proofs
set_option linter.unusedVariables false
set_option linter.unusedSimpArgs false
variable {E : Env}

theorem seal_ok (hE : Tab10 E) (t : ByteArray) (H : Hp) (ht : t.size < 1099511627776) : AC Tryd.prog E 47 [.str t] H (fun v H' => v = .str (sealT t) ∧ H' = H) := by
  refine AC_byp (tC_le tab2_ok) h_impl_seal (by simp) ?_
  simp [c_impl_seal]
  have h1 : (ByteArray.mk #[33]).size = 1 := rfl
  refine ⟨by omega, ?_⟩
  refine cg_use (implSum_ok t H (by omega)) ?_
  simp
  refine cg_use (Itoa_ok hE (sumB t) H (by have := sumB_bound t; omega)) ?_
  have h2 := dec_size (sumB t) (by have := sumB_bound t; omega)
  simp [sealT, lit1]
  omega
theorem bytesOf_nil : bytesOf ⟨#[]⟩ = [] := rfl
/-- A builder of one's own that holds a text. -/
def MyB (H G : Hp) (o : Nat) (s : ByteArray) : Prop := HLe H G ∧ ∃ x, Bld G o x (bytesOf s) ∧ ∀ y, x.of y → H.length ≤ y
theorem MyB.app {H G : Hp} {o : Nat} {s : ByteArray} (h : MyB H G o s) (l : Hp) : MyB H (G ++ l) o s := by
  obtain ⟨h1, x, ⟨a, b1, b2, b3, b4⟩, h3⟩ := h
  exact ⟨h1.app l, x, ⟨a, (HLe.self G l).2 _ _ b1, b2, b3.fr ((HLe.self G l).fr (S := fun _ => False)) (fun _ _ h => h), b4⟩, h3⟩
theorem MyB.write {H G : Hp} {o : Nat} {s t : ByteArray} {n : Nat} {ob : Ob} (h : MyB H G o s) (ho : H.length ≤ o) (hl : s.size + t.size ≤ 140737488355328) (hn : G.at n = some ob) (hne : n ≠ o) (he : ob.esz ≠ 1) :
    AC Tryd.prog E 46 [.pt o 0 0, .str t] G (fun u G' => u = .tu [.int .i64 t.size, .nili] ∧ MyB H G' o (s ++ t) ∧ G'.at n = some ob) := by
  obtain ⟨h1, x, hb, h3⟩ := h
  refine (WriteString_ok o x _ t G hb (by rw [bytesOf_len]; exact hl)).mono ?_
  rintro u G' ⟨rfl, x', hb', hf, hx'⟩
  have hlen := h1.1
  obtain ⟨a, b1, b2, b3, b4⟩ := hb
  refine ⟨rfl, ⟨h1.fr_le hf (fun y hy => ?_), x', by rw [bytesOf_app]; exact hb', fun y hy => ?_⟩, hf.2 _ _ (fun hh => ?_) hn⟩
  · rcases hy with hy | hy
    · omega
    · exact h3 y hy
  · rcases hx' y hy with hh | hh
    · exact h3 y hh
    · omega
  · rcases hh with hh | hh
    · exact hne hh
    · exact bufA_ne b3 hn he hh
theorem blockText_ok (hE : Tab10 E) (a : AV) (r : List Ent) (H : Hp) (ha : Ents H a r) (hr : runOk r = true) : AC Tryd.prog E 36 [a] H (fun v H' => v = .str (sealT (runText r)) ∧ H' = H) := by
  refine AC_byp (tC_le tab2_ok) h_impl_blockText (by simp) ?_
  obtain ⟨f1, f2, f3⟩ := runOk_fits hr
  have l1 := ha.len
  simp [c_impl_blockText, l1, ha.slc]
  obtain ⟨H1, hH1⟩ : ∃ H1 : Hp, H1 = H ++ [some ⟨[[.nilp, .nils]], 2, 67, false⟩] := ⟨_, rfl⟩
  have hle1 : HLe H H1 := by rw [hH1]; exact HLe.self _ _
  have b0 : H1.at H.length = some ⟨[[.nilp, .nils]], 2, 67, false⟩ := by rw [hH1]; simp
  rw [← hH1]
  have hsz := runText_size r (fun e he => ⟨f1 e he, by have := f3 e he; omega⟩)
  refine W_for (fun m t H' => ∃ i : Nat, i + m = r.length ∧ t 3 = .pt H.length 0 0 ∧ t 6 = a ∧ t 7 = .int .i64 r.length ∧ t 8 = .int .i64 i ∧ MyB H H' H.length (runText (r.take i))) r.length ?_ (tC_mono AC_mono) ?_
  · exact ⟨0, by omega, by simp, by simp, by simp, by simp, hle1, .nils, ⟨.nilp, b0, .inl rfl, .inl ⟨rfl, by simp [runText]; rfl⟩, fun _ => rfl⟩, fun y hy => hy.elim⟩
  rintro m t H' ⟨i, him, h3, h6, h7, h8, hb⟩
  have hle := hb.1
  simp [h3, h6, h7, h8]
  refine c_split (fun hq => ?_) (fun hq => ?_) <;> simp at hq
  · have hw := wrapN (i := i) (by omega)
    obtain ⟨o1, i1, ob1, rfl, a1, a2, a3⟩ := (ha.le hle).get hq
    have u1 := Hp.at_lt a1
    have hsi := hsz i (by omega)
    have htk := runText_take r hq
    obtain ⟨e, he⟩ : ∃ e, e = r[i] := ⟨_, rfl⟩
    have hfe := f1 e (by rw [he]; exact List.getElem_mem _)
    have hke := f3 e (by rw [he]; exact List.getElem_mem _)
    rw [← he] at a3 htk
    obtain ⟨G, hG⟩ : ∃ G : Hp, G = H' ++ [some ⟨[[.str e.key, .int .i64 e.val, .bool e.gone, .int .i64 e.time]], 4, 56, false⟩] := ⟨_, rfl⟩
    have bG : G.at H'.length = some ⟨[[.str e.key, .int .i64 e.val, .bool e.gone, .int .i64 e.time]], 4, 56, false⟩ := by rw [hG]; simp
    have hlH := hle.1
    have hol : H.length < H'.length := by
      obtain ⟨_, x, ⟨_, b1, _⟩, _⟩ := hb
      exact Hp.at_lt b1
    have hbG : MyB H G H.length (runText (r.take i)) := by rw [hG]; exact hb.app _
    have hd1 := dec_size e.val hfe.2.1
    have hd2 := dec_size e.time hfe.2.2
    have e1 : ∀ c : UInt8, (⟨#[c]⟩ : ByteArray).size = 1 := fun _ => rfl
    have hne : H'.length ≠ H.length := by omega
    have en1 : (⟨[[.str e.key, .int .i64 e.val, .bool e.gone, .int .i64 e.time]], 4, 56, false⟩ : Ob).esz ≠ 1 := by simp
    obtain ⟨s, hs⟩ : ∃ s, s = runText (r.take i) := ⟨_, rfl⟩
    rw [← hs] at hbG hsi htk
    have fin : ∀ (G9 : Hp), MyB H G9 H.length (runText (r.take (i + 1))) → ∃ k', k' < m ∧ ∃ i1 : Nat, i1 + k' = r.length ∧ ((i + 1 : Nat) : Int) = i1 ∧ MyB H G9 H.length (runText (r.take i1)) := fun G9 h => ⟨m - 1, by omega, i + 1, by omega, rfl, h⟩
    simp [h3, h6, h7, h8, hq, a1, a2, a3, Hp.at_app, u1, ← hG, bG]
    refine cg_ex (hbG.write (t := e.key) (Nat.le_refl _) (by omega) bG hne en1) ?_
    rintro v G1 ⟨rfl, hb1, bG1⟩
    simp [h3, h6, h7, h8, bG1]
    cases hgo : e.gone with
    | true =>
      rw [hgo] at bG1
      simp [h3, h6, h7, h8, bG1, e1]
      refine cg_use (Itoa_ok hE e.time _ hfe.2.2) ?_
      simp [h3, h6, h7, h8, bG1, e1]
      refine ⟨by omega, by omega, cg_ex (hb1.write (t := ⟨#[45]⟩ ++ dec e.time ++ ⟨#[59]⟩) (Nat.le_refl _) (by simp only [ByteArray.size_append, e1]; omega) bG1 hne (by simp)) ?_⟩
      rintro v G2 ⟨rfl, hb2, bG2⟩
      simp [h3, h6, h7, h8, hw]
      refine fin G2 ?_
      have et : entText e = e.key ++ (⟨#[45]⟩ ++ dec e.time ++ ⟨#[59]⟩) := by
        unfold entText
        rw [if_pos hgo]
        simp only [lit1, ByteArray.append_assoc]
      rw [htk, et, ← ByteArray.append_assoc]
      exact hb2
    | false =>
      rw [hgo] at bG1
      simp [h3, h6, h7, h8, bG1, e1]
      refine cg_use (Itoa_ok hE e.val _ hfe.2.1) ?_
      simp [h3, h6, h7, h8, bG1, e1]
      refine ⟨by omega, cg_ex (hb1.write (t := ⟨#[61]⟩ ++ dec e.val) (Nat.le_refl _) (by simp only [ByteArray.size_append, e1]; omega) bG1 hne (by simp)) ?_⟩
      rintro v G2 ⟨rfl, hb2, bG2⟩
      simp [h3, h6, h7, h8, bG2, e1]
      refine cg_use (Itoa_ok hE e.time _ hfe.2.2) ?_
      simp [h3, h6, h7, h8, bG2, e1]
      refine ⟨by omega, by omega, cg_ex (hb2.write (t := ⟨#[45]⟩ ++ dec e.time ++ ⟨#[59]⟩) (Nat.le_refl _) (by simp only [ByteArray.size_append, e1]; omega) bG2 hne (by simp)) ?_⟩
      rintro v G3 ⟨rfl, hb3, bG3⟩
      simp [h3, h6, h7, h8, hw]
      refine fin G3 ?_
      have et : entText e = e.key ++ (⟨#[61]⟩ ++ dec e.val) ++ (⟨#[45]⟩ ++ dec e.time ++ ⟨#[59]⟩) := by
        unfold entText
        rw [if_neg (by rw [hgo]; decide)]
        simp only [lit1, ByteArray.append_assoc]
      rw [htk, et]
      simp only [ByteArray.append_assoc] at hb3 ⊢
      exact hb3
  · have hie : i = r.length := by omega
    subst hie
    rw [List.take_length] at hb
    have hsi := hsz r.length (Nat.le_refl _)
    rw [List.take_length] at hsi
    obtain ⟨_, x, hbx, hxa⟩ := hb
    simp [h3, h6, h7, h8]
    refine cg_ex (BString_ok H.length x (runText r) H' hbx (by omega)) ?_
    rintro v G1 ⟨rfl, hF⟩
    simp
    refine cg_use (seal_ok hE (runText r) G1 (by omega)) ?_
    simp
    exact hle.fr_le hF hxa

theorem implBlockText_ok (hE : Tab10 E) (a : AV) (r : List Ent) (H : Hp) (ha : Ents H a r) (hs : Short r) (hn : r.length < 1099511627776) : AC Tryd.prog E 14 [a] H (fun v H' => v = .str (blockT r) ∧ H' = H) := by
  refine AC_byp (tC_le tab2_ok) h_impl_BlockText (by simp) ?_
  simp [c_impl_BlockText]
  refine cg_use (implRunOk_ok a r H ha hs (by omega)) ?_
  cases hro : runOk r with
  | false => simp [blockT, hro]
  | true =>
  simp
  refine cg_use (blockText_ok hE a r H ha hro) ?_
  simp
  refine c_split (fun hq => ?_) (fun hq => ?_) <;> simp at hq
  · simp [blockT, hro]
    omega
  · simp [blockT, hro]
    omega

end Go.Proofs.YtkdnijiipegabaaDoor.B
