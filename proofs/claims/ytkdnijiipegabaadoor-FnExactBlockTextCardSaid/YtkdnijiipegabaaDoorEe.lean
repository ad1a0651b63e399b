/- What the reference draws: keys and runs. -/
import Derived.Test.YtkdnijiipegabaaDoorEd
namespace Go.Proofs.YtkdnijiipegabaaDoor.B
open Go.RowKit Go.Proofs
set_option linter.unusedVariables false
set_option linter.unusedSimpArgs false
variable {E : Env}

theorem Rd.ne {H : Hp} {o N : Nat} (h : Rd H o N) {esz : Nat} {v : AV} {R : List (List AV)} (hv : Rows esz H v R) (he : esz ≠ 2) {x : Nat} (hx : v.of x) : x ≠ o := by
  obtain ⟨b, bs, p, h1, _⟩ := h
  rcases hv with ⟨rfl, _⟩ | ⟨rfl, _⟩ | ⟨o', i, ob, rfl, a2, a3, _⟩
  · exact hx.elim
  · exact hx.elim
  · rintro rfl
    have : o' = x := hx
    subst this
    rw [h1] at a2
    cases a2
    exact he a3.symm
theorem Rows.dr {H H' : Hp} {o N : Nat} (hr : Rd H o N) {esz : Nat} {v : AV} {R : List (List AV)} (hv : Rows esz H v R) (he : esz ≠ 2) (hd : Dr o H H') : Rows esz H' v R := hv.fr hd (fun x hx => hr.ne hv he hx)
theorem OwnM.dr {α : Type} {H0 H H' : Hp} {o N : Nat} (hr : Rd H o N) {esz ety : Nat} {row : α → List AV} {v : AV} {xs : List α} (hv : OwnM esz ety row H0 H v xs) (he : esz ≠ 2) (hd : Dr o H H') : OwnM esz ety row H0 H' v xs := hv.fr hd (fun x hx => hr.ne hv.rows he hx)
theorem HLe.dr {H H' : Hp} (h : HLe H H') (o : Nat) : Dr o H H' := h.fr
/-- Behind something that is read alone. -/
theorem Rd.own {H H' : Hp} {o N : Nat} (h : Rd H o N) (hle : HLe H H') : Rd H' o N := h.le hle
theorem Rd.frv {H0 H H' : Hp} {o N : Nat} {v : AV} (h : Rd H0 o N) (hle : HLe H0 H) (hf : Fr v.of H H') (hv : ∀ x, v.of x → H0.length ≤ x) : Rd H' o N := h.le (hle.fr_le hf hv)

theorem of_ok (o N : Nat) (l : AV) (xs : List ByteArray) (H : Hp) (hr : Rd H o N) (hl : Strs H l xs) (hx : xs ≠ []) (hx2 : xs.length < 1099511627776) (hN : N < 1099511627776) :
    AC Tryd.prog E 29 [.pt o 0 0, l] H (fun v H' => ∃ s, s ∈ xs ∧ v = .str s ∧ Dr o H H' ∧ Rd H' o (N + 1) ∧ H'.length = H.length) := by
  refine AC_by fol (tC_le tab2_ok) h_spec_l6Rd_of ?_
  have l1 := hl.len
  have hpos : 0 < xs.length := List.length_pos_iff.2 hx
  simp [c_spec_l6Rd_of, l1, hl.slc]
  refine cg_ex (pick_ok o N xs.length H hr hN (by omega)) ?_
  rintro v H' ⟨m, rfl, hm, hd, hr', hlen⟩
  have hm2 : m < xs.length := by omega
  obtain ⟨o1, i1, ob1, rfl, a1, a2, a3⟩ := Strs.get (Rows.dr hr hl (by decide) hd : Strs H' l xs) hm2
  simp [a1, a2, a3, hm2]
  exact ⟨xs[m], List.getElem_mem hm2, rfl, hd, hr', hlen⟩

theorem l71Key_ok (o N : Nat) (H : Hp) (hr : Rd H o N) (hN : N < 549755813888) :
    AC Tryd.prog E 50 [.pt o 0 0] H (fun v H' => ∃ k, v = .str k ∧ k.size ≤ 5 ∧ Dr o H H' ∧ Rd H' o (N + 6)) := by
  refine AC_by fol (tC_le tab2_ok) h_spec_l71Key ?_
  simp [c_spec_l71Key]
  refine cg_ex (pick_ok o N 6 H hr (by omega) (by omega)) ?_
  rintro v H1 ⟨n, rfl, hn, hd, hr1, -⟩
  simp
  refine W_for (fun m t H' => ∃ k : ByteArray, m ≤ 5 ∧ t 0 = .pt o 0 0 ∧ t 3 = .str k ∧ t 4 = .int .i64 m ∧ k.size + m ≤ 5 ∧ Dr o H H' ∧ Rd H' o (N + 6 - m)) n ?_ (tC_mono AC_mono) ?_
  · exact ⟨⟨#[]⟩, by omega, by simp, by simp, by simp, by show 0 + n ≤ 5; omega, hd, hr1.mono (by omega)⟩
  rintro m t H' ⟨k, hm5, h0, h3, h4, hk, hd, hr⟩
  simp [h0, h3, h4]
  refine c_split (fun hq => ?_) (fun hq => ?_) <;> simp at hq
  · have hw : IntKind.i64.wrap ((m : Int) - 1) = ((m - 1 : Nat) : Int) := by rw [wrap64 (by omega) (by omega)]; omega
    simp [h0, h3, h4]
    have hl : Strs (H' ++ [some ⟨[[.str ⟨#[97]⟩], [.str ⟨#[98]⟩], [.str ⟨#[97]⟩], [.str ⟨#[99]⟩], [.str ⟨#[100]⟩]], 1, 9, false⟩]) (.sl H'.length 0 5) [⟨#[97]⟩, ⟨#[98]⟩, ⟨#[97]⟩, ⟨#[99]⟩, ⟨#[100]⟩] := Strs.at (e := 9) (ro := false) (by simp [strRow]) rfl
    refine cg_ex (of_ok o (N + 6 - m) _ _ _ (hr.le (HLe.self _ _)) hl (by simp) (by simp) (by omega)) ?_
    rintro v H2 ⟨s, hs, rfl, hd2, hr2, -⟩
    have hs1 : s.size = 1 := by
      simp at hs
      rcases hs with h | h | h | h | h <;> rw [h] <;> rfl
    simp [h0, h3, h4, hw]
    refine ⟨by omega, m - 1, by omega, by omega, rfl, by omega, ?_, hr2.mono (by omega)⟩
    exact (hd.app _).same hd2
  · have : m = 0 := by omega
    subst this
    simp [h3]
    exact ⟨by omega, hd, hr⟩

theorem l71Near_ok (o N : Nat) (l : AV) (xs : List ByteArray) (H : Hp) (hr : Rd H o N) (hl : Strs H l xs) (hx : xs.length < 1099511627776) (hs : ∀ s ∈ xs, s.size ≤ 5) (hN : N < 274877906944) :
    AC Tryd.prog E 39 [.pt o 0 0, l] H (fun v H' => ∃ k, v = .str k ∧ k.size ≤ 5 ∧ Dr o H H' ∧ Rd H' o (N + 7)) := by
  refine AC_by fol (tC_le tab2_ok) h_spec_l71Near ?_
  have l1 := hl.len
  simp [c_spec_l71Near, l1, hl.slc]
  refine g_split (fun hq => ?_) (fun hq => ?_) (by simp) <;> simp at hq <;> simp [hq]
  · refine cg_ex (l71Key_ok o N _ hr (by omega)) ?_
    rintro v H1 ⟨k, rfl, hk, hd, hr1⟩
    simp
    exact ⟨hk, hd, hr1.mono (by omega)⟩
  · have hpos : 0 < xs.length := List.length_pos_iff.2 hq
    refine cg_ex (pick_ok o N 4 H hr (by omega) (by omega)) ?_
    rintro v H1 ⟨n, rfl, hn, hd1, hr1, -⟩
    simp
    have hl1 : Strs H1 l xs := Rows.dr hr hl (by decide) hd1
    refine c_split (fun hq2 => ?_) (fun hq2 => ?_) <;> simp at hq2 <;> simp
    · refine cg_ex (l71Key_ok o _ _ hr1 (by omega)) ?_
      rintro v H2 ⟨k, rfl, hk, hd, hr2⟩
      simp
      exact ⟨hk, hd1.same hd, hr2.mono (by omega)⟩
    · simp [l1, hl.slc]
      refine cg_ex (pick_ok o _ xs.length H1 hr1 (by omega) (by omega)) ?_
      rintro v H2 ⟨m, rfl, hm, hd2, hr2, -⟩
      have hm2 : m < xs.length := by omega
      obtain ⟨o1, i1, ob1, rfl, a1, a2, a3⟩ := Strs.get (Rows.dr hr1 hl1 (by decide) hd2 : Strs H2 l xs) hm2
      have hsz := hs _ (List.getElem_mem hm2)
      simp [a1, a2, a3, hm2]
      refine cg_ex (pick_ok o _ 4 H2 hr2 (by omega) (by omega)) ?_
      rintro v H3 ⟨c, rfl, hc, hd3, hr3, -⟩
      have hd13 := (hd1.same hd2).same hd3
      simp
      refine c_split (fun hq3 => ?_) (fun hq3 => ?_) <;> simp at hq3 <;> simp
      · have hw : IntKind.i64.wrap ((xs[m].size : Int) + 1) = ((xs[m].size + 1 : Nat) : Int) := wrapN (by omega)
        rw [hw]
        refine cg_ex (pick_ok o _ ((xs[m].size + 1 : Nat) : Int) H3 hr3 (by omega) (by omega)) ?_
        rintro v H4 ⟨e, rfl, he, hd4, hr4, -⟩
        have he2 : e ≤ xs[m].size := by omega
        simp [he2]
        exact ⟨by omega, hd13.same hd4, hr4.mono (by omega)⟩
      · refine c_split (fun hq4 => ?_) (fun hq4 => ?_) <;> simp at hq4 <;> simp
        · refine c_split (fun hq5 => ?_) (fun hq5 => ?_) <;> simp at hq5 <;> simp
          · have hl3 : Strs (H3 ++ [some ⟨[[.str ⟨#[97]⟩], [.str ⟨#[98]⟩], [.str ⟨#[100]⟩]], 1, 9, false⟩]) (.sl H3.length 0 3) [⟨#[97]⟩, ⟨#[98]⟩, ⟨#[100]⟩] := Strs.at (e := 9) (ro := false) (by simp [strRow]) rfl
            refine cg_ex (of_ok o _ _ _ _ (hr3.le (HLe.self _ _)) hl3 (by simp) (by simp) (by omega)) ?_
            rintro v H4 ⟨s, hs4, rfl, hd4, hr4, -⟩
            have hs1 : s.size = 1 := by
              simp at hs4
              rcases hs4 with h | h | h <;> rw [h] <;> rfl
            simp
            exact ⟨by omega, by omega, (hd13.app _).same hd4, hr4.mono (by omega)⟩
          · exact ⟨hsz, hd13, hr3.mono (by omega)⟩
        · exact ⟨hsz, hd13, hr3.mono (by omega)⟩

theorem putP_mem {k x : ByteArray} {ks : List ByteArray} (h : x ∈ putP k ks) : x = k ∨ x ∈ ks := by
  unfold putP at h
  rcases List.mem_append.1 h with h | h
  · exact .inr ((List.takeWhile_sublist _).subset h)
  · split at h
    · rcases List.mem_cons.1 h with h | h
      · exact .inl h
      · exact .inr ((List.dropWhile_sublist _).subset h)
    · simp at h
theorem putK_mem {k x : ByteArray} {ks : List ByteArray} (h : x ∈ putK k ks) : x = k ∨ x ∈ ks := by
  by_cases hk : k ∈ ks
  · rw [putK_in hk] at h
    exact .inr h
  · rw [putK_out hk] at h
    rcases List.mem_append.1 h with h | h
    · exact putP_mem h
    · split at h
      · simp at h
      · exact .inl (by simpa using h)

theorem joinL_mem : ∀ {xs ys : List Ent} {e : Ent}, e ∈ joinL xs ys → e ∈ xs ∨ e ∈ ys
  | xs, [], e, h => .inl h
  | xs, y :: ys, e, h => by
    simp only [joinL] at h
    rcases List.mem_append.1 h with h | h
    · exact .inl ((List.takeWhile_sublist _).subset h)
    · rcases List.mem_cons.1 h with h | h
      · exact .inr (by rw [h]; simp)
      · rcases joinL_mem h with h | h
        · exact .inl ((List.dropWhile_sublist _).subset h)
        · exact .inr (List.mem_cons_of_mem _ h)
end Go.Proofs.YtkdnijiipegabaaDoor.B
