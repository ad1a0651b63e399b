/- What the reference draws: keys and runs. -/
import Derived.Test.YtkdnijiipegabaaEd
namespace Go.Proofs.Ytkdnijiipegabaa.B
open Go.RowKit Go.Proofs
set_option linter.unusedVariables false
set_option linter.unusedSimpArgs false
variable {E : Env}

theorem Rd.ne {H : Hp} {o N : Nat} (h : Rd H o N) {esz : Nat} {v : AV} {R : List (List AV)} (hv : Rows esz H v R) (he : esz ≠ 2) {x : Nat} (hx : v.of x) : x ≠ o := by
  obtain ⟨b, bs, p, h1, _⟩ := h
  rcases hv with ⟨rfl, _⟩ | ⟨rfl, _⟩ | ⟨o', i, ob, rfl, a2, a3, _⟩
  · exact hx.elim
  · exact hx.elim
  · rintro rfl
    have : o' = x := hx
    subst this
    rw [h1] at a2
    cases a2
    exact he a3.symm
theorem Rows.dr {H H' : Hp} {o N : Nat} (hr : Rd H o N) {esz : Nat} {v : AV} {R : List (List AV)} (hv : Rows esz H v R) (he : esz ≠ 2) (hd : Dr o H H') : Rows esz H' v R := hv.fr hd (fun x hx => hr.ne hv he hx)
theorem OwnM.dr {α : Type} {H0 H H' : Hp} {o N : Nat} (hr : Rd H o N) {esz ety : Nat} {row : α → List AV} {v : AV} {xs : List α} (hv : OwnM esz ety row H0 H v xs) (he : esz ≠ 2) (hd : Dr o H H') : OwnM esz ety row H0 H' v xs := hv.fr hd (fun x hx => hr.ne hv.rows he hx)
theorem HLe.dr {H H' : Hp} (h : HLe H H') (o : Nat) : Dr o H H' := h.fr
/-- Behind something that is read alone. -/
theorem Rd.own {H H' : Hp} {o N : Nat} (h : Rd H o N) (hle : HLe H H') : Rd H' o N := h.le hle
theorem Rd.frv {H0 H H' : Hp} {o N : Nat} {v : AV} (h : Rd H0 o N) (hle : HLe H0 H) (hf : Fr v.of H H') (hv : ∀ x, v.of x → H0.length ≤ x) : Rd H' o N := h.le (hle.fr_le hf hv)

theorem of_ok (o N : Nat) (l : AV) (xs : List ByteArray) (H : Hp) (hr : Rd H o N) (hl : Strs H l xs) (hx : xs ≠ []) (hx2 : xs.length < 1099511627776) (hN : N < 1099511627776) :
    AC Try.prog E 37 [.pt o 0 0, l] H (fun v H' => ∃ s, s ∈ xs ∧ v = .str s ∧ Dr o H H' ∧ Rd H' o (N + 1) ∧ H'.length = H.length) := by
  refine AC_by fol (tC_le tab2_ok) h_spec_l6Rd_of ?_
  have l1 := hl.len
  have hpos : 0 < xs.length := List.length_pos_iff.2 hx
  simp [c_spec_l6Rd_of, l1, hl.slc]
  refine cg_ex (pick_ok o N xs.length H hr hN (by omega)) ?_
  rintro v H' ⟨m, rfl, hm, hd, hr', hlen⟩
  have hm2 : m < xs.length := by omega
  obtain ⟨o1, i1, ob1, rfl, a1, a2, a3⟩ := Strs.get (Rows.dr hr hl (by decide) hd : Strs H' l xs) hm2
  simp [a1, a2, a3, hm2]
  exact ⟨xs[m], List.getElem_mem hm2, rfl, hd, hr', hlen⟩

theorem l71Key_ok (o N : Nat) (H : Hp) (hr : Rd H o N) (hN : N < 549755813888) :
    AC Try.prog E 58 [.pt o 0 0] H (fun v H' => ∃ k, v = .str k ∧ k.size ≤ 5 ∧ Dr o H H' ∧ Rd H' o (N + 6)) := by
  refine AC_by fol (tC_le tab2_ok) h_spec_l71Key ?_
  simp [c_spec_l71Key]
  refine cg_ex (pick_ok o N 6 H hr (by omega) (by omega)) ?_
  rintro v H1 ⟨n, rfl, hn, hd, hr1, -⟩
  simp
  refine W_for (fun m t H' => ∃ k : ByteArray, m ≤ 5 ∧ t 0 = .pt o 0 0 ∧ t 3 = .str k ∧ t 4 = .int .i64 m ∧ k.size + m ≤ 5 ∧ Dr o H H' ∧ Rd H' o (N + 6 - m)) n ?_ (tC_mono AC_mono) ?_
  · exact ⟨⟨#[]⟩, by omega, by simp, by simp, by simp, by show 0 + n ≤ 5; omega, hd, hr1.mono (by omega)⟩
  rintro m t H' ⟨k, hm5, h0, h3, h4, hk, hd, hr⟩
  simp [h0, h3, h4]
  refine c_split (fun hq => ?_) (fun hq => ?_) <;> simp at hq
  · have hw : IntKind.i64.wrap ((m : Int) - 1) = ((m - 1 : Nat) : Int) := by rw [wrap64 (by omega) (by omega)]; omega
    simp [h0, h3, h4]
    have hl : Strs (H' ++ [some ⟨[[.str ⟨#[97]⟩], [.str ⟨#[98]⟩], [.str ⟨#[97]⟩], [.str ⟨#[99]⟩], [.str ⟨#[100]⟩]], 1, 9, false⟩]) (.sl H'.length 0 5) [⟨#[97]⟩, ⟨#[98]⟩, ⟨#[97]⟩, ⟨#[99]⟩, ⟨#[100]⟩] := Strs.at (e := 9) (ro := false) (by simp [strRow]) rfl
    refine cg_ex (of_ok o (N + 6 - m) _ _ _ (hr.le (HLe.self _ _)) hl (by simp) (by simp) (by omega)) ?_
    rintro v H2 ⟨s, hs, rfl, hd2, hr2, -⟩
    have hs1 : s.size = 1 := by
      simp at hs
      rcases hs with h | h | h | h | h <;> rw [h] <;> rfl
    simp [h0, h3, h4, hw]
    refine ⟨by omega, m - 1, by omega, by omega, rfl, by omega, ?_, hr2.mono (by omega)⟩
    exact (hd.app _).same hd2
  · have : m = 0 := by omega
    subst this
    simp [h3]
    exact ⟨by omega, hd, hr⟩

theorem l71Near_ok (o N : Nat) (l : AV) (xs : List ByteArray) (H : Hp) (hr : Rd H o N) (hl : Strs H l xs) (hx : xs.length < 1099511627776) (hs : ∀ s ∈ xs, s.size ≤ 5) (hN : N < 274877906944) :
    AC Try.prog E 44 [.pt o 0 0, l] H (fun v H' => ∃ k, v = .str k ∧ k.size ≤ 5 ∧ Dr o H H' ∧ Rd H' o (N + 7)) := by
  refine AC_by fol (tC_le tab2_ok) h_spec_l71Near ?_
  have l1 := hl.len
  simp [c_spec_l71Near, l1, hl.slc]
  refine g_split (fun hq => ?_) (fun hq => ?_) (by simp) <;> simp at hq <;> simp [hq]
  · refine cg_ex (l71Key_ok o N _ hr (by omega)) ?_
    rintro v H1 ⟨k, rfl, hk, hd, hr1⟩
    simp
    exact ⟨hk, hd, hr1.mono (by omega)⟩
  · have hpos : 0 < xs.length := List.length_pos_iff.2 hq
    refine cg_ex (pick_ok o N 4 H hr (by omega) (by omega)) ?_
    rintro v H1 ⟨n, rfl, hn, hd1, hr1, -⟩
    simp
    have hl1 : Strs H1 l xs := Rows.dr hr hl (by decide) hd1
    refine c_split (fun hq2 => ?_) (fun hq2 => ?_) <;> simp at hq2 <;> simp
    · refine cg_ex (l71Key_ok o _ _ hr1 (by omega)) ?_
      rintro v H2 ⟨k, rfl, hk, hd, hr2⟩
      simp
      exact ⟨hk, hd1.same hd, hr2.mono (by omega)⟩
    · simp [l1, hl.slc]
      refine cg_ex (pick_ok o _ xs.length H1 hr1 (by omega) (by omega)) ?_
      rintro v H2 ⟨m, rfl, hm, hd2, hr2, -⟩
      have hm2 : m < xs.length := by omega
      obtain ⟨o1, i1, ob1, rfl, a1, a2, a3⟩ := Strs.get (Rows.dr hr1 hl1 (by decide) hd2 : Strs H2 l xs) hm2
      have hsz := hs _ (List.getElem_mem hm2)
      simp [a1, a2, a3, hm2]
      refine cg_ex (pick_ok o _ 4 H2 hr2 (by omega) (by omega)) ?_
      rintro v H3 ⟨c, rfl, hc, hd3, hr3, -⟩
      have hd13 := (hd1.same hd2).same hd3
      simp
      refine c_split (fun hq3 => ?_) (fun hq3 => ?_) <;> simp at hq3 <;> simp
      · have hw : IntKind.i64.wrap ((xs[m].size : Int) + 1) = ((xs[m].size + 1 : Nat) : Int) := wrapN (by omega)
        rw [hw]
        refine cg_ex (pick_ok o _ ((xs[m].size + 1 : Nat) : Int) H3 hr3 (by omega) (by omega)) ?_
        rintro v H4 ⟨e, rfl, he, hd4, hr4, -⟩
        have he2 : e ≤ xs[m].size := by omega
        simp [he2]
        exact ⟨by omega, hd13.same hd4, hr4.mono (by omega)⟩
      · refine c_split (fun hq4 => ?_) (fun hq4 => ?_) <;> simp at hq4 <;> simp
        · refine c_split (fun hq5 => ?_) (fun hq5 => ?_) <;> simp at hq5 <;> simp
          · have hl3 : Strs (H3 ++ [some ⟨[[.str ⟨#[97]⟩], [.str ⟨#[98]⟩], [.str ⟨#[100]⟩]], 1, 9, false⟩]) (.sl H3.length 0 3) [⟨#[97]⟩, ⟨#[98]⟩, ⟨#[100]⟩] := Strs.at (e := 9) (ro := false) (by simp [strRow]) rfl
            refine cg_ex (of_ok o _ _ _ _ (hr3.le (HLe.self _ _)) hl3 (by simp) (by simp) (by omega)) ?_
            rintro v H4 ⟨s, hs4, rfl, hd4, hr4, -⟩
            have hs1 : s.size = 1 := by
              simp at hs4
              rcases hs4 with h | h | h <;> rw [h] <;> rfl
            simp
            exact ⟨by omega, by omega, (hd13.app _).same hd4, hr4.mono (by omega)⟩
          · exact ⟨hsz, hd13, hr3.mono (by omega)⟩
        · exact ⟨hsz, hd13, hr3.mono (by omega)⟩

theorem putP_mem {k x : ByteArray} {ks : List ByteArray} (h : x ∈ putP k ks) : x = k ∨ x ∈ ks := by
  unfold putP at h
  rcases List.mem_append.1 h with h | h
  · exact .inr ((List.takeWhile_sublist _).subset h)
  · split at h
    · rcases List.mem_cons.1 h with h | h
      · exact .inl h
      · exact .inr ((List.dropWhile_sublist _).subset h)
    · simp at h
theorem putK_mem {k x : ByteArray} {ks : List ByteArray} (h : x ∈ putK k ks) : x = k ∨ x ∈ ks := by
  by_cases hk : k ∈ ks
  · rw [putK_in hk] at h
    exact .inr h
  · rw [putK_out hk] at h
    rcases List.mem_append.1 h with h | h
    · exact putP_mem h
    · split at h
      · simp at h
      · exact .inl (by simpa using h)

theorem l71Keys_ok (o N : Nat) (most : Nat) (H : Hp) (hr : Rd H o N) (hm : most < 1000) (hN : N < 137438953472) :
    AC Try.prog E 43 [.pt o 0 0, .int .i64 most] H (fun v H' => ∃ ks, OwnS H H' v ks ∧ ks.length ≤ most ∧ (∀ s ∈ ks, s.size ≤ 5) ∧ Dr o H H' ∧ Rd H' o (N + 1 + 7 * most)) := by
  refine AC_by fol (tC_le tab2_ok) h_spec_l71Keys ?_
  have hw0 := wrapN (i := most) (by omega)
  simp [c_spec_l71Keys, hw0]
  refine cg_ex (pick_ok o N ((most : Int) + 1) _ (hr.le (HLe.self _ _)) (by omega) (by omega)) ?_
  rintro v H1 ⟨n, rfl, hn, hd, hr1, hlen⟩
  have hd0 : Dr o H H1 := ((HLe.self H _).dr o).same hd
  simp
  have hn1 : n ≤ most := by omega
  refine W_for (fun m t H' => ∃ ks v, m ≤ most ∧ t 0 = .pt o 0 0 ∧ t 5 = v ∧ t 6 = .int .i64 m ∧ OwnS H H' v ks ∧ ks.length + m ≤ most ∧ (∀ s ∈ ks, s.size ≤ 5) ∧ Dr o H H' ∧ Rd H' o (N + 1 + 7 * (most - m))) n ?_ (tC_mono AC_mono) ?_
  · refine ⟨[], _, hn1, by simp, by simp; rfl, by simp, ?_, by simpa using hn1, by simp, hd0, hr1.mono (by omega)⟩
    exact OwnM.dr (hr.le (HLe.self _ _)) (OwnM.lit0 (HLe.refl H)) (by decide) hd
  rintro m t H' ⟨ks, v, hm5, h0, h5, h6, hv, hk, hs, hd, hr⟩
  simp [h0, h5, h6]
  refine c_split (fun hq => ?_) (fun hq => ?_) <;> simp at hq
  · have hw : IntKind.i64.wrap ((m : Int) - 1) = ((m - 1 : Nat) : Int) := by rw [wrap64 (by omega) (by omega)]; omega
    simp [h0, h5, h6]
    refine cg_ex (l71Near_ok o _ v ks H' hr hv.strs (by omega) hs (by omega)) ?_
    rintro _ H2 ⟨k, rfl, hk5, hd2, hr2⟩
    have hv2 := OwnM.dr hr hv (by decide) hd2
    simp [h0, h5, h6]
    refine cg_ex (l2Put_ok v k ks H2 hv2.strs (by omega)) ?_
    rintro v3 H3 ⟨hle3, hv3⟩
    have hsz := putK_len k ks
    have hv3' : OwnS H H3 v3 (putK k ks) := by
      rcases hv3 with ⟨rfl, e⟩ | h
      · rw [e]
        exact hv2.le hle3
      · exact h.base (Nat.le_trans hd.len hd2.len)
    simp [h0, h5, h6, hw]
    refine ⟨m - 1, by omega, by omega, rfl, putK k ks, hv3', by omega, fun s hs' => ?_, (hd.same hd2).le_fr hle3, (hr2.le hle3).mono (by omega)⟩
    rcases putK_mem hs' with rfl | h
    · exact hk5
    · exact hs s h
  · have : m = 0 := by omega
    subst this
    simp [h5]
    exact ⟨ks, hv, by omega, hs, hd, hr.mono (by omega)⟩

theorem joinL_mem : ∀ {xs ys : List Ent} {e : Ent}, e ∈ joinL xs ys → e ∈ xs ∨ e ∈ ys
  | xs, [], e, h => .inl h
  | xs, y :: ys, e, h => by
    simp only [joinL] at h
    rcases List.mem_append.1 h with h | h
    · exact .inl ((List.takeWhile_sublist _).subset h)
    · rcases List.mem_cons.1 h with h | h
      · exact .inr (by rw [h]; simp)
      · rcases joinL_mem h with h | h
        · exact .inl ((List.dropWhile_sublist _).subset h)
        · exact .inr (List.mem_cons_of_mem _ h)
theorem l71Run_ok (o N : Nat) (most : Nat) (H : Hp) (hr : Rd H o N) (hm : most < 1000) (hN : N < 68719476736) :
    AC Try.prog E 36 [.pt o 0 0, .int .i64 most] H (fun v H' => ∃ es, OwnE H H' v es ∧ runOk es = true ∧ Dr o H H' ∧ Rd H' o (N + 37 + 10 * most)) := by
  refine AC_by fol (tC_le tab2_ok) h_spec_l71Run ?_
  have hw0 := wrapN (i := most) (by omega)
  simp [c_spec_l71Run, hw0]
  refine cg_ex (l71Keys_ok o N 5 H hr (by omega) (by omega)) ?_
  rintro kv H1 ⟨ks, hks, hkl, hksz, hd1, hr1⟩
  simp [hw0]
  refine cg_ex (pick_ok o _ ((most : Int) + 1) _ (hr1.le (HLe.self _ _)) (by omega) (by omega)) ?_
  rintro v H2 ⟨n, rfl, hn, hd2, hr2, hlen⟩
  have hd0 : Dr o H H2 := (hd1.app _).same hd2
  have hn1 : n ≤ most := by omega
  have hks2 : OwnS H H2 kv ks := OwnM.dr (hr1.le (HLe.self _ _)) (hks.le (HLe.self _ _)) (by decide) hd2
  simp
  refine W_for (fun m t H' => ∃ es v, m ≤ most ∧ t 0 = .pt o 0 0 ∧ t 5 = kv ∧ t 6 = v ∧ t 7 = .int .i64 m ∧ OwnE H H' v es ∧ OwnS H H' kv ks ∧ runOk es = true ∧ Dr o H H' ∧ Rd H' o (N + 37 + 10 * (most - m))) n ?_ (tC_mono AC_mono) ?_
  · refine ⟨[], _, hn1, by simp, by simp, by simp; rfl, by simp, ?_, hks2, by simp [runOk], hd0, hr2.mono (by omega)⟩
    exact (OwnM.dr (hr1.le (HLe.self _ _)) (OwnM.lit0 (HLe.refl H1)) (by decide) hd2).base hd1.len
  rintro m t H' ⟨es, v, hm5, h0, h5, h6, h7, hv, hkv, hok, hd, hr⟩
  simp [h0, h5, h6, h7]
  refine c_split (fun hq => ?_) (fun hq => ?_) <;> simp at hq
  · have hw : IntKind.i64.wrap ((m : Int) - 1) = ((m - 1 : Nat) : Int) := by rw [wrap64 (by omega) (by omega)]; omega
    simp [h0, h5, h6, h7]
    refine cg_ex (l71Near_ok o _ kv ks H' hr hkv.strs (by omega) hksz (by omega)) ?_
    rintro _ H2 ⟨k, rfl, hk5, hd2, hr2⟩
    have hkv2 := OwnM.dr hr hkv (by decide) hd2
    have hv2 := OwnM.dr hr hv (by decide) hd2
    simp [h0, h5, h6, h7]
    refine cg_ex (pick_ok o _ 100 _ hr2 (by omega) (by omega)) ?_
    rintro _ H3 ⟨val, rfl, hval, hd3, hr3, -⟩
    have hkv3 := OwnM.dr hr2 hkv2 (by decide) hd3
    have hv3 := OwnM.dr hr2 hv2 (by decide) hd3
    simp [h0, h5, h6, h7]
    refine cg_ex (pick_ok o _ 60 _ hr3 (by omega) (by omega)) ?_
    rintro _ H4 ⟨tm, rfl, htm, hd4, hr4, -⟩
    have hkv4 := OwnM.dr hr3 hkv3 (by decide) hd4
    have hv4 := OwnM.dr hr3 hv3 (by decide) hd4
    have hwt : IntKind.i64.wrap (1 + (tm : Int)) = ((tm + 1 : Nat) : Int) := by rw [wrap64 (by omega) (by omega)]; omega
    simp [h0, h5, h6, h7, hwt]
    refine cg_ex (pick_ok o _ 4 _ (hr4.le (HLe.self _ _)) (by omega) (by omega)) ?_
    rintro _ H5 ⟨g, rfl, hg, hd5, hr5, -⟩
    have ho4 := hr4.lt
    have hat := hd5.2 H4.length _ (show ¬ (H4.length = o) by omega) (Hp.at_app_0.trans Hp.at_0)
    have hb5 := Hp.at_lt hat
    have hkv5 := OwnM.dr (hr4.le (HLe.self _ _)) (hkv4.le (HLe.self _ _)) (by decide) hd5
    have hv5 := OwnM.dr (hr4.le (HLe.self _ _)) (hv4.le (HLe.self _ _)) (by decide) hd5
    have hd05 := (((((hd.same hd2).same hd3).same hd4).app _).same hd5)
    have hl4 := hd.len
    have hl42 := hd2.len
    have hl43 := hd3.len
    have hl44 := hd4.len
    simp [h0, h5, h6, h7, hat]
    have hlen5 := runOk_fits hok
    refine c_split (fun hq3 => ?_) (fun hq3 => ?_) <;> simp at hq3
    · simp [h0, h5, h6, h7, hat, Hp.at_set _ hb5]
      have hf6 : Fr (fun x => x = H4.length) H5 (List.set H5 H4.length (some ⟨[[.str k, .int .i64 0, .bool true, .int .i64 ((tm : Int) + 1)]], 4, 72, false⟩)) := (Fr.refl (fun x => x = H4.length) H5).set (.inl rfl) _
      have hl6 : (List.set H5 H4.length (some ⟨[[.str k, .int .i64 0, .bool true, .int .i64 ((tm : Int) + 1)]], 4, 72, false⟩)).length = H5.length := by simp
      have hd06 := hd05.trans hf6 (fun x hx => .inr (by subst hx; omega))
      have hv6 := hv5.fr hf6 (fun x hx => by have := hv4.1.lt hx; omega)
      have hkv6 := hkv5.fr hf6 (fun x hx => by have := hkv4.1.lt hx; omega)
      have hr6 := hr5.fr hf6 (by omega) (fun x ob hx hh => by subst hx; rw [hat] at hh; cases hh; simp)
      refine cg_ex (l11Join_ok v (.sl H5.length 0 1) es [⟨k, 0, true, ((tm + 1 : Nat) : Int)⟩] (List.set H5 H4.length (some ⟨[[.str k, .int .i64 0, .bool true, .int .i64 ((tm : Int) + 1)]], 4, 72, false⟩) ++ [some ⟨[entRow ⟨k, 0, true, ((tm + 1 : Nat) : Int)⟩], 4, 72, false⟩]) (hv6.ents.le (HLe.self _ _)) (Rows.whole (ob := ⟨[entRow ⟨k, 0, true, ((tm + 1 : Nat) : Int)⟩], 4, 72, false⟩) (by rw [← hl6]; exact Hp.at_app_0.trans Hp.at_0)) (by simp; omega)) ?_
      rintro v7 H7 ⟨hle7, hv7⟩
      have hle67 := (HLe.self (List.set H5 H4.length (some ⟨[[.str k, .int .i64 0, .bool true, .int .i64 ((tm : Int) + 1)]], 4, 72, false⟩)) [some ⟨[entRow ⟨k, 0, true, ((tm + 1 : Nat) : Int)⟩], 4, 72, false⟩]).trans hle7
      have hd7 := hd06.le_fr hle67
      have hr7 := hr6.le hle67
      have hlen7 := joinL_len es [⟨k, 0, true, ((tm + 1 : Nat) : Int)⟩]
      simp only [List.length_singleton] at hlen7
      have hsh : Short (joinL es [⟨k, 0, true, ((tm + 1 : Nat) : Int)⟩]) := by
        intro x hx
        rcases joinL_mem hx with h | h
        · exact (runOk_fits hok).1.short x h
        · rw [List.mem_singleton.1 h]; show k.size < _; omega
      simp [h0, h5, h6, h7]
      refine cg_use (RunOk_ok v7 (joinL es [⟨k, 0, true, ((tm + 1 : Nat) : Int)⟩]) H7 hv7.ents hsh (by omega)) ?_
      simp [h0, h5, h6, h7]
      refine c_split (fun hq4 => ?_) (fun hq4 => ?_) <;> simp [h0, h5, h6, h7, hw]
      · refine ⟨m - 1, by omega, by omega, rfl, joinL es [⟨k, 0, true, ((tm + 1 : Nat) : Int)⟩], hv7.base (by simp; omega), hkv6.le hle67, hq4, hd7, hr7.mono (by omega)⟩
      · exact ⟨m - 1, by omega, by omega, rfl, es, hv6.le hle67, hkv6.le hle67, hok, hd7, hr7.mono (by omega)⟩
    · simp [h0, h5, h6, h7, hat]
      have hl6 : H5.length = H5.length := rfl
      have hd06 := hd05
      have hv6 := hv5
      have hkv6 := hkv5
      have hr6 := hr5
      refine cg_ex (l11Join_ok v (.sl H5.length 0 1) es [⟨k, val, false, ((tm + 1 : Nat) : Int)⟩] (H5 ++ [some ⟨[entRow ⟨k, val, false, ((tm + 1 : Nat) : Int)⟩], 4, 72, false⟩]) (hv6.ents.le (HLe.self _ _)) (Rows.whole (ob := ⟨[entRow ⟨k, val, false, ((tm + 1 : Nat) : Int)⟩], 4, 72, false⟩) (by rw [← hl6]; exact Hp.at_app_0.trans Hp.at_0)) (by simp; omega)) ?_
      rintro v7 H7 ⟨hle7, hv7⟩
      have hle67 := (HLe.self (H5) [some ⟨[entRow ⟨k, val, false, ((tm + 1 : Nat) : Int)⟩], 4, 72, false⟩]).trans hle7
      have hd7 := hd06.le_fr hle67
      have hr7 := hr6.le hle67
      have hlen7 := joinL_len es [⟨k, val, false, ((tm + 1 : Nat) : Int)⟩]
      simp only [List.length_singleton] at hlen7
      have hsh : Short (joinL es [⟨k, val, false, ((tm + 1 : Nat) : Int)⟩]) := by
        intro x hx
        rcases joinL_mem hx with h | h
        · exact (runOk_fits hok).1.short x h
        · rw [List.mem_singleton.1 h]; show k.size < _; omega
      simp [h0, h5, h6, h7]
      refine cg_use (RunOk_ok v7 (joinL es [⟨k, val, false, ((tm + 1 : Nat) : Int)⟩]) H7 hv7.ents hsh (by omega)) ?_
      simp [h0, h5, h6, h7]
      refine c_split (fun hq4 => ?_) (fun hq4 => ?_) <;> simp [h0, h5, h6, h7, hw]
      · refine ⟨m - 1, by omega, by omega, rfl, joinL es [⟨k, val, false, ((tm + 1 : Nat) : Int)⟩], hv7.base (by simp; omega), hkv6.le hle67, hq4, hd7, hr7.mono (by omega)⟩
      · exact ⟨m - 1, by omega, by omega, rfl, es, hv6.le hle67, hkv6.le hle67, hok, hd7, hr7.mono (by omega)⟩
  · have : m = 0 := by omega
    subst this
    simp [h6]
    exact ⟨es, hv, hok, hd, hr.mono (by omega)⟩

end Go.Proofs.Ytkdnijiipegabaa.B
