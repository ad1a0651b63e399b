/- A part of the proof: Stores that are drawn, and spoilt; runs and stores are compared. Stores that are spoilt. Stores are compared. Stores are compared, whole. What changes nothing may be left out, in plain Lean. Deeds that change something. A store and deeds are drawn. The law FnPastIdle. There is no condition. -/
import Derived.Test.YtgoeenodllmdpaaGreatM0
import Derived.Test.YtgoeenodllmdpaaGreatM1
import Derived.Test.YtgoeenodllmdpaaGreatM2
import Derived.Test.YtgoeenodllmdpaaGreatM3
import Derived.Test.YtgoeenodllmdpaaGreatM4
namespace Go.Proofs.YtgoeenodllmdpaaGreat.B
open Go.RowKit Go.Proofs
set_option linter.unusedVariables false
set_option linter.unusedSimpArgs false
variable {E : Env}

theorem l71StoreM_ok (o N : Nat) (H : Hp) (hr : Rd H o N) (hN : N < 34359738368) :
    AC Tryz.prog E 147 [.pt o 0 0] H (fun v H' => ∃ s, MSt H H' v s ∧ Small s ∧ storeOk s = true ∧ Dr o H H' ∧ Rd H' o (N + 400)) := by
  refine AC_by fol (tC_le tab2_ok) h_spec_l71Store ?_
  have hol := hr.lt
  simp [c_spec_l71Store]
  refine cg_ex (pick_ok o N 5 _ (hr.le (HLe.self _ _)) (by omega) (by omega)) ?_
  rintro v H1 ⟨n, rfl, hn, hd1, hr1, hlen⟩
  have b0 := hd1.2 H.length ⟨[[.nils, .nils, .nils, .int .i64 0, .int .i64 0, .nils]], 6, 28, false⟩ (by omega) (by simp)
  have bl := hd1.2 (H.length + 1) ⟨[[.int .i64 0], [.int .i64 1], [.int .i64 1], [.int .i64 2], [.int .i64 5]], 1, 3, false⟩ (by omega) (by simp)
  have hD1 : Dr o H H1 := (Fr.app (Fr.refl _ H) _).same hd1
  have hn5 : n < 5 := by omega
  have hnI : (n : Int) < 5 := by omega
  have hrow : ∃ k : Int, (0 ≤ k ∧ k ≤ 5) ∧ ([[.int .i64 0], [.int .i64 1], [.int .i64 1], [.int .i64 2], [.int .i64 5]] : List (List AV))[n]? = some [.int .i64 k] := by
    have : n = 0 ∨ n = 1 ∨ n = 2 ∨ n = 3 ∨ n = 4 := by omega
    rcases this with rfl | rfl | rfl | rfl | rfl <;> exact ⟨_, by constructor <;> decide, rfl⟩
  obtain ⟨k, hk05, hk⟩ := hrow
  simp [bl, hk, hnI]
  refine cg_ex (StoreNew_ok k H1) ?_
  intro v2 H2 hret
  obtain ⟨s0, hs0⟩ : ∃ s0, newR k = some s0 := by
    unfold newR
    rw [if_pos hk05]
    exact ⟨_, rfl⟩
  have hso : storeOk s0 = true := by
    obtain ⟨a, b, c, u, v, w, hv⟩ := newR_V hs0
    exact hv.ok
  rw [hs0] at hret
  obtain ⟨xa, xb, xc, xk, xt, xd, rfl, o1, o2, o3, o4, o5, o6⟩ := hret.shape
  simp [o1, o2, o3, o4, o5, o6]
  have hr2 := hr1.le hret.1
  have hl2 := hret.1.1
  have hl1 := hD1.len
  have hB := HLe.self H2 [some ⟨[[xa, xb, xc, xk, xt, xd]], 6, 28, false⟩]
  refine cg_ex (l71Deeds_ok o _ 30 _ (hr2.le hB) (by omega) (by omega)) ?_
  rintro dv H3 ⟨ds, hds, hdl, hdk, hd3, hr3⟩
  have esz2 : ∀ x ob, x = o → H2.at x = some ob → ob.esz = 2 ∨ ob.esz = 6 := by
    intro x ob hx ho
    obtain ⟨b, bs, p, h1, _⟩ := hr2
    rw [hx, h1] at ho
    cases ho
    exact .inl rfl
  have hmm : MSt H1 H2 (.ag [xa, xb, xc, xk, xt, xd]) s0 := by
    obtain ⟨_, w, hw, hm⟩ := hret
    cases hw
    exact hm
  have hm3 := hmm.frn ((Fr.app (Fr.refl (fun x => x = o) H2) [some ⟨[[xa, xb, xc, xk, xt, xd]], 6, 28, false⟩]).same hd3) esz2
  have hsm := newR_small hs0
  have c3 := hd3.2 H2.length _ (show ¬ H2.length = o by omega) (Hp.at_app_0.trans Hp.at_0)
  have b03 := hd3.2 H.length _ (show ¬ H.length = o by omega) (hB.2 _ _ (hret.1.2 _ _ b0))
  simp [c3]
  refine cg_ex (PastDo_ok _ dv s0 ds H3 hm3.st hsm.stB hds.rows (fun d hd => by have := hdk d hd; omega)) ?_
  intro v4 H4 hret4
  have hp : pastR s0 ds = some (doAll s0 ds) := by
    unfold pastR
    rw [if_pos (by rw [hso, Bool.true_and, decide_eq_true_iff]; omega)]
  rw [hp] at hret4
  obtain ⟨ya, yb, yc, yk, yt, yd, rfl, p1, p2, p3, p4, p5, p6⟩ := hret4.shape
  have c4 := hret4.1.2 _ _ c3
  have b04 := hret4.1.2 _ _ b03
  have u4 := Hp.at_lt c4
  have u04 := Hp.at_lt b04
  have hl1' := Hp.at_lt b0
  have m0 : H2.length ≠ H.length := by omega
  simp [p1, p2, p3, p4, p5, p6, c4, b04, Hp.at_set, Hp.at_set_ne, List.length_set, u4, u04, m0, m0.symm]
  obtain ⟨W, hW⟩ : ∃ W : Option Ob, W = some ⟨[[ya, yb, yc, yk, yt, yd]], 6, 28, false⟩ := ⟨_, rfl⟩
  rw [← hW]
  have hF := ((Fr.refl (fun x => x = H2.length ∨ x = H.length) H4).set (o := H2.length) (.inl (.inl rfl)) W).set (o := H.length) (.inl (.inr rfl)) W
  have e6 : ∀ x ob, (x = H2.length ∨ x = H.length) → H4.at x = some ob → ob.esz = 2 ∨ ob.esz = 6 := by
    intro x ob hx ho
    rcases hx with h | h
    · rw [h, c4] at ho; cases ho; exact .inr rfl
    · rw [h, b04] at ho; cases ho; exact .inr rfl
  have hm5 : MSt H3 H4 (.ag [ya, yb, yc, yk, yt, yd]) (doAll s0 ds) := by
    obtain ⟨_, w, hw, hm⟩ := hret4
    cases hw
    exact hm
  have hB1 := hB.1
  have hd31 := hd3.len
  refine ⟨doAll s0 ds, (hm5.frn hF e6).base (by omega), pastR_small hp, (by
    obtain ⟨a, b, c, u, v, w, hv⟩ := doAll_V ds (newR_V hs0)
    exact hv.ok), ((((hD1.le_fr hret.1).app _).same hd3).le_fr hret4.1).trans hF (fun x hx => .inr (by rcases hx with h | h <;> omega)), Rd.mono ((hr3.le hret4.1).fr hF (by omega) (fun x ob hx ho => by have := e6 x ob hx ho; omega)) (by omega)⟩

end Go.Proofs.YtgoeenodllmdpaaGreat.B


namespace Go.Proofs.YtgoeenodllmdpaaGreat.B
open Go.RowKit Go.Proofs
set_option linter.unusedVariables false
set_option linter.unusedSimpArgs false
variable {E : Env}

theorem addBs_l (d : Nat) : ∀ (gs : List (List ByteArray)) (b : Bool) (s : Sv), (addBs d b s gs).l.size ≤ s.l.size + gs.length
  | [], b, s => Nat.le_refl _
  | g :: gs, b, s => by
    have h := addBs_l d gs false (addB d b s g)
    have h2 : (addB d b s g).l.size = s.l.size + 1 := by
      simp only [addB, ByteArray.size_append]
      rfl
    simp only [addBs, List.length_cons]
    omega
theorem bfs_l : ∀ (n : Nat) (q : List Fk) (s : Sv), (∀ f ∈ q, f.1.length ≤ 24) → (bfs n q s).l.size ≤ s.l.size + n * 24
  | 0, q, s, h => by simp [bfs]
  | n + 1, [], s, h => by simp [bfs]
  | n + 1, (ks, d) :: q, s, h => by
    have hk : ks.length ≤ 24 := h (ks, d) (List.mem_cons_self ..)
    have h1 := bfs_l n (q ++ subs d (brs d ks)) (addBs d true s (brs d ks)) (fun f hf => (List.mem_append.1 hf).elim (fun hf => h f (List.mem_cons_of_mem _ hf)) (subs_len hk f))
    have h2 := addBs_l d (brs d ks) true s
    have h3 := (brs_sum _ d ks (Nat.le_refl _)).2
    simp only [bfs]
    omega
theorem sieveO_l {ks : List ByteArray} {keep : Int} {x : Sv} (h : sieveO ks keep = some x) : x.l.size ≤ 12000 := by
  unfold sieveO at h
  split at h
  · rename_i hc
    cases h
    have := bfs_l 500 [(ks, 0)] ⟨⟨#[]⟩, ⟨#[]⟩, ⟨#[]⟩, [], keep⟩ (fun f hf => by
      simp at hf
      subst hf
      exact (keysOk_good hc.1).2)
    have e : (⟨#[]⟩ : ByteArray).size = 0 := rfl
    simp only [e] at this
    unfold sieveR
    omega
  · cases h
theorem storeOk_l0 {s : Sr} (h : storeOk s = true) (h3 : 0 < s.sv.length) : s.sv[0].l.size ≤ 12000 := by
  simp only [storeOk, Bool.and_eq_true, decide_eq_true_eq] at h
  have h0 := h.2.1.1
  simp only [levelOk, Bool.and_eq_true, decide_eq_true_eq] at h0
  have := sieveO_l h0.2
  rwa [getD_get _ h3] at this
theorem MSt.appT {H0 H H' : Hp} {a a' d : AV} {ol os : Nat} {s : Sr} {tp : List Ent} (h : MSt H0 H (.ag [a, .sl ol 0 3, .sl os 0 3, .int .i64 s.keep, .int .i64 s.time, d]) s) (hf : Fr a.of H H') (ha : Ents H' a' tp) :
    St H' (.ag [a', .sl ol 0 3, .sl os 0 3, .int .i64 s.keep, .int .i64 s.time, d]) { s with top := tp } := by
  obtain ⟨a2, ol2, os2, d2, lr, sr, hv, ha2, hlv, hlr, hsv, hsr, hd2, hdo2, hol, hos, hl3, hs3, hoff⟩ := h
  simp only [stAV, hl3, hs3, AV.ag.injEq, List.cons.injEq, AV.sl.injEq, and_true, true_and] at hv
  obtain ⟨rfl, rfl, rfl, rfl⟩ := hv
  have n4 : ∀ {e : Nat}, e ≠ 4 → ∀ x ob, a.of x → H.at x = some ob → ob.esz ≠ e := fun he x ob hx ho => by rw [ha2.1.esz hx ho]; exact he.symm
  refine ⟨a', .sl ol 0 3, .sl os 0 3, d, lr, sr, rfl, ha, ?_, ?_, ?_, All2.mono (fun row sv h => ?_) hsr, Rows.frz hd2.ints hf (n4 (by simp))⟩
  · rw [← hl3]
    exact Rows.frz hlv.rows hf (n4 (by simp))
  · have key : ∀ {lr : List (List AV)} {ls : List (List Ent)}, All2 (LvRow H) lr ls → (∀ y, a.of y → ∀ u, [u] ∈ lr → ¬ u.of y) → All2 (LvRow H') lr ls := by
      intro lr
      induction lr with
      | nil => intro ls h _; cases ls with
        | nil => trivial
        | cons => exact h.elim
      | cons r lr ih => intro ls h ho; cases ls with
        | nil => exact h.elim
        | cons l ls =>
          obtain ⟨⟨u, rfl, hu⟩, h2⟩ := h
          exact ⟨⟨u, rfl, Rows.fr hu hf (fun y hy hs => ho y hs u (List.mem_cons_self ..) hy)⟩, ih h2 (fun y hy w hw => ho y hy w (List.mem_cons_of_mem _ hw))⟩
    exact key hlr hoff.1
  · rw [← hs3]
    exact Rows.frz hsv.rows hf (n4 (by simp))
  · obtain ⟨r, e1, e2, _⟩ := h
    exact ⟨r, e1, Rows.frz e2 hf (n4 (by simp)), fun _ _ h => h⟩
def BoxS (H : Hp) (L : Nat) (s : Sr) : Prop := ∃ a b c d, H.at L = some ⟨[[a, b, c, .int .i64 s.keep, .int .i64 s.time, d]], 6, 28, false⟩ ∧ one a = true ∧ one b = true ∧ one c = true ∧ one d = true ∧ St H (.ag [a, b, c, .int .i64 s.keep, .int .i64 s.time, d]) s ∧ StB s
def SpJ (o N : Nat) (H : Hp) (L : Nat) (t : Tm) (H' : Hp) : Prop := t 2 = .pt H.length 0 0 ∧ t 3 = .pt L 0 0 ∧ H'.at H.length = some ⟨[[.nils, .nils, .nils, .int .i64 0, .int .i64 0, .nils]], 6, 28, false⟩ ∧ (∃ s, BoxS H' L s) ∧ Dr o H H' ∧ Rd H' o (N + 410)
theorem BoxS.of {H : Hp} {L : Nat} {a b c d : AV} {s : Sr} {R : List (List AV)} (hb : H.at L = some ⟨R, 6, 28, false⟩) (hs : St H (.ag [a, b, c, .int .i64 s.keep, .int .i64 s.time, d]) s) (hB : StB s) :
    BoxS (List.set H L (some ⟨[[a, b, c, .int .i64 s.keep, .int .i64 s.time, d]], 6, 28, false⟩)) L s := by
  have hs2 := hs.fr6 (Fr.one H L (some ⟨[[a, b, c, .int .i64 s.keep, .int .i64 s.time, d]], 6, 28, false⟩)) (fun y ob hy ho => by rw [hy, hb] at ho; cases ho; rfl)
  obtain ⟨a', b', c', d', e, n1, n2, n3, n4, _⟩ := hs.shape
  simp only [stAV, AV.ag.injEq, List.cons.injEq, and_true, true_and] at e
  obtain ⟨rfl, rfl, rfl, rfl⟩ := e
  exact ⟨a, b, c, d, Hp.at_set _ (Hp.at_lt hb), n1, n2, n3, n4, hs2, hB⟩
theorem SpJ.put {o N : Nat} {H K : Hp} {L : Nat} {t : Tm} {a b c d : AV} {s : Sr} {R : List (List AV)} (t2 : t 2 = .pt H.length 0 0) (t3 : t 3 = .pt L 0 0) (hb : K.at H.length = some ⟨[[.nils, .nils, .nils, .int .i64 0, .int .i64 0, .nils]], 6, 28, false⟩)
    (hc : K.at L = some ⟨R, 6, 28, false⟩) (hL : H.length < L) (ho : o < H.length) (hs : St K (.ag [a, b, c, .int .i64 s.keep, .int .i64 s.time, d]) s) (hB : StB s) (hD : Dr o H K) {M : Nat} (hr : Rd K o M) (hM : M ≤ N + 410) :
    SpJ o N H L t (List.set K L (some ⟨[[a, b, c, .int .i64 s.keep, .int .i64 s.time, d]], 6, 28, false⟩)) := by
  have F := Fr.one K L (some ⟨[[a, b, c, .int .i64 s.keep, .int .i64 s.time, d]], 6, 28, false⟩)
  exact ⟨t2, t3, (Hp.at_set_ne (by omega)).trans hb, ⟨s, BoxS.of hc hs hB⟩, hD.trans F (fun x hx => .inr (by omega)), Rd.mono (hr.fr F (by omega) (fun x ob hx ho => by rw [hx, hc] at ho; cases ho; simp)) hM⟩
theorem lit2 {z : Nat} (hz : z < 2) : ∃ k : Int, I64 k ∧ ([[.int .i64 (-1)], [.int .i64 1000]] : List (List AV))[z]? = some [.int .i64 k] := by
  have : z = 0 ∨ z = 1 := by omega
  rcases this with rfl | rfl
  · exact ⟨-1, ⟨by decide, by decide⟩, rfl⟩
  · exact ⟨1000, ⟨by decide, by decide⟩, rfl⟩
set_option maxHeartbeats 1600000 in
theorem l71Spoilt_ok (o N : Nat) (H : Hp) (hr : Rd H o N) (hN : N < 34359738368) :
    AC Tryz.prog E 69 [.pt o 0 0] H (fun v H' => ∃ s, St H' v s ∧ StB s ∧ Dr o H H' ∧ Rd H' o (N + 410)) := by
  refine AC_by fol (tC_le tab2_ok) h_spec_l71Spoilt ?_
  have hol := hr.lt
  obtain ⟨H1, hH1⟩ : ∃ H1 : Hp, H1 = H ++ [some ⟨[[.nils, .nils, .nils, .int .i64 0, .int .i64 0, .nils]], 6, 28, false⟩] := ⟨_, rfl⟩
  have hle1 : HLe H H1 := by rw [hH1]; exact HLe.self _ _
  have b1 : H1.at H.length = some ⟨[[.nils, .nils, .nils, .int .i64 0, .int .i64 0, .nils]], 6, 28, false⟩ := by rw [hH1]; simp
  have hD1 : Dr o H H1 := hle1.fr
  simp [c_spec_l71Spoilt, ← hH1]
  refine cg_ex (l71StoreM_ok o N H1 (hr.le hle1) hN) ?_
  rintro v H2 ⟨s, hm2, hsm, hok, hd2, hr2⟩
  obtain ⟨xa, xl, xs, xd, rfl, xn1, xn2, xdi⟩ := hm2.shape
  have b2 := hd2.2 _ _ (show ¬ H.length = o by omega) b1
  obtain ⟨H3, hH3⟩ : ∃ H3 : Hp, H3 = H2 ++ [some ⟨[[xa, .sl xl 0 3, .sl xs 0 3, .int .i64 s.keep, .int .i64 s.time, xd]], 6, 28, false⟩] := ⟨_, rfl⟩
  have hle3 : HLe H2 H3 := by rw [hH3]; exact HLe.self _ _
  have c3 : H3.at H2.length = some ⟨[[xa, .sl xl 0 3, .sl xs 0 3, .int .i64 s.keep, .int .i64 s.time, xd]], 6, 28, false⟩ := by rw [hH3]; simp
  have b3 := hle3.2 _ _ b2
  have hr3 := hr2.le hle3
  have hm3 := (hm2.le hle3).base hle1.1
  have hD3 : Dr o H H3 := (hD1.same hd2).le_fr hle3
  simp [xn1, xn2, ← hH3]
  refine cg_ex (pick_ok o _ 14 _ hr3 (by omega) (by omega)) ?_
  rintro v H4 ⟨n, rfl, hn, hd4, hr4, hlen⟩
  have l21 : H.length < H2.length := Hp.at_lt b2
  have b4 := hd4.2 _ _ (show ¬ H.length = o by omega) b3
  have c4 := hd4.2 _ _ (show ¬ H2.length = o by omega) c3
  have e2 : ∀ x ob, x = o → H3.at x = some ob → ob.esz = 2 ∨ ob.esz = 6 := by
    intro x ob hx ho
    obtain ⟨b, bs, p, h1, _⟩ := hr3
    rw [hx, h1] at ho
    cases ho
    exact .inl rfl
  have hm4 := hm3.frn hd4 e2
  have hD4 : Dr o H H4 := hD3.same hd4
  have u4 := Hp.at_lt b4
  have hS : ∀ y ob, y = H.length → H4.at y = some ob → ob.esz = 6 := fun y ob hy ho => by rw [hy, b4] at ho; cases ho; rfl
  simp
  refine c_split (fun hq => ?_) (fun hq => ?_) <;> simp at hq
  · simp [c4, b4, xn1, xn2, Hp.at_set, u4]
    have F := Fr.one H4 H.length (some ⟨[[xa, .sl xl 0 3, .sl xs 0 3, .int .i64 s.keep, .int .i64 s.time, xd]], 6, 28, false⟩)
    exact ⟨s, hm4.st.fr6 F hS, hsm.stB, hD4.trans F (fun x hx => .inr (by omega)), Rd.mono (hr4.fr F (by omega) (fun x ob hx ho => by have := hS x ob hx ho; omega)) (by omega)⟩
  rw [W_skip]
  refine W_cut (tC_mono AC_mono) (SpJ o N H H2.length) ?_ ?_
  · simp
    refine cg_ex (pick_ok o _ 6 _ hr4 (by omega) (by omega)) ?_
    rintro v H5 ⟨q, rfl, hq6, hd5, hr5, hlen5⟩
    have b5 := hd5.2 _ _ (show ¬ H.length = o by omega) b4
    have c5 := hd5.2 _ _ (show ¬ H2.length = o by omega) c4
    have e4 : ∀ x ob, x = o → H4.at x = some ob → ob.esz = 2 ∨ ob.esz = 6 := by
      intro x ob hx ho
      obtain ⟨b, bs, p, h1, _⟩ := hr4
      rw [hx, h1] at ho
      cases ho
      exact .inl rfl
    have hm5 := hm4.frn hd5 e4
    have hD5 : Dr o H H5 := hD4.same hd5
    have u5 := Hp.at_lt c5
    simp
    refine c_split (fun q0 => ?_) (fun q0 => ?_) <;> simp at q0
    · simp
      refine cg_ex (pick_ok o _ 2 _ (hr5.le (HLe.self _ _)) (by omega) (by omega)) ?_
      rintro v H6 ⟨z, rfl, hz, hd6, hr6, hlen6⟩
      have b6 := hd6.2 _ _ (show ¬ H.length = o by omega) ((HLe.self _ _).2 _ _ b5)
      have c6 := hd6.2 _ _ (show ¬ H2.length = o by omega) ((HLe.self _ _).2 _ _ c5)
      have l6 := hd6.2 _ _ (show ¬ H5.length = o by omega) (Hp.at_app_0.trans Hp.at_0)
      have e5 : ∀ x ob, x = o → (H5 ++ [some ⟨[[.int .i64 (-1)], [.int .i64 1000]], 1, 3, false⟩] : Hp).at x = some ob → ob.esz = 2 ∨ ob.esz = 6 := by
        intro x ob hx ho
        obtain ⟨b, bs, p, h1, _⟩ := hr5.le (HLe.self H5 [some ⟨[[.int .i64 (-1)], [.int .i64 1000]], 1, 3, false⟩])
        rw [hx, h1] at ho
        cases ho
        exact .inl rfl
      have hm6 := (hm5.le (HLe.self _ _)).frn hd6 e5
      have hD6 : Dr o H H6 := (hD5.app _).same hd6
      have u6 := Hp.at_lt c6
      have hz2 : z < 2 := by omega
      have hzI : (z : Int) < 2 := by omega
      obtain ⟨k, hk64, hk⟩ := lit2 hz2
      obtain ⟨p1, p2, p3⟩ := hm6.parts
      simp [l6, hk, hzI, c6, u6]
      have hBs := hsm.stB
      exact SpJ.put (s := { s with time := k }) (by simp) (by simp) b6 c6 l21 hol (hm6.upd (tp := s.top) (ts := s.tms) k p1 p2 p3 (fun y h => h) (fun lr h _ => h)).st ⟨hBs.1, hBs.2.1, hBs.2.2.1, hBs.2.2.2.1, hBs.2.2.2.2.1, hBs.2.2.2.2.2.1, hk64, hBs.2.2.2.2.2.2.2.1, hBs.2.2.2.2.2.2.2.2⟩ hD6 hr6 (by omega)
    simp
    refine c_split (fun q1 => ?_) (fun q1 => ?_) <;> simp at q1
    · obtain ⟨p1, p2, p3⟩ := hm5.parts
      have ht := storeOk_time hok
      have hlt := (headI_parts (storeOk_ok hok).1).2.2.2.2.1
      simp [c5, ht]
      refine appG_one (bytes := 8) (R := s.tms.map intRow) p2.1 (by have := hsm.2.2.1; simp; omega) (fun v6 H6 g1 g2 g3 => ?_)
      have nd : ∀ {x : Nat} {ob : Ob}, H5.at x = some ob → ob.ety ≠ 3 → ¬ xd.of x := fun ho he hx => he (p2.1.ety hx ho)
      have b6 := g2.2 _ _ (nd b5 (by simp)) b5
      have c6 := g2.2 _ _ (nd c5 (by simp)) c5
      have u6 := Hp.at_lt c6
      have hl5 := hD5.len
      have g1' : OwnI H H6 v6 (s.tms ++ [s.time + 1]) := ⟨by simpa [intRow] using g1, fun y hy => (g3 y hy).elim (p2.2 y) (fun h => by omega)⟩
      have hm6 := hm5.app (ts := s.tms ++ [s.time + 1]) g2 g1' g3
      have hBs := hsm.stB
      simp [c6, u6, g1.rows.one, g1.rows.cells, g1.rows.cells1]
      refine SpJ.put (s := { s with tms := s.tms ++ [s.time + 1] }) (by simp) (by simp) b6 c6 l21 hol hm6.st ⟨hBs.1, hBs.2.1, hBs.2.2.1, hBs.2.2.2.1, by have := hsm.2.2.1; simp; omega, hBs.2.2.2.2.2.1, hBs.2.2.2.2.2.2.1, hBs.2.2.2.2.2.2.2.1, fun t ht => ?_⟩ (hD5.trans g2 (fun x hx => .inr (p2.2 x hx))) (hr5.fr2 g2 (fun x hx => by have := p2.2 x hx; omega)) (by omega)
      rcases List.mem_append.1 ht with h | h
      · exact hBs.2.2.2.2.2.2.2.2 t h
      · rw [List.mem_singleton.1 h]
        exact ⟨by omega, by omega⟩
    simp
    refine c_split (fun q2 => ?_) (fun q2 => ?_) <;> simp at q2
    · obtain ⟨a', b', c', d', lr, sr, e, f1, f2, f3, f4, f5, f6⟩ := hm5.st
      simp only [stAV, AV.ag.injEq, List.cons.injEq, and_true, true_and] at e
      obtain ⟨rfl, rfl, rfl, rfl⟩ := e
      have hlr3 : lr.length = 3 := by rw [f3.length]; exact hsm.2.2.2.2.2.2.2.1
      have hBs := hsm.stB
      simp [c5]
      refine cutG_from f2 1 rfl (by omega) (fun u g1 g2 => ?_)
      simp [c5, u5, g1.one, g1.cells, g1.cells1]
      exact SpJ.put (s := { s with lev := s.lev.drop 1 }) (by simp) (by simp) b5 c5 l21 hol ⟨xa, u, .sl xs 0 3, xd, lr.drop 1, sr, rfl, f1, g1, All2.drop f3 1, f4, f5, f6⟩ ⟨hBs.1, fun es he => hBs.2.1 es (List.mem_of_mem_drop he), by have := hBs.2.2.1; simp; omega, hBs.2.2.2⟩ hD5 hr5 (by omega)
    simp
    refine c_split (fun q3 => ?_) (fun q3 => ?_) <;> simp at q3
    · obtain ⟨a2, ol2, os2, d2, lr, sr, hv, ha2, hlv, hlr, hsv, hsr, hd2', hdo2, hol2, hos2, hl3, hs3, hoff⟩ := hm5
      simp only [stAV, hl3, hs3, AV.ag.injEq, List.cons.injEq, AV.sl.injEq, and_true, true_and] at hv
      obtain ⟨rfl, rfl, rfl, rfl⟩ := hv
      have hsv' := hsv
      obtain ⟨e2, obs, j1, j2, j3, j4, j5, j6⟩ := hsv'.ob
      have hsr3 : sr.length = 3 := by omega
      obtain ⟨x0, hx0⟩ : ∃ x0, x0 = s.sv[0]'(by omega) := ⟨_, rfl⟩
      obtain ⟨r0, hr0, hr1, _⟩ := hsr.get 0 (by omega) (by omega)
      rw [← hx0] at hr0 hr1
      have hx0l : x0.l.size ≤ 12000 := by rw [hx0]; exact storeOk_l0 hok (by omega)
      have hsz : x0.l.size + (⟨#[97]⟩ : ByteArray).size ≤ 9223372036854775807 := by
        have : (⟨#[97]⟩ : ByteArray).size = 1 := rfl
        omega
      have j7 : obs.rows[0]? = some [.str x0.l, .str x0.m, .str x0.f, r0, .int .i64 x0.k] := by
        have : (obs.rows.take sr.length)[0]? = sr[0]? := by rw [j6]
        rw [List.getElem?_take, if_pos (by omega)] at this
        rw [this, List.getElem?_eq_getElem (by omega), hr0]
      have u1 := Hp.at_lt j1
      simp [c5, j1, j2, j3, j7, hsz, u1]
      obtain ⟨K, hK⟩ : ∃ K : Hp, K = List.set H5 xs (some ⟨obs.rows.set 0 [.str (x0.l ++ ⟨#[97]⟩), .str x0.m, .str x0.f, r0, .int .i64 x0.k], 5, obs.ety, false⟩) := ⟨_, rfl⟩
      rw [← hK]
      have F : Fr (fun y => y = xs) H5 K := by rw [hK]; exact Fr.one _ _ _
      have jK : K.at xs = some { obs with rows := obs.rows.set 0 [.str (x0.l ++ ⟨#[97]⟩), .str x0.m, .str x0.f, r0, .int .i64 x0.k] } := by rw [hK, Hp.at_set _ u1, ← j2, ← j3]
      have n5 : ∀ {e : Nat}, e ≠ 5 → ∀ x ob, x = xs → H5.at x = some ob → ob.esz ≠ e := fun he x ob hx ho => by
        rw [hx, j1] at ho
        cases ho
        omega
      have ne6 : ∀ {x : Nat} {ob : Ob}, H5.at x = some ob → ob.esz = 6 → ¬ x = xs := fun ho he hx => by
        rw [hx, j1] at ho
        cases ho
        omega
      have hsvK := hsv.setRow j1 0 _ jK
      have hBs := hsm.stB
      refine ⟨by simp, by simp, F.2 _ _ (ne6 b5 rfl) b5, ⟨{ s with sv := s.sv.set 0 { x0 with l := x0.l ++ ⟨#[97]⟩ } }, xa, .sl xl 0 3, .sl xs 0 3, xd, F.2 _ _ (ne6 c5 rfl) c5, xn1, by simp, by simp, xn2, ?_, hBs.1, hBs.2.1, hBs.2.2.1, by simpa using hBs.2.2.2.1, hBs.2.2.2.2.1, fun y hy => ?_, hBs.2.2.2.2.2.2⟩, hD5.trans F (fun x hx => .inr (by omega)), Rd.mono (hr5.fr2 F (fun x hx => by omega)) (by omega)⟩
      · refine ⟨xa, .sl xl 0 3, .sl xs 0 3, xd, lr, sr.set 0 [.str (x0.l ++ ⟨#[97]⟩), .str x0.m, .str x0.f, r0, .int .i64 x0.k], rfl, Rows.frz ha2.ents F (n5 (by simp)), ?_, All2.mono (fun _ _ h => h.fr F (n5 (by simp))) hlr, ?_, All2.set (All2.mono (fun row sv h => ?_) hsr) 0 ⟨r0, rfl, Rows.frz hr1 F (n5 (by simp)), fun _ _ h => h⟩, Rows.frz hd2'.ints F (n5 (by simp))⟩
        · rw [← hl3]
          exact Rows.frz hlv.rows F (n5 (by simp))
        · rw [← hs3]
          exact hsvK.rows
        · obtain ⟨r, e1, e2, _⟩ := h
          exact ⟨r, e1, Rows.frz e2 F (n5 (by simp)), fun _ _ h => h⟩
      · rcases List.mem_or_eq_of_mem_set hy with h | h
        · exact hBs.2.2.2.2.2.1 y h
        · rw [h]
          exact hBs.2.2.2.2.2.1 x0 (by rw [hx0]; exact List.getElem_mem _)
    simp
    refine c_split (fun q4 => ?_) (fun q4 => ?_) <;> simp at q4
    · obtain ⟨a', b', c', d', lr, sr, e, f1, f2, f3, f4, f5, f6⟩ := hm5.st
      simp only [stAV, AV.ag.injEq, List.cons.injEq, and_true, true_and] at e
      obtain ⟨rfl, rfl, rfl, rfl⟩ := e
      have hBs := hsm.stB
      simp [c5, u5]
      exact SpJ.put (s := { s with keep := 6 }) (by simp) (by simp) b5 c5 l21 hol ⟨xa, _, _, xd, lr, sr, rfl, f1, f2, f3, f4, f5, f6⟩ ⟨hBs.1, hBs.2.1, hBs.2.2.1, hBs.2.2.2.1, hBs.2.2.2.2.1, hBs.2.2.2.2.2.1, hBs.2.2.2.2.2.2.1, ⟨by simp, by simp⟩, hBs.2.2.2.2.2.2.2.2⟩ hD5 hr5 (by omega)
    · obtain ⟨p1, p2, p3⟩ := hm5.parts
      simp [c5]
      refine appG_one (bytes := 40) (R := s.top.map entRow) p1.1 (by have := hsm.1.1; simp; omega) (fun v6 H6 g1 g2 g3 => ?_)
      have nd : ∀ {x : Nat} {ob : Ob}, H5.at x = some ob → ob.ety ≠ 99 → ¬ xa.of x := fun ho he hx => he (p1.1.ety hx ho)
      have b6 := g2.2 _ _ (nd b5 (by simp)) b5
      have c6 := g2.2 _ _ (nd c5 (by simp)) c5
      have u6 := Hp.at_lt c6
      have g1' : Ents H6 v6 (s.top ++ [⟨⟨#[]⟩, 0, false, 0⟩]) := by
        have := g1.rows
        simpa [entRow, Ents] using this
      have hBs := hsm.stB
      simp [c6, u6, g1.rows.one, g1.rows.cells, g1.rows.cells1]
      refine SpJ.put (s := { s with top := s.top ++ [⟨⟨#[]⟩, 0, false, 0⟩] }) (by simp) (by simp) b6 c6 l21 hol (hm5.appT g2 g1') ⟨⟨by have := hsm.1.1; simp; omega, fun e he => ?_⟩, hBs.2⟩ (hD5.trans g2 (fun x hx => .inr (p1.2 x hx))) (hr5.fr2 g2 (fun x hx => by have := p1.2 x hx; omega)) (by omega)
      rcases List.mem_append.1 he with h | h
      · exact hBs.1.2 e h
      · rw [List.mem_singleton.1 h]
        exact ⟨by show (0 : Nat) < _; omega, ⟨by simp, by simp⟩, ⟨by simp, by simp⟩⟩
  rintro t H5 ⟨t2, t3, b5, ⟨s', a', b', c', d', c5, n1, n2, n3, n4, hs5, hB5⟩, hD5, hr5⟩
  have u5 := Hp.at_lt b5
  simp [t2, t3, c5, b5, n1, n2, n3, n4, Hp.at_set, u5]
  have F := Fr.one H5 H.length (some ⟨[[a', b', c', .int .i64 s'.keep, .int .i64 s'.time, d']], 6, 28, false⟩)
  have hS5 : ∀ y ob, y = H.length → H5.at y = some ob → ob.esz = 6 := fun y ob hy ho => by rw [hy, b5] at ho; cases ho; rfl
  exact ⟨s', hs5.fr6 F hS5, hB5, hD5.trans F (fun x hx => .inr (by omega)), Rd.mono (hr5.fr F (by omega) (fun x ob hx ho => by have := hS5 x ob hx ho; omega)) (by omega)⟩

end Go.Proofs.YtgoeenodllmdpaaGreat.B


namespace Go.Proofs.YtgoeenodllmdpaaGreat.B
open Go.RowKit Go.Proofs
set_option linter.unusedVariables false
set_option linter.unusedSimpArgs false
variable {E : Env}

theorem toList_inj' {x y : ByteArray} (h : x.toList = y.toList) : x = y := by
  have := toList_beq x y
  rw [h] at this
  simpa using this.symm
theorem ltRuns_ok (a b : AV) (xs ys : List Ent) (H : Hp) (ha : Ents H a xs) (hb : Ents H b ys) (hx : xs.length < 9223372036854775807) : AC Tryz.prog E 17 [a, b] H (fun v H' => v = .bool (decide (xs = ys)) ∧ H' = H) := by
  refine AC_byp (CLe.refl _) h_laws_ltRuns (by simp) ?_
  have l1 := ha.len
  have l2 := hb.len
  simp [c_laws_ltRuns, l1, l2, ha.slc, hb.slc]
  refine c_split (fun hq => ?_) (fun hq => ?_) <;> simp at hq <;> simp
  · intro h
    subst h
    exact hq rfl
  · refine W_for (fun k t H' => ∃ i : Nat, i + k = xs.length ∧ t 0 = a ∧ t 1 = b ∧ t 5 = .int .i64 i ∧ (∀ j : Nat, j < i → xs[j]? = ys[j]?) ∧ HLe H H') xs.length ?_ AC_mono ?_
    · exact ⟨0, by simp⟩
    rintro k t H' ⟨i, hik, h0, h1, h5, hI, hle⟩
    simp [h0, h1, h5, l1, ha.slc]
    refine c_split (fun hq2 => ?_) (fun hq2 => ?_) <;> simp at hq2
    · have hw := wrapN (i := i) (by omega)
      obtain ⟨o1, i1, ob1, rfl, a1, a2, a3⟩ := (ha.le hle).get hq2
      obtain ⟨o2, i2, ob2, rfl, b1, b2, b3⟩ := (hb.le hle).get (j := i) (by omega)
      obtain ⟨m, hm⟩ : ∃ m, m = xs[i] := ⟨_, rfl⟩
      obtain ⟨n, hn⟩ : ∃ n, n = ys[i]'(by omega) := ⟨_, rfl⟩
      rw [← hm] at a3
      rw [← hn] at b3
      simp [h0, h1, h5, a1, a2, a3, b1, b2, b3, hq2, ← hq, entRow]
      refine c_split (fun hq3 => ?_) (fun hq3 => ?_) <;> simp at hq3 <;> simp [h0, h1, h5, hw, hle]
      · intro h
        subst h
        rw [← hn] at hm
        subst hm
        simp at hq3
      · refine ⟨k - 1, by omega, i + 1, by omega, by omega, fun j hj => ?_⟩
        rcases Nat.lt_or_ge j i with h | h
        · exact hI j h
        · have : j = i := by omega
          subst this
          rw [List.getElem?_eq_getElem hq2, List.getElem?_eq_getElem (by omega), ← hm, ← hn]
          obtain ⟨m1, m2, m3, m4⟩ := m
          obtain ⟨n1, n2, n3, n4⟩ := n
          simp at hq3 ⊢
          exact ⟨toList_inj' hq3.1, hq3.2.1, hq3.2.2.1, hq3.2.2.2⟩
    · simp [hle]
      apply List.ext_getElem?
      intro j
      rcases Nat.lt_or_ge j i with h | h
      · exact hI j h
      · rw [List.getElem?_eq_none (by omega), List.getElem?_eq_none (by omega)]
theorem ltSames_ok (a b : AV) (xs ys : List ByteArray) (H : Hp) (ha : Strs H a xs) (hb : Strs H b ys) (hx : xs.length < 4611686018427387904) : AC Tryz.prog E 175 [a, b] H (fun v H' => v = .bool (decide (xs = ys)) ∧ H' = H) := by
  refine AC_byp (tC_le tab2_ok) h_laws_ltSames (by simp) ?_
  have l1 := ha.len
  have l2 := hb.len
  simp [c_laws_ltSames, l1, l2, ha.slc, hb.slc]
  refine c_split (fun hq => ?_) (fun hq => ?_) <;> simp at hq <;> simp
  · intro h
    subst h
    exact hq rfl
  · refine W_for (fun k t H' => ∃ i : Nat, i + k = xs.length ∧ t 0 = a ∧ t 1 = b ∧ t 5 = .int .i64 i ∧ (∀ j : Nat, j < i → xs[j]? = ys[j]?) ∧ HLe H H') xs.length ?_ (tC_mono AC_mono) ?_
    · exact ⟨0, by simp⟩
    rintro k t H' ⟨i, hik, h0, h1, h5, hI, hle⟩
    simp [h0, h1, h5, l1, ha.slc]
    refine c_split (fun hq2 => ?_) (fun hq2 => ?_) <;> simp at hq2
    · have hw := wrapN (i := i) (by omega)
      obtain ⟨o1, i1, ob1, rfl, a1, a2, a3⟩ := (ha.le hle).get hq2
      obtain ⟨o2, i2, ob2, rfl, b1, b2, b3⟩ := (hb.le hle).get (j := i) (by omega)
      simp [h0, h1, h5, a1, a2, a3, b1, b2, b3, hq2, ← hq]
      refine c_split (fun hq3 => ?_) (fun hq3 => ?_) <;> simp at hq3 <;> simp [h0, h1, h5, hw, hle]
      · intro h
        subst h
        exact hq3 rfl
      · refine ⟨k - 1, by omega, i + 1, by omega, rfl, fun j hj => ?_⟩
        rcases Nat.lt_or_ge j i with h | h
        · exact hI j h
        · have : j = i := by omega
          subst this
          rw [List.getElem?_eq_getElem hq2, List.getElem?_eq_getElem (by omega), hq3]
    · simp [hle]
      apply List.ext_getElem?
      intro j
      rcases Nat.lt_or_ge j i with h | h
      · exact hI j h
      · rw [List.getElem?_eq_none (by omega), List.getElem?_eq_none (by omega)]

theorem ltInts_ok (a b : AV) (xs ys : List Int) (H : Hp) (ha : Ints H a xs) (hb : Ints H b ys) (hx : xs.length < 4611686018427387904) : AC Tryz.prog E 102 [a, b] H (fun v H' => v = .bool (decide (xs = ys)) ∧ H' = H) := by
  refine AC_byp (tC_le tab2_ok) h_laws_ltInts (by simp) ?_
  have l1 := ha.len
  have l2 := hb.len
  simp [c_laws_ltInts, l1, l2, ha.slc, hb.slc]
  refine c_split (fun hq => ?_) (fun hq => ?_) <;> simp at hq <;> simp
  · intro h
    subst h
    exact hq rfl
  · refine W_for (fun k t H' => ∃ i : Nat, i + k = xs.length ∧ t 0 = a ∧ t 1 = b ∧ t 5 = .int .i64 i ∧ (∀ j : Nat, j < i → xs[j]? = ys[j]?) ∧ HLe H H') xs.length ?_ (tC_mono AC_mono) ?_
    · exact ⟨0, by simp⟩
    rintro k t H' ⟨i, hik, h0, h1, h5, hI, hle⟩
    simp [h0, h1, h5, l1, ha.slc]
    refine c_split (fun hq2 => ?_) (fun hq2 => ?_) <;> simp at hq2
    · have hw := wrapN (i := i) (by omega)
      obtain ⟨o1, i1, ob1, rfl, a1, a2, a3⟩ := (ha.le hle).get hq2
      obtain ⟨o2, i2, ob2, rfl, b1, b2, b3⟩ := (hb.le hle).get (j := i) (by omega)
      simp [h0, h1, h5, a1, a2, a3, b1, b2, b3, hq2, ← hq]
      refine c_split (fun hq3 => ?_) (fun hq3 => ?_) <;> simp at hq3 <;> simp [h0, h1, h5, hw, hle]
      · intro h
        subst h
        exact hq3 rfl
      · refine ⟨k - 1, by omega, i + 1, by omega, rfl, fun j hj => ?_⟩
        rcases Nat.lt_or_ge j i with h | h
        · exact hI j h
        · have : j = i := by omega
          subst this
          rw [List.getElem?_eq_getElem hq2, List.getElem?_eq_getElem (by omega), hq3]
    · simp [hle]
      apply List.ext_getElem?
      intro j
      rcases Nat.lt_or_ge j i with h | h
      · exact hI j h
      · rw [List.getElem?_eq_none (by omega), List.getElem?_eq_none (by omega)]


end Go.Proofs.YtgoeenodllmdpaaGreat.B


namespace Go.Proofs.YtgoeenodllmdpaaGreat.B
open Go.RowKit Go.Proofs
set_option linter.unusedVariables false
set_option linter.unusedSimpArgs false
variable {E : Env}

theorem ltSieve_ok (r r' : AV) (s s' : Sv) (H : Hp) (hr : Strs H r s.r) (hr' : Strs H r' s'.r) (hx : s.r.length < 4611686018427387904) :
    AC Tryz.prog E 103 [svAV s r, svAV s' r'] H (fun v H' => v = .bool (decide (s = s')) ∧ H' = H) := by
  refine AC_byp (tC_le tabJ_ok) h_laws_ltSieve (by simp) ?_
  have ed : decide (s = s') = (decide (s.l = s'.l) && (decide (s.m = s'.m) && (decide (s.f = s'.f) && (decide (s.k = s'.k) && decide (s.r = s'.r))))) := by
    obtain ⟨x1, x2, x3, x4, x5⟩ := s
    obtain ⟨y1, y2, y3, y4, y5⟩ := s'
    simp only [Sv.mk.injEq, Bool.decide_and]
    cases decide (x1 = y1) <;> cases decide (x2 = y2) <;> cases decide (x3 = y3) <;> cases decide (x4 = y4) <;> cases decide (x5 = y5) <;> rfl
  rw [ed]
  obtain ⟨H1, hH1⟩ : ∃ H1 : Hp, H1 = H ++ [some ⟨[[.str s.l, .str s.m, .str s.f, r, .int .i64 s.k]], 5, 66, false⟩, some ⟨[[.str s'.l, .str s'.m, .str s'.f, r', .int .i64 s'.k]], 5, 66, false⟩] := ⟨_, rfl⟩
  have hle1 : HLe H H1 := by rw [hH1]; exact HLe.self _ _
  have b0 : H1.at H.length = some ⟨[[.str s.l, .str s.m, .str s.f, r, .int .i64 s.k]], 5, 66, false⟩ := by rw [hH1]; simp
  have b1 : H1.at (H.length + 1) = some ⟨[[.str s'.l, .str s'.m, .str s'.f, r', .int .i64 s'.k]], 5, 66, false⟩ := by rw [hH1]; simp
  simp [c_laws_ltSieve, svAV, Rows.one hr, Rows.one hr', ← hH1, b0, b1]
  by_cases e1 : s.l = s'.l
  · by_cases e2 : s.m = s'.m
    · by_cases e3 : s.f = s'.f
      · by_cases e4 : s.k = s'.k
        · simp [e1, e2, e3, e4, b0, b1]
          refine cg_use (ltSames_ok r r' s.r s'.r H1 (hr.le hle1) (hr'.le hle1) hx) ?_
          simp [hle1]
        · simp [e1, e2, e3, e4, b0, b1, hle1]
      · simp [e1, e2, e3, b0, b1, hle1]
    · simp [e1, e2, b0, b1, hle1]
  · simp [e1, hle1]
theorem pre_add {α : Type} {xs ys : List α} {i : Nat} (h : ∀ j, j < i → xs[j]? = ys[j]?) (hx : i < xs.length) (hy : i < ys.length) (he : xs[i] = ys[i]) : ∀ j, j < i + 1 → xs[j]? = ys[j]? := by
  intro j hj
  rcases Nat.lt_or_ge j i with h2 | h2
  · exact h j h2
  · have : j = i := by omega
    subst this
    rw [List.getElem?_eq_getElem hx, List.getElem?_eq_getElem hy, he]
theorem pre_all {α : Type} {xs ys : List α} {i : Nat} (h : ∀ j, j < i → xs[j]? = ys[j]?) (hx : xs.length ≤ i) (hl : xs.length = ys.length) : xs = ys := by
  apply List.ext_getElem?
  intro j
  rcases Nat.lt_or_ge j i with h2 | h2
  · exact h j h2
  · rw [List.getElem?_eq_none (by omega), List.getElem?_eq_none (by omega)]
set_option maxHeartbeats 1600000 in
theorem ltStore_ok (v v' : AV) (s s' : Sr) (H : Hp) (hs : St H v s) (hs' : St H v' s') (hb : StB s) (hb' : StB s') :
    AC Tryz.prog E 29 [v, v'] H (fun u H' => u = .bool (decide (s = s')) ∧ H' = H) := by
  obtain ⟨a, b, c, d, lr, sr, rfl, f1, f2, f3, f4, f5, f6⟩ := hs
  obtain ⟨a', b', c', d', lr', sr', rfl, g1, g2, g3, g4, g5, g6⟩ := hs'
  refine AC_byp (tC_le tabJ_ok) h_laws_ltStore (by simp) ?_
  obtain ⟨H1, hH1⟩ : ∃ H1 : Hp, H1 = H ++ [some ⟨[[a, b, c, .int .i64 s.keep, .int .i64 s.time, d]], 6, 28, false⟩, some ⟨[[a', b', c', .int .i64 s'.keep, .int .i64 s'.time, d']], 6, 28, false⟩] := ⟨_, rfl⟩
  have hle1 : HLe H H1 := by rw [hH1]; exact HLe.self _ _
  have b0 : H1.at H.length = some ⟨[[a, b, c, .int .i64 s.keep, .int .i64 s.time, d]], 6, 28, false⟩ := by rw [hH1]; simp
  have b1 : H1.at (H.length + 1) = some ⟨[[a', b', c', .int .i64 s'.keep, .int .i64 s'.time, d']], 6, 28, false⟩ := by rw [hH1]; simp
  have ll := f3.length
  have ll' := g3.length
  have ls := f5.length
  have ls' := g5.length
  have k1 := f2.len
  have k2 := g2.len
  have k3 := f4.len
  have k4 := g4.len
  rw [ll] at k1
  rw [ll'] at k2
  rw [ls] at k3
  rw [ls'] at k4
  have hB := hb.2.2.1
  have hB' := hb'.2.2.1
  have hC := hb.2.2.2.1
  have no : ∀ {p : Prop}, (s = s' → p) → ¬ p → decide (s = s') = false := fun h hp => decide_eq_false (fun e => hp (h e))
  simp [c_laws_ltStore, stAV, Rows.one f1, f2.one, f4.one, Rows.one f6, Rows.one g1, g2.one, g4.one, Rows.one g6, ← hH1, b0, b1]
  refine cg_use (ltRuns_ok a a' s.top s'.top H1 (f1.le hle1) (g1.le hle1) (by have := hb.1.1; omega)) ?_
  by_cases e1 : s.top = s'.top
  · simp [e1, b0, b1, k1, k2, f2.slc, g2.slc]
    by_cases e2 : s.lev.length = s'.lev.length
    · simp [e2, b0, b1, k3, k4, f4.slc, g4.slc]
      by_cases e3 : s.sv.length = s'.sv.length
      · simp [e3, b0, b1]
        by_cases e4 : s.keep = s'.keep
        · simp [e4, b0, b1]
          by_cases e5 : s.time = s'.time
          · simp [e5, b0, b1]
            refine cg_use (ltInts_ok d d' s.tms s'.tms H1 (f6.le hle1) (g6.le hle1) (by have := hb.2.2.2.2.1; omega)) ?_
            by_cases e6 : s.tms = s'.tms
            · simp [e6]
              refine W_for (fun m t H' => ∃ i : Nat, i + m = s.lev.length ∧ t 2 = .pt H.length 0 0 ∧ t 3 = .pt (H.length + 1) 0 0 ∧ t 5 = .int .i64 i ∧ H' = H1 ∧ (∀ j, j < i → s.lev[j]? = s'.lev[j]?)) s.lev.length ?_ (tC_mono AC_mono) ?_
              · exact ⟨0, by simp⟩
              rintro m t H' ⟨i, him, t2, t3, t5, rfl, hI⟩
              simp [t2, t3, t5, b0, b1, k1, k2, f2.slc, g2.slc]
              refine c_split (fun hq => ?_) (fun hq => ?_) <;> simp at hq
              · have hw := wrapN (i := i) (by omega)
                have hil : i < s.lev.length := by omega
                have hil' : i < s'.lev.length := by omega
                obtain ⟨o1, i1, ob1, rfl, x1, x2, x3⟩ := f2.get (j := i) (by omega)
                obtain ⟨u, hu, hue⟩ := f3.get i (by omega) hil
                obtain ⟨o2, i2, ob2, rfl, y1, y2, y3⟩ := g2.get (j := i) (by omega)
                obtain ⟨u', hu', hue'⟩ := g3.get i (by omega) hil'
                rw [hu] at x3
                rw [hu'] at y3
                have x1' := hle1.2 _ _ x1
                have y1' := hle1.2 _ _ y1
                have q1 : i < lr.length := by omega
                have q2 : i < lr'.length := by omega
                simp [t2, t3, t5, b0, b1, x1', x2, x3, y1', y2, y3, q1, q2]
                refine cg_use (ltRuns_ok u u' s.lev[i] s'.lev[i] H' (hue.le hle1) (hue'.le hle1) (by have := (hb.2.1 _ (List.getElem_mem hil)).1; omega)) ?_
                by_cases ez : s.lev[i] = s'.lev[i]
                · simp [ez, t2, t3, t5, hw]
                  exact ⟨m - 1, by omega, i + 1, by omega, by omega, pre_add hI hil hil' ez⟩
                · have hn := no (p := s.lev[i] = s'.lev[i]) (fun h => by simp [h]) ez
                  simp [ez, hn, hle1]
              have elev : s.lev = s'.lev := pre_all hI (by omega) e2
              simp
              refine W_for (fun m t H2 => ∃ i : Nat, i + m = s.sv.length ∧ t 2 = .pt H.length 0 0 ∧ t 3 = .pt (H.length + 1) 0 0 ∧ t 6 = .int .i64 i ∧ H2 = H' ∧ (∀ j, j < i → s.sv[j]? = s'.sv[j]?)) s.sv.length ?_ (tC_mono AC_mono) ?_
              · exact ⟨0, by simp [t2, t3]⟩
              clear t2 t3 t5 him hq hI
              rintro m t H2 ⟨i, him, t2, t3, t6, rfl, hI⟩
              simp [t2, t3, t6, b0, b1, k3, k4, f4.slc, g4.slc]
              refine c_split (fun hq => ?_) (fun hq => ?_) <;> simp at hq
              · have hw := wrapN (i := i) (by omega)
                have hil : i < s.sv.length := by omega
                have hil' : i < s'.sv.length := by omega
                obtain ⟨o1, i1, ob1, rfl, x1, x2, x3⟩ := f4.get (j := i) (by omega)
                obtain ⟨u, hu, hue, _⟩ := f5.get i (by omega) hil
                obtain ⟨o2, i2, ob2, rfl, y1, y2, y3⟩ := g4.get (j := i) (by omega)
                obtain ⟨u', hu', hue', _⟩ := g5.get i (by omega) hil'
                rw [hu] at x3
                rw [hu'] at y3
                have x1' := hle1.2 _ _ x1
                have y1' := hle1.2 _ _ y1
                have q1 : i < sr.length := by omega
                have q2 : i < sr'.length := by omega
                simp [t2, t3, t6, b0, b1, x1', x2, x3, y1', y2, y3, q1, q2]
                have hsk := ltSieve_ok (E := E) u u' s.sv[i] s'.sv[i] H2 (hue.le hle1) (hue'.le hle1) (by have := hb.2.2.2.2.2.1 _ (List.getElem_mem hil); omega)
                simp only [svAV] at hsk
                refine cg_use hsk ?_
                by_cases ez : s.sv[i] = s'.sv[i]
                · simp [ez, t2, t3, t6, hw]
                  exact ⟨m - 1, by omega, i + 1, by omega, by omega, pre_add hI hil hil' ez⟩
                · have hn := no (p := s.sv[i] = s'.sv[i]) (fun h => by simp [h]) ez
                  simp [ez, hn, hle1]
              have esv : s.sv = s'.sv := pre_all hI (by omega) e3
              have es : s = s' := by
                obtain ⟨z1, z2, z3, z4, z5, z6⟩ := s
                obtain ⟨w1, w2, w3, w4, w5, w6⟩ := s'
                simp only at e1 elev esv e4 e5 e6
                rw [e1, elev, esv, e4, e5, e6]
              simp [es, hle1]
            · simp [e6, no (fun h => by rw [h]) e6, hle1]
          · simp [e5, no (fun h => by rw [h]) e5, hle1]
        · simp [e4, no (fun h => by rw [h]) e4, hle1]
      · have e3I : ¬ (s.sv.length : Int) = (s'.sv.length : Int) := by omega
        simp [e3, e3I, no (fun h => by rw [h]) e3, hle1]
    · have e2I : ¬ (s.lev.length : Int) = (s'.lev.length : Int) := by omega
      simp [e2, e2I, no (fun h => by rw [h]) e2, hle1]
  · simp [e1, no (fun h => by rw [h]) e1, hle1]

end Go.Proofs.YtgoeenodllmdpaaGreat.B


namespace Go.Proofs.YtgoeenodllmdpaaGreat.B
open Go.RowKit
set_option linter.unusedVariables false
set_option linter.unusedSimpArgs false

def idleR : Sr → List Dd → List Dd
  | _, [] => []
  | s, d :: ds => if storeOk s = true ∧ (doR s d).getD s ≠ s then d :: idleR ((doR s d).getD s) ds else idleR s ds
theorem doR_bad {s : Sr} (h : ¬ storeOk s = true) (d : Dd) : doR s d = none := by
  have h : storeOk s = false := by simpa using h
  simp [doR, putR, takeR, addR, holdR, freeR, letR, joinR, h]
theorem idleR_same : ∀ (ds : List Dd) (s : Sr), doAll s (idleR s ds) = doAll s ds
  | [], s => rfl
  | d :: ds, s => by
    rw [idleR]
    have e : doAll s (d :: ds) = doAll ((doR s d).getD s) ds := rfl
    split
    · rw [e, ← idleR_same ds]
      rfl
    · rename_i h
      rw [e, idleR_same ds]
      congr 1
      by_cases hs : storeOk s = true
      · have : ¬ ((doR s d).getD s ≠ s) := fun hne => h ⟨hs, hne⟩
        exact (Decidable.not_not.1 this).symm
      · rw [doR_bad hs]
        rfl
theorem idleR_len : ∀ (ds : List Dd) (s : Sr), (idleR s ds).length ≤ ds.length
  | [], s => Nat.le_refl _
  | d :: ds, s => by
    rw [idleR]
    split
    · have := idleR_len ds ((doR s d).getD s)
      simp only [List.length_cons]
      omega
    · have := idleR_len ds s
      simp only [List.length_cons]
      omega
theorem pastR_idle {s : Sr} {ds : List Dd} (h : (pastR s ds).isSome = true) : pastR s (idleR s ds) = pastR s ds := by
  unfold pastR at h ⊢
  split at h
  · rename_i hc
    simp only [Bool.and_eq_true, decide_eq_true_eq] at hc
    have := idleR_len ds s
    rw [if_pos (by simp only [Bool.and_eq_true, decide_eq_true_eq]; exact ⟨hc.1, by omega⟩), if_pos (by simp only [Bool.and_eq_true, decide_eq_true_eq]; exact hc), idleR_same]
  · cases h

end Go.Proofs.YtgoeenodllmdpaaGreat.B


namespace Go.Proofs.YtgoeenodllmdpaaGreat.B
open Go.RowKit Go.Proofs
set_option linter.unusedVariables false
set_option linter.unusedSimpArgs false
variable {E : Env}

theorem BoxS.le {H H' : Hp} {L : Nat} {s : Sr} (h : BoxS H L s) (hle : HLe H H') : BoxS H' L s := by
  obtain ⟨a, b, c, d, h1, h2, h3, h4, h5, h6, h7⟩ := h
  exact ⟨a, b, c, d, hle.2 _ _ h1, h2, h3, h4, h5, h6.le hle, h7⟩
theorem BoxS.mk' {K : Hp} {L : Nat} {a b c k t d : AV} {y : Sr} (hb : K.at L = some ⟨[[a, b, c, k, t, d]], 6, 28, false⟩) (hs : St K (.ag [a, b, c, k, t, d]) y) (hB : StB y) : BoxS K L y := by
  have hs0 := hs
  obtain ⟨a', b', c', d', e, n1, n2, n3, n4, _⟩ := hs.shape
  simp only [stAV, AV.ag.injEq, List.cons.injEq, and_true, true_and] at e
  obtain ⟨rfl, rfl, rfl, rfl, rfl, rfl⟩ := e
  exact ⟨a, b, c, d, hb, n1, n2, n3, n4, hs0, hB⟩
theorem St.frE {S : Nat → Prop} {e : Nat} {H H' : Hp} {v : AV} {s : Sr} (h : St H v s) (hf : Fr S H H') (he : e ≠ 1 ∧ e ≠ 4 ∧ e ≠ 5) (hS : ∀ y ob, S y → H.at y = some ob → ob.esz = e) : St H' v s := by
  obtain ⟨a, b, c, d, lr, sr, e0, h1, h2, h3, h4, h5, h6⟩ := h
  have n : ∀ {k : Nat}, e ≠ k → ∀ y ob, S y → H.at y = some ob → ob.esz ≠ k := fun hk y ob hy ho => by rw [hS y ob hy ho]; exact hk
  exact ⟨a, b, c, d, lr, sr, e0, Rows.frz h1 hf (n he.2.1), Rows.frz h2 hf (n he.1), All2.mono (fun _ _ ⟨u, k1, k2⟩ => ⟨u, k1, Rows.frz k2 hf (n he.2.1)⟩) h3, Rows.frz h4 hf (n he.2.2), All2.mono (fun _ _ ⟨u, k1, k2, k3⟩ => ⟨u, k1, Rows.frz k2 hf (n he.1), k3⟩) h5, Rows.frz h6 hf (n he.1)⟩
theorem pastR_one (s : Sr) (d : Dd) : pastR s [d] = if storeOk s = true then some ((doR s d).getD s) else none := by
  unfold pastR
  cases h : storeOk s <;> rfl
theorem idleR_step (s : Sr) (ds : List Dd) {i : Nat} (hi : i < ds.length) : idleR s (ds.drop i) = if storeOk s = true ∧ (doR s ds[i]).getD s ≠ s then ds[i] :: idleR ((doR s ds[i]).getD s) (ds.drop (i + 1)) else idleR s (ds.drop (i + 1)) := by
  rw [List.drop_eq_getElem_cons hi, idleR]
theorem cutG_at {esz o i n l k : Nat} {H : Hp} {ob : Ob} {C : CallP} {d : Option Nat} {p : Plan} {t : Tm} {K : Tm → Hp → Prop} {z z' : Int} (ho : H.at o = some ob) (he : ob.esz = esz) (hb : i + n ≤ ob.rows.length) (hl : l ≤ k) (hn : k ≤ n) (hz : z = l) (hz' : z' = k)
    (hk : RgP C p (updO t d (.sl o (i + l) (k - l))) H K) : cutG (.sl o i n) (some (.int .i64 z)) (some (.int .i64 z')) esz C d p t H K := by
  subst hz hz'
  unfold cutG
  simp only [stepA, Od.ev, Option.map_some, Option.map_none, optI, ho, he, Option.bind_some, if_true]
  rw [show intA (AV.int IntKind.i64 (l : Int)) = some (l : Int) from rfl, show intA (AV.int IntKind.i64 (k : Int)) = some (k : Int) from rfl]
  simp only [Option.bind_some]
  rw [if_pos ⟨by omega, by omega, by omega⟩]
  show RgP C p (updO t d (.sl o (i + (l : Int).toNat) ((k : Int).toNat - (l : Int).toNat))) H K
  simpa only [Int.toNat_natCast] using hk
def LdI (H : Hp) (u : AV) (ds : List Dd) (s : Sr) (m : Nat) (t : Tm) (H' : Hp) : Prop := ∃ (i : Nat) (x : Sr) (v5 : AV) (out : List Dd), i + m = ds.length ∧ t 1 = u ∧ t 2 = .pt H.length 0 0 ∧ t 5 = v5 ∧ t 6 = .int .i64 i ∧ HLe H H' ∧ BoxS H' H.length x ∧ OwnD H H' v5 out ∧ out ++ idleR x (ds.drop i) = idleR s ds ∧ out.length ≤ i
def LdJ (H H' : Hp) (u v5 : AV) (i : Nat) (x y : Sr) (t : Tm) (H2 : Hp) : Prop := t 1 = u ∧ t 2 = .pt H.length 0 0 ∧ t 5 = v5 ∧ t 6 = .int .i64 i ∧ HLe H' H2 ∧ ∃ L7, t 7 = .pt L7 0 0 ∧ H'.length ≤ L7 ∧ t 8 = .bool (storeOk x) ∧ (storeOk x = true → BoxS H2 L7 y)
set_option maxHeartbeats 1600000 in
theorem ltDeeds_ok (v u : AV) (s : Sr) (ds : List Dd) (H : Hp) (hs : St H v s) (hb : StB s) (hu : Dds H u ds) (hn : ds.length ≤ 1000) (hk : ∀ d ∈ ds, d.key.size < 4611686018427387904) :
    AC Tryz.prog E 32 [v, u] H (fun w H' => HLe H H' ∧ OwnD H H' w (idleR s ds)) := by
  have hs0 := hs
  obtain ⟨a, b, c, d, rfl, n1, n2, n3, n4, hea, hed⟩ := hs.shape
  refine AC_by fol (tC_le tabJ_ok) h_laws_ltDeeds ?_
  have hlen : lenV u = .int .i64 ds.length := by simpa using Rows.len hu
  have hslc : slC u := Rows.slc hu
  simp [c_laws_ltDeeds, n1, n2, n3, n4]
  refine W_for (fun m t H' => LdI H u ds s m t H') ds.length ?_ (tC_mono AC_mono) ?_
  · have hb' : HLe H (H ++ [some ⟨[[a, b, c, .int .i64 s.keep, .int .i64 s.time, d]], 6, 28, false⟩]) := HLe.self _ _
    have hlit := OwnM.lit0 (esz := 3) (ety := 47) (row := ddRow) (H0 := H) hb'
    simp only [List.append_assoc, List.cons_append, List.nil_append, List.length_append, List.length_singleton] at hlit
    exact ⟨0, s, .sl (H.length + 1) 0 0, [], by omega, by simp, by simp, by simp, by simp, HLe.self _ _, ⟨a, b, c, d, by simp, n1, n2, n3, n4, hs0.le (HLe.self _ _), hb⟩, hlit, by simp, by simp⟩
  rintro m t H' ⟨i, x, v5, out, him, t1, t2, t5, t6, hle, hbx, hv5, hout, hol⟩
  have hu' := Rows.le hu hle
  simp [-RgP_both, t1, t2, t5, t6, hlen, hslc]
  refine c_split (fun hq => ?_) (fun hq => ?_) <;> simp at hq
  · have hi : i < ds.length := by omega
    have hw := wrapN (i := i) (by omega)
    obtain ⟨xa, xb, xc, xd, c0, m1, m2, m3, m4, hxs, hxb⟩ := hbx
    have hu2 := hu'
    rcases hu2 with ⟨rfl, e⟩ | ⟨rfl, e⟩ | ⟨o, i0, ob, rfl, a1, a2, a3, a4⟩
    · rw [List.map_eq_nil_iff] at e
      rw [e] at hi
      cases hi
    · rw [List.map_eq_nil_iff] at e
      rw [e] at hi
      cases hi
    rw [List.length_map] at *
    obtain ⟨y, hy⟩ : ∃ y, y = (doR x ds[i]).getD x := ⟨_, rfl⟩
    simp [-RgP_both, t1, t2, t5, t6, c0, hw]
    refine cutG_at (l := i) (k := i + 1) a1 a2 a3 (by omega) (by omega) rfl (by omega) ?_
    refine RgP_then (tC_mono AC_mono) (LdJ H H' (.sl o i0 ds.length) v5 i x y) ?_ ?_
    · have hi1 : (i : Int) + 1 ≤ (ds.length : Int) := by omega
      have hiI : (i : Int) < (ds.length : Int) := by omega
      have hd1 : ∀ {K : Hp}, HLe H' K → Dds K (.sl o (i0 + i) 1) [ds[i]] := fun hK => .inr (.inr ⟨o, i0 + i, ob, rfl, hK.2 _ _ a1, a2, by simp; omega, by
        have := congrArg (fun l => (l.drop i).take 1) a4
        simp only [List.drop_take, List.take_take, List.drop_drop] at this
        rw [Nat.min_eq_left (by omega)] at this
        have e : List.take 1 (List.drop i (ds.map ddRow)) = [ddRow ds[i]] := by
          rw [List.drop_eq_getElem_cons (by rw [List.length_map]; omega), List.take_succ_cons, List.take_zero, List.getElem_map]
        exact this.trans e⟩)
      have ii : (i : Int) ≤ (i : Int) + 1 := by omega
      have hk1 : ∀ d ∈ [ds[i]], d.key.size < 4611686018427387904 := fun d hd => by rw [List.mem_singleton.1 hd]; exact hk _ (List.getElem_mem hi)
      have fin : ∀ {K G : Hp} {w : AV} {S : Nat → Prop}, RetS K G (.tu [w, .bool (pastR x [ds[i]]).isSome]) (pastR x [ds[i]]) → (pastR x [ds[i]]).isSome = storeOk x ∧ (storeOk x = true → St G w y ∧ StB y) := by
        intro K G w S hret
        rw [pastR_one] at hret ⊢
        cases hso : storeOk x with
        | false => simp
        | true =>
          rw [hso] at hret
          simp only [if_true] at hret ⊢
          obtain ⟨_, w', hw', hm⟩ := hret
          rw [← hy] at hm
          cases hw'
          exact ⟨rfl, fun _ => ⟨hm.st, (pastR_small (s := x) (ds := [ds[i]]) (by rw [pastR_one, if_pos hso, hy])).stB⟩⟩
      rw [RgP_both]
      refine ⟨?_, ?_⟩
      · simp
        refine cg_ex (PastDo_ok _ (.sl o (i0 + i) 1) x [ds[i]] H' hxs hxb (hd1 (HLe.refl _)) hk1) ?_
        rintro w H2 hret
        obtain ⟨ya, yb, yc, yk, yt, yd, rfl, o1, o2, o3, o4, o5, o6⟩ := hret.shape
        obtain ⟨z1, z2⟩ := fin (S := fun _ => False) hret
        have hle2 := hret.1
        obtain ⟨K, hK⟩ : ∃ K : Hp, K = H2 ++ [some ⟨[[ya, yb, yc, yk, yt, yd]], 6, 28, false⟩] := ⟨_, rfl⟩
        have hleK : HLe H2 K := by rw [hK]; exact HLe.self _ _
        have cK := hleK.2 _ _ (hle2.2 _ _ c0)
        have aK := hleK.2 _ _ (hle2.2 _ _ a1)
        simp [o1, o2, o3, o4, o5, o6, Hp.at_app, Hp.at_lt (hle2.2 _ _ c0), Hp.at_lt (hle2.2 _ _ a1), hle2.2 _ _ c0, hle2.2 _ _ a1, a2, hi1, ii, t2, ← hK]
        exact ⟨by simp [t1], by simp [t2], by simp [t5], by simp [t6], hle2.trans hleK, H2.length, by simp, hle2.1, by simp [z1], fun h => BoxS.mk' (by rw [hK]; simp) ((z2 h).1.le hleK) (z2 h).2⟩
      · obtain ⟨K, hK⟩ : ∃ K : Hp, K = H' ++ [some ⟨[[.nils, .nils, .nils, .int .i64 0, .int .i64 0, .nils]], 6, 28, false⟩] := ⟨_, rfl⟩
        have hleK : HLe H' K := by rw [hK]; exact HLe.self _ _
        have cK := hleK.2 _ _ c0
        have aK := hleK.2 _ _ a1
        have bK : K.at H'.length = some ⟨[[.nils, .nils, .nils, .int .i64 0, .int .i64 0, .nils]], 6, 28, false⟩ := by rw [hK]; simp
        simp [← hK, cK, aK, a2, hi1, ii, t2]
        refine cg_ex (PastDo_ok _ (.sl o (i0 + i) 1) x [ds[i]] K (hxs.le hleK) hxb (hd1 hleK) hk1) ?_
        rintro w H2 hret
        obtain ⟨ya, yb, yc, yk, yt, yd, rfl, o1, o2, o3, o4, o5, o6⟩ := hret.shape
        obtain ⟨z1, z2⟩ := fin (S := fun _ => False) hret
        have hle2 := hret.1
        have b2 := hle2.2 _ _ bK
        have u2 := Hp.at_lt b2
        simp [o1, o2, o3, o4, o5, o6, b2, u2, Hp.at_set]
        have F := Fr.one H2 H'.length (some ⟨[[ya, yb, yc, yk, yt, yd]], 6, 28, false⟩)
        exact ⟨by simp [t1], by simp [t2], by simp [t5], by simp [t6], (hleK.trans hle2).set (Nat.le_refl _) _, H'.length, by simp, Nat.le_refl _, by simp [z1], fun h => BoxS.mk' (Hp.at_set _ u2) ((z2 h).1.fr6 F (fun q ob hq ho => by rw [hq, b2] at ho; cases ho; rfl)) (z2 h).2⟩
    rintro t H2 ⟨t1, t2, t5, t6, hle2, L7, t7, hL7, t8, hby⟩
    have c2 := hle2.2 _ _ c0
    have a12 := hle2.2 _ _ a1
    have u2 := Hp.at_lt c2
    have hst := idleR_step x ds hi
    rw [← hy] at hst
    have hleH := hle.trans hle2
    cases hso : storeOk x with
    | false =>
      rw [hso] at t8 hst
      simp [t1, t2, t5, t6, t7, t8, hw]
      exact ⟨m - 1, by omega, i + 1, x, v5, out, by omega, by simp [t1], by simp [t2], by simp [t5], by simp, hleH, BoxS.mk' c2 (hxs.le hle2) hxb, hv5.le hle2, by rw [← hout, hst]; simp, by omega⟩
    | true =>
      rw [hso] at t8 hst
      obtain ⟨ya, yb, yc, yd, d7, p1, p2, p3, p4, hys, hyb⟩ := hby hso
      simp [t1, t2, t5, t6, t7, t8, hw, d7, c2]
      refine cg_use (ltStore_ok _ _ y x H2 hys (hxs.le hle2) hyb hxb) ?_
      by_cases hyx : y = x
      · simp [hyx, t1, t2, t5, t6, t7, t8, hw]
        exact ⟨m - 1, by omega, i + 1, x, v5, out, by omega, by simp [t1], by simp [t2], by simp [t5], by simp, hleH, BoxS.mk' c2 (hxs.le hle2) hxb, hv5.le hle2, by rw [← hout, hst, if_neg (fun h => h.2 hyx)], by omega⟩
      · have hr7 : ob.rows[i0 + i]? = some [.int .i64 ds[i].kind, .str ds[i].key, .int .i64 ds[i].num] := by
          obtain ⟨o', i', ob', q1, q2, q3, q4⟩ := Dds.get hu' hi
          cases q1
          rw [a1] at q2
          cases q2
          exact q4
        simp [hyx, t1, t2, t5, t6, t7, t8, a12, a2, hr7, hq]
        refine appG_add (y := ds[i]) (row := ddRow) (bytes := 32) (H0 := H) (hv5.le hle2) hleH (by omega) rfl (fun v6 H6 g1 g2 g3 g4 => ?_)
        have nd : ∀ {z : Nat} {ob : Ob}, H2.at z = some ob → ob.esz = 6 → ¬ v5.of z := fun ho he hz => by
          have := (hv5.le hle2).1.esz hz ho
          omega
        have c6 := g3.2 _ _ (nd c2 rfl) c2
        have d6 := g3.2 _ _ (nd d7 rfl) d7
        have u6 := Hp.at_lt c6
        have key : ∀ {q : Nat} {ob : Ob}, v5.of q → H2.at q = some ob → ob.esz = 3 := fun hz ho => (hv5.le hle2).1.esz hz ho
        have F := Fr.one H6 H.length (some ⟨[[ya, yb, yc, .int .i64 y.keep, .int .i64 y.time, yd]], 6, 28, false⟩)
        have hS6 : ∀ q ob, q = H.length → H6.at q = some ob → ob.esz = 6 := fun q ob hq ho => by rw [hq, c6] at ho; cases ho; rfl
        have hys6 := (hys.frE g3 (e := 3) (by simp) (fun q ob hq ho => key hq ho)).frE F (e := 6) (by simp) hS6
        have hv6 : OwnD H (List.set H6 H.length (some ⟨[[ya, yb, yc, .int .i64 y.keep, .int .i64 y.time, yd]], 6, 28, false⟩)) v6 (out ++ [ds[i]]) := g2.fr F (fun q hq hs => by
          have := g2.1.esz hq (by rw [hs]; exact c6)
          simp at this)
        simp [t1, t2, t5, t6, t7, t8, hw, d6, c6, u6, p1, p2, p3, p4]
        exact ⟨m - 1, by omega, i + 1, y, v6, out ++ [ds[i]], by omega, by simp [t1], by simp [t2], by simp, by simp, g1.fr_le F (fun q hq => by omega), BoxS.mk' (Hp.at_set _ u6) hys6 hyb, hv6, by rw [← hout, hst, if_pos ⟨rfl, hyx⟩]; simp, by simp; omega⟩
  · have : i = ds.length := by omega
    subst this
    rw [List.drop_length] at hout
    simp only [idleR, List.append_nil] at hout
    subst hout
    simp [t5]
    exact ⟨hle, hv5⟩

end Go.Proofs.YtgoeenodllmdpaaGreat.B


namespace Go.Proofs.YtgoeenodllmdpaaGreat.B
open Go.RowKit Go.Proofs
set_option linter.unusedVariables false
set_option linter.unusedSimpArgs false
variable {E : Env}

def DrawnP (H H' : Hp) (v : AV) : Prop := ∃ w dv s ds, v = .tu [w, dv] ∧ HLe H H' ∧ St H' w s ∧ StB s ∧ Dds H' dv ds ∧ ds.length ≤ 41 ∧ ∀ d ∈ ds, d.key.size ≤ 5
theorem DrawPastDo_ok (c : AV) (bs : List Int) (H : Hp) (hc : Bytes H c bs) (hn : bs.length < 4611686018427387904) :
    AC Tryz.prog E 26 [c] H (fun v H' => DrawnP H H' v) := by
  refine AC_by fol (tC_le tab2_ok) h_spec_DrawPastDo ?_
  obtain ⟨H1, hH1⟩ : ∃ H1 : Hp, H1 = H ++ [some ⟨[[.nils, .nils, .nils, .int .i64 0, .int .i64 0, .nils]], 6, 28, false⟩] := ⟨_, rfl⟩
  have hle1 : HLe H H1 := by rw [hH1]; exact HLe.self _ _
  have b1 : H1.at H.length = some ⟨[[.nils, .nils, .nils, .int .i64 0, .int .i64 0, .nils]], 6, 28, false⟩ := by rw [hH1]; simp
  simp [c_spec_DrawPastDo, ← hH1]
  refine cg_ex (l6Open_ok c bs H1 ⟨hc.1.le hle1, hc.2⟩ hn) ?_
  rintro v H2 ⟨r, rfl, ho, hle2, hr2⟩
  have hol := hr2.lt
  have lH : H.length < H1.length := Hp.at_lt b1
  have b2 := hle2.2 _ _ b1
  simp
  refine cg_ex (l71Spoilt_ok r 0 H2 hr2 (by omega)) ?_
  rintro w H3 ⟨s, hs, hsb, hd3, hr3⟩
  obtain ⟨xa, xb, xc, xd, hw, n1, n2, n3, n4, _⟩ := hs.shape
  have hw' := hw
  subst hw'
  have b3 := hd3.2 _ _ (show ¬ H.length = r by omega) b2
  obtain ⟨H4, hH4⟩ : ∃ H4 : Hp, H4 = H3 ++ [some ⟨[[xa, xb, xc, .int .i64 s.keep, .int .i64 s.time, xd]], 6, 28, false⟩] := ⟨_, rfl⟩
  have hle4 : HLe H3 H4 := by rw [hH4]; exact HLe.self _ _
  have c4 : H4.at H3.length = some ⟨[[xa, xb, xc, .int .i64 s.keep, .int .i64 s.time, xd]], 6, 28, false⟩ := by rw [hH4]; simp
  have b4 := hle4.2 _ _ b3
  have hr4 := hr3.le hle4
  have e2 : ∀ {K : Hp} {M : Nat}, Rd K r M → ∀ x ob, x = r → K.at x = some ob → ob.esz = 2 := by
    intro K M hr x ob hx ho
    obtain ⟨b, bs, p, h1, _⟩ := hr
    rw [hx, h1] at ho
    cases ho
    rfl
  have hle14 : HLe H H4 := ((hle1.trans hle2).fr_le hd3 (fun x hx => by omega)).trans hle4
  have l34 := Hp.at_lt c4
  have l3 := hd3.len
  simp [stAV, n1, n2, n3, n4, ← hH4]
  refine cg_ex (l71Deeds_ok r _ 20 H4 hr4 (by omega) (by omega)) ?_
  rintro dv H5 ⟨ds, hds, hdl, hdk, hd5, hr5⟩
  have b5 := hd5.2 _ _ (show ¬ H.length = r by omega) b4
  have c5 := hd5.2 _ _ (show ¬ H3.length = r by omega) c4
  have hs5 := (hs.le hle4).frE hd5 (e := 2) (by simp) (e2 hr4)
  have hle15 := hle14.fr_le hd5 (fun x hx => by omega)
  simp
  refine cg_ex (pick_ok r _ 24 H5 hr5 (by omega) (by omega)) ?_
  rintro v H6 ⟨z, rfl, hz, hd6, hr6, hlen6⟩
  have b6 := hd6.2 _ _ (show ¬ H.length = r by omega) b5
  have c6 := hd6.2 _ _ (show ¬ H3.length = r by omega) c5
  have hs6 := hs5.frE hd6 (e := 2) (by simp) (e2 hr5)
  have hle16 := hle15.fr_le hd6 (fun x hx => by omega)
  have hds6 := OwnM.dr hr5 hds (by decide) hd6
  have fin : ∀ {K : Hp} {dv' : AV} {ds' : List Dd}, HLe H6 K → Dds K dv' ds' → ds'.length ≤ 41 → (∀ d ∈ ds', d.key.size ≤ 5) →
      DrawnP H (List.set K H.length (some ⟨[[xa, xb, xc, .int .i64 s.keep, .int .i64 s.time, xd]], 6, 28, false⟩)) (.tu [.ag [xa, xb, xc, .int .i64 s.keep, .int .i64 s.time, xd], dv']) := by
    intro K dv' ds' hK hd h1 h2
    have F := Fr.one K H.length (some ⟨[[xa, xb, xc, .int .i64 s.keep, .int .i64 s.time, xd]], 6, 28, false⟩)
    have hS : ∀ y ob, y = H.length → K.at y = some ob → ob.esz = 6 := fun y ob hy ho => by
      rw [hy, hK.2 _ _ b6] at ho
      cases ho
      rfl
    exact ⟨_, dv', s, ds', rfl, (hle16.trans hK).fr_le F (fun x hx => by omega), (hs6.le hK).frE F (e := 6) (by simp) hS, hsb, Rows.frz hd F (fun y ob hy ho => by rw [hS y ob hy ho]; simp), h1, h2⟩
  simp
  refine c_split (fun hq => ?_) (fun hq => ?_) <;> simp at hq
  · obtain ⟨R, hR⟩ : ∃ R : List (List AV), R = List.replicate 41 [.int .i64 0, .str ⟨#[]⟩, .int .i64 0] := ⟨_, rfl⟩
    obtain ⟨K, hK⟩ : ∃ K : Hp, K = H6 ++ [some ⟨R, 3, 47, false⟩] := ⟨_, rfl⟩
    have hleM : HLe H6 K := by rw [hK]; exact HLe.self _ _
    have bM := hleM.2 _ _ b6
    have cM := hleM.2 _ _ c6
    have uM := Hp.at_lt bM
    have dM : K.at H6.length = some ⟨R, 3, 47, false⟩ := by rw [hK]; simp
    simp [-List.reduceReplicate, ← hR, ← hK, cM, bM, n1, n2, n3, n4, uM, Hp.at_set]
    refine fin (ds' := List.replicate 41 ⟨0, ⟨#[]⟩, 0⟩) hleM ?_ (by simp) (fun d hd => by rw [(List.mem_replicate.1 hd).2]; exact Nat.zero_le _)
    have : R = (List.replicate 41 (⟨0, ⟨#[]⟩, 0⟩ : Dd)).map ddRow := by rw [hR, List.map_replicate]; rfl
    rw [this] at dM
    exact Own.rows (ety := 47) (Own.obj dM (by simp))
  · have u6 := Hp.at_lt b6
    simp [c6, b6, n1, n2, n3, n4, u6, Hp.at_set]
    exact fin (HLe.refl _) hds6.rows (by omega) hdk

end Go.Proofs.YtgoeenodllmdpaaGreat.B


namespace Go.Proofs.YtgoeenodllmdpaaGreat.B
open Go.RowKit Go.Proofs
set_option linter.unusedVariables false
set_option linter.unusedSimpArgs false
variable {E : Env}

theorem RetS.box {H0 H : Hp} {w ok : AV} {o : Option Sr} (h : RetS H0 H (.tu [w, ok]) o) (hsm : ∀ x, o = some x → Small x) : ∃ s, St H w s ∧ StB s ∧ ok = .bool o.isSome ∧ ((∀ x, o = some x → s = x) ∧ (o = none → s = ⟨[], [], [], 0, 0, []⟩)) := by
  obtain ⟨_, h⟩ := h
  cases o with
  | none =>
    cases h
    exact ⟨⟨[], [], [], 0, 0, []⟩, ⟨.nils, .nils, .nils, .nils, [], [], rfl, Rows.nil, Rows.nil, trivial, Rows.nil, trivial, Rows.nil⟩, ⟨⟨by simp, fun e he => by simp at he⟩, by simp, by simp, by simp, by simp, by simp, ⟨by simp, by simp⟩, ⟨by simp, by simp⟩, by simp⟩, rfl, fun x hx => (by cases hx), fun _ => rfl⟩
  | some x =>
    obtain ⟨w', e, hm⟩ := h
    cases e
    exact ⟨x, hm.st, (hsm x rfl).stB, rfl, fun y hy => (by cases hy; rfl), fun h => (by cases h)⟩
theorem RetF.box {H0 H : Hp} {w ok : AV} {o : Option Sr} (h : RetF H0 H (.tu [w, ok]) o) (hsm : ∀ x, o = some x → Small x) : ∃ s, St H w s ∧ StB s ∧ ok = .bool o.isSome ∧ ((∀ x, o = some x → s = x) ∧ (o = none → s = ⟨[], [], [], 0, 0, []⟩)) := by
  obtain ⟨_, h⟩ := h
  cases o with
  | none =>
    cases h
    exact ⟨⟨[], [], [], 0, 0, []⟩, ⟨.nils, .nils, .nils, .nils, [], [], rfl, Rows.nil, Rows.nil, trivial, Rows.nil, trivial, Rows.nil⟩, ⟨⟨by simp, fun e he => by simp at he⟩, by simp, by simp, by simp, by simp, by simp, ⟨by simp, by simp⟩, ⟨by simp, by simp⟩, by simp⟩, rfl, fun x hx => (by cases hx), fun _ => rfl⟩
  | some x =>
    obtain ⟨w', e, hm⟩ := h
    cases e
    exact ⟨x, hm.st, (hsm x rfl).stB, rfl, fun y hy => (by cases hy; rfl), fun h => (by cases h)⟩
theorem RetF.shape {H0 H : Hp} {u : AV} {o : Option Sr} (h : RetF H0 H u o) : ∃ a b c k t d, u = .tu [.ag [a, b, c, k, t, d], .bool o.isSome] ∧ one a = true ∧ one b = true ∧ one c = true ∧ one k = true ∧ one t = true ∧ one d = true := by
  obtain ⟨_, h⟩ := h
  cases o with
  | none => exact ⟨_, _, _, _, _, _, h, by simp⟩
  | some x =>
    obtain ⟨w, e, hm⟩ := h
    obtain ⟨a, b, c, d, rfl, h1, h2, h3, h4⟩ := hm.shape
    exact ⟨_, _, _, _, _, _, e, h1, h2, h3, by simp, by simp, h4⟩
theorem idleR_sub : ∀ (ds : List Dd) (s : Sr), ∀ d ∈ idleR s ds, d ∈ ds
  | [], s, d, hd => hd
  | e :: ds, s, d, hd => by
    rw [idleR] at hd
    split at hd
    · rcases List.mem_cons.1 hd with rfl | hd
      · exact List.mem_cons_self ..
      · exact List.mem_cons_of_mem _ (idleR_sub ds _ d hd)
    · exact List.mem_cons_of_mem _ (idleR_sub ds _ d hd)
theorem lawPastIdle_ok (c : AV) (bs : List Int) (H : Hp) (hc : Bytes H c bs) (hn : bs.length < 4611686018427387904) :
    AC Tryz.prog E 6 [c] H (fun v H' => v = .bool true) := by
  refine AC_by fol (tC_le tabJ_ok) h_laws_FnPastIdle ?_
  have l1 := hc.len
  simp [c_laws_FnPastIdle, l1, hc.1.slc]
  refine c_split (fun hq => ?_) (fun hq => ?_) <;> simp at hq <;> simp
  refine cg_ex (DrawPastDo_ok c bs H hc hn) ?_
  rintro v H1 ⟨w, dv, s, ds, rfl, hle1, hs, hsb, hds, hdl, hdk⟩
  have hkk : ∀ d ∈ ds, d.key.size < 4611686018427387904 := fun d hd => by have := hdk d hd; omega
  obtain ⟨xa, xb, xc, xd, hw, n1, n2, n3, n4, _⟩ := hs.shape
  have hw' := hw
  subst hw'
  obtain ⟨H2, hH2⟩ : ∃ H2 : Hp, H2 = H1 ++ [some ⟨[[xa, xb, xc, .int .i64 s.keep, .int .i64 s.time, xd]], 6, 28, false⟩] := ⟨_, rfl⟩
  have hle2 : HLe H1 H2 := by rw [hH2]; exact HLe.self _ _
  have b2 : H2.at H1.length = some ⟨[[xa, xb, xc, .int .i64 s.keep, .int .i64 s.time, xd]], 6, 28, false⟩ := by rw [hH2]; simp
  simp [stAV, n1, n2, n3, n4, ← hH2, b2]
  refine cg_ex (PastDo_ok _ dv s ds H2 (hs.le hle2) hsb (Rows.le hds hle2) hkk) ?_
  rintro v H3 hret
  obtain ⟨ya, yb, yc, yk, yt, yd, rfl, o1, o2, o3, o4, o5, o6⟩ := hret.shape
  obtain ⟨y, hy, hyb, -, hy1, hy2⟩ := hret.box (fun x hx => pastR_small hx)
  have hle3 := hret.1
  obtain ⟨H4, hH4⟩ : ∃ H4 : Hp, H4 = H3 ++ [some ⟨[[ya, yb, yc, yk, yt, yd]], 6, 28, false⟩] := ⟨_, rfl⟩
  have hle4 : HLe H3 H4 := by rw [hH4]; exact HLe.self _ _
  have b4 : H4.at H3.length = some ⟨[[ya, yb, yc, yk, yt, yd]], 6, 28, false⟩ := by rw [hH4]; simp
  have hle24 := hle3.trans hle4
  have c4 := hle24.2 _ _ b2
  simp [o1, o2, o3, o4, o5, o6, ← hH4, c4]
  refine cg_ex (implPastDo_ok _ dv s ds H4 (hs.le (hle2.trans hle24)) hsb (Rows.le hds (hle2.trans hle24)) hkk) ?_
  rintro v H5 hret5
  obtain ⟨za, zb, zc, zk, zt, zd, rfl, p1, p2, p3, p4, p5, p6⟩ := hret5.shape
  obtain ⟨z, hz, hzb, -, hz1, hz2⟩ := hret5.box (fun x hx => pastR_small hx)
  have hzy : z = y := by
    cases hp : pastR s ds with
    | none => rw [hz2 hp, hy2 hp]
    | some x => rw [hz1 x hp, hy1 x hp]
  have hle5 := hret5.1
  obtain ⟨H6, hH6⟩ : ∃ H6 : Hp, H6 = H5 ++ [some ⟨[[za, zb, zc, zk, zt, zd]], 6, 28, false⟩] := ⟨_, rfl⟩
  have hle6 : HLe H5 H6 := by rw [hH6]; exact HLe.self _ _
  have b6 : H6.at H5.length = some ⟨[[za, zb, zc, zk, zt, zd]], 6, 28, false⟩ := by rw [hH6]; simp
  have hle46 := hle5.trans hle6
  have c6 := hle46.2 _ _ b4
  have d6 := hle46.2 _ _ c4
  have hy6 := hy.le (hle4.trans hle46)
  have hz6 := hz.le hle6
  simp [-RgP_both, p1, p2, p3, p4, p5, p6, ← hH6, b6, c6]
  refine cg_use (ltStore_ok _ _ z y H6 hz6 hy6 hzb hyb) ?_
  simp [-RgP_both, hzy]
  cases hp : pastR s ds with
  | none =>
    simp [b6, c6]
    refine cg_use (ltStore_ok _ _ z y H6 hz6 hy6 hzb hyb) ?_
    simp [hzy]
  | some x =>
  have hyx := hy1 x hp
  have hid : pastR s (idleR s ds) = some x := by rw [pastR_idle (by rw [hp]; rfl), hp]
  have hlen : ∀ d ∈ idleR s ds, d.key.size < 4611686018427387904 := fun d hd => hkk d (idleR_sub ds s d hd)
  have hle26 := (hle24.trans hle46)
  have hs6 := hs.le (hle2.trans hle26)
  have hds6 : Dds H6 dv ds := Rows.le hds (hle2.trans hle26)
  simp [-RgP_both, d6]
  refine RgP_then (tC_mono AC_mono) (fun t K => t 7 = .pt H5.length 0 0 ∧ HLe H6 K ∧ t 10 = .bool true ∧ ∃ L, t 9 = .pt L 0 0 ∧ BoxS K L x) ?_ ?_
  · have d6' : ∀ {K : Hp}, HLe H6 K → K.at H1.length = some ⟨[[xa, xb, xc, .int .i64 s.keep, .int .i64 s.time, xd]], 6, 28, false⟩ := fun h => h.2 _ _ d6
    rw [RgP_both]
    refine ⟨?_, ?_⟩
    · simp [-RgP_both]
      refine cg_ex (ltDeeds_ok _ dv s ds H6 hs6 hsb hds6 (by omega) hkk) ?_
      rintro dv2 H7 ⟨hle7, hdv2⟩
      have d7 := d6' hle7
      simp [-RgP_both, d7]
      rw [RgP_both]
      refine ⟨?_, ?_⟩
      · simp
        refine cg_ex (implPastDo_ok _ dv2 s (idleR s ds) H7 (hs6.le hle7) hsb hdv2.rows hlen) ?_
        rintro v H8 hr8
        obtain ⟨wa, wb, wc, wk, wt, wd, rfl, m1, m2, m3, m4, m5, m6⟩ := hr8.shape
        obtain ⟨x8, hx8, hxb8, -, hx8', -⟩ := hr8.box (fun x hx => pastR_small hx)
        have hle8 := hle7.trans hr8.1
        have d8 := d6' hle8
        obtain ⟨K, hK⟩ : ∃ K : Hp, K = H8 ++ [some ⟨[[wa, wb, wc, wk, wt, wd]], 6, 28, false⟩] := ⟨_, rfl⟩
        have hleK : HLe H8 K := by rw [hK]; exact HLe.self _ _
        simp [m1, m2, m3, m4, m5, m6, Hp.at_app, Hp.at_lt d8, d8, ← hK, hid]
        exact ⟨hle8.trans hleK, BoxS.mk' (by rw [hK]; simp) (hx8' x hid ▸ hx8.le hleK) (hx8' x hid ▸ hxb8)⟩
      · obtain ⟨K, hK⟩ : ∃ K : Hp, K = H7 ++ [some ⟨[[.nils, .nils, .nils, .int .i64 0, .int .i64 0, .nils]], 6, 28, false⟩] := ⟨_, rfl⟩
        have hleK : HLe H7 K := by rw [hK]; exact HLe.self _ _
        have dK := d6' (hle7.trans hleK)
        have bK : K.at H7.length = some ⟨[[.nils, .nils, .nils, .int .i64 0, .int .i64 0, .nils]], 6, 28, false⟩ := by rw [hK]; simp
        simp [← hK, dK]
        refine cg_ex (implPastDo_ok _ dv2 s (idleR s ds) K (hs6.le (hle7.trans hleK)) hsb (Rows.le hdv2.rows hleK) hlen) ?_
        rintro v H8 hr8
        obtain ⟨wa, wb, wc, wk, wt, wd, rfl, m1, m2, m3, m4, m5, m6⟩ := hr8.shape
        obtain ⟨x8, hx8, hxb8, -, hx8', -⟩ := hr8.box (fun x hx => pastR_small hx)
        have b8 := hr8.1.2 _ _ bK
        have u8 := Hp.at_lt b8
        simp [m1, m2, m3, m4, m5, m6, b8, u8, Hp.at_set, hid]
        have F := Fr.one H8 H7.length (some ⟨[[wa, wb, wc, wk, wt, wd]], 6, 28, false⟩)
        exact ⟨((hle7.trans hleK).trans hr8.1).set hle7.1 _, BoxS.mk' (Hp.at_set _ u8) (hx8' x hid ▸ hx8.fr6 F (fun q ob hq ho => by rw [hq, b8] at ho; cases ho; rfl)) (hx8' x hid ▸ hxb8)⟩
    · obtain ⟨K, hK⟩ : ∃ K : Hp, K = H6 ++ [some ⟨[[.nils, .nils, .nils, .int .i64 0, .int .i64 0, .nils]], 6, 28, false⟩] := ⟨_, rfl⟩
      have hleK : HLe H6 K := by rw [hK]; exact HLe.self _ _
      have dK := d6' hleK
      have bK : K.at H6.length = some ⟨[[.nils, .nils, .nils, .int .i64 0, .int .i64 0, .nils]], 6, 28, false⟩ := by rw [hK]; simp
      simp [← hK, dK]
      refine cg_ex (ltDeeds_ok _ dv s ds K (hs6.le hleK) hsb (Rows.le hds6 hleK) (by omega) hkk) ?_
      rintro dv2 H7 ⟨hle7, hdv2⟩
      have d7 := d6' (hleK.trans hle7)
      simp [d7]
      refine cg_ex (implPastDo_ok _ dv2 s (idleR s ds) H7 (hs6.le (hleK.trans hle7)) hsb hdv2.rows hlen) ?_
      rintro v H8 hr8
      obtain ⟨wa, wb, wc, wk, wt, wd, rfl, m1, m2, m3, m4, m5, m6⟩ := hr8.shape
      obtain ⟨x8, hx8, hxb8, -, hx8', -⟩ := hr8.box (fun x hx => pastR_small hx)
      have b8 := hr8.1.2 _ _ (hle7.2 _ _ bK)
      have u8 := Hp.at_lt b8
      simp [m1, m2, m3, m4, m5, m6, b8, u8, Hp.at_set, hid]
      have F := Fr.one H8 H6.length (some ⟨[[wa, wb, wc, wk, wt, wd]], 6, 28, false⟩)
      exact ⟨((hleK.trans hle7).trans hr8.1).set (Nat.le_refl _) _, BoxS.mk' (Hp.at_set _ u8) (hx8' x hid ▸ hx8.fr6 F (fun q ob hq ho => by rw [hq, b8] at ho; cases ho; rfl)) (hx8' x hid ▸ hxb8)⟩
  rintro t K ⟨t7, hleK, t10, L, t9, qa, qb, qc, qd, q1, q2, q3, q4, q5, q6, q7⟩
  have b6K := hleK.2 _ _ b6
  simp [t7, t9, t10, q1, b6K]
  refine cg_use (ltStore_ok _ _ x z K q6 (hz6.le hleK) q7 hzb) ?_
  simp [hzy, hyx]

end Go.Proofs.YtgoeenodllmdpaaGreat.B

