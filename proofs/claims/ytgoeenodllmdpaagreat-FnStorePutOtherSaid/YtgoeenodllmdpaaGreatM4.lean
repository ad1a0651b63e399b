/- A part of the proof: The program's RunTrim. The reference's stores: what is put. The reference's stores: what is added. The reference's stores: put, taken, let down. The reference's stores: levels are joined. The reference's stores: times are kept, and let go. The reference's stores: times are let go. The program's StoreOk. The program's copy of a store. The program puts a run into a level. Deeds of the program are those of the reference, in plain Lean. The program pushes runs down. The program writes an entry; times are held, and let go. The program holds times, and lets them go. The program's deeds, as function values. The program's store functions: a change of a copy. The reference's stores: deeds are done. The program's store functions. The reference's stores: the past. The program's deeds and its past. The program's past. The program's past, alone and with what is written; a new store. The reference's draws: deeds. The reference's stores: a new one. The reference's draws: stores. The reference's draws: stores. What is found of a key at a time, in plain Lean: trimming leaves it. A run that is let into a level leaves what is found, in plain Lean. Stores that are as they must be; what deeds leave of what is found, in plain Lean. Stores that are drawn, and spoilt; runs and stores are compared. Stores that are spoilt. Stores are compared. Stores are compared, whole. What changes nothing may be left out, in plain Lean. Deeds that change something. A store and deeds are drawn. There is no condition. -/
import Derived.Test.YtgoeenodllmdpaaGreatM0
import Derived.Test.YtgoeenodllmdpaaGreatM1
import Derived.Test.YtgoeenodllmdpaaGreatM2
import Derived.Test.YtgoeenodllmdpaaGreatM3
namespace Go.Proofs.YtgoeenodllmdpaaGreat.B
open Go.RowKit Go.Proofs
set_option linter.unusedVariables false
set_option linter.unusedSimpArgs false
variable {E : Env}

def dropB (b : Bool) : List Ent → List Ent
  | [] => []
  | e :: es => if (!b || (!e.gone || !lastB e es)) = true then e :: dropB b es else dropB b es
theorem dropB_false : ∀ es, dropB false es = es
  | [] => rfl
  | e :: es => by simp [dropB, dropB_false es]
theorem dropB_true : ∀ es, dropB true es = drop1 es
  | [] => rfl
  | e :: es => by simp [dropB, drop1, dropB_true es]
theorem dropB_len (b : Bool) (es : List Ent) : (dropB b es).length ≤ es.length := by
  cases b
  · rw [dropB_false]
    exact Nat.le_refl _
  · rw [dropB_true]
    exact drop1_len es
theorem betw_seen (ts : List Int) (q e : Ent) (h : q.key = e.key) : seenB ts (some q) e = ts.any (betw e q) := by
  simp [seenB, h, betw]
  rfl

theorem RunTrim_ok (a b : AV) (r : List Ent) (ts : List Int) (bot : Bool) (H : Hp) (ha : Ents H a r) (hb : Ints H b ts) (hr : EsB r) (ht : ts.length < 1099511627776) :
    AC Tryz.prog E 263 [a, b, .bool bot] H (fun v H' => HLe H H' ∧ OwnE H H' v (trimI r ts bot)) := by
  refine AC_by fol (tC_le tabJ_ok) h_impl_RunTrim ?_
  have hn := hr.1
  have l1 := ha.len
  simp [c_impl_RunTrim]
  refine cg_use (implRunOk_ok a r H ha hr.2.short (by omega)) ?_
  cases hro : runOk r with
  | false =>
    simp [trimI, hro]
    exact OwnM.nils
  | true =>
  have htr : trimI r ts bot = trimR r ts bot := by simp [trimI, hro]
  rw [htr]
  simp [l1, ha.slc]
  refine W_for (fun m t H' => ∃ i out v, i + m = r.length ∧ t 0 = a ∧ t 1 = b ∧ t 2 = .bool bot ∧ t 7 = v ∧ t 17 = a ∧ t 18 = .int .i64 r.length ∧ t 19 = .int .i64 (i : Nat) ∧ HLe H H' ∧ OwnE H H' v out ∧ out ++ trim1 ts (prev r i) (r.drop i) = trim1 ts none r) r.length ?_ (tC_mono AC_mono) ?_
  · exact ⟨0, [], .nils, by simp, by simp, by simp, by simp, by simp, by simp, by simp, by simp, HLe.refl _, OwnM.nils, by simp [prev]⟩
  rintro m t H' ⟨i, out, v, him, h0, h1, h2, h7, h17, h18, h19, hle, hv, hI⟩
  simp [h0, h1, h2, h7, h17, h18, h19]
  refine c_split (fun hq => ?_) (fun hq => ?_) <;> simp at hq
  · have hw := wrapN (i := i) (by omega)
    have hol : out.length ≤ r.length := by
      have := congrArg List.length hI
      simp only [List.length_append] at this
      have := trim1_len ts none r
      omega
    obtain ⟨o, i0, ob, rfl, aH, a2, a3⟩ := ha.get hq
    have a1 := hle.2 _ _ aH
    rw [List.drop_eq_getElem_cons hq] at hI
    simp only [trim1] at hI
    obtain ⟨G, hG⟩ : ∃ G : Hp, G = H' ++ [some ⟨[[.str r[i].key, .int .i64 r[i].val, .bool r[i].gone, .int .i64 r[i].time]], 4, 99, false⟩] := ⟨_, rfl⟩
    have hleG : HLe H' G := by rw [hG]; exact HLe.self _ _
    have bG : G.at H'.length = some ⟨[[.str r[i].key, .int .i64 r[i].val, .bool r[i].gone, .int .i64 r[i].time]], 4, 99, false⟩ := by rw [hG]; simp
    have u1 := Hp.at_lt a1
    have a1G := hleG.2 _ _ a1
    have hvG := hv.le hleG
    have hleH := hle.trans hleG
    rcases Nat.eq_zero_or_pos i with rfl | hp
    · rw [Nat.add_zero] at a3
      rw [if_pos (by simp [prev, seenB])] at hI
      simp [h0, h1, h2, h7, h17, h18, h19, hq, a1, a2, a3, hw, Hp.at_app, u1, ← hG, bG]
      refine appG_add (y := r[0]) hvG hleH (by omega) rfl (fun v3 H3 g1 g2 g3 g4 => ?_)
      simp [h0, h1, h2, h7, h17, h18, h19, wrap1]
      exact ⟨m - 1, by omega, 1, by omega, by omega, g1, out ++ [r[0]], g2, by rw [prev_succ hq]; simpa using hI⟩
    · have hlt : i - 1 < r.length := by omega
      have hw1 := wrapP hp (by omega)
      obtain ⟨o2, i2, ob2, e2, b1, b2, b3⟩ := ha.get hlt
      cases e2
      rw [aH] at b1
      cases b1
      have hi0 : ¬ i = 0 := by omega
      rw [prev_pos hp (by omega)] at hI
      by_cases hk : r[i - 1].key = r[i].key
      · rw [betw_seen ts _ _ hk] at hI
        simp [h0, h1, h2, h7, h17, h18, h19, hq, hlt, hi0, a1, a2, a3, b3, hw, hw1, hk, Hp.at_app, u1, ← hG, bG, a1G]
        have sk := seen_ok (E := E) b ts r[i] r[i - 1] G (hb.le hleH) ht
        simp only [entRow, hk] at sk
        refine cg_use sk ?_
        cases hs : ts.any (betw r[i] r[i - 1]) with
        | false =>
          rw [if_neg (by simp [hs])] at hI
          simp [h0, h1, h2, h7, h17, h18, h19, hw]
          exact ⟨m - 1, by omega, i + 1, by omega, by omega, hleH, out, hvG, by rw [prev_succ hq]; exact hI⟩
        | true =>
          rw [if_pos hs] at hI
          simp [h0, h1, h2, h7, h17, h18, h19, bG]
          refine appG_add (y := r[i]) hvG hleH (by omega) rfl (fun v3 H3 g1 g2 g3 g4 => ?_)
          simp [h0, h1, h2, h7, h17, h18, h19, hw]
          exact ⟨m - 1, by omega, i + 1, by omega, by omega, g1, out ++ [r[i]], g2, by rw [prev_succ hq]; simpa using hI⟩
      · rw [if_pos (by simp [seenB, hk])] at hI
        simp [h0, h1, h2, h7, h17, h18, h19, hq, hlt, hi0, a1, a2, a3, b3, hw, hw1, hk, Hp.at_app, u1, ← hG, bG, a1G]
        refine appG_add (y := r[i]) hvG hleH (by omega) rfl (fun v3 H3 g1 g2 g3 g4 => ?_)
        simp [h0, h1, h2, h7, h17, h18, h19, hw]
        exact ⟨m - 1, by omega, i + 1, by omega, by omega, g1, out ++ [r[i]], g2, by rw [prev_succ hq]; simpa using hI⟩
  · have : i = r.length := by omega
    subst this
    rw [List.drop_length] at hI
    simp only [trim1, List.append_nil] at hI
    subst hI
    have hx := trim1_len ts none r
    have l7 := hv.len
    have htr2 : trimR r ts bot = dropB bot (trim1 ts none r) := by
      cases bot
      · rw [dropB_false]
        rfl
      · rw [dropB_true]
        rfl
    rw [htr2]
    simp [h0, h1, h2, h7, h17, h18, h19, l7, hv.slc]
    generalize hx0 : trim1 ts none r = x at hx hv l7
    refine W_for (fun m t H2 => ∃ j out v9, j + m = x.length ∧ t 2 = .bool bot ∧ t 7 = v ∧ t 10 = v9 ∧ t 52 = v ∧ t 53 = .int .i64 x.length ∧ t 54 = .int .i64 (j : Nat) ∧ HLe H' H2 ∧ OwnE H' H2 v9 out ∧ out ++ dropB bot (x.drop j) = dropB bot x) x.length ?_ (tC_mono AC_mono) ?_
    · exact ⟨0, [], .nils, by simp, by simp [h2], by simp [h7], by simp, by simp, by simp, by simp, HLe.refl _, OwnM.nils, by simp⟩
    clear h0 h1 h2 h7 h17 h18 h19
    rintro m t H2 ⟨j, out, v9, hjm, h2, h7, h10, h52, h53, h54, hle2, hv9, hI⟩
    simp [h2, h7, h10, h52, h53, h54]
    refine c_split (fun hq => ?_) (fun hq => ?_) <;> simp at hq
    · have hw := wrapN (i := j) (by omega)
      have hol : out.length ≤ x.length := by
        have := congrArg List.length hI
        simp only [List.length_append] at this
        have := dropB_len bot x
        omega
      obtain ⟨o, i0, ob, rfl, aH, a2, a3⟩ := hv.ents.get hq
      have a1 := hle2.2 _ _ aH
      rw [List.drop_eq_getElem_cons hq] at hI
      simp only [dropB] at hI
      obtain ⟨G, hG⟩ : ∃ G : Hp, G = H2 ++ [some ⟨[[.str x[j].key, .int .i64 x[j].val, .bool x[j].gone, .int .i64 x[j].time]], 4, 99, false⟩] := ⟨_, rfl⟩
      have hleG : HLe H2 G := by rw [hG]; exact HLe.self _ _
      have bG : G.at H2.length = some ⟨[[.str x[j].key, .int .i64 x[j].val, .bool x[j].gone, .int .i64 x[j].time]], 4, 99, false⟩ := by rw [hG]; simp
      have u1 := Hp.at_lt a1
      have a1G := hleG.2 _ _ a1
      have hvG := hv9.le hleG
      have hleH := hle2.trans hleG
      have keep : (!bot || (!x[j].gone || !lastB x[j] (x.drop (j + 1)))) = true → out ++ [x[j]] ++ dropB bot (x.drop (j + 1)) = dropB bot x := by
        intro h
        rw [if_pos h] at hI
        simpa using hI
      have lose : ¬ (!bot || (!x[j].gone || !lastB x[j] (x.drop (j + 1)))) = true → out ++ dropB bot (x.drop (j + 1)) = dropB bot x := by
        intro h
        rw [if_neg h] at hI
        exact hI
      by_cases hlast : j + 1 < x.length
      · obtain ⟨o', i0', ob', e2, bH, b2, b3⟩ := hv.ents.get hlast
        cases e2
        rw [aH] at bH
        cases bH
        have hlb : lastB x[j] (x.drop (j + 1)) = !decide (x[j + 1].key = x[j].key) := by
          rw [List.drop_eq_getElem_cons hlast]
          rfl
        rw [hlb] at keep lose
        have hnl : ¬ ((j : Int) + 1 = x.length) := by omega
        have b3' : ob.rows[i0 + (j + 1)]? = some [.str x[j + 1].key, .int .i64 x[j + 1].val, .bool x[j + 1].gone, .int .i64 x[j + 1].time] := b3
        have hlast' : (j : Int) + 1 < x.length := by omega
        have hj0 : (0 : Int) ≤ (j : Int) + 1 := by omega
        have ht1 : ((j : Int) + 1).toNat = j + 1 := by omega
        have hbt : bot = true ∨ bot = false := by cases bot <;> simp
        have hgt : x[j].gone = true ∨ x[j].gone = false := by cases x[j].gone <;> simp
        have done : ∀ (H3 : Hp) (v3 : AV), HLe H' H3 → OwnE H' H3 v3 (out ++ [x[j]]) → (!bot || (!x[j].gone || !!decide (x[j + 1].key = x[j].key))) = true → ∃ k', k' < m ∧ ∃ j_1 : Nat, j_1 + k' = x.length ∧ (j : Int) + 1 = j_1 ∧ HLe H' H3 ∧ ∃ out, OwnE H' H3 v3 out ∧ out ++ dropB bot (x.drop j_1) = dropB bot x := fun H3 v3 g1 g2 hk => ⟨m - 1, by omega, j + 1, by omega, by omega, g1, _, g2, keep hk⟩
        rcases hbt with rfl | rfl <;> rcases hgt with hg | hg <;> by_cases hk : x[j + 1].key = x[j].key <;> have hG' := hG <;> simp only [hg] at hG' <;>
          simp [h2, h7, h10, h52, h53, h54, hw, hnl, hlast', hj0, ht1, hq, a1, a2, a3, b3', hg, hk, Hp.at_app, u1, ← hG', bG, a1G] <;>
          first
          | (refine appG_add (y := x[j]) hvG hleH (by omega) (by simp [entRow, hg]) (fun v3 H3 g1 g2 g3 g4 => ?_)
             simp [h2, h7, h10, h52, h53, h54, hw]
             exact done H3 v3 g1 g2 (by simp [hg, hk]))
          | (refine ⟨m - 1, by omega, j + 1, by omega, by omega, hleH, out, hvG, ?_⟩
             exact lose (by simp [hg, hk]))
      · have hnl : ((j : Int) + 1 = x.length) := by omega
        have hwn : IntKind.i64.wrap (x.length : Int) = x.length := wrap64 (by omega) (by omega)
        have hjn : j + 1 = x.length := by omega
        have hlb : lastB x[j] (x.drop (j + 1)) = true := by
          rw [List.drop_of_length_le (by omega)]
          rfl
        rw [hlb] at keep lose
        have hbt : bot = true ∨ bot = false := by cases bot <;> simp
        have hgt : x[j].gone = true ∨ x[j].gone = false := by cases x[j].gone <;> simp
        rcases hbt with rfl | rfl <;> rcases hgt with hg | hg <;> have hG' := hG <;> simp only [hg] at hG' <;>
          simp [h2, h7, h10, h52, h53, h54, hw, hnl, hwn, hq, a1, a2, a3, hg, Hp.at_app, u1, ← hG', bG, a1G] <;>
          first
          | (refine appG_add (y := x[j]) hvG hleH (by omega) (by simp [entRow, hg]) (fun v3 H3 g1 g2 g3 g4 => ?_)
             simp [h2, h7, h10, h52, h53, h54, hw, hnl, hwn]
             exact ⟨0, by omega, j + 1, by omega, by omega, g1, _, g2, keep (by simp [hg])⟩)
          | (refine ⟨m - 1, by omega, j + 1, by omega, by omega, hleH, out, hvG, ?_⟩
             exact lose (by simp [hg]))
    · have : j = x.length := by omega
      subst this
      rw [List.drop_length] at hI
      simp only [dropB, List.append_nil] at hI
      subst hI
      simp [h10]
      exact ⟨hle.trans hle2, by simpa using hv9.base hle.1⟩

end Go.Proofs.YtgoeenodllmdpaaGreat.B


namespace Go.Proofs.YtgoeenodllmdpaaGreat.B
open Go.RowKit Go.Proofs
set_option linter.unusedVariables false
set_option linter.unusedSimpArgs false
variable {E : Env}

def RetS (H0 H : Hp) (u : AV) (o : Option Sr) : Prop := HLe H0 H ∧ match o with
  | some x => ∃ w, u = .tu [w, .bool true] ∧ MSt H0 H w x
  | none => u = .tu [zst, .bool false]
theorem MSt.base {H0 H1 H : Hp} {v : AV} {s : Sr} (h : MSt H1 H v s) (hl : H0.length ≤ H1.length) : MSt H0 H v s := by
  obtain ⟨a, ol, os, d, lr, sr, rfl, ha, hlv, hlr, hsv, hsr, hd, hdo, hol, hos, hl3, hs3, hoff⟩ := h
  exact ⟨a, ol, os, d, lr, sr, rfl, ha.base hl, hlv, hlr, hsv, hsr, hd.base hl, hdo, Nat.le_trans hl hol, Nat.le_trans hl hos, hl3, hs3, hoff.1, fun u hu y hy => Nat.le_trans hl (hoff.2 u hu y hy)⟩
theorem RetS.fin {S : Nat → Prop} {H0 H1 H2 H3 : Hp} {u : AV} {o : Option Sr} (h : RetS H1 H2 u o) (hle : HLe H0 H1) (hf : Fr S H2 H3) (hS : ∀ x ob, S x → H2.at x = some ob → ob.esz = 6) (hS2 : ∀ x, S x → H0.length ≤ x) : RetS H0 H3 u o := by
  obtain ⟨h1, h2⟩ := h
  refine ⟨(hle.trans h1).fr_le hf hS2, ?_⟩
  cases o with
  | none => exact h2
  | some x =>
    obtain ⟨w, e, hm⟩ := h2
    exact ⟨w, e, (hm.fr hf hS).base hle.1⟩
theorem RetS.shape {H0 H : Hp} {u : AV} {o : Option Sr} (h : RetS H0 H u o) : ∃ a b c k t d, u = .tu [.ag [a, b, c, k, t, d], .bool o.isSome] ∧ one a = true ∧ one b = true ∧ one c = true ∧ one k = true ∧ one t = true ∧ one d = true := by
  obtain ⟨_, h⟩ := h
  cases o with
  | none => exact ⟨_, _, _, _, _, _, h, by simp⟩
  | some x =>
    obtain ⟨w, e, hm⟩ := h
    obtain ⟨a, ol, os, d, rfl, h1, h2, _⟩ := hm.shape
    exact ⟨_, _, _, _, _, _, e, h1, by simp, by simp, by simp, by simp, h2⟩
theorem MSt.upd {H0 H : Hp} {a d a' d' : AV} {ol os : Nat} {s : Sr} {tp : List Ent} {ts : List Int} (t : Int) (h : MSt H0 H (.ag [a, .sl ol 0 3, .sl os 0 3, .int .i64 s.keep, .int .i64 s.time, d]) s) (ha : OwnE H0 H a' tp) (hd : OwnI H0 H d' ts) (hdo : ¬ d'.of ol) (hdd : ∀ y, d'.of y → d.of y) (hof : ∀ lr, OffT a lr → All2 (LvRow H) lr s.lev → OffT a' lr) :
    MSt H0 H (.ag [a', .sl ol 0 3, .sl os 0 3, .int .i64 s.keep, .int .i64 t, d']) { s with top := tp, time := t, tms := ts } := by
  obtain ⟨a2, ol2, os2, d2, lr, sr, hv, ha2, hlv, hlr, hsv, hsr, hd2, hdo2, hol, hos, hl3, hs3, hoff⟩ := h
  simp only [stAV, hl3, hs3, AV.ag.injEq, List.cons.injEq, AV.sl.injEq, and_true, true_and] at hv
  obtain ⟨rfl, rfl, rfl, rfl⟩ := hv
  exact ⟨a', ol, os, d', lr, sr, by simp [stAV, hl3, hs3], ha, hlv, hlr, hsv, All2.mono (fun row sv h => by
    obtain ⟨r, e1, e2, e3⟩ := h
    exact ⟨r, e1, e2, fun x hx hh => e3 x hx (hh.imp id (hdd x))⟩) hsr, hd, hdo, hol, hos, hl3, hs3, hof _ hoff.1 hlr, hoff.2⟩
theorem MSt.app {H0 H H' : Hp} {a d d' : AV} {ol os : Nat} {s : Sr} {ts : List Int} (h : MSt H0 H (.ag [a, .sl ol 0 3, .sl os 0 3, .int .i64 s.keep, .int .i64 s.time, d]) s) (hf : Fr d.of H H') (hd : OwnI H0 H' d' ts) (hdd : ∀ y, d'.of y → d.of y ∨ H.length ≤ y) :
    MSt H0 H' (.ag [a, .sl ol 0 3, .sl os 0 3, .int .i64 s.keep, .int .i64 s.time, d']) { s with tms := ts } := by
  obtain ⟨a2, ol2, os2, d2, lr, sr, hv, ha2, hlv, hlr, hsv, hsr, hd2, hdo2, hol, hos, hl3, hs3, hoff⟩ := h
  simp only [stAV, hl3, hs3, AV.ag.injEq, List.cons.injEq, AV.sl.injEq, and_true, true_and] at hv
  obtain ⟨rfl, rfl, rfl, rfl⟩ := hv
  refine ⟨a, ol, os, d', lr, sr, by simp [stAV, hl3, hs3], ha2.fr hf (fun x hx hs => ha2.rows.apart hd2.rows (by simp) hx hs), hlv.fr hf (fun x hx hs => hdo2 (by rw [show ol = x from hx]; exact hs)), All2.mono (fun _ _ h => h.fr hf (fun x ob hs ho => by rw [hd2.1.esz hs ho]; decide)) hlr,
    hsv.fr hf (fun x hx hs => hsv.rows.apart hd2.rows (by simp) hx hs), All2.mono (fun row sv h => SvRow.fr h hf (fun x ob hs ho => .inr (.inr hs)) (fun x hx hx' => hx'.imp id (fun h => (hdd x h).elim id (fun h => by omega)))) hsr, hd, fun hy => ?_, hol, hos, hl3, hs3, hoff⟩
  rcases hdd _ hy with h | h
  · exact hdo2 h
  · have := hlv.lt (o := ol) rfl
    omega
theorem LvRow.lt {H : Hp} : ∀ {lr : List (List AV)} {ls : List (List Ent)}, All2 (LvRow H) lr ls → ∀ u, [u] ∈ lr → ∀ y, u.of y → y < H.length
  | [], [], _, u, hu, _, _ => by cases hu
  | r :: lr, l :: ls, h, u, hu, y, hy => by
    rcases List.mem_cons.1 hu with e | hu
    · obtain ⟨⟨w, e2, hw⟩, _⟩ := h
      rw [← e] at e2
      cases e2
      rcases hw with ⟨rfl, _⟩ | ⟨rfl, _⟩ | ⟨o, i, ob, rfl, h2, _⟩
      · exact hy.elim
      · exact hy.elim
      · have : o = y := hy
        subst this
        exact Hp.at_lt h2
    · exact LvRow.lt h.2 u hu y hy
theorem MSt.upd2 {H0 H H' : Hp} {a d a' : AV} {ol os : Nat} {s : Sr} {tp : List Ent} (t : Int) (h : MSt H0 H (.ag [a, .sl ol 0 3, .sl os 0 3, .int .i64 s.keep, .int .i64 s.time, d]) s) (hle : HLe H H') (ha : OwnE H0 H' a' tp) (hb : ∀ y, a'.of y → H.length ≤ y) :
    MSt H0 H' (.ag [a', .sl ol 0 3, .sl os 0 3, .int .i64 s.keep, .int .i64 t, d]) { s with top := tp, time := t } := by
  obtain ⟨a2, ol2, os2, d2, lr, sr, hv, ha2, hlv, hlr, hsv, hsr, hd2, hdo2, hol, hos, hl3, hs3, hoff⟩ := h
  simp only [stAV, hl3, hs3, AV.ag.injEq, List.cons.injEq, AV.sl.injEq, and_true, true_and] at hv
  obtain ⟨rfl, rfl, rfl, rfl⟩ := hv
  exact ⟨a', ol, os, d, lr, sr, by simp [stAV, hl3, hs3], ha, hlv.le hle, All2.mono (fun _ _ => LvRow.le hle) hlr, hsv.le hle, All2.mono (fun _ _ => SvRow.le hle) hsr, hd2.le hle, hdo2, hol, hos, hl3, hs3, fun y hy u hu hy2 => by
    have := LvRow.lt hlr u hu y hy2
    have := hb y hy
    omega, hoff.2⟩
theorem MSt.parts {H0 H : Hp} {a d : AV} {ol os : Nat} {s : Sr} {k t : AV} (h : MSt H0 H (.ag [a, .sl ol 0 3, .sl os 0 3, k, t, d]) s) : OwnE H0 H a s.top ∧ OwnI H0 H d s.tms ∧ ¬ d.of ol := by
  obtain ⟨a2, ol2, os2, d2, lr, sr, hv, ha2, hlv, hlr, hsv, hsr, hd2, hdo2, hol, hos, hl3, hs3, hoff⟩ := h
  simp only [stAV, hl3, hs3, AV.ag.injEq, List.cons.injEq, AV.sl.injEq, and_true, true_and] at hv
  obtain ⟨rfl, rfl, rfl, rfl, rfl, rfl⟩ := hv
  exact ⟨ha2, hd2, hdo2⟩
theorem l12Into_ret (n : Nat) (hn : n ≤ 2) (v r : AV) (s : Sr) (es : List Ent) (H0 H : Hp) (hs : MSt H0 H v s) (hle : HLe H0 H) (hr : Ents H r es) (hes : SmB es) (hl : ∀ l ∈ s.lev, SmB l) (ht : s.tms.length ≤ 1000) :
    AC Tryz.prog E 209 [v, .int .i64 ((2 - n : Nat) : Int), r] H (fun u H' => RetS H0 H' u (intoR n s es) ∧ Fr (stOf v) H H') := by
  refine AC.mono (l12Into_ok n hn v r s es H0 H hs hle hr hes hl ht) (fun u H' h => ?_)
  cases hi : intoR n s es with
  | none =>
    rw [hi] at h
    exact ⟨⟨hle.fr_le h.2 (fun x hx => (hs.obj x hx).1), h.1⟩, h.2⟩
  | some x =>
    rw [hi] at h
    obtain ⟨w, e, hm, _, hf⟩ := h
    exact ⟨⟨hle.fr_le hf (fun x hx => (hs.obj x hx).1), w, e, hm⟩, hf⟩

theorem l12Down_ok (v : AV) (s : Sr) (H0 H : Hp) (hs : MSt H0 H v s) (hle0 : HLe H0 H) (hb : Small s) :
    AC Tryz.prog E 189 [v] H (fun u H' => RetS H0 H' u (downR s) ∧ Fr (stOf v) H H') := by
  have hlt := fun x => hs.lt (x := x)
  have hobj := hs.obj
  obtain ⟨a, ol, os, d, rfl, ha1, hd1, hdi⟩ := hs.shape
  refine AC_by fol (tC_le tab2_ok) h_spec_l12Down ?_
  simp [c_spec_l12Down, ha1, hd1]
  obtain ⟨p1, p2, p3⟩ := hs.parts
  refine cg_ex (l12Into_ret 2 (by omega) _ a { s with top := [] } s.top H0 _ (hs.upd2 (tp := []) s.time (HLe.self H _) ⟨Own.obj (R := []) (by simp) rfl, fun x hx => by simp at hx; have := hle0.1; omega⟩ (fun y hy => by simp at hy; omega)) (hle0.app _) (p1.ents.le (HLe.self _ _)) hb.1 hb.2.1 hb.2.2.1) ?_
  rintro v2 H2 ⟨hret, hF⟩
  obtain ⟨xa, xb, xc, xk, xt, xd, rfl, o1, o2, o3, o4, o5, o6⟩ := hret.shape
  have b1 := hF.2 (H.length + 1) ⟨[[.nils, .nils, .nils, .int .i64 0, .int .i64 0, .nils]], 6, 28, false⟩ (fun h => by have := hlt _ h; omega) (by simp)
  have u1 := Hp.at_lt b1
  simp [o1, o2, o3, o4, o5, o6, b1, Hp.at_set, u1]
  have hF2 := Fr.one H2 (H.length + 1) (some ⟨[[xa, xb, xc, xk, xt, xd]], 6, 28, false⟩)
  exact ⟨hret.fin (HLe.refl _) hF2 (fun x ob hx ho => by rw [hx, b1] at ho; cases ho; rfl) (fun x hx => by rw [hx]; have := hle0.1; omega), (((HLe.self H _).fr (S := stOf _)).same hF).trans hF2 (fun x hx => .inr (by rw [hx]; omega))⟩

end Go.Proofs.YtgoeenodllmdpaaGreat.B


namespace Go.Proofs.YtgoeenodllmdpaaGreat.B
open Go.RowKit Go.Proofs
set_option linter.unusedVariables false
set_option linter.unusedSimpArgs false
variable {E : Env}

theorem St.shape {H : Hp} {v : AV} {s : Sr} (h : St H v s) : ∃ a b c d, v = .ag [a, b, c, .int .i64 s.keep, .int .i64 s.time, d] ∧ one a = true ∧ one b = true ∧ one c = true ∧ one d = true ∧ Ents H a s.top ∧ Ints H d s.tms := by
  obtain ⟨a, b, c, d, lr, sr, rfl, ha, hb1, hlr, hc, hsr, hd⟩ := h
  exact ⟨a, b, c, d, rfl, ha.one, hb1.one, hc.one, hd.one, ha, hd⟩
theorem addR_no {s : Sr} {e : Ent} (h : (storeOk s && entOk e) = false) : addR s e = none := by simp [addR, h]

theorem l12Add_ok (v : AV) (s : Sr) (e : Ent) (H : Hp) (hs : St H v s) (hb : StB s) (hk : e.key.size < 4611686018427387904) :
    AC Tryz.prog E 118 [v, .ag (entRow e)] H (fun u H' => RetS H H' u (addR s e)) := by
  have hs0 := hs
  obtain ⟨a, b, c, d, rfl, n1, n2, n3, n4, hea, hed⟩ := hs.shape
  refine AC_by fol (tC_le tab2_ok) h_spec_l12Add ?_
  obtain ⟨H1, hH1⟩ : ∃ H1, H1 = H ++ [some ⟨[[a, b, c, .int .i64 s.keep, .int .i64 s.time, d]], 6, 28, false⟩, some ⟨[[.str e.key, .int .i64 e.val, .bool e.gone, .int .i64 e.time]], 4, 99, false⟩, some ⟨[[.nils, .nils, .nils, .int .i64 0, .int .i64 0, .nils]], 6, 28, false⟩] := ⟨_, rfl⟩
  have hle1 : HLe H H1 := by rw [hH1]; exact HLe.self _ _
  have b0 : H1.at H.length = some ⟨[[a, b, c, .int .i64 s.keep, .int .i64 s.time, d]], 6, 28, false⟩ := by rw [hH1]; simp
  have b1 : H1.at (H.length + 1) = some ⟨[[.str e.key, .int .i64 e.val, .bool e.gone, .int .i64 e.time]], 4, 99, false⟩ := by rw [hH1]; simp
  have b2 : H1.at (H.length + 2) = some ⟨[[.nils, .nils, .nils, .int .i64 0, .int .i64 0, .nils]], 6, 28, false⟩ := by rw [hH1]; simp
  have hl1 : H1.length = H.length + 3 := by rw [hH1]; simp
  have eR : entRow e = [.str e.key, .int .i64 e.val, .bool e.gone, .int .i64 e.time] := rfl
  have u2 := Hp.at_lt b2
  simp [c_spec_l12Add, n1, n2, n3, n4, ← hH1, b0, eR]
  refine cg_use (StoreOk_ok _ s H1 (hs0.le hle1) hb) ?_
  cases hso : storeOk s with
  | false =>
    simp [b2, Hp.at_set, u2, addR_no (e := e) (s := s) (by simp [hso]), RetS]
    exact hle1.set (by omega) _
  | true =>
  have eta : (⟨e.key, e.val, e.gone, e.time⟩ : Ent) = e := rfl
  simp [b1, tab2_ok1 _ _ _ _ _ _ _ _ _ _ _ hk]
  cases heo : entOk e with
  | false =>
    simp [heo, b2, Hp.at_set, u2, addR_no (e := e) (s := s) (by simp [heo]), RetS]
    exact hle1.set (by omega) _
  | true =>
  have hsm := storeOk_small hso
  simp [heo, b0]
  refine cg_ex (l12Copy_ok _ s H1 (hs0.le hle1) hb hsm.2.2.2.2.2.2.2.1 hsm.2.2.2.2.2.2.2.2) ?_
  rintro v2 H2 ⟨hle2, hm2⟩
  obtain ⟨xa, xl, xs, xd, rfl, xn1, xn2, xdi⟩ := hm2.shape
  have b02 := hle2.2 _ _ b0
  have b12 := hle2.2 _ _ b1
  have b22 := hle2.2 _ _ b2
  have u0 := Hp.at_lt b02
  have u1 := Hp.at_lt b12
  have u2 := Hp.at_lt b22
  have m02 : H.length ≠ H.length + 2 := by omega
  have m01 : H.length ≠ H.length + 1 := by omega
  have hp2 := hm2.parts
  simp [xn1, xn2, b02, Hp.at_set, u0, hp2.1.len, hp2.1.slc]
  obtain ⟨H3, hH3⟩ : ∃ H3 : Hp, H3 = List.set H2 H.length (some ⟨[[xa, .sl xl 0 3, .sl xs 0 3, .int .i64 s.keep, .int .i64 s.time, xd]], 6, 28, false⟩) := ⟨_, rfl⟩
  have hF3 : Fr (fun x => x = H.length) H2 H3 := by rw [hH3]; exact Fr.one _ _ _
  have hm3 := hm2.fr hF3 (fun x ob hx ho => by rw [hx, b02] at ho; cases ho; rfl)
  have hle3 : HLe H H3 := (hle1.trans hle2).fr_le hF3 (fun x hx => by rw [hx]; exact Nat.le_refl _)
  have b03 : H3.at H.length = some ⟨[[xa, .sl xl 0 3, .sl xs 0 3, .int .i64 s.keep, .int .i64 s.time, xd]], 6, 28, false⟩ := by rw [hH3]; exact Hp.at_set _ u0
  have b13 := hF3.2 _ _ m01.symm b12
  have b23 := hF3.2 _ _ m02.symm b22
  rw [← hH3]
  refine c_split (fun hq => ?_) (fun hq => ?_) <;> simp at hq
  · have hF13 := (hle2.fr (S := fun x => x = H.length)).same hF3
    simp [b03]
    refine cg_ex (l12Down_ok _ s H H3 (hm3.base hle1.1) hle3 hsm) ?_
    rintro v4 H4 ⟨hret, hF4⟩
    have n0 : ∀ y, y < H1.length → ¬ stOf (.ag [xa, .sl xl 0 3, .sl xs 0 3, .int .i64 s.keep, .int .i64 s.time, xd]) y := fun y h1 h3 => by have := (hm2.obj y h3).1; omega
    have b04 := hF4.2 _ _ (n0 _ (by omega)) b03
    have b14 := hF4.2 _ _ (n0 _ (by omega)) b13
    have b24 := hF4.2 _ _ (n0 _ (by omega)) b23
    have u04 := Hp.at_lt b04
    have u14 := Hp.at_lt b14
    have u24 := Hp.at_lt b24
    cases hd : downR s with
    | none =>
      have hadd : addR s e = none := by simp [addR, hso, heo, hd, show 4 ≤ s.top.length by omega]
      rw [hd] at hret
      obtain ⟨hle4, rfl⟩ := hret
      simp [b24, Hp.at_set, u24, Hp.at_app, set_in', hadd]
      exact ⟨(hle4.set (by omega) _).app _, rfl⟩
    | some x =>
      have hadd : addR s e = some { x with top := joinL [e] x.top, time := e.time } := by simp [addR, hso, heo, hd, show 4 ≤ s.top.length by omega]
      have hx0 : x.top = [] := (intoR_tms hd).2.1
      rw [hd] at hret
      obtain ⟨hle4, w4, rfl, hm4⟩ := hret
      obtain ⟨ya, yl, ys, yd, rfl, yn1, yn2, ydi⟩ := hm4.shape
      simp [yn1, yn2, b04, Hp.at_set, Hp.at_app, u04, set_in']
      obtain ⟨H4', hH4'⟩ : ∃ H4' : Hp, H4' = List.set H4 H.length (some ⟨[[ya, .sl yl 0 3, .sl ys 0 3, .int .i64 x.keep, .int .i64 x.time, yd]], 6, 28, false⟩) ++ [some ⟨[[ya, .sl yl 0 3, .sl ys 0 3, .int .i64 x.keep, .int .i64 x.time, yd]], 6, 28, false⟩] := ⟨_, rfl⟩
      rw [← hH4']
      have hF4' : Fr (fun y => y = H.length) H4 H4' := by rw [hH4']; exact (Fr.one _ _ _).app _
      have c03 : Hp.at H4' H.length = some ⟨[[ya, .sl yl 0 3, .sl ys 0 3, .int .i64 x.keep, .int .i64 x.time, yd]], 6, 28, false⟩ := by rw [hH4']; exact (Hp.at_app _ (by rw [List.length_set]; exact u04)).trans (Hp.at_set _ u04)
      have c13 := hF4'.2 _ _ m01.symm b14
      have c23 := hF4'.2 _ _ m02.symm b24
      have hm4' := hm4.fr hF4' (fun y ob hy ho => by rw [hy, b04] at ho; cases ho; rfl)
      have hle4' := hle4.fr_le hF4' (fun y hy => by rw [hy]; exact Nat.le_refl _)
      have hpk := hm4'.parts
      have t03 := Hp.at_lt c03
      have t13 := Hp.at_lt c13
      simp [c03, c13, Hp.at_app, t03, t13]
      have hlit : Ents (H4' ++ [some ⟨[[.str e.key, .int .i64 e.val, .bool e.gone, .int .i64 e.time]], 4, 99, false⟩]) (.sl H4'.length 0 1) [e] := Own.rows (ety := 99) (Own.obj (by simp; rfl) rfl)
      refine cg_ex (l11Join_ok (.sl H4'.length 0 1) ya [e] x.top _ hlit (hpk.1.ents.le (HLe.self _ _)) (by simp [hx0])) ?_
      rintro v5 H5 ⟨hle5, hj⟩
      have hle5' := (HLe.self H4' _).trans hle5
      have b05 := hle5'.2 _ _ c03
      have b15 := hle5'.2 _ _ c13
      have b25 := hle5'.2 _ _ c23
      have u05 := Hp.at_lt b05
      have u15 := Hp.at_lt b15
      have u25 := Hp.at_lt b25
      simp [hj.rows.one, hj.rows.cells1, hj.rows.cells, yn1, yn2, b05, b15, b25, Hp.at_set, Hp.at_set_ne, List.length_set, u05, u15, u25, m01, m02, m01.symm, m02.symm]
      
      have hF6 := ((Fr.refl (fun y => y = H.length ∨ y = H.length + 2) H5).set (o := H.length) (.inl (.inl rfl)) (some ⟨[[v5, .sl yl 0 3, .sl ys 0 3, .int .i64 x.keep, .int .i64 e.time, yd]], 6, 28, false⟩)).set (o := H.length + 2) (.inl (.inr rfl)) (some ⟨[[v5, .sl yl 0 3, .sl ys 0 3, .int .i64 x.keep, .int .i64 e.time, yd]], 6, 28, false⟩)
      rw [hadd]
      exact ⟨(hle4'.trans hle5').fr_le hF6 (fun y hy => by rcases hy with h | h <;> omega), _, rfl, MSt.fr (hm4'.upd2 (tp := joinL [e] x.top) e.time hle5' (hj.base (by have := hle4'.1; simp; omega)) (fun y hy => by have h9 := hj.2 y hy; simp at h9; omega)) hF6 (fun y ob hy ho => by
        rcases hy with h | h
        · rw [h, b05] at ho; cases ho; rfl
        · rw [h, b25] at ho; cases ho; rfl)⟩
  · have z : 0 = 0 := rfl
    have hpk := (hm3.base hle1.1).parts
    have t03 := Hp.at_lt b03
    have t13 := Hp.at_lt b13
    simp [b03, b13, Hp.at_app, t03, t13]
    have hlit : Ents (H3 ++ [some ⟨[[.str e.key, .int .i64 e.val, .bool e.gone, .int .i64 e.time]], 4, 99, false⟩]) (.sl H3.length 0 1) [e] := Own.rows (ety := 99) (Own.obj (by simp; rfl) rfl)
    refine cg_ex (l11Join_ok (.sl H3.length 0 1) xa [e] s.top _ hlit (hpk.1.ents.le (HLe.self _ _)) (by simp; omega)) ?_
    rintro v5 H5 ⟨hle5, hj⟩
    have hle5' := (HLe.self H3 _).trans hle5
    have b05 := hle5'.2 _ _ b03
    have b15 := hle5'.2 _ _ b13
    have b25 := hle5'.2 _ _ b23
    have u05 := Hp.at_lt b05
    have u15 := Hp.at_lt b15
    have u25 := Hp.at_lt b25
    simp [hj.rows.one, hj.rows.cells1, hj.rows.cells, xn1, xn2, b05, b15, b25, Hp.at_set, Hp.at_set_ne, List.length_set, u05, u15, u25, m01, m02, m01.symm, m02.symm]
    have hadd : addR s e = some { s with top := joinL [e] s.top, time := e.time } := by simp [addR, hso, heo, show ¬ 4 ≤ s.top.length by omega]
    have hF6 := ((Fr.refl (fun y => y = H.length ∨ y = H.length + 2) H5).set (o := H.length) (.inl (.inl rfl)) (some ⟨[[v5, .sl xl 0 3, .sl xs 0 3, .int .i64 s.keep, .int .i64 e.time, xd]], 6, 28, false⟩)).set (o := H.length + 2) (.inl (.inr rfl)) (some ⟨[[v5, .sl xl 0 3, .sl xs 0 3, .int .i64 s.keep, .int .i64 e.time, xd]], 6, 28, false⟩)
    rw [hadd]
    exact ⟨(hle3.trans hle5').fr_le hF6 (fun y hy => by rcases hy with h | h <;> omega), _, rfl, MSt.fr ((hm3.base hle1.1).upd2 (tp := joinL [e] s.top) e.time hle5' (hj.base (by have := hle3.1; simp; omega)) (fun y hy => by have h9 := hj.2 y hy; simp at h9; omega)) hF6 (fun y ob hy ho => by
      rcases hy with h | h
      · rw [h, b05] at ho; cases ho; rfl
      · rw [h, b25] at ho; cases ho; rfl)⟩

end Go.Proofs.YtgoeenodllmdpaaGreat.B


namespace Go.Proofs.YtgoeenodllmdpaaGreat.B
open Go.RowKit Go.Proofs
set_option linter.unusedVariables false
set_option linter.unusedSimpArgs false
variable {E : Env}

theorem storeOk_time {s : Sr} (h : storeOk s = true) : IntKind.i64.wrap (s.time + 1) = s.time + 1 := by
  simp only [storeOk, headOk, Bool.and_eq_true, decide_eq_true_eq] at h
  obtain ⟨⟨⟨⟨⟨⟨h1, h2⟩, h3⟩, h4⟩, h5⟩, h7⟩, h9⟩ := h
  exact wrap64 (by omega) (by omega)
theorem addR_wrap (s : Sr) (f : Int → Ent) : addR s (f (IntKind.i64.wrap (s.time + 1))) = addR s (f (s.time + 1)) := by
  cases h : storeOk s with
  | false => simp [addR, h]
  | true => rw [storeOk_time h]
theorem StorePut_ok (v : AV) (s : Sr) (k : ByteArray) (val : Int) (H : Hp) (hs : St H v s) (hb : StB s) (hk : k.size < 4611686018427387904) :
    AC Tryz.prog E 47 [v, .str k, .int .i64 val] H (fun u H' => RetS H H' u (putR s k val)) := by
  have hs0 := hs
  obtain ⟨a, b, c, d, rfl, n1, n2, n3, n4, hea, hed⟩ := hs.shape
  refine AC_by fol (tC_le tab2_ok) h_spec_StorePut ?_
  simp [c_spec_StorePut, n1, n2, n3, n4]
  refine cg_ex (l12Add_ok _ s ⟨k, val, false, IntKind.i64.wrap (s.time + 1)⟩ _ (hs0.le (HLe.self _ _)) hb hk) ?_
  intro v2 H2 hret
  obtain ⟨xa, xb, xc, xk, xt, xd, rfl, o1, o2, o3, o4, o5, o6⟩ := hret.shape
  have b1 := hret.1.2 (H.length + 1) ⟨[[.nils, .nils, .nils, .int .i64 0, .int .i64 0, .nils]], 6, 28, false⟩ (by simp)
  have u1 := Hp.at_lt b1
  simp [o1, o2, o3, o4, o5, o6, b1, Hp.at_set, u1]
  have hF2 := Fr.one H2 (H.length + 1) (some ⟨[[xa, xb, xc, xk, xt, xd]], 6, 28, false⟩)
  have hr := hret.fin (H0 := H) (HLe.self _ _) hF2 (fun x ob hx ho => by rw [hx, b1] at ho; cases ho; rfl) (fun x hx => by rw [hx]; omega)
  have ew := addR_wrap s (fun t => ⟨k, val, false, t⟩)
  rw [ew] at hr ⊢
  exact hr
theorem StoreTake_ok (v : AV) (s : Sr) (k : ByteArray) (H : Hp) (hs : St H v s) (hb : StB s) (hk : k.size < 4611686018427387904) :
    AC Tryz.prog E 152 [v, .str k] H (fun u H' => RetS H H' u (takeR s k)) := by
  have hs0 := hs
  obtain ⟨a, b, c, d, rfl, n1, n2, n3, n4, hea, hed⟩ := hs.shape
  refine AC_by fol (tC_le tab2_ok) h_spec_StoreTake ?_
  simp [c_spec_StoreTake, n1, n2, n3, n4]
  refine cg_ex (l12Add_ok _ s ⟨k, 0, true, IntKind.i64.wrap (s.time + 1)⟩ _ (hs0.le (HLe.self _ _)) hb hk) ?_
  intro v2 H2 hret
  obtain ⟨xa, xb, xc, xk, xt, xd, rfl, o1, o2, o3, o4, o5, o6⟩ := hret.shape
  have b1 := hret.1.2 (H.length + 1) ⟨[[.nils, .nils, .nils, .int .i64 0, .int .i64 0, .nils]], 6, 28, false⟩ (by simp)
  have u1 := Hp.at_lt b1
  simp [o1, o2, o3, o4, o5, o6, b1, Hp.at_set, u1]
  have hF2 := Fr.one H2 (H.length + 1) (some ⟨[[xa, xb, xc, xk, xt, xd]], 6, 28, false⟩)
  have hr := hret.fin (H0 := H) (HLe.self _ _) hF2 (fun x ob hx ho => by rw [hx, b1] at ho; cases ho; rfl) (fun x hx => by rw [hx]; omega)
  have ew := addR_wrap s (fun t => ⟨k, 0, true, t⟩)
  rw [ew] at hr ⊢
  exact hr
theorem StoreDown_ok (v : AV) (s : Sr) (H : Hp) (hs : St H v s) (hb : StB s) :
    AC Tryz.prog E 153 [v] H (fun u H' => RetS H H' u (letR s)) := by
  have hs0 := hs
  obtain ⟨a, b, c, d, rfl, n1, n2, n3, n4, hea, hed⟩ := hs.shape
  refine AC_by fol (tC_le tab2_ok) h_spec_StoreDown ?_
  simp [c_spec_StoreDown, n1, n2, n3, n4]
  refine cg_use (StoreOk_ok _ s _ (hs0.le (HLe.self _ _)) hb) ?_
  cases hso : storeOk s with
  | false =>
    simp [letR, hso, RetS]
  | true =>
  have hsm := storeOk_small hso
  have hlr : letR s = downR s := by simp [letR, hso]
  simp [n1, n2, n3, n4]
  refine cg_ex (l12Copy_ok _ s _ (hs0.le (HLe.self _ _)) hb hsm.2.2.2.2.2.2.2.1 hsm.2.2.2.2.2.2.2.2) ?_
  rintro v2 H2 ⟨hle2, hm2⟩
  simp
  refine cg_ex (l12Down_ok v2 s _ H2 hm2 hle2 hsm) ?_
  rintro v3 H3 ⟨hret, hF3⟩
  obtain ⟨xa, xb, xc, xk, xt, xd, rfl, o1, o2, o3, o4, o5, o6⟩ := hret.shape
  have b1 := hret.1.2 (H.length + 1) ⟨[[.nils, .nils, .nils, .int .i64 0, .int .i64 0, .nils]], 6, 28, false⟩ (by simp)
  have u1 := Hp.at_lt b1
  simp [o1, o2, o3, o4, o5, o6, b1, Hp.at_set, u1]
  have hF2 := Fr.one H3 (H.length + 1) (some ⟨[[xa, xb, xc, xk, xt, xd]], 6, 28, false⟩)
  rw [hlr]
  exact hret.fin (H0 := H) (HLe.self _ _) hF2 (fun x ob hx ho => by rw [hx, b1] at ho; cases ho; rfl) (fun x hx => by rw [hx]; omega)

end Go.Proofs.YtgoeenodllmdpaaGreat.B


namespace Go.Proofs.YtgoeenodllmdpaaGreat.B
open Go.RowKit Go.Proofs
set_option linter.unusedVariables false
set_option linter.unusedSimpArgs false
variable {E : Env}

theorem MSt.lev {H0 H : Hp} {a d k t : AV} {ol os : Nat} {s : Sr} (h : MSt H0 H (.ag [a, .sl ol 0 3, .sl os 0 3, k, t, d]) s) (i : Nat) (hi : i < 3) : ∃ ob u, H.at ol = some ob ∧ ob.esz = 1 ∧ ob.rows[i]? = some [u] ∧ Ents H u (s.lev.getD i []) := by
  obtain ⟨a2, ol2, os2, d2, lr, sr, hv, ha2, hlv, hlr, hsv, hsr, hd2, hdo2, hol, hos, hl3, hs3⟩ := h
  simp only [stAV, hl3, hs3, AV.ag.injEq, List.cons.injEq, AV.sl.injEq, and_true, true_and] at hv
  obtain ⟨rfl, rfl, rfl, rfl, rfl, rfl⟩ := hv
  obtain ⟨e1, obl, k1, k2, k3, k4, k5, k6⟩ := hlv.ob
  have hlr3 : lr.length = 3 := by omega
  obtain ⟨u, hu, hue⟩ := hlr.get i (by omega) (by omega)
  refine ⟨obl, u, k1, k3, ?_, by rw [getD_get [] (by omega)]; exact hue⟩
  have : (obl.rows.take lr.length)[i]? = lr[i]? := by rw [k6]
  rw [List.getElem?_take, if_pos (by omega)] at this
  rw [this, List.getElem?_eq_getElem (by omega), hu]

theorem StoreJoin_ok (v : AV) (s : Sr) (l : Int) (H : Hp) (hs : St H v s) (hb : StB s) :
    AC Tryz.prog E 154 [v, .int .i64 l] H (fun u H' => RetS H H' u (joinR s l)) := by
  have hs0 := hs
  obtain ⟨a, b, c, d, rfl, n1, n2, n3, n4, hea, hed⟩ := hs.shape
  refine AC_by fol (tC_le tab2_ok) h_spec_StoreJoin ?_
  obtain ⟨H1, hH1⟩ : ∃ H1 : Hp, H1 = H ++ [some ⟨[[a, b, c, .int .i64 s.keep, .int .i64 s.time, d]], 6, 28, false⟩, some ⟨[[.nils, .nils, .nils, .int .i64 0, .int .i64 0, .nils]], 6, 28, false⟩] := ⟨_, rfl⟩
  have hle1 : HLe H H1 := by rw [hH1]; exact HLe.self _ _
  have b0 : H1.at H.length = some ⟨[[a, b, c, .int .i64 s.keep, .int .i64 s.time, d]], 6, 28, false⟩ := by rw [hH1]; simp
  have b1 : H1.at (H.length + 1) = some ⟨[[.nils, .nils, .nils, .int .i64 0, .int .i64 0, .nils]], 6, 28, false⟩ := by rw [hH1]; simp
  have hl1 : H1.length = H.length + 2 := by rw [hH1]; simp
  have u1 := Hp.at_lt b1
  simp [c_spec_StoreJoin, n1, n2, n3, n4, ← hH1, b0]
  refine cg_use (StoreOk_ok _ s H1 (hs0.le hle1) hb) ?_
  cases hso : storeOk s with
  | false =>
    simp [b1, Hp.at_set, u1, joinR, hso, RetS]
    exact hle1.set (by omega) _
  | true =>
  have hsm := storeOk_small hso
  simp
  refine c_split (fun hq => ?_) (fun hq => ?_) <;> simp at hq
  · have hj : joinR s l = none := by
      unfold joinR
      rw [if_neg (by omega)]
    simp [b1, Hp.at_set, u1, hj, RetS]
    exact hle1.set (by omega) _
  simp [b0]
  refine cg_ex (l12Copy_ok _ s H1 (hs0.le hle1) hb hsm.2.2.2.2.2.2.2.1 hsm.2.2.2.2.2.2.2.2) ?_
  rintro v2 H2 ⟨hle2, hm2⟩
  obtain ⟨xa, xl, xs, xd, rfl, xn1, xn2, xdi⟩ := hm2.shape
  have b02 := hle2.2 _ _ b0
  have b12 := hle2.2 _ _ b1
  have u0 := Hp.at_lt b02
  have m01 : H.length ≠ H.length + 1 := by omega
  obtain ⟨n, rfl⟩ : ∃ n : Nat, l = n := ⟨l.toNat, by omega⟩
  have hn : n ≤ 1 := by omega
  have hn3 : (n : Int) < 3 := by omega
  obtain ⟨H3, hH3⟩ : ∃ H3 : Hp, H3 = List.set H2 H.length (some ⟨[[xa, .sl xl 0 3, .sl xs 0 3, .int .i64 s.keep, .int .i64 s.time, xd]], 6, 28, false⟩) := ⟨_, rfl⟩
  have hF3 : Fr (fun x => x = H.length) H2 H3 := by rw [hH3]; exact Fr.one _ _ _
  have hm3 := (hm2.fr hF3 (fun x ob hx ho => by rw [hx, b02] at ho; cases ho; rfl)).base hle1.1
  have hle3 : HLe H H3 := (hle1.trans hle2).fr_le hF3 (fun x hx => by rw [hx]; exact Nat.le_refl _)
  have b03 : H3.at H.length = some ⟨[[xa, .sl xl 0 3, .sl xs 0 3, .int .i64 s.keep, .int .i64 s.time, xd]], 6, 28, false⟩ := by rw [hH3]; exact Hp.at_set _ u0
  have b13 := hF3.2 _ _ m01.symm b12
  obtain ⟨obl, u, k1, k2, k3, k4⟩ := hm3.lev n (by omega)
  simp [xn1, xn2, b02, Hp.at_set, u0, ← hH3, b03, k1, k2, k3, hn3]
  have hj : joinR s n = match setR s n [] with
    | none => none
    | some x => intoR (1 - n) x (s.lev.getD n []) := by
    unfold joinR
    rw [if_pos ⟨hso, by omega, by omega⟩]
    rfl
  have t03 := Hp.at_lt b03
  have t13 := Hp.at_lt b13
  have hlit : Ents (H3 ++ [some ⟨[], 4, 99, false⟩]) (.sl H3.length 0 0) [] := Own.rows (ety := 99) (Own.lit0 rfl)
  have n0 : ∀ y, H.length ≤ y → y < H1.length → ¬ stOf (.ag [xa, .sl xl 0 3, .sl xs 0 3, .int .i64 s.keep, .int .i64 s.time, xd]) y := fun y h0 h1 h3 => by have := (hm2.obj y h3).1; omega
  have ne4 := (hm3.le (HLe.self H3 [some ⟨[], 4, 99, false⟩])).ne4
  refine cg_ex (l12Set_ok _ (.sl H3.length 0 0) s n [] H _ (hm3.le (HLe.self _ _)) (hle3.app _) hlit ⟨by simp, fun e he => by simp at he⟩ (by omega) (fun y hy ht => by have := hm3.top_lt ht; simp at hy; omega) (fun y hy => by simp at hy; have := hle3.1; omega)) ?_
  intro v4 H4 hp
  cases h1 : setR s n [] with
  | none =>
    rw [h1] at hp hj
    obtain ⟨rfl, hle4⟩ := hp
    have b14 := ((HLe.self _ _).trans hle4).2 _ _ b13
    have u14 := Hp.at_lt b14
    simp [b14, Hp.at_app, Hp.at_set, u14, set_in', hj, RetS]
    exact ((hle3.app _).trans hle4 |>.set (by omega) _).app _
  | some x =>
    rw [h1] at hp hj
    obtain ⟨w4, rfl, hm4, hst, hfr⟩ := hp
    obtain ⟨ya, yl, ys, yd, hy, yn1, yn2, ydi⟩ := hm4.shape
    subst hy
    have b14 := hfr.2 _ _ (n0 _ (by omega) (by omega)) ((HLe.self H3 _).2 _ _ b13)
    have u14 := Hp.at_lt b14
    have hu4 : Ents H4 u (s.lev.getD n []) := Rows.frz (k4.le (HLe.self _ _)) hfr ne4
    have hle4 : HLe H H4 := (hle3.app _).fr_le hfr (fun y hy => (hm3.obj y hy).1)
    have hwr : IntKind.i64.wrap ((n : Int) + 1) = ((2 - (1 - n) : Nat) : Int) := by
      rw [wrapN (by omega)]
      congr 1
      omega
    have hsx := setR_small hsm (by omega) (fun e he => by simp at he) h1
    simp [yn1, yn2, hwr]
    refine cg_ex (l12Into_ret (1 - n) (by omega) _ u x _ H _ (hm4.le (HLe.self _ _)) (hle4.app _) (hu4.le (HLe.self _ _)) (hsm.lv n) hsx.2.1 hsx.2.2.1) ?_
    rintro v5 H5 ⟨hret, hF5⟩
    obtain ⟨za, zb, zc, zk, zt, zd, rfl, o1, o2, o3, o4, o5, o6⟩ := hret.shape
    have b15 := hF5.2 _ _ (fun h => n0 _ (by omega) (by omega) (hst ▸ h)) ((HLe.self H4 _).2 _ _ b14)
    have u15 := Hp.at_lt b15
    simp [o1, o2, o3, o4, o5, o6, b15, Hp.at_set, u15]
    rw [hj]
    have hF6 := Fr.one H5 (H.length + 1) (some ⟨[[za, zb, zc, zk, zt, zd]], 6, 28, false⟩)
    exact hret.fin (H0 := H) (HLe.refl _) hF6 (fun y ob hy ho => by rw [hy, b15] at ho; cases ho; rfl) (fun y hy => by rw [hy]; omega)

end Go.Proofs.YtgoeenodllmdpaaGreat.B


namespace Go.Proofs.YtgoeenodllmdpaaGreat.B
open Go.RowKit Go.Proofs
set_option linter.unusedVariables false
set_option linter.unusedSimpArgs false
variable {E : Env}

def RetH (H0 H : Hp) (u : AV) (s : Sr) (o : Option Sr) : Prop := HLe H0 H ∧ match o with
  | some x => ∃ w, u = .tu [w, .int .i64 s.time, .bool true] ∧ MSt H0 H w x
  | none => u = .tu [zst, .int .i64 0, .bool false]

theorem StoreHold_ok (v : AV) (s : Sr) (H : Hp) (hs : St H v s) (hb : StB s) :
    AC Tryz.prog E 27 [v] H (fun u H' => RetH H H' u s (holdR s)) := by
  have hs0 := hs
  obtain ⟨a, b, c, d, rfl, n1, n2, n3, n4, hea, hed⟩ := hs.shape
  refine AC_by fol (tC_le tab2_ok) h_spec_StoreHold ?_
  obtain ⟨H1, hH1⟩ : ∃ H1 : Hp, H1 = H ++ [some ⟨[[a, b, c, .int .i64 s.keep, .int .i64 s.time, d]], 6, 28, false⟩, some ⟨[[.nils, .nils, .nils, .int .i64 0, .int .i64 0, .nils]], 6, 28, false⟩] := ⟨_, rfl⟩
  have hle1 : HLe H H1 := by rw [hH1]; exact HLe.self _ _
  have b0 : H1.at H.length = some ⟨[[a, b, c, .int .i64 s.keep, .int .i64 s.time, d]], 6, 28, false⟩ := by rw [hH1]; simp
  have b1 : H1.at (H.length + 1) = some ⟨[[.nils, .nils, .nils, .int .i64 0, .int .i64 0, .nils]], 6, 28, false⟩ := by rw [hH1]; simp
  have hl1 : H1.length = H.length + 2 := by rw [hH1]; simp
  have u1 := Hp.at_lt b1
  simp [c_spec_StoreHold, n1, n2, n3, n4, ← hH1, b0]
  refine cg_use (StoreOk_ok _ s H1 (hs0.le hle1) hb) ?_
  cases hso : storeOk s with
  | false =>
    simp [b1, Hp.at_set, u1, holdR, hso, RetH]
    exact hle1.set (by omega) _
  | true =>
  have hsm := storeOk_small hso
  simp [b0]
  refine cg_ex (l12Copy_ok _ s H1 (hs0.le hle1) hb hsm.2.2.2.2.2.2.2.1 hsm.2.2.2.2.2.2.2.2) ?_
  rintro v2 H2 ⟨hle2, hm2⟩
  obtain ⟨xa, xl, xs, xd, rfl, xn1, xn2, xdi⟩ := hm2.shape
  have b02 := hle2.2 _ _ b0
  have b12 := hle2.2 _ _ b1
  have u0 := Hp.at_lt b02
  have m01 : H.length ≠ H.length + 1 := by omega
  obtain ⟨H3, hH3⟩ : ∃ H3 : Hp, H3 = List.set H2 H.length (some ⟨[[xa, .sl xl 0 3, .sl xs 0 3, .int .i64 s.keep, .int .i64 s.time, xd]], 6, 28, false⟩) := ⟨_, rfl⟩
  have hF3 : Fr (fun x => x = H.length) H2 H3 := by rw [hH3]; exact Fr.one _ _ _
  have hm3 := (hm2.fr hF3 (fun x ob hx ho => by rw [hx, b02] at ho; cases ho; rfl)).base hle1.1
  have hle3 : HLe H H3 := (hle1.trans hle2).fr_le hF3 (fun x hx => by rw [hx]; exact Nat.le_refl _)
  have b03 : H3.at H.length = some ⟨[[xa, .sl xl 0 3, .sl xs 0 3, .int .i64 s.keep, .int .i64 s.time, xd]], 6, 28, false⟩ := by rw [hH3]; exact Hp.at_set _ u0
  have b13 := hF3.2 _ _ m01.symm b12
  have hp := hm3.parts
  have hti := hp.2.1.ints
  have xbd : ∀ y, xd.of y → H1.length ≤ y := fun y hy => xdi.2 y hy
  have hlen := hti.len
  have ts3 : s.tms.length ≤ 1000 := hsm.2.2.1
  have app : ∀ (F : CallP → Nat → Prop), True := fun _ => trivial
  by_cases hlast : s.tms.getLast? = some s.time
  · have hhold : holdR s = if timesR s.tms s.time = true then some { s with tms := s.tms } else none := by simp [holdR, hso, hlast]
    have hpos : 0 < s.tms.length := by
      rcases Nat.eq_zero_or_pos s.tms.length with h | h
      · rw [List.length_eq_zero_iff.1 h] at hlast
        cases hlast
      · exact h
    have hne : s.tms ≠ [] := fun h => by rw [h] at hpos; simp at hpos
    have hlast' : s.tms[s.tms.length - 1]'(by omega) = s.time := by
      rw [List.getLast?_eq_getElem?, List.getElem?_eq_getElem (by omega)] at hlast
      exact Option.some.inj hlast
    have hw : IntKind.i64.wrap ((s.tms.length : Int) - 1) = ((s.tms.length - 1 : Nat) : Int) := by rw [wrap64 (by omega) (by omega)]; omega
    obtain ⟨o1, i1, ob1, rfl, a1, a2, a3⟩ := hti.get (j := s.tms.length - 1) (by omega)
    simp [xn1, xn2, b02, Hp.at_set, u0, ← hH3, b03, hlen, hti.slc, hne, hw, a1, a2, a3, hlast']
    refine ⟨by omega, ?_⟩
    have uk := Hp.at_lt b13
    refine cg_use (l12Times_ok (.sl o1 i1 s.tms.length) s.tms s.time H3 (hp.2.1).ints (by (try simp only [List.length_append, List.length_singleton]); omega)) ?_
    cases htt : timesR s.tms s.time with
    | false =>
      have hh : holdR s = none := by rw [hhold]; simp [htt]
      simp [b13, Hp.at_set, uk, hh, RetH]
      exact (hle3).set (by omega) _
    | true =>
      have hh : holdR s = some { s with tms := s.tms } := by rw [hhold]; simp [htt]
      have hon := (hp.2.1).rows.one
      simp [b03, b13, Hp.at_set, Hp.at_set_ne, uk, xn1, hon, hh, RetH, m01, m01.symm]
      have hF := Fr.one H3 (H.length + 1) (some ⟨[[xa, .sl xl 0 3, .sl xs 0 3, .int .i64 s.keep, .int .i64 s.time, (.sl o1 i1 s.tms.length)]], 6, 28, false⟩)
      exact ⟨(hle3).fr_le hF (fun y hy => by rw [hy]; omega), MSt.fr hm3 hF (fun y ob hy ho => by rw [hy, b13] at ho; cases ho; rfl)⟩
  · have hhold : holdR s = if timesR (s.tms ++ [s.time]) s.time = true then some { s with tms := s.tms ++ [s.time] } else none := by simp [holdR, hso, hlast]
    by_cases hne : s.tms = []
    · simp [xn1, xn2, b02, Hp.at_set, u0, ← hH3, b03, hlen, hti.slc, hne]
      refine appG_add (y := s.time) (bytes := 8) (row := intRow) (H0 := H) hp.2.1 hle3 (by omega) rfl (fun v4 H4 g1 g2 g3 g4 => ?_)
      have b04 := g3.2 _ _ (fun h => by have := xbd _ h; omega) b03
      have b14 := g3.2 _ _ (fun h => by have := xbd _ h; omega) b13
      have u04 := Hp.at_lt b04
      have hm4 := hm3.app (ts := s.tms ++ [s.time]) g3 g2 g4
      simp [b04, g2.rows.one, g2.rows.cells, g2.rows.cells1, Hp.at_set, u04]
      obtain ⟨H5, hH5⟩ : ∃ H5 : Hp, H5 = List.set H4 H.length (some ⟨[[xa, .sl xl 0 3, .sl xs 0 3, .int .i64 s.keep, .int .i64 s.time, v4]], 6, 28, false⟩) := ⟨_, rfl⟩
      have hF5 : Fr (fun x => x = H.length) H4 H5 := by rw [hH5]; exact Fr.one _ _ _
      have hm5 := hm4.fr hF5 (fun y ob hy ho => by rw [hy, b04] at ho; cases ho; rfl)
      have hle5 : HLe H H5 := g1.fr_le hF5 (fun x hx => by rw [hx]; exact Nat.le_refl _)
      have c03 : H5.at H.length = some ⟨[[xa, .sl xl 0 3, .sl xs 0 3, .int .i64 s.keep, .int .i64 s.time, v4]], 6, 28, false⟩ := by rw [hH5]; exact Hp.at_set _ u04
      have c13 := hF5.2 _ _ m01.symm b14
      rw [← hH5]
      have uk := Hp.at_lt c13
      refine cg_use (l12Times_ok v4 (s.tms ++ [s.time]) s.time H5 (hm5.parts.2.1).ints (by (try simp only [List.length_append, List.length_singleton]); omega)) ?_
      cases htt : timesR (s.tms ++ [s.time]) s.time with
      | false =>
        have hh : holdR s = none := by rw [hhold]; simp [htt]
        simp [c13, Hp.at_set, uk, hh, RetH]
        exact (hle5).set (by omega) _
      | true =>
        have hh : holdR s = some { s with tms := (s.tms ++ [s.time]) } := by rw [hhold]; simp [htt]
        have hon := (hm5.parts.2.1).rows.one
        simp [c03, c13, Hp.at_set, Hp.at_set_ne, uk, xn1, hon, hh, RetH, m01, m01.symm]
        have hF := Fr.one H5 (H.length + 1) (some ⟨[[xa, .sl xl 0 3, .sl xs 0 3, .int .i64 s.keep, .int .i64 s.time, v4]], 6, 28, false⟩)
        exact ⟨(hle5).fr_le hF (fun y hy => by rw [hy]; omega), MSt.fr hm5 hF (fun y ob hy ho => by rw [hy, c13] at ho; cases ho; rfl)⟩
    have hpos : 0 < s.tms.length := List.length_pos_iff.2 hne
    have hlast' : s.tms[s.tms.length - 1]'(by omega) ≠ s.time := by
      rw [List.getLast?_eq_getElem?, List.getElem?_eq_getElem (by omega)] at hlast
      exact fun h => hlast (congrArg some h)
    have hw : IntKind.i64.wrap ((s.tms.length : Int) - 1) = ((s.tms.length - 1 : Nat) : Int) := by rw [wrap64 (by omega) (by omega)]; omega
    obtain ⟨o1, i1, ob1, hxe, a1, a2, a3⟩ := hti.get (j := s.tms.length - 1) (by omega)
    have hxe' := hxe
    subst hxe'
    simp [xn1, xn2, b02, Hp.at_set, u0, ← hH3, b03, hlen, hti.slc, hne, hw, a1, a2, a3, hlast']
    refine ⟨by omega, ?_⟩
    refine appG_add (y := s.time) (bytes := 8) (row := intRow) (H0 := H) hp.2.1 hle3 (by omega) rfl (fun v4 H4 g1 g2 g3 g4 => ?_)
    have b04 := g3.2 _ _ (fun h => by have := xbd _ h; omega) b03
    have b14 := g3.2 _ _ (fun h => by have := xbd _ h; omega) b13
    have u04 := Hp.at_lt b04
    have hm4 := hm3.app (ts := s.tms ++ [s.time]) g3 g2 g4
    simp [b04, g2.rows.one, g2.rows.cells, g2.rows.cells1, Hp.at_set, u04]
    obtain ⟨H5, hH5⟩ : ∃ H5 : Hp, H5 = List.set H4 H.length (some ⟨[[xa, .sl xl 0 3, .sl xs 0 3, .int .i64 s.keep, .int .i64 s.time, v4]], 6, 28, false⟩) := ⟨_, rfl⟩
    have hF5 : Fr (fun x => x = H.length) H4 H5 := by rw [hH5]; exact Fr.one _ _ _
    have hm5 := hm4.fr hF5 (fun y ob hy ho => by rw [hy, b04] at ho; cases ho; rfl)
    have hle5 : HLe H H5 := g1.fr_le hF5 (fun x hx => by rw [hx]; exact Nat.le_refl _)
    have c03 : H5.at H.length = some ⟨[[xa, .sl xl 0 3, .sl xs 0 3, .int .i64 s.keep, .int .i64 s.time, v4]], 6, 28, false⟩ := by rw [hH5]; exact Hp.at_set _ u04
    have c13 := hF5.2 _ _ m01.symm b14
    rw [← hH5]
    have uk := Hp.at_lt c13
    refine cg_use (l12Times_ok v4 (s.tms ++ [s.time]) s.time H5 (hm5.parts.2.1).ints (by (try simp only [List.length_append, List.length_singleton]); omega)) ?_
    cases htt : timesR (s.tms ++ [s.time]) s.time with
    | false =>
      have hh : holdR s = none := by rw [hhold]; simp [htt]
      simp [c13, Hp.at_set, uk, hh, RetH]
      exact (hle5).set (by omega) _
    | true =>
      have hh : holdR s = some { s with tms := (s.tms ++ [s.time]) } := by rw [hhold]; simp [htt]
      have hon := (hm5.parts.2.1).rows.one
      simp [c03, c13, Hp.at_set, Hp.at_set_ne, uk, xn1, hon, hh, RetH, m01, m01.symm]
      have hF := Fr.one H5 (H.length + 1) (some ⟨[[xa, .sl xl 0 3, .sl xs 0 3, .int .i64 s.keep, .int .i64 s.time, v4]], 6, 28, false⟩)
      exact ⟨(hle5).fr_le hF (fun y hy => by rw [hy]; omega), MSt.fr hm5 hF (fun y ob hy ho => by rw [hy, c13] at ho; cases ho; rfl)⟩

end Go.Proofs.YtgoeenodllmdpaaGreat.B


namespace Go.Proofs.YtgoeenodllmdpaaGreat.B
open Go.RowKit Go.Proofs
set_option linter.unusedVariables false
set_option linter.unusedSimpArgs false
variable {E : Env}

def leftR (t : Int) (ts : List Int) : List Int := ts.filter fun x => !decide (x = t)
theorem leftR_step {t : Int} {ts : List Int} {i : Nat} (hi : i < ts.length) : leftR t (ts.take (i + 1)) = if ts[i] = t then leftR t (ts.take i) else leftR t (ts.take i) ++ [ts[i]] := by
  rw [List.take_succ_eq_append_getElem hi, leftR, List.filter_append]
  by_cases h : ts[i] = t <;> simp [h, leftR]
theorem StoreFree_ok (v : AV) (s : Sr) (tt : Int) (H : Hp) (hs : St H v s) (hb : StB s) :
    AC Tryz.prog E 64 [v, .int .i64 tt] H (fun u H' => RetS H H' u (freeR s tt)) := by
  have hs0 := hs
  obtain ⟨a, b, c, d, rfl, n1, n2, n3, n4, hea, hed⟩ := hs.shape
  refine AC_by fol (tC_le tab2_ok) h_spec_StoreFree ?_
  obtain ⟨H1, hH1⟩ : ∃ H1 : Hp, H1 = H ++ [some ⟨[[a, b, c, .int .i64 s.keep, .int .i64 s.time, d]], 6, 28, false⟩, some ⟨[[.nils, .nils, .nils, .int .i64 0, .int .i64 0, .nils]], 6, 28, false⟩] := ⟨_, rfl⟩
  have hle1 : HLe H H1 := by rw [hH1]; exact HLe.self _ _
  have b0 : H1.at H.length = some ⟨[[a, b, c, .int .i64 s.keep, .int .i64 s.time, d]], 6, 28, false⟩ := by rw [hH1]; simp
  have b1 : H1.at (H.length + 1) = some ⟨[[.nils, .nils, .nils, .int .i64 0, .int .i64 0, .nils]], 6, 28, false⟩ := by rw [hH1]; simp
  have hl1 : H1.length = H.length + 2 := by rw [hH1]; simp
  have u1 := Hp.at_lt b1
  simp [c_spec_StoreFree, n1, n2, n3, n4, ← hH1, b0]
  refine cg_use (StoreOk_ok _ s H1 (hs0.le hle1) hb) ?_
  cases hso : storeOk s with
  | false =>
    simp [b1, Hp.at_set, u1, freeR, hso, RetS]
    exact hle1.set (by omega) _
  | true =>
  have hsm := storeOk_small hso
  simp [b0]
  refine cg_ex (l12Copy_ok _ s H1 (hs0.le hle1) hb hsm.2.2.2.2.2.2.2.1 hsm.2.2.2.2.2.2.2.2) ?_
  rintro v2 H2 ⟨hle2, hm2⟩
  obtain ⟨xa, xl, xs, xd, rfl, xn1, xn2, xdi⟩ := hm2.shape
  have b02 := hle2.2 _ _ b0
  have b12 := hle2.2 _ _ b1
  have u0 := Hp.at_lt b02
  have m01 : H.length ≠ H.length + 1 := by omega
  obtain ⟨H3, hH3⟩ : ∃ H3 : Hp, H3 = List.set H2 H.length (some ⟨[[xa, .sl xl 0 3, .sl xs 0 3, .int .i64 s.keep, .int .i64 s.time, xd]], 6, 28, false⟩) := ⟨_, rfl⟩
  have hF3 : Fr (fun x => x = H.length) H2 H3 := by rw [hH3]; exact Fr.one _ _ _
  have hm3 := (hm2.fr hF3 (fun x ob hx ho => by rw [hx, b02] at ho; cases ho; rfl)).base hle1.1
  have hle3 : HLe H H3 := (hle1.trans hle2).fr_le hF3 (fun x hx => by rw [hx]; exact Nat.le_refl _)
  have b03 : H3.at H.length = some ⟨[[xa, .sl xl 0 3, .sl xs 0 3, .int .i64 s.keep, .int .i64 s.time, xd]], 6, 28, false⟩ := by rw [hH3]; exact Hp.at_set _ u0
  have b13 := hF3.2 _ _ m01.symm b12
  have hp := hm3.parts
  have hti := hp.2.1.ints
  have xbd : ∀ y, xd.of y → H1.length ≤ y := fun y hy => xdi.2 y hy
  have hlen := hti.len
  have ts3 : s.tms.length ≤ 1000 := hsm.2.2.1
  simp [xn1, xn2, b02, Hp.at_set, u0, ← hH3, b03, hlen, hti.slc]
  refine W_for (fun m t H' => ∃ (i : Nat) (left : AV), i + m = s.tms.length ∧ t 1 = .int .i64 tt ∧ t 2 = .pt H.length 0 0 ∧ t 4 = .pt (H.length + 1) 0 0 ∧ t 6 = left ∧ t 7 = .int .i64 i ∧ HLe H3 H' ∧ OwnI H3 H' left (leftR tt (s.tms.take i))) s.tms.length ?_ (tC_mono AC_mono) ?_
  · exact ⟨0, .sl H3.length 0 0, by omega, by simp, by simp, by simp, by simp, by simp, HLe.self _ _, by simpa [leftR] using (OwnM.lit0 (HLe.refl H3) : OwnI H3 _ _ [])⟩
  rintro m t H' ⟨i, left, him, h1, h2, h4, h6, h7, hle', hown⟩
  have b0' := hle'.2 _ _ b03
  have hti' := hti.le hle'
  simp [h1, h2, h4, h6, h7, b0', hlen, hti.slc]
  refine c_split (fun hq => ?_) (fun hq => ?_) <;> simp at hq
  · have hi : i < s.tms.length := by omega
    obtain ⟨o1, i1, ob1, rfl, a1, a2, a3⟩ := hti'.get hi
    have hw := wrapN (i := i) (by omega)
    simp [h1, h2, h4, h6, h7, b0', a1, a2, a3, hi]
    refine c_split (fun hq2 => ?_) (fun hq2 => ?_) <;> simp at hq2 <;> simp [h1, h2, h4, h6, h7, b0', a1, a2, a3, hi, hw]
    · have hll : (leftR tt (s.tms.take i)).length ≤ i := Nat.le_trans (List.length_filter_le _ _) (by simp; omega)
      refine appG_add (y := s.tms[i]) (bytes := 8) (row := intRow) (H0 := H3) hown hle' (by omega) rfl (fun v5 H5 g1 g2 g3 g4 => ?_)
      simp [h1, h2, h4, h6, h7, hw]
      refine ⟨m - 1, by omega, i + 1, by omega, by omega, g1, ?_⟩
      rw [leftR_step hi, if_neg hq2]
      exact g2
    · have hx : s.tms[i] = tt := by omega
      refine ⟨m - 1, by omega, i + 1, by omega, by omega, hle', ?_⟩
      rw [leftR_step hi, if_pos hx]
      exact hown
  · have hie : i = s.tms.length := by omega
    subst hie
    rw [List.take_of_length_le (Nat.le_refl _)] at hown
    have hll : (leftR tt s.tms).length ≤ s.tms.length := List.length_filter_le _ _
    have b1' := hle'.2 _ _ b13
    have u1' := Hp.at_lt b1'
    have hfr : freeR s tt = if (leftR tt s.tms).length = s.tms.length then none else some { s with tms := leftR tt s.tms } := by
      unfold freeR
      rw [if_pos hso]
      rfl
    simp [h1, h2, h4, h6, h7, b0', hown.len, hown.slc, hlen, hti.slc]
    refine c_split (fun hq2 => ?_) (fun hq2 => ?_) <;> simp at hq2
    · rw [if_pos (by omega)] at hfr
      simp [h4, b1', Hp.at_set, u1', hfr, RetS]
      exact (hle3.trans hle').set (by omega) _
    · rw [if_neg (by omega)] at hfr
      have hm4 := hm3.app (ts := leftR tt s.tms) (hle'.fr (S := xd.of)) (hown.base hle3.1) (fun y hy => .inr (hown.2 y hy))
      have u0' := Hp.at_lt b0'
      simp [h2, h4, h6, b0', b1', Hp.at_set, Hp.at_set_ne, List.length_set, u0', u1', m01, m01.symm, hfr, hown.rows.one, hown.rows.cells, hown.rows.cells1, xn1]
      have hF := ((Fr.refl (fun y => y = H.length ∨ y = H.length + 1) H').set (o := H.length) (.inl (.inl rfl)) (some ⟨[[xa, .sl xl 0 3, .sl xs 0 3, .int .i64 s.keep, .int .i64 s.time, left]], 6, 28, false⟩)).set (o := H.length + 1) (.inl (.inr rfl)) (some ⟨[[xa, .sl xl 0 3, .sl xs 0 3, .int .i64 s.keep, .int .i64 s.time, left]], 6, 28, false⟩)
      exact ⟨(hle3.trans hle').fr_le hF (fun y hy => by rcases hy with h | h <;> omega), _, rfl, MSt.fr hm4 hF (fun y ob hy ho => by
        rcases hy with h | h
        · rw [h, b0'] at ho; cases ho; rfl
        · rw [h, b1'] at ho; cases ho; rfl)⟩

end Go.Proofs.YtgoeenodllmdpaaGreat.B


namespace Go.Proofs.YtgoeenodllmdpaaGreat.B
open Go.RowKit Go.Proofs
set_option linter.unusedVariables false
set_option linter.unusedSimpArgs false
variable {E : Env}

theorem RgP_then {C : CallP} (hm : CMono C) {p : Plan} {K : Tm → Hp → Prop} {t : Tm} {H : Hp} (I : Tm → Hp → Prop) (h1 : RgP C p t H I) (h2 : ∀ t H, I t H → K t H) : RgP C p t H K := RgP_mono hm p t H _ _ h2 h1

theorem late_ok (e : Ent) (o : Nat) (a b c d : AV) (k tm : Int) (H : Hp) (h1 : H.at o = some ⟨[[a, b, c, .int .i64 k, .int .i64 tm, d]], 6, 28, false⟩) :
    AC Tryz.prog E 97 [.ag (entRow e), .pt o 0 0] H (fun v H' => v = .bool (decide (tm < e.time)) ∧ H' = H) := by
  refine AC_byp (tC_le tabJ_ok) h_impl_StoreOk_1 (by simp) ?_
  have u := Hp.at_lt h1
  simp [c_impl_StoreOk_1, h1, entRow, Hp.at_app, u]

theorem SvRet.shape {H H' : Hp} {v : AV} {o : Option Sv} (h : SvRet H H' v o) : ∃ l m f r k, v = .tu [.ag [.str l, .str m, .str f, r, .int .i64 k], .bool o.isSome] ∧ r.cells = [r] ∧ cells1 r = true ∧ one r = true ∧ ∀ x, o = some x → l = x.l ∧ m = x.m ∧ f = x.f ∧ k = x.k ∧ OwnS H H' r x.r ∧ x.r.length ≤ 12000 := by
  cases o with
  | none => exact ⟨_, _, _, _, _, h, rfl, rfl, rfl, fun x hx => by cases hx⟩
  | some x =>
    obtain ⟨r, rfl, h2, h3⟩ := h
    exact ⟨_, _, _, _, _, rfl, Rows.cells h2.1.rows, Rows.cells1 h2.1.rows, Rows.one h2.1.rows, fun y hy => by cases hy; exact ⟨rfl, rfl, rfl, rfl, h2, h3⟩⟩
def SieveAt (H : Hp) (L : Nat) (o : Option Sv) : Prop := ∃ l m f r k, H.at L = some ⟨[[.str l, .str m, .str f, r, .int .i64 k]], 5, 66, false⟩ ∧ ∀ x, o = some x → l = x.l ∧ m = x.m ∧ f = x.f ∧ k = x.k ∧ Strs H r x.r ∧ x.r.length ≤ 12000
theorem SvRet.fill {H H' H2 : Hp} {l m f : ByteArray} {r : AV} {k : Int} {L : Nat} {o : Option Sv} (h : ∀ x, o = some x → l = x.l ∧ m = x.m ∧ f = x.f ∧ k = x.k ∧ OwnS H H' r x.r ∧ x.r.length ≤ 12000)
    (hb : H2.at L = some ⟨[[.str l, .str m, .str f, r, .int .i64 k]], 5, 66, false⟩) (hs : ∀ xs, OwnS H H' r xs → Strs H2 r xs) : SieveAt H2 L o :=
  ⟨l, m, f, r, k, hb, fun x hx => by
    obtain ⟨h1, h2, h3, h4, h5, h6⟩ := h x hx
    exact ⟨h1, h2, h3, h4, hs _ h5, h6⟩⟩
theorem OwnS.set5 {H H' : Hp} {r : AV} {xs : List ByteArray} (h : OwnS H H' r xs) {L : Nat} {ob : Ob} (ho : H'.at L = some ob) (he : ob.esz = 5) (x : Option Ob) : Strs (List.set H' L x) r xs :=
  (h.fr (Fr.one H' L x) (fun y hy hh => by
    subst hh
    have := h.1.esz hy ho
    omega)).strs

set_option maxHeartbeats 1600000 in
theorem implStoreOk_ok (v : AV) (s : Sr) (H : Hp) (hs : St H v s) (hb : StB s) : AC Tryz.prog E 24 [v] H (fun u H' => u = .bool (storeOk s) ∧ H' = H) := by
  obtain ⟨a, b, c, d, lr, sr, rfl, ha, hb1, hlr, hc, hsr, hd⟩ := hs
  obtain ⟨hB1, hB2, hB3, hB4, hB5, hB6, hB7, hB8, hB9⟩ := hb
  refine AC_byp (tC_le tabJ_ok) h_impl_StoreOk (by simp) ?_
  rw [← storeI_eq]
  have ll := hlr.length
  have ls := hsr.length
  obtain ⟨H1, hH1⟩ : ∃ H1 : Hp, H1 = H ++ [some ⟨[[a, b, c, .int .i64 s.keep, .int .i64 s.time, d]], 6, 28, false⟩] := ⟨_, rfl⟩
  have hle1 : HLe H H1 := by rw [hH1]; exact HLe.self _ _
  have b0 : H1.at H.length = some ⟨[[a, b, c, .int .i64 s.keep, .int .i64 s.time, d]], 6, 28, false⟩ := by rw [hH1]; simp
  have l1 := hb1.len
  have l2 := hc.len
  have l3 := ha.len
  have hf : headI s = false → storeI s = false := fun h => by simp [storeI, h]
  rcases Classical.em (s.lev.length = 3) with e1 | e1
  rotate_left
  · have i1 : ¬ (lr.length : Int) = 3 := by omega
    simp [c_impl_StoreOk, stAV, Rows.one ha, Rows.one hb1, Rows.one hc, Rows.one hd, ← hH1, b0, l1, hb1.slc, i1]
    exact ⟨hf (by simp [headI, e1]), hle1⟩
  rcases Classical.em (s.sv.length = 3) with e2 | e2
  rotate_left
  · have i1 : (lr.length : Int) = 3 := by omega
    have i2 : ¬ (sr.length : Int) = 3 := by omega
    simp [c_impl_StoreOk, stAV, Rows.one ha, Rows.one hb1, Rows.one hc, Rows.one hd, ← hH1, b0, l1, hb1.slc, l2, hc.slc, i1, i2]
    exact ⟨hf (by simp [headI, e2]), hle1⟩
  have i1 : (lr.length : Int) = 3 := by omega
  have i2 : (sr.length : Int) = 3 := by omega
  simp [c_impl_StoreOk, stAV, Rows.one ha, Rows.one hb1, Rows.one hc, Rows.one hd, ← hH1, b0, l1, hb1.slc, l2, hc.slc, i1, i2]
  refine cg_use (implRunOk_ok a s.top H1 (ha.le hle1) hB1.2.short (by have := hB1.1; omega)) ?_
  cases h3 : runOk s.top with
  | false =>
    simp
    exact ⟨hf (by simp [headI, h3]), hle1⟩
  | true =>
  simp [b0, l3, ha.slc]
  rcases Classical.em (s.top.length ≤ 4) with e4 | e4
  rotate_left
  · have i4 : (4 : Int) < (s.top.length : Int) := by omega
    simp [b0, l3, ha.slc, i4]
    exact ⟨hf (by simp [headI, e4]), hle1⟩
  have i4 : ¬ ((4 : Int) < (s.top.length : Int)) := by omega
  rcases Classical.em (0 ≤ s.time ∧ s.time ≤ 999) with e5 | e5
  rotate_left
  · have e5' : decide (0 ≤ s.time ∧ s.time ≤ 999) = false := decide_eq_false e5
    simp [b0, l3, ha.slc, i4, e5']
    exact ⟨hf (by simp only [headI, e5']; simp), hle1⟩
  simp [b0, l3, ha.slc, i4, e5]
  refine cg_use (timesOk_ok d s.tms s.time H1 (hd.le hle1) hB5) ?_
  cases h6 : timesR s.tms s.time with
  | false =>
    simp
    exact ⟨hf (by simp [headI, h6]), hle1⟩
  | true =>
  have hhead : headI s = true := by simp [headI, e1, e2, h3, e4, e5, h6]
  simp [b0, l1, hb1.slc, i1]
  refine W_for (fun m t H' => ∃ (n : Nat) (v : AV), n + m = 3 ∧ t 1 = .pt H.length 0 0 ∧ t 3 = v ∧ t 47 = b ∧ t 48 = .int .i64 3 ∧ t 49 = .int .i64 n ∧ HLe H1 H' ∧ Ents H' v (aboveI s n) ∧ ∀ i, i < n → okI s i = true) 3 ?_ (tC_mono AC_mono) ?_
  · exact ⟨0, a, by simp, by simp, by simp, by simp, by simp, by simp, HLe.refl _, by rw [aboveI_0]; exact ha.le hle1, by simp⟩
  rintro m t H' ⟨n, v, hnm, t1, t3, t47, t48, t49, hle, hv, hok⟩
  simp [t1, t3, t47, t48, t49]
  refine c_split (fun hq => ?_) (fun hq => ?_) <;> simp at hq
  · have hn3 : n < 3 := by omega
    have hnl : n < lr.length := by omega
    obtain ⟨o1, j1, ob1, rfl, aH, a2, a3⟩ := hb1.get hnl
    obtain ⟨u, hu, hue⟩ := hlr.get n hnl (by omega)
    rw [hu] at a3
    have a1 := (hle1.trans hle).2 _ _ aH
    have bb := hle.2 _ _ b0
    have hnI : (n : Int) < lr.length := by omega
    obtain ⟨es, hes⟩ : ∃ es, es = s.lev[n] := ⟨_, rfl⟩
    rw [← hes] at hue
    have hEs : EsB es := by rw [hes]; exact hB2 _ (List.getElem_mem _)
    have hg1 : s.lev.getD n [] = es := by rw [hes]; simp [show n < s.lev.length by omega]
    have hfn : okI s n = false → storeI s = false := fun h => by
      have : n = 0 ∨ n = 1 ∨ n = 2 := by omega
      rcases this with rfl | rfl | rfl <;> simp [storeI, h]
    have hue' := hue.le (hle1.trans hle)
    obtain ⟨ks, hks⟩ : ∃ ks, ks = if runOk es = true then keysR es else [] := ⟨_, rfl⟩
    have hks1 : ∀ k ∈ ks, k.size < 4611686018427387904 := by
      rw [hks]
      split
      · exact keysR_short hEs.2
      · intro k hk
        cases hk
    have hks2 : ks.length < 4611686018427387904 := by
      have := keysR_len es
      have := hEs.1
      rw [hks]
      split
      · omega
      · simp
    simp [-RgP_both, t1, t3, t47, t48, t49, hnl, a1, a2, a3, hnI, bb]
    refine RgP_then (tC_mono AC_mono) (fun t H2 => t 1 = .pt H.length 0 0 ∧ t 3 = v ∧ t 4 = .int .i64 n ∧ t 5 = u ∧ t 47 = .sl o1 j1 lr.length ∧ t 48 = .int .i64 3 ∧ t 49 = .int .i64 n ∧ HLe H' H2 ∧ ∃ L, t 6 = .pt L 0 0 ∧ t 7 = .bool (sieveO ks s.keep).isSome ∧ SieveAt H2 L (sieveO ks s.keep)) ?_ ?_
    · have hrk := RunKeys_ok (E := E) u es
      rw [← hks] at hrk
      rw [RgP_both]
      refine ⟨?_, ?_⟩
      · simp [t1, t3, t47, t48, t49]
        refine cg_ex (hrk H' hue' hEs) ?_
        rintro w H2 ⟨hle2, hw⟩
        have bb2 := hle2.2 _ _ bb
        simp [t1, bb2]
        refine ⟨?_, ?_⟩
        · refine cg_ex (implSieveOf_ok w ks s.keep H2 hw.strs hks1 hks2) ?_
          rintro v2 H3 ⟨hle3, hret⟩
          obtain ⟨l, m', f, r, k, rfl, hr1, hr2, hr3, hx⟩ := hret.shape
          have bb3 := hle3.2 _ _ bb2
          have ub := Hp.at_lt bb3
          simp [t1, t3, t47, t48, t49, bb3, hr1, hr2, hr3, Hp.at_app, ub]
          exact ⟨(hle2.trans hle3).app _, SvRet.fill hx (by simp) (fun xs h => h.strs.le (HLe.self _ _))⟩
        · have ub := Hp.at_lt bb2
          obtain ⟨G, hG⟩ : ∃ G : Hp, G = H2 ++ [some ⟨[[.str ⟨#[]⟩, .str ⟨#[]⟩, .str ⟨#[]⟩, .nils, .int .i64 0]], 5, 66, false⟩] := ⟨_, rfl⟩
          have hleG : HLe H2 G := by rw [hG]; exact HLe.self _ _
          have bG : G.at H2.length = some ⟨[[.str ⟨#[]⟩, .str ⟨#[]⟩, .str ⟨#[]⟩, .nils, .int .i64 0]], 5, 66, false⟩ := by rw [hG]; simp
          simp [t1, ← hG, hleG.2 _ _ bb2]
          refine cg_ex (implSieveOf_ok w ks s.keep G (hw.strs.le hleG) hks1 hks2) ?_
          rintro v2 H3 ⟨hle3, hret⟩
          obtain ⟨l, m', f, r, k, rfl, hr1, hr2, hr3, hx⟩ := hret.shape
          have b3 := hle3.2 _ _ bG
          have u3 := Hp.at_lt b3
          simp [t1, t3, t47, t48, t49, b3, u3, hr1, hr2, hr3]
          exact ⟨((hle2.trans hleG).trans hle3).set (hle2.1) _, SvRet.fill hx (Hp.at_set _ u3) (fun xs h => h.set5 b3 rfl _)⟩
      · obtain ⟨G, hG⟩ : ∃ G : Hp, G = H' ++ [some ⟨[[.str ⟨#[]⟩, .str ⟨#[]⟩, .str ⟨#[]⟩, .nils, .int .i64 0]], 5, 66, false⟩] := ⟨_, rfl⟩
        have hleG : HLe H' G := by rw [hG]; exact HLe.self _ _
        have bG : G.at H'.length = some ⟨[[.str ⟨#[]⟩, .str ⟨#[]⟩, .str ⟨#[]⟩, .nils, .int .i64 0]], 5, 66, false⟩ := by rw [hG]; simp
        have bbG := hleG.2 _ _ bb
        simp [t1, t3, t47, t48, t49, ← hG, bbG]
        refine cg_ex (hrk G (hue'.le hleG) hEs) ?_
        rintro w H2 ⟨hle2, hw⟩
        have bb2 := hle2.2 _ _ bbG
        have bG2 := hle2.2 _ _ bG
        simp [t1, bb2]
        refine cg_ex (implSieveOf_ok w ks s.keep H2 hw.strs hks1 hks2) ?_
        rintro v2 H3 ⟨hle3, hret⟩
        obtain ⟨l, m', f, r, k, rfl, hr1, hr2, hr3, hx⟩ := hret.shape
        have b3 := hle3.2 _ _ bG2
        have u3 := Hp.at_lt b3
        simp [t1, t3, t47, t48, t49, b3, u3, hr1, hr2, hr3]
        exact ⟨((hleG.trans hle2).trans hle3).set (Nat.le_refl _) _, SvRet.fill hx (Hp.at_set _ u3) (fun xs h => h.set5 b3 rfl _)⟩
    · clear t1 t3 t47 t48 t49
      rintro t H2 ⟨t1, t3, t4, t5, t47, t48, t49, hle2, L, t6, t7, hSA⟩
      have hleA := hle.trans hle2
      have hle0 := hle1.trans hleA
      have hue2 := hue.le hle0
      have bb2 := hle2.2 _ _ bb
      have hw := wrapN (i := n) (by omega)
      have hok9 : okI s n = (runOk es && decide (es.length ≤ sizeL n) && decide (sieveO (keysR es) s.keep = some (s.sv.getD n default)) && newerI (aboveI s n) es && !lateI s.time (aboveI s n)) := by
        unfold okI
        rw [hg1]
      simp [t1, t3, t4, t5, t6, t7, t47, t48, t49]
      refine cg_use (implRunOk_ok u es H2 hue2 hEs.2.short (by have := hEs.1; omega)) ?_
      cases r1 : runOk es with
      | false =>
        simp
        exact ⟨hfn (by rw [hok9, r1]; rfl), hle0⟩
      | true =>
      rw [r1] at hks
      simp only [if_true] at hks
      subst hks
      simp [t1, t3, t4, t5, t6, t7, t47, t48, t49, hue2.len, hue2.slc]
      refine cg_use (room_ok n H2 (by omega)) ?_
      rcases Nat.lt_or_ge (sizeL n) es.length with r2 | r2
      · have r2' : (sizeL n : Int) < (es.length : Int) := by omega
        simp [r2']
        exact ⟨hfn (by rw [hok9]; simp [show ¬ es.length ≤ sizeL n by omega]), hle0⟩
      have r2' : ¬ (sizeL n : Int) < (es.length : Int) := by omega
      have his : n < sr.length := by omega
      obtain ⟨o2, j2, ob2, rfl, cH, c2, c3⟩ := hc.get his
      obtain ⟨rr, hr, hrs, -⟩ := hsr.get n his (by omega)
      rw [hr] at c3
      have cc := hle0.2 _ _ cH
      obtain ⟨y, hy⟩ : ∃ y, y = s.sv[n] := ⟨_, rfl⟩
      have hg2 : s.sv.getD n default = y := by rw [hy]; simp [show n < s.sv.length by omega]
      rw [← hy] at c3 hrs
      rw [hg2] at hok9
      simp [r2', t1, t3, t4, t5, t6, t7, t47, t48, t49]
      cases r3 : sieveO (keysR es) s.keep with
      | none =>
        simp
        exact ⟨hfn (by rw [hok9, r3]; simp), hle0⟩
      | some x =>
      rw [r3] at hSA
      obtain ⟨l, m', f, r, k, g1, g2⟩ := hSA
      obtain ⟨rfl, rfl, rfl, rfl, hxr, hxl⟩ := g2 x rfl
      have hnI2 : (n : Int) < sr.length := by omega
      simp [t1, t3, t4, t5, t6, t7, t47, t48, t49, g1, bb2, cc, c2, c3, his, hnI2]
      refine cg_use (same_ok r rr x y H2 hxr (hrs.le hle0) (by omega)) ?_
      rcases Classical.em (x = y) with r4 | r4
      rotate_left
      · have r4' : decide (x = y) = false := decide_eq_false r4
        simp [r4']
        exact ⟨hfn (by rw [hok9, r3]; simp [r4]), hle0⟩
      have r4' : decide (x = y) = true := decide_eq_true r4
      simp [r4', t1, t3, t4, t5, t6, t7, t47, t48, t49]
      have hv2 := hv.le hle2
      have hab : (aboveI s n).length ≤ 100 := by
        have q0 : ∀ i, i < n → (s.lev.getD i []).length ≤ sizeL i := fun i hi => (okI_parts (hok i hi)).2.1
        have : n = 0 ∨ n = 1 ∨ n = 2 := by omega
        obtain ⟨a0, b0', c0', hl3⟩ : ∃ x y z, s.lev = [x, y, z] := by
          match s.lev, e1 with
          | [x, y, z], _ => exact ⟨x, y, z, rfl⟩
        rcases this with rfl | rfl | rfl
        · simp [aboveI]
          omega
        · have := q0 0 (by omega)
          simp [aboveI, hl3, sizeL] at this ⊢
          omega
        · have z0 := q0 0 (by omega)
          have z1 := q0 1 (by omega)
          simp [aboveI, hl3, sizeL] at z0 z1 ⊢
          omega
      refine cg_use (newer_ok v u (aboveI s n) es H2 hv2 hue2 (by omega) hEs.1) ?_
      cases r5 : newerI (aboveI s n) es with
      | false =>
        simp
        exact ⟨hfn (by rw [hok9, r5]; simp), hle0⟩
      | true =>
      simp [t1, t3, t4, t5, t6, t7, t47, t48, t49]
      refine cg_use (ContainsEnt_ok v (aboveI s n) 97 [.pt H.length 0 0] (fun e => decide (s.time < e.time)) H2 hv2 (by omega) ?_ (fun _ => rfl)) ?_
      · intro e _ H3 hle3
        exact late_ok e H.length _ _ _ _ _ _ H3 (hle3.2 _ _ bb2)
      have elate : (aboveI s n).any (fun e => decide (s.time < e.time)) = lateI s.time (aboveI s n) := rfl
      rw [elate]
      cases r6 : lateI s.time (aboveI s n) with
      | true =>
        simp
        exact ⟨hfn (by rw [hok9, r6]; simp), hle0⟩
      | false =>
      obtain ⟨G, hG⟩ : ∃ G : Hp, G = H2 ++ [some ⟨[[v], [u]], 1, 23, false⟩] := ⟨_, rfl⟩
      have hleG : HLe H2 G := by rw [hG]; exact HLe.self _ _
      have bG : G.at H2.length = some ⟨[[v], [u]], 1, 23, false⟩ := by rw [hG]; simp
      simp [t1, t3, t4, t5, t6, t7, t47, t48, t49, Rows.cells hv, Rows.cells hue, Rows.cells1 hv, Rows.cells1 hue, ← hG]
      refine cg_ex (Concat_ok (.sl H2.length 0 2) [[v], [u]] [aboveI s n, es] G (Rows.whole bG) ⟨⟨v, rfl, hv2.le hleG⟩, ⟨u, rfl, hue2.le hleG⟩, trivial⟩ (by
        have h9 : sizeL n ≤ 24 := by
          simp only [sizeL]
          omega
        simp [catR]
        omega) (by simp)) ?_
      rintro w H3 ⟨hle3, hwo, -, -⟩
      have ec : catR [aboveI s n, es] = aboveI s (n + 1) := by
        simp only [catR, aboveI, List.flatten_cons, List.flatten_nil, List.append_nil]
        rw [List.take_succ_eq_append_getElem (show n < s.lev.length by omega), List.flatten_append, ← hes]
        simp
      rw [ec] at hwo
      simp [t1, t3, t4, t5, t6, t7, t47, t48, t49, hw]
      refine ⟨m - 1, by omega, n + 1, by omega, rfl, (hleA.trans hleG).trans hle3, hwo.ents, fun i hi => ?_⟩
      rcases Nat.lt_or_ge i n with h | h
      · exact hok i h
      · have : i = n := by omega
        subst this
        rw [hok9, r1, r3, r4, r5, r6]
        simp [r2]
  · have : n = 3 := by omega
    subst this
    simp
    have g0 := hok 0 (by omega)
    have g1 := hok 1 (by omega)
    have g2 := hok 2 (by omega)
    exact ⟨by simp [storeI, hhead, g0, g1, g2], hle1.trans hle⟩

end Go.Proofs.YtgoeenodllmdpaaGreat.B


namespace Go.Proofs.YtgoeenodllmdpaaGreat.B
open Go.RowKit Go.Proofs
set_option linter.unusedVariables false
set_option linter.unusedSimpArgs false
variable {E : Env}

def LvO (B : Nat) (H : Hp) (row : List AV) (es : List Ent) : Prop := ∃ u, row = [u] ∧ Own 4 99 H u (es.map entRow) ∧ ∀ y, u.of y → B ≤ y
def SvO (B : Nat) (H : Hp) (row : List AV) (s : Sv) : Prop := ∃ r, row = [.str s.l, .str s.m, .str s.f, r, .int .i64 s.k] ∧ Own 1 9 H r (s.r.map strRow) ∧ ∀ y, r.of y → B ≤ y
def rowOf (row : List AV) (y : Nat) : Prop := ∃ u, u ∈ row ∧ u.of y
def RowOff (a b : List AV) : Prop := ∀ y, rowOf a y → ¬ rowOf b y
def SepS (a : AV) (lr sr : List (List AV)) : Prop := OffT a lr ∧ lr.Pairwise RowOff ∧ sr.Pairwise RowOff
theorem pw_add {R : List (List AV)} {row : List AV} {n : Nat} (h : R.Pairwise RowOff) (hl : ∀ a ∈ R, ∀ y, rowOf a y → y < n) (hn : ∀ y, rowOf row y → n ≤ y) : (R ++ [row]).Pairwise RowOff :=
  List.pairwise_append.2 ⟨h, List.pairwise_singleton _ _, fun a ha b hb y hy hy2 => by
    rw [List.mem_singleton.1 hb] at hy2
    have := hl a ha y hy
    have := hn y hy2
    omega⟩
theorem All2.mem1 {α β : Type} {P : α → β → Prop} : ∀ {xs : List α} {ys : List β}, All2 P xs ys → ∀ x ∈ xs, ∃ y, P x y
  | [], [], _, x, hx => by cases hx
  | a :: xs, b :: ys, h, x, hx => by
    rcases List.mem_cons.1 hx with rfl | hx
    · exact ⟨b, h.1⟩
    · exact All2.mem1 h.2 x hx
structure CpS (H H' : Hp) (L3 i j : Nat) (v1 lv sv v2 : AV) (lr sr : List (List AV)) (s : Sr) : Prop where
  bx : H'.at L3 = some ⟨[[v1, lv, sv, .int .i64 s.keep, .int .i64 s.time, v2]], 6, 28, false⟩
  o1 : OwnE H H' v1 s.top
  o2 : OwnI H H' v2 s.tms
  ol : Own 1 23 H' lv lr
  rl : All2 (LvO H.length H') lr (s.lev.take i)
  nl : ∀ x, lv.of x → H.length ≤ x
  os : Own 5 66 H' sv sr
  rs : All2 (SvO H.length H') sr (s.sv.take j)
  ns : ∀ x, sv.of x → H.length ≤ x
  n3 : H.length ≤ L3
  le : HLe H H'
  sep : SepS v1 lr sr
theorem Own.frE {esz ety : Nat} {S : Nat → Prop} {H H' : Hp} {v : AV} {R : List (List AV)} (h : Own esz ety H v R) (hf : Fr S H H') (hS : ∀ y ob, S y → H.at y = some ob → ob.ety ≠ ety) : Own esz ety H' v R := by
  refine h.fr hf (fun y hy hs => ?_)
  rcases h with ⟨rfl, _⟩ | ⟨rfl, _⟩ | ⟨o', ob', rfl, a1, a2, a3, a4, _⟩
  · exact hy.elim
  · exact hy.elim
  · have : o' = y := hy
    subst this
    exact hS _ _ hs a1 a4
theorem OwnM.frE {α : Type} {esz ety : Nat} {row : α → List AV} {S : Nat → Prop} {H0 H H' : Hp} {v : AV} {xs : List α} (h : OwnM esz ety row H0 H v xs) (hf : Fr S H H') (hS : ∀ y ob, S y → H.at y = some ob → ob.ety ≠ ety) : OwnM esz ety row H0 H' v xs := ⟨h.1.frE hf hS, h.2⟩
section
variable {H H' H2 : Hp} {L3 i j : Nat} {v1 lv sv v2 : AV} {lr sr : List (List AV)} {s : Sr}
theorem CpS.hle (h : CpS H H' L3 i j v1 lv sv v2 lr sr s) (hle : HLe H' H2) : CpS H H2 L3 i j v1 lv sv v2 lr sr s := by
  obtain ⟨h1, h2, h3, h4, h5, h6, h7, h8, h9, h10, h11, h12⟩ := h
  exact ⟨hle.2 _ _ h1, h2.le hle, h3.le hle, h4.le hle, All2.mono (fun _ _ ⟨u, k1, k2, k3⟩ => ⟨u, k1, k2.le hle, k3⟩) h5, h6, h7.le hle, All2.mono (fun _ _ ⟨u, k1, k2, k3⟩ => ⟨u, k1, k2.le hle, k3⟩) h8, h9, h10, h11.trans hle, h12⟩
theorem CpS.lrl (h : CpS H H' L3 i j v1 lv sv v2 lr sr s) : ∀ a ∈ lr, ∀ y, rowOf a y → y < H'.length := by
  intro a ha y hy
  obtain ⟨es, u, rfl, hu, _⟩ := All2.mem1 h.rl a ha
  obtain ⟨w, hw, hy⟩ := hy
  cases List.mem_singleton.1 hw
  exact hu.lt hy
theorem CpS.srl (h : CpS H H' L3 i j v1 lv sv v2 lr sr s) : ∀ a ∈ sr, ∀ y, rowOf a y → y < H'.length := by
  intro a ha y hy
  obtain ⟨x, r, rfl, hr, _⟩ := All2.mem1 h.rs a ha
  obtain ⟨w, hw, hy⟩ := hy
  simp only [List.mem_cons, List.mem_nil_iff, or_false] at hw
  rcases hw with rfl | rfl | rfl | rfl | rfl
  · exact hy.elim
  · exact hy.elim
  · exact hy.elim
  · exact hr.lt hy
  · exact hy.elim
theorem CpS.addL {u lv' : AV} (h : CpS H H' L3 i j v1 lv sv v2 lr sr s) (hi : i < s.lev.length) (hu : OwnE H H' u s.lev[i]) {K : Nat} (hK : ∀ y, u.of y → K ≤ y) (hv1 : ∀ y, v1.of y → y < K) (hlk : ∀ a ∈ lr, ∀ y, rowOf a y → y < K) (g1 : Own 1 23 H2 lv' (lr ++ [[u]])) (g2 : Fr lv.of H' H2) (g3 : ∀ y, lv'.of y → lv.of y ∨ H'.length ≤ y) :
    CpS H (List.set H2 L3 (some ⟨[[v1, lv', sv, .int .i64 s.keep, .int .i64 s.time, v2]], 6, 28, false⟩)) L3 (i + 1) j v1 lv' sv v2 (lr ++ [[u]]) sr s := by
  obtain ⟨h1, h2, h3, h4, h5, h6, h7, h8, h9, h10, h11, h12⟩ := h
  have hlv : ∀ y ob, lv.of y → H'.at y = some ob → ob.ety = 23 := fun y ob hy ho => h4.ety hy ho
  have nb : ¬ lv.of L3 := fun hy => by have := hlv _ _ hy h1; simp at this
  have b2 := g2.2 _ _ nb h1
  have ub := Hp.at_lt b2
  have F : Fr (fun y => y = L3 ∨ lv.of y) H' (List.set H2 L3 (some ⟨[[v1, lv', sv, .int .i64 s.keep, .int .i64 s.time, v2]], 6, 28, false⟩)) := (g2.mono (fun y hy => .inl (.inr hy))).set (.inl (.inl rfl)) _
  have hS : ∀ y ob, (y = L3 ∨ lv.of y) → H'.at y = some ob → ob.ety = 28 ∨ ob.ety = 23 := by
    rintro y ob (h | h) ho
    · subst h
      rw [h1] at ho
      cases ho
      exact .inl rfl
    · exact .inr (hlv y ob h ho)
  have hne : ∀ e, e ≠ 28 → e ≠ 23 → ∀ y ob, (y = L3 ∨ lv.of y) → H'.at y = some ob → ob.ety ≠ e := fun e e1 e2 y ob hy ho => by
    rcases hS y ob hy ho with h | h
    · rw [h]
      exact e1.symm
    · rw [h]
      exact e2.symm
  refine ⟨Hp.at_set _ ub, h2.frE F (hne _ (by simp) (by simp)), h3.frE F (hne _ (by simp) (by simp)), g1.fr (Fr.one _ _ _) (fun y hy e => ?_), ?_, fun y hy => ?_, h7.frE F (hne _ (by simp) (by simp)), All2.mono (fun _ _ ⟨u, k1, k2, k3⟩ => ⟨u, k1, k2.frE F (hne _ (by simp) (by simp)), k3⟩) h8, h9, h10, h11.fr_le F (fun y hy => ?_), ⟨h12.1.add (fun y hy hy2 => by have := hK y hy2; have := hv1 y hy; omega), pw_add h12.2.1 hlk (fun y hy => by
    obtain ⟨w, hw, hy⟩ := hy
    cases List.mem_singleton.1 hw
    exact hK y hy), h12.2.2⟩⟩
  · subst e
    exact absurd (g1.ety hy b2) (by simp)
  · rw [List.take_succ_eq_append_getElem hi]
    exact All2.append (All2.mono (fun _ _ ⟨u, k1, k2, k3⟩ => ⟨u, k1, k2.frE F (hne _ (by simp) (by simp)), k3⟩) h5) ⟨⟨u, rfl, hu.1.frE F (hne _ (by simp) (by simp)), hu.2⟩, trivial⟩
  · rcases g3 y hy with h | h
    · exact h6 y h
    · have := h11.1
      omega
  · rcases hy with h | h
    · omega
    · exact h6 y h
theorem CpS.addS {r sv' : AV} (h : CpS H H' L3 i j v1 lv sv v2 lr sr s) (hj : j < s.sv.length) (hr : OwnS H H' r s.sv[j].r) {K : Nat} (hK : ∀ y, r.of y → K ≤ y) (hsk : ∀ a ∈ sr, ∀ y, rowOf a y → y < K) (g1 : Own 5 66 H2 sv' (sr ++ [[.str s.sv[j].l, .str s.sv[j].m, .str s.sv[j].f, r, .int .i64 s.sv[j].k]])) (g2 : Fr sv.of H' H2) (g3 : ∀ y, sv'.of y → sv.of y ∨ H'.length ≤ y) :
    CpS H (List.set H2 L3 (some ⟨[[v1, lv, sv', .int .i64 s.keep, .int .i64 s.time, v2]], 6, 28, false⟩)) L3 i (j + 1) v1 lv sv' v2 lr (sr ++ [[.str s.sv[j].l, .str s.sv[j].m, .str s.sv[j].f, r, .int .i64 s.sv[j].k]]) s := by
  obtain ⟨h1, h2, h3, h4, h5, h6, h7, h8, h9, h10, h11, h12⟩ := h
  have hlv : ∀ y ob, sv.of y → H'.at y = some ob → ob.ety = 66 := fun y ob hy ho => h7.ety hy ho
  have nb : ¬ sv.of L3 := fun hy => by have := hlv _ _ hy h1; simp at this
  have b2 := g2.2 _ _ nb h1
  have ub := Hp.at_lt b2
  have F : Fr (fun y => y = L3 ∨ sv.of y) H' (List.set H2 L3 (some ⟨[[v1, lv, sv', .int .i64 s.keep, .int .i64 s.time, v2]], 6, 28, false⟩)) := (g2.mono (fun y hy => .inl (.inr hy))).set (.inl (.inl rfl)) _
  have hS : ∀ y ob, (y = L3 ∨ sv.of y) → H'.at y = some ob → ob.ety = 28 ∨ ob.ety = 66 := by
    rintro y ob (h | h) ho
    · subst h
      rw [h1] at ho
      cases ho
      exact .inl rfl
    · exact .inr (hlv y ob h ho)
  have hne : ∀ e, e ≠ 28 → e ≠ 66 → ∀ y ob, (y = L3 ∨ sv.of y) → H'.at y = some ob → ob.ety ≠ e := fun e e1 e2 y ob hy ho => by
    rcases hS y ob hy ho with h | h
    · rw [h]
      exact e1.symm
    · rw [h]
      exact e2.symm
  refine ⟨Hp.at_set _ ub, h2.frE F (hne _ (by simp) (by simp)), h3.frE F (hne _ (by simp) (by simp)), h4.frE F (hne _ (by simp) (by simp)), All2.mono (fun _ _ ⟨u, k1, k2, k3⟩ => ⟨u, k1, k2.frE F (hne _ (by simp) (by simp)), k3⟩) h5, h6, g1.fr (Fr.one _ _ _) (fun y hy e => ?_), ?_, fun y hy => ?_, h10, h11.fr_le F (fun y hy => ?_), ⟨h12.1, h12.2.1, pw_add h12.2.2 hsk (fun y hy => by
    obtain ⟨w, hw, hy⟩ := hy
    simp only [List.mem_cons, List.mem_nil_iff, or_false] at hw
    rcases hw with rfl | rfl | rfl | rfl | rfl
    · exact hy.elim
    · exact hy.elim
    · exact hy.elim
    · exact hK y hy
    · exact hy.elim)⟩⟩
  · subst e
    exact absurd (g1.ety hy b2) (by simp)
  · rw [List.take_succ_eq_append_getElem hj]
    exact All2.append (All2.mono (fun _ _ ⟨u, k1, k2, k3⟩ => ⟨u, k1, k2.frE F (hne _ (by simp) (by simp)), k3⟩) h8) ⟨⟨r, rfl, hr.1.frE F (hne _ (by simp) (by simp)), hr.2⟩, trivial⟩
  · rcases g3 y hy with h | h
    · exact h9 y h
    · have := h11.1
      omega
  · rcases hy with h | h
    · omega
    · exact h9 y h
def RoOwn (own : Bool) (esz ety : Nat) (H : Hp) (v : AV) (R : List (List AV)) : Prop := if own = true then Own esz ety H v R else Rows esz H v R
theorem RoOwn.rows {own : Bool} {esz ety : Nat} {H : Hp} {v : AV} {R : List (List AV)} (h : RoOwn own esz ety H v R) : Rows esz H v R := by
  cases own
  · exact h
  · exact Own.rows h
theorem RoOwn.fr {own : Bool} {S : Nat → Prop} {esz ety : Nat} {H H' : Hp} {v : AV} {R : List (List AV)} (h : RoOwn own esz ety H v R) (hf : Fr S H H') (hs : ∀ o, v.of o → ¬ S o) : RoOwn own esz ety H' v R := by
  cases own
  · exact Rows.fr h hf hs
  · exact Own.fr h hf hs
def FarP (own : Bool) (P : AV → List (List AV) → List (List AV) → Prop) (B : Nat) (H : Hp) (v : AV) (s : Sr) : Prop := ∃ a b c d lr sr, v = stAV a b c s d ∧ RoOwn own 4 99 H a (s.top.map entRow) ∧ RoOwn own 1 23 H b lr ∧ All2 (fun row es => ∃ u, row = [u] ∧ RoOwn own 4 99 H u (es.map entRow) ∧ ∀ y, u.of y → B ≤ y) lr s.lev ∧ RoOwn own 5 66 H c sr ∧
  All2 (fun row s => ∃ r, row = [.str s.l, .str s.m, .str s.f, r, .int .i64 s.k] ∧ RoOwn own 1 9 H r (s.r.map strRow) ∧ ∀ y, r.of y → B ≤ y) sr s.sv ∧ RoOwn own 1 3 H d (s.tms.map intRow) ∧ (∀ y, a.of y ∨ b.of y ∨ c.of y ∨ d.of y → B ≤ y) ∧ P a lr sr
abbrev FarS := FarP true SepS
theorem FarP.fr {own : Bool} {S : Nat → Prop} {P : AV → List (List AV) → List (List AV) → Prop} {B : Nat} {H H' : Hp} {v : AV} {s : Sr} (h : FarP own P B H v s) (hf : Fr S H H') (hS : ∀ y, S y → y < B ∨ ∀ ob, H.at y = some ob → ob.esz = 6) : FarP own P B H' v s := by
  have key : ∀ {esz ety : Nat} {w : AV} {R : List (List AV)}, RoOwn own esz ety H w R → esz ≠ 6 → (∀ y, w.of y → B ≤ y) → RoOwn own esz ety H' w R := by
    intro esz ety w R hr he hw
    refine hr.fr hf (fun y hy hs => ?_)
    rcases hr.rows with ⟨rfl, _⟩ | ⟨rfl, _⟩ | ⟨o, i, ob, rfl, h2, h3, h4⟩
    · exact hy.elim
    · exact hy.elim
    · have : o = y := hy
      subst this
      rcases hS o hs with h | h
      · have := hw o rfl
        omega
      · exact he (by rw [← h3]; exact h _ h2)
  obtain ⟨a, b, c, d, lr, sr, e, h1, h2, h3, h4, h5, h6, h7, h8⟩ := h
  exact ⟨a, b, c, d, lr, sr, e, key h1 (by simp) (fun y hy => h7 y (.inl hy)), key h2 (by simp) (fun y hy => h7 y (.inr (.inl hy))), All2.mono (fun _ _ ⟨u, k1, k2, k3⟩ => ⟨u, k1, key k2 (by simp) k3, k3⟩) h3,
    key h4 (by simp) (fun y hy => h7 y (.inr (.inr (.inl hy)))), All2.mono (fun _ _ ⟨u, k1, k2, k3⟩ => ⟨u, k1, key k2 (by simp) k3, k3⟩) h5, key h6 (by simp) (fun y hy => h7 y (.inr (.inr (.inr hy)))), h7, h8⟩
theorem FarP.base {own : Bool} {B B' : Nat} {H : Hp} {v : AV} {s : Sr} {P : AV → List (List AV) → List (List AV) → Prop} (h : FarP own P B H v s) (hb : B' ≤ B) : FarP own P B' H v s := by
  obtain ⟨a, b, c, d, lr, sr, e, h1, h2, h3, h4, h5, h6, h7, h8⟩ := h
  exact ⟨a, b, c, d, lr, sr, e, h1, h2, All2.mono (fun _ _ ⟨u, k1, k2, k3⟩ => ⟨u, k1, k2, fun y hy => Nat.le_trans hb (k3 y hy)⟩) h3, h4, All2.mono (fun _ _ ⟨u, k1, k2, k3⟩ => ⟨u, k1, k2, fun y hy => Nat.le_trans hb (k3 y hy)⟩) h5, h6, fun y hy => Nat.le_trans hb (h7 y hy), h8⟩
theorem FarP.st {own : Bool} {B : Nat} {H : Hp} {v : AV} {s : Sr} {P : AV → List (List AV) → List (List AV) → Prop} (h : FarP own P B H v s) : St H v s := by
  obtain ⟨a, b, c, d, lr, sr, e, h1, h2, h3, h4, h5, h6, h7, h8⟩ := h
  exact ⟨a, b, c, d, lr, sr, e, h1.rows, h2.rows, All2.mono (fun _ _ ⟨u, k1, k2, k3⟩ => ⟨u, k1, k2.rows⟩) h3, h4.rows, All2.mono (fun _ _ ⟨u, k1, k2, k3⟩ => ⟨u, k1, k2.rows, fun _ _ h => h⟩) h5, h6.rows⟩
theorem CpS.fin (h : CpS H H' L3 3 3 v1 lv sv v2 lr sr s) (hl : s.lev.length = 3) (hs : s.sv.length = 3) : MSt H H' (.ag [v1, lv, sv, .int .i64 s.keep, .int .i64 s.time, v2]) s ∧ FarS H.length H' (.ag [v1, lv, sv, .int .i64 s.keep, .int .i64 s.time, v2]) s := by
  obtain ⟨h1, h2, h3, h4, h5, h6, h7, h8, h9, h10, h11, h12⟩ := h
  rw [List.take_of_length_le (by omega)] at h5 h8
  have ll := h5.length
  have ls := h8.length
  obtain ⟨ol, rfl⟩ := h4.sl (by omega)
  obtain ⟨os, rfl⟩ := h7.sl (by omega)
  rw [ll] at h4
  rw [ls] at h7
  obtain ⟨e1, obl, b1, -, -, b2, -⟩ := h4.ob
  have hno : ¬ v2.of ol := fun hx => by
    have := h3.1.ety hx b1
    rw [b2] at this
    simp at this
  refine ⟨⟨v1, ol, os, v2, lr, sr, by rw [stAV, ll, ls], h2, h4, All2.mono (fun _ _ ⟨u, k1, k2, k3⟩ => ⟨u, k1, k2.rows⟩) h5, h7, ?_, h3, hno, h6 ol rfl, h9 os rfl, hl, hs, h12.1, fun u hu y hy => by
    obtain ⟨es, w, e, hw, hwb⟩ := All2.mem1 h5 _ hu
    cases e
    exact hwb y hy⟩, v1, _, _, v2, lr, sr, rfl, h2.1, by rw [ll]; exact h4, All2.mono (fun _ _ ⟨u, k1, k2, k3⟩ => ⟨u, k1, k2, k3⟩) h5, by rw [ls]; exact h7, All2.mono (fun _ _ ⟨u, k1, k2, k3⟩ => ⟨u, k1, k2, k3⟩) h8, h3.1, fun y hy => ?_, h12⟩
  rotate_left
  · rcases hy with h | h | h | h
    · exact h2.2 y h
    · exact h6 y h
    · exact h9 y h
    · exact h3.2 y h
  refine All2.mono (fun row x hr => ?_) h8
  obtain ⟨r, k1, k2, k3⟩ := hr
  refine ⟨r, k1, k2.rows, fun y hx hh => ?_⟩
  rcases hh with hh | hh
  · subst hh
    have := k2.ety hx b1
    rw [b2] at this
    simp at this
  · rcases h3.1 with ⟨rfl, _⟩ | ⟨rfl, _⟩ | ⟨o', ob', rfl, a1, a2, a3, a4, _⟩
    · exact hh.elim
    · exact hh.elim
    · have : o' = y := hh
      subst this
      have := k2.ety hx a1
      rw [a4] at this
      simp at this
end

theorem LvRow.own {H : Hp} {row : List AV} {es : List Ent} {B : Nat} (h : LvO B H row es) : LvRow H row es := by
  obtain ⟨u, h1, h2, h3⟩ := h
  exact ⟨u, h1, h2.rows⟩

set_option maxHeartbeats 1600000 in
theorem clone_ok (v : AV) (s : Sr) (H : Hp) (hs : St H v s) (hb : StB s) (hl3 : s.lev.length = 3) (hs3 : s.sv.length = 3) :
    AC Tryz.prog E 150 [v] H (fun u H' => HLe H H' ∧ MSt H H' u s ∧ FarS H.length H' u s) := by
  obtain ⟨a, b, c, d, lr, sr, rfl, ha, hb1, hlr, hc, hsr, hd⟩ := hs
  obtain ⟨hB1, hB2, hB3, hB4, hB5, hB6, hB7, hB8, hB9⟩ := hb
  refine AC_by fol (tC_le tabJ_ok) h_impl_Store_clone ?_
  have ll := hlr.length
  have ls := hsr.length
  obtain ⟨H1, hH1⟩ : ∃ H1 : Hp, H1 = H ++ [some ⟨[[a, b, c, .int .i64 s.keep, .int .i64 s.time, d]], 6, 28, false⟩, some ⟨[[.nils, .nils, .nils, .int .i64 0, .int .i64 0, .nils]], 6, 28, false⟩] := ⟨_, rfl⟩
  have hle1 : HLe H H1 := by rw [hH1]; exact HLe.self _ _
  have b0 : H1.at H.length = some ⟨[[a, b, c, .int .i64 s.keep, .int .i64 s.time, d]], 6, 28, false⟩ := by rw [hH1]; simp
  have b1 : H1.at (H.length + 1) = some ⟨[[.nils, .nils, .nils, .int .i64 0, .int .i64 0, .nils]], 6, 28, false⟩ := by rw [hH1]; simp
  have hl1 : H1.length = H.length + 2 := by rw [hH1]; simp
  have l1 := hb1.len
  rw [ll, hl3] at l1
  simp [-RgP_both, c_impl_Store_clone, stAV, Rows.one ha, Rows.one hb1, Rows.one hc, Rows.one hd, ← hH1, b0]
  refine RgP_then (tC_mono AC_mono) (fun t H2 => t 1 = .pt H.length 0 0 ∧ t 2 = .pt (H.length + 1) 0 0 ∧ ∃ L3 v1 v2, t 3 = .pt L3 0 0 ∧ H.length + 2 ≤ L3 ∧ HLe H1 H2 ∧ CpS H H2 L3 0 0 v1 .nils .nils v2 [] [] s) ?_ ?_
  · have fill : ∀ {H2 : Hp} {L3 : Nat} {v1 v2 : AV}, H2.at L3 = some ⟨[[v1, .nils, .nils, .int .i64 s.keep, .int .i64 s.time, v2]], 6, 28, false⟩ → OwnE H H2 v1 s.top → OwnI H H2 v2 s.tms → H.length ≤ L3 → HLe H H2 → CpS H H2 L3 0 0 v1 .nils .nils v2 [] [] s :=
      fun h1 h2 h3 h4 h5 => ⟨h1, h2, h3, Own.nils, trivial, fun x hx => hx.elim, Own.nils, trivial, fun x hx => hx.elim, h4, h5, OffT.nil _, List.Pairwise.nil, List.Pairwise.nil⟩
    rw [RgP_both]
    refine ⟨?_, ?_⟩
    · simp
      refine cg_ex (cloneRun_ok a s.top H1 (ha.le hle1) hB1.1) ?_
      rintro v1 H2 ⟨hle2, hv1⟩
      have b2 := hle2.2 _ _ b0
      have hv1' := hv1.base hle1.1
      simp [b2]
      refine ⟨?_, ?_⟩
      · refine cg_ex (cloneInts_ok d s.tms H2 (hd.le (hle1.trans hle2)) hB5) ?_
        rintro v2 H3 ⟨hle3, hv2⟩
        have b3 := hle3.2 _ _ b2
        have hv2' := hv2.base (Nat.le_trans hle1.1 hle2.1)
        have u3 := Hp.at_lt b3
        simp [b3, Rows.cells hv1.1.rows, Rows.cells1 hv1.1.rows, Rows.cells hv2.1.rows, Rows.cells1 hv2.1.rows, Rows.one hv1.1.rows, Rows.one hv2.1.rows, Hp.at_app, u3]
        refine ⟨by have := hle2.1; have := hle3.1; omega, (hle2.trans hle3).app _, v1, v2, ?_⟩
        exact fill (by simp) (hv1'.le (hle3.app _)) (hv2'.le (HLe.self _ _)) (by have := hle1.1; have := hle2.1; have := hle3.1; omega) (((hle1.trans hle2).trans hle3).app _)
      · obtain ⟨G, hG⟩ : ∃ G : Hp, G = H2 ++ [some ⟨[[.nils, .nils, .nils, .int .i64 0, .int .i64 0, .nils]], 6, 28, false⟩] := ⟨_, rfl⟩
        have hleG : HLe H2 G := by rw [hG]; exact HLe.self _ _
        have bG : G.at H2.length = some ⟨[[.nils, .nils, .nils, .int .i64 0, .int .i64 0, .nils]], 6, 28, false⟩ := by rw [hG]; simp
        have bbG := hleG.2 _ _ b2
        simp [← hG, bbG]
        refine cg_ex (cloneInts_ok d s.tms G (hd.le ((hle1.trans hle2).trans hleG)) hB5) ?_
        rintro v2 H3 ⟨hle3, hv2⟩
        have b3 := hle3.2 _ _ bG
        have bb3 := hle3.2 _ _ bbG
        have hv2' := hv2.base (Nat.le_trans (Nat.le_trans hle1.1 hle2.1) hleG.1)
        have u3 := Hp.at_lt b3
        simp [b3, bb3, u3, Rows.cells hv1.1.rows, Rows.cells1 hv1.1.rows, Rows.cells hv2.1.rows, Rows.cells1 hv2.1.rows, Rows.one hv1.1.rows, Rows.one hv2.1.rows]
        have ge := Nat.le_trans hle1.1 hle2.1
        refine ⟨by have := hle2.1; omega, ((hle2.trans hleG).trans hle3).set (by have := hle2.1; omega) _, v1, v2, ?_⟩
        have F := Fr.one H3 H2.length (some ⟨[[v1, .nils, .nils, .int .i64 s.keep, .int .i64 s.time, v2]], 6, 28, false⟩)
        have hne : ∀ e, e ≠ 28 → ∀ y ob, y = H2.length → H3.at y = some ob → ob.ety ≠ e := fun e he y ob hy ho => by
          rw [hy, b3] at ho
          cases ho
          exact he.symm
        exact fill (Hp.at_set _ u3) ((hv1'.le (hleG.trans hle3)).frE F (hne _ (by simp))) (hv2'.frE F (hne _ (by simp))) (by omega) ((((hle1.trans hle2).trans hleG).trans hle3).set (by omega) _)
    · obtain ⟨G, hG⟩ : ∃ G : Hp, G = H1 ++ [some ⟨[[.nils, .nils, .nils, .int .i64 0, .int .i64 0, .nils]], 6, 28, false⟩] := ⟨_, rfl⟩
      have hleG : HLe H1 G := by rw [hG]; exact HLe.self _ _
      have bG : G.at H1.length = some ⟨[[.nils, .nils, .nils, .int .i64 0, .int .i64 0, .nils]], 6, 28, false⟩ := by rw [hG]; simp
      have bbG := hleG.2 _ _ b0
      simp [← hG, bbG]
      refine cg_ex (cloneRun_ok a s.top G (ha.le (hle1.trans hleG)) hB1.1) ?_
      rintro v1 H2 ⟨hle2, hv1⟩
      have bG2 := hle2.2 _ _ bG
      have bb2 := hle2.2 _ _ bbG
      have hv1' := hv1.base (Nat.le_trans hle1.1 hleG.1)
      simp [bb2]
      refine cg_ex (cloneInts_ok d s.tms H2 (hd.le ((hle1.trans hleG).trans hle2)) hB5) ?_
      rintro v2 H3 ⟨hle3, hv2⟩
      have b3 := hle3.2 _ _ bG2
      have bb3 := hle3.2 _ _ bb2
      have hv2' := hv2.base (Nat.le_trans (Nat.le_trans hle1.1 hleG.1) hle2.1)
      have u3 := Hp.at_lt b3
      simp [b3, bb3, u3, Rows.cells hv1.1.rows, Rows.cells1 hv1.1.rows, Rows.cells hv2.1.rows, Rows.cells1 hv2.1.rows, Rows.one hv1.1.rows, Rows.one hv2.1.rows]
      refine ⟨by omega, ((hleG.trans hle2).trans hle3).set (Nat.le_refl _) _, v1, v2, ?_⟩
      have F := Fr.one H3 H1.length (some ⟨[[v1, .nils, .nils, .int .i64 s.keep, .int .i64 s.time, v2]], 6, 28, false⟩)
      have hne : ∀ e, e ≠ 28 → ∀ y ob, y = H1.length → H3.at y = some ob → ob.ety ≠ e := fun e he y ob hy ho => by
        rw [hy, b3] at ho
        cases ho
        exact he.symm
      exact fill (Hp.at_set _ u3) ((hv1'.le hle3).frE F (hne _ (by simp))) (hv2'.frE F (hne _ (by simp))) (by omega) ((((hle1.trans hleG).trans hle2).trans hle3).set (by omega) _)
  rintro t H2 ⟨t1, t2, L3, v1, v2, t3, hL3, hle2, hC⟩
  have b02 := hle2.2 _ _ b0
  have b12 := hle2.2 _ _ b1
  simp [t1, t2, t3, b02, l1, hb1.slc]
  refine W_for (fun m t H' => ∃ i lv sv lr' sr', i + m = 3 ∧ t 1 = .pt H.length 0 0 ∧ t 2 = .pt (H.length + 1) 0 0 ∧ t 3 = .pt L3 0 0 ∧ t 18 = b ∧ t 19 = .int .i64 3 ∧ t 20 = .int .i64 (i : Nat) ∧ H'.at H.length = some ⟨[[a, b, c, .int .i64 s.keep, .int .i64 s.time, d]], 6, 28, false⟩ ∧ H'.at (H.length + 1) = some ⟨[[.nils, .nils, .nils, .int .i64 0, .int .i64 0, .nils]], 6, 28, false⟩ ∧ CpS H H' L3 i i v1 lv sv v2 lr' sr' s) 3 ?_ (tC_mono AC_mono) ?_
  · exact ⟨0, .nils, .nils, [], [], by simp, by simp [t1], by simp [t2], by simp [t3], by simp, by simp, by simp, b02, b12, hC⟩
  clear t1 t2 t3 hC b02 b12 hle2
  rintro m t H' ⟨i, lv, sv, lr', sr', him, t1, t2, t3, t18, t19, t20, b02, b12, hC⟩
  have n1 : L3 ≠ H.length := by omega
  have n2 : L3 ≠ H.length + 1 := by omega
  simp [t1, t2, t3, t18, t19, t20]
  refine c_split (fun hq => ?_) (fun hq => ?_) <;> simp at hq
  · have hi3 : i < 3 := by omega
    have hil : i < s.lev.length := by omega
    have his : i < s.sv.length := by omega
    have hiI : (i : Int) < 3 := by omega
    have hw := wrapN (i := i) (by omega)
    obtain ⟨o1, i1, ob1, rfl, c1, c2, c3⟩ := hb1.get (j := i) (by omega)
    obtain ⟨u, hu, hue⟩ := hlr.get i (by omega) hil
    rw [hu] at c3
    obtain ⟨o2, i2, ob2, rfl, e1, e2, e3⟩ := hc.get (j := i) (by omega)
    obtain ⟨r, hr, hrs, _⟩ := hsr.get i (by omega) his
    rw [hr] at e3
    have d1 := hC.le.2 _ _ c1
    have hes := hB2 _ (List.getElem_mem hil)
    have hxs := hB6 _ (List.getElem_mem his)
    have hi1 : i < lr.length := by omega
    have hi1I : (i : Int) < lr.length := by omega
    have hi2 : i < sr.length := by omega
    have hi2I : (i : Int) < sr.length := by omega
    have cb := hC.bx
    simp [t1, t2, t3, t18, t19, t20, d1, c2, c3, hi1, hi1I, cb]
    refine cg_ex (cloneRun_ok u s.lev[i] H' (hue.le hC.le) hes.1) ?_
    rintro u2 H3 ⟨hle3, hu2⟩
    have hC3 := hC.hle hle3
    have cb3 := hC3.bx
    have ub3 := Hp.at_lt cb3
    simp [t1, t2, t3, t18, t19, t20, cb3, Hp.at_app, ub3, Rows.cells hu2.1.rows, Rows.cells1 hu2.1.rows, Rows.one hu2.1.rows]
    refine appG_one (bytes := 24) (R := lr') hC3.ol (by have := hC3.rl.length; simp at this; omega) (fun lv4 H4 g1 g2 g3 => ?_)
    have hC4 := hC3.addL hil (hu2.base hC.le.1) (K := H'.length) (fun y hy => hu2.2 y hy) (fun y hy => hC.o1.1.lt hy) hC.lrl g1 g2 g3
    have nbx : ∀ {y : Nat} {ob : Ob}, H3.at y = some ob → ob.ety = 28 → ¬ lv.of y := fun ho he hy => by
      have := hC3.ol.ety hy ho
      rw [he] at this
      simp at this
    have cb4 := g2.2 _ _ (nbx cb3 rfl) cb3
    have u4 := Hp.at_lt cb4
    have b04 := g2.2 _ _ (nbx (hle3.2 _ _ b02) rfl) (hle3.2 _ _ b02)
    have b14 := g2.2 _ _ (nbx (hle3.2 _ _ b12) rfl) (hle3.2 _ _ b12)
    obtain ⟨K4, hK4⟩ : ∃ K4 : Hp, K4 = List.set H4 L3 (some ⟨[[v1, lv4, sv, .int .i64 s.keep, .int .i64 s.time, v2]], 6, 28, false⟩) := ⟨_, rfl⟩
    have b0K := (Hp.at_set_ne (x := some ⟨[[v1, lv4, sv, .int .i64 s.keep, .int .i64 s.time, v2]], 6, 28, false⟩) n1).trans b04
    have b1K := (Hp.at_set_ne (x := some ⟨[[v1, lv4, sv, .int .i64 s.keep, .int .i64 s.time, v2]], 6, 28, false⟩) n2).trans b14
    rw [← hK4] at b0K b1K
    rw [← hK4] at hC4
    have cbK := hC4.bx
    have f1 := hC4.le.2 _ _ e1
    simp [t1, t2, t3, t18, t19, t20, cb4, u4, Rows.cells g1.rows, Rows.cells1 g1.rows, ← hK4, b0K, cbK, f1, e2, e3, hi2, hi2I]
    have hsk := Sclone_ok (E := E) r s.sv[i] K4 (hrs.le hC4.le) hxs
    simp only [svAV] at hsk
    refine cg_ex hsk ?_
    rintro w H5 ⟨hle5, r2, rfl, hr2⟩
    have hC5 := hC4.hle hle5
    have cb5 := hC5.bx
    have ub5 := Hp.at_lt cb5
    simp [t1, t2, t3, t18, t19, t20, cb5, Hp.at_app, ub5, Rows.one hr2.1.rows]
    refine appG_one (bytes := 80) (R := sr') hC5.os (by have := hC5.rs.length; simp at this; omega) (fun sv6 H6 p1 p2 p3 => ?_)
    have hC6 := hC5.addS his (hr2.base hC4.le.1) (K := K4.length) (fun y hy => hr2.2 y hy) hC4.srl p1 p2 p3
    have nbx2 : ∀ {y : Nat} {ob : Ob}, H5.at y = some ob → ob.ety = 28 → ¬ sv.of y := fun ho he hy => by
      have := hC5.os.ety hy ho
      rw [he] at this
      simp at this
    have cb6 := p2.2 _ _ (nbx2 cb5 rfl) cb5
    have u6 := Hp.at_lt cb6
    have b06 := p2.2 _ _ (nbx2 (hle5.2 _ _ b0K) rfl) (hle5.2 _ _ b0K)
    have b16 := p2.2 _ _ (nbx2 (hle5.2 _ _ b1K) rfl) (hle5.2 _ _ b1K)
    simp [t1, t2, t3, t18, t19, t20, cb6, u6, Rows.cells p1.rows, Rows.cells1 p1.rows, hw]
    exact ⟨m - 1, by omega, i + 1, by omega, by omega, by rw [Hp.at_set_ne n1]; exact b06, by rw [Hp.at_set_ne n2]; exact b16, lv4, sv6, _, _, hC6⟩
  · have : i = 3 := by omega
    subst this
    have c0 := hC.bx
    have u1 := Hp.at_lt b12
    simp [t1, t2, t3, c0, b12, u1, Hp.at_set, Rows.one hC.o1.1.rows, Rows.one hC.ol.rows, Rows.one hC.os.rows, Rows.one hC.o2.1.rows]
    have hfin := hC.fin hl3 hs3
    exact ⟨hC.le.set (by omega) _, hfin.1.fr (Fr.one _ _ _) (fun x ob hx ho => by rw [hx, b12] at ho; cases ho; rfl), hfin.2.fr (Fr.one _ _ _) (fun x hx => .inr (fun ob ho => by rw [hx, b12] at ho; cases ho; rfl))⟩

end Go.Proofs.YtgoeenodllmdpaaGreat.B


namespace Go.Proofs.YtgoeenodllmdpaaGreat.B
open Go.RowKit Go.Proofs
set_option linter.unusedVariables false
set_option linter.unusedSimpArgs false
variable {E : Env}

def PSt (H0 H : Hp) (o : Nat) (s : Sr) : Prop := H0.length ≤ o ∧ ∃ a ol os d, H.at o = some ⟨[[a, .sl ol 0 3, .sl os 0 3, .int .i64 s.keep, .int .i64 s.time, d]], 6, 28, false⟩ ∧ MSt H0 H (.ag [a, .sl ol 0 3, .sl os 0 3, .int .i64 s.keep, .int .i64 s.time, d]) s
theorem PSt.le {H0 H H' : Hp} {o : Nat} {s : Sr} (h : PSt H0 H o s) (hle : HLe H H') : PSt H0 H' o s := by
  obtain ⟨h1, a, ol, os, d, h2, h3⟩ := h
  exact ⟨h1, a, ol, os, d, hle.2 _ _ h2, h3.le hle⟩
def K4 (H H' : Hp) : Prop := H.length ≤ H'.length ∧ ∀ y ob, H.at y = some ob → ob.esz = 4 → H'.at y = some ob
theorem K4.trans {a b c : Hp} (h : K4 a b) (k : K4 b c) : K4 a c := ⟨Nat.le_trans h.1 k.1, fun y ob ho he => k.2 y ob (h.2 y ob ho he) he⟩
theorem HLe.k4 {a b : Hp} (h : HLe a b) : K4 a b := ⟨h.1, fun y ob ho _ => h.2 y ob ho⟩
theorem Fr.k4 {S : Nat → Prop} {a b : Hp} (h : Fr S a b) (hS : ∀ y ob, S y → a.at y = some ob → ob.esz ≠ 4) : K4 a b := ⟨h.1, fun y ob ho he => h.2 y ob (fun hs => hS y ob hs ho he) ho⟩
theorem Ents.k4 {H H' : Hp} {v : AV} {es : List Ent} (h : Ents H v es) (hk : K4 H H') : Ents H' v es := by
  rcases h with h | h | ⟨o, i, ob, h1, h2, h3, h4⟩
  · exact .inl h
  · exact .inr (.inl h)
  · exact .inr (.inr ⟨o, i, ob, h1, hk.2 _ _ h2 h3, h3, h4⟩)
def SieveB (B : Nat) (H : Hp) (L : Nat) (o : Option Sv) : Prop := ∃ l m f r k, H.at L = some ⟨[[.str l, .str m, .str f, r, .int .i64 k]], 5, 66, false⟩ ∧ ∀ x, o = some x → l = x.l ∧ m = x.m ∧ f = x.f ∧ k = x.k ∧ Strs H r x.r ∧ ∀ y, r.of y → B ≤ y
theorem SvRet.fillB {B : Nat} {H H' H2 : Hp} {l m f : ByteArray} {r : AV} {k : Int} {L : Nat} {o : Option Sv} (h : ∀ x, o = some x → l = x.l ∧ m = x.m ∧ f = x.f ∧ k = x.k ∧ OwnS H H' r x.r ∧ x.r.length ≤ 12000)
    (hb : H2.at L = some ⟨[[.str l, .str m, .str f, r, .int .i64 k]], 5, 66, false⟩) (hs : ∀ xs, OwnS H H' r xs → Strs H2 r xs) (hB : B ≤ H.length) : SieveB B H2 L o :=
  ⟨l, m, f, r, k, hb, fun x hx => by
    obtain ⟨h1, h2, h3, h4, h5, h6⟩ := h x hx
    exact ⟨h1, h2, h3, h4, hs _ h5, fun y hy => Nat.le_trans hB (h5.2 y hy)⟩⟩
theorem setR_none {s : Sr} {i : Nat} {es : List Ent} (h : sieveO (keysR es) s.keep = none ∨ sizeL i < es.length) : setR s i es = none := by
  unfold setR
  rcases h with h | h
  · rw [h]
  · split
    · rfl
    · rw [if_neg (by omega)]

def PTop (H : Hp) (o y : Nat) : Prop := ∃ a rs ob, H.at o = some ob ∧ ob.rows = [a :: rs] ∧ a.of y
theorem PSt.top_lt {H0 H : Hp} {o : Nat} {s : Sr} (h : PSt H0 H o s) {y : Nat} (hy : PTop H o y) : y < H.length := by
  obtain ⟨h1, a, ol, os, d, h2, h3⟩ := h
  obtain ⟨a', rs, ob, k1, k2, k3⟩ := hy
  rw [h2] at k1
  cases k1
  cases k2
  exact h3.top_lt (by exact k3)
set_option maxHeartbeats 1600000 in
theorem put_ok (o i : Nat) (r : AV) (s : Sr) (es : List Ent) (H0 H : Hp) (hs : PSt H0 H o s) (hle0 : HLe H0 H) (hr : Ents H r es) (hes : EsB es) (hi : i < 3) (hra : ∀ y, r.of y → ¬ PTop H o y) (hrb : ∀ y, r.of y → H0.length ≤ y) :
    AC Tryz.prog E 246 [.pt o 0 0, .int .i64 i, r] H (fun u H' => HLe H0 H' ∧ K4 H H' ∧ match setR s i es with
      | some x => u = .bool true ∧ PSt H0 H' o x
      | none => u = .bool false ∧ HLe H H') := by
  obtain ⟨ho, a0, ol0, os0, d0, hbx, hm⟩ := hs
  obtain ⟨a, ol, os, d, lr, sr, hv, ha, hlv, hlr, hsv, hsr, hd, hdo, hol, hos, hl3, hs3, hoff⟩ := hm
  simp only [stAV, hl3, hs3, AV.ag.injEq, List.cons.injEq, AV.sl.injEq, and_true, true_and] at hv
  obtain ⟨rfl, rfl, rfl, rfl⟩ := hv
  refine AC_by fol (tC_le tabJ_ok) h_impl_Store_put ?_
  obtain ⟨e1, obl, k1, k2, k3, k4, k5, k6⟩ := hlv.ob
  obtain ⟨e2, obs, j1, j2, j3, j4, j5, j6⟩ := hsv.ob
  have hlr3 : lr.length = 3 := by omega
  have hsr3 : sr.length = 3 := by omega
  have hneo : ol0 ≠ os0 := by
    rintro rfl
    rw [k1] at j1
    cases j1
    omega
  obtain ⟨u0, hu0, _⟩ := hlr.get i (by omega) (by omega)
  obtain ⟨r0, hr0, _, _⟩ := hsr.get i (by omega) (by omega)
  have k7 : obl.rows[i]? = some [u0] := by
    have : (obl.rows.take lr.length)[i]? = lr[i]? := by rw [k6]
    rw [List.getElem?_take, if_pos (by omega)] at this
    rw [this, List.getElem?_eq_getElem (by omega), hu0]
  have j7 : obs.rows[i]? = some [.str (s.sv[i]'(by omega)).l, .str (s.sv[i]'(by omega)).m, .str (s.sv[i]'(by omega)).f, r0, .int .i64 (s.sv[i]'(by omega)).k] := by
    have : (obs.rows.take sr.length)[i]? = sr[i]? := by rw [j6]
    rw [List.getElem?_take, if_pos (by omega)] at this
    rw [this, List.getElem?_eq_getElem (by omega), hr0]
  have hks := keysR_short hes.2
  have hkl := keysR_len es
  have hkb : (keysR es).length < 4611686018427387904 := by have := hes.1; omega
  have hiI : (i : Int) < 3 := by omega
  simp [-RgP_both, c_impl_Store_put, hbx]
  refine RgP_then (tC_mono AC_mono) (fun t H2 => t 0 = .pt o 0 0 ∧ t 1 = .int .i64 i ∧ t 2 = r ∧ HLe H H2 ∧ ∃ L, t 7 = .pt L 0 0 ∧ H.length ≤ L ∧ t 8 = .bool (sieveO (keysR es) s.keep).isSome ∧ SieveB H.length H2 L (sieveO (keysR es) s.keep)) ?_ ?_
  · rw [RgP_both]
    refine ⟨?_, ?_⟩
    · simp
      refine cg_ex (keysOf_ok r es H hr hes.1) ?_
      rintro w H2 ⟨hle2, hw⟩
      have b2 := hle2.2 _ _ hbx
      simp [b2]
      refine ⟨?_, ?_⟩
      · refine cg_ex (implSieveOf_ok w (keysR es) s.keep H2 hw.strs hks hkb) ?_
        rintro v2 H3 ⟨hle3, hret⟩
        obtain ⟨l, m', f, r1, k, rfl, hr1, hr2, hr3, hx⟩ := hret.shape
        have b3 := hle3.2 _ _ b2
        have ub := Hp.at_lt b3
        simp [b3, hr1, hr2, hr3, Hp.at_app, ub]
        exact ⟨(hle2.trans hle3).app _, Nat.le_trans hle2.1 hle3.1, SvRet.fillB hx (by simp) (fun xs h => h.strs.le (HLe.self _ _)) hle2.1⟩
      · have ub := Hp.at_lt b2
        obtain ⟨G, hG⟩ : ∃ G : Hp, G = H2 ++ [some ⟨[[.str ⟨#[]⟩, .str ⟨#[]⟩, .str ⟨#[]⟩, .nils, .int .i64 0]], 5, 66, false⟩] := ⟨_, rfl⟩
        have hleG : HLe H2 G := by rw [hG]; exact HLe.self _ _
        have bG : G.at H2.length = some ⟨[[.str ⟨#[]⟩, .str ⟨#[]⟩, .str ⟨#[]⟩, .nils, .int .i64 0]], 5, 66, false⟩ := by rw [hG]; simp
        simp [← hG, hleG.2 _ _ b2]
        refine cg_ex (implSieveOf_ok w (keysR es) s.keep G (hw.strs.le hleG) hks hkb) ?_
        rintro v2 H3 ⟨hle3, hret⟩
        obtain ⟨l, m', f, r1, k, rfl, hr1, hr2, hr3, hx⟩ := hret.shape
        have b3 := hle3.2 _ _ bG
        have u3 := Hp.at_lt b3
        simp [b3, u3, hr1, hr2, hr3]
        exact ⟨((hle2.trans hleG).trans hle3).set (hle2.1) _, hle2.1, SvRet.fillB hx (Hp.at_set _ u3) (fun xs h => h.set5 b3 rfl _) (Nat.le_trans hle2.1 hleG.1)⟩
    · obtain ⟨G, hG⟩ : ∃ G : Hp, G = H ++ [some ⟨[[.str ⟨#[]⟩, .str ⟨#[]⟩, .str ⟨#[]⟩, .nils, .int .i64 0]], 5, 66, false⟩] := ⟨_, rfl⟩
      have hleG : HLe H G := by rw [hG]; exact HLe.self _ _
      have bG : G.at H.length = some ⟨[[.str ⟨#[]⟩, .str ⟨#[]⟩, .str ⟨#[]⟩, .nils, .int .i64 0]], 5, 66, false⟩ := by rw [hG]; simp
      have bbG := hleG.2 _ _ hbx
      simp [← hG, bbG]
      refine cg_ex (keysOf_ok r es G (hr.le hleG) hes.1) ?_
      rintro w H2 ⟨hle2, hw⟩
      have bb2 := hle2.2 _ _ bbG
      have bG2 := hle2.2 _ _ bG
      simp [bb2]
      refine cg_ex (implSieveOf_ok w (keysR es) s.keep H2 hw.strs hks hkb) ?_
      rintro v2 H3 ⟨hle3, hret⟩
      obtain ⟨l, m', f, r1, k, rfl, hr1, hr2, hr3, hx⟩ := hret.shape
      have b3 := hle3.2 _ _ bG2
      have u3 := Hp.at_lt b3
      simp [b3, u3, hr1, hr2, hr3]
      exact ⟨((hleG.trans hle2).trans hle3).set (Nat.le_refl _) _, SvRet.fillB hx (Hp.at_set _ u3) (fun xs h => h.set5 b3 rfl _) (Nat.le_trans hleG.1 hle2.1)⟩
  rintro t H2 ⟨t0, t1, t2, hle2, L, t7, hL, t8, hSB⟩
  have hleA := hle0.trans hle2
  simp [t0, t1, t2, t7, t8, hr.len, hr.slc]
  cases hso : sieveO (keysR es) s.keep with
  | none =>
    rw [setR_none (.inl hso)]
    simp
    exact ⟨hleA, hle2.k4, hle2⟩
  | some x =>
  simp [t1, t2, hr.len, hr.slc]
  refine cg_use (room_ok i H2 (by omega)) ?_
  rcases Nat.lt_or_ge (sizeL i) es.length with q | q
  · have q' : (sizeL i : Int) < (es.length : Int) := by omega
    rw [setR_none (.inr q)]
    simp [q']
    exact ⟨hleA, hle2.k4, hle2⟩
  have q' : ¬ (sizeL i : Int) < (es.length : Int) := by omega
  rw [hso] at hSB
  obtain ⟨l, m', f, r', k, g1, g2⟩ := hSB
  obtain ⟨rfl, rfl, rfl, rfl, hxr, hxo⟩ := g2 x rfl
  have hset : setR s i es = some { s with lev := s.lev.set i es, sv := s.sv.set i x } := by
    unfold setR
    rw [hso]
    simp [q]
  rw [hset]
  have c0 := hle2.2 _ _ hbx
  have cl := hle2.2 _ _ k1
  have cs := hle2.2 _ _ j1
  have u0 := Hp.at_lt c0
  have ul := Hp.at_lt cl
  have us := Hp.at_lt cs
  have n1 : ol0 ≠ o := by
    rintro rfl
    rw [k1] at hbx
    cases hbx
    simp at k3
  have n2 : os0 ≠ o := by
    rintro rfl
    rw [j1] at hbx
    cases hbx
    simp at j3
  have n3 : ol0 ≠ L := by have := Hp.at_lt k1; omega
  have n4 : os0 ≠ L := by have := Hp.at_lt j1; omega
  simp [q', t0, t1, t2, t7, t8, c0, cl, cs, u0, ul, us, g1, k2, k3, j2, j3, k7, j7, hi, hiI, Rows.cells hr, Rows.cells1 hr, Hp.at_set, Hp.at_set_ne, n1, n2, n3, n4, hneo, hneo.symm, Rows.one hxr]
  have ll := Hp.at_lt k1
  have ls := Hp.at_lt j1
  have F : Fr (fun y => y = ol0 ∨ y = os0) H _ := ((hle2.fr (S := fun y => y = ol0 ∨ y = os0)).set (.inl (.inl rfl)) (some ⟨obl.rows.set i [r], 1, obl.ety, false⟩)).set (.inl (.inr rfl)) (some ⟨obs.rows.set i [.str x.l, .str x.m, .str x.f, r', .int .i64 x.k], 5, obs.ety, false⟩)
  refine ⟨hle0.fr_le F (fun y hy => ?_), F.k4 (fun y ob hy hob => ?_), ho, a0, ol0, os0, d0, F.2 o _ (fun hy => ?_) hbx, ?_⟩
  · rcases hy with rfl | rfl
    · exact hol
    · exact hos
  · rcases hy with rfl | rfl
    · rw [k1] at hob
      cases hob
      omega
    · rw [j1] at hob
      cases hob
      omega
  · rcases hy with h | h
    · exact n1 h.symm
    · exact n2 h.symm
  · have hr2 : Strs _ r' x.r := (Rows.fr (Rows.fr hxr (Fr.one H2 ol0 (some ⟨obl.rows.set i [r], 1, obl.ety, false⟩)) (fun y hy h => by have := hxo y hy; omega)) (Fr.one _ os0 (some ⟨obs.rows.set i [.str x.l, .str x.m, .str x.f, r', .int .i64 x.k], 5, obs.ety, false⟩)) (fun y hy h => by have := hxo y hy; omega))
    exact MSt_set (i := i) (es := es) (x := x) ha hlv hlr hsv hsr hd hdo hol hos hl3 hs3 k1 j1 F (by rw [Hp.at_set_ne hneo.symm, Hp.at_set _ ul]) (Hp.at_set _ (by rw [List.length_set]; exact us)) hr hr2 (fun h => by have := hxo _ h; omega) (fun y hy hd' => by have := hxo y hy; have := hd.1.lt hd'; omega) hoff (fun y hy hy2 => hra y hy ⟨a0, _, _, hbx, rfl, hy2⟩) hrb

end Go.Proofs.YtgoeenodllmdpaaGreat.B


namespace Go.Proofs.YtgoeenodllmdpaaGreat.B
open Go.RowKit
set_option linter.unusedVariables false
set_option linter.unusedSimpArgs false

theorem runOk_nil : runOk [] = true := by decide
theorem runOk_one {e : Ent} (h : entOk e = true) : runOk [e] = true := runOk_of (List.pairwise_singleton _ _) (fun x hx => by rw [List.mem_singleton.1 hx]; exact h) (by simp)
theorem joinI_new {a : List Ent} {e : Ent} (ha : runOk a = true) (hl : a.length ≤ 39) (he : entOk e = true) (hn : ∀ x ∈ a, x.time < e.time) : joinI a [e] = some (joinL [e] a) := by
  have hf : Fine [e] a := ⟨runOk_one he, ha, fun x hx y hy _ => by rw [List.mem_singleton.1 hx]; exact hn y hy, by simp; omega⟩
  have hr := hf.run
  have hq : joinL [e] a = joinL a [e] := sorted_one (runOk_pair hr).1 (joinL_srt (runOk_srt ha) (runOk_srt (runOk_one he))) ((joinL_perm a [e]).trans (List.perm_append_comm.trans (joinL_perm [e] a).symm))
  rw [joinI, if_pos ⟨ha, runOk_one he, by rw [← hq]; exact hr⟩, hq]
theorem intoR_top : ∀ {n : Nat} {s x : Sr} {r : List Ent}, intoR n s r = some x → x.top = s.top := fun h => (intoR_tms h).2.1
theorem writeI_eq {s : Sr} {e : Ent} (h : storeOk s = true) (he : e.time = s.time + 1) : writeI s e = addR s e := by
  obtain ⟨hh, k0, k1, k2⟩ := storeOk_ok h
  obtain ⟨a1, a2, a3, a4, a5, a6⟩ := headI_parts hh
  have hlate : ∀ x ∈ s.top, x.time ≤ s.time := fun x hx => (okI_parts k0).2.2.2 x (by rw [aboveI_0]; exact hx)
  unfold writeI addR
  rw [h, Bool.true_and]
  cases hk : entOk e with
  | false => simp
  | true =>
    simp only [if_true]
    by_cases h4 : s.top.length = 4
    · rw [if_pos h4, if_pos (by omega), downI_eq h]
      cases hd : downR s with
      | none => rfl
      | some x =>
        have hx : x.top = [] := intoR_top hd
        simp only
        rw [hx, joinI_new runOk_nil (by simp) hk (fun x hx => by cases hx)]
        rfl
    · rw [if_neg h4, if_neg (by omega)]
      simp only
      rw [joinI_new a3 (by omega) hk (fun x hx => by have := hlate x hx; omega)]
      rfl
def lowB (p : Option Int) (t : Int) : Bool := match p with
  | none => true
  | some q => decide (q < t)
theorem lowB_iff (p : Option Int) (t : Int) : lowB p t = true ↔ ∀ q, p = some q → q < t := by
  cases p with
  | none => simp [lowB]
  | some q => simp [lowB]
theorem asc1_cons (now : Int) (p : Option Int) (t : Int) (ts : List Int) : asc1 now p (t :: ts) = (decide (0 ≤ t) && decide (t ≤ now) && lowB p t && asc1 now (some t) ts) := by cases p <;> rfl
theorem asc1_iff (now : Int) : ∀ (ts : List Int) (p : Option Int), asc1 now p ts = true ↔ (∀ t ∈ ts, 0 ≤ t ∧ t ≤ now ∧ ∀ q, p = some q → q < t) ∧ ts.Pairwise (· < ·)
  | [], p => by simp [asc1]
  | t :: ts, p => by
    rw [asc1_cons, Bool.and_eq_true, Bool.and_eq_true, Bool.and_eq_true, asc1_iff now ts, List.pairwise_cons]
    simp only [decide_eq_true_eq]
    rw [lowB_iff]
    constructor
    · rintro ⟨⟨⟨h1, h2⟩, h3⟩, h4, h5⟩
      refine ⟨fun x hx => ?_, fun x hx => (h4 x hx).2.2 t rfl, h5⟩
      rcases List.mem_cons.1 hx with rfl | hx
      · exact ⟨h1, h2, h3⟩
      · obtain ⟨g1, g2, g3⟩ := h4 x hx
        exact ⟨g1, g2, fun q hq => by have := h3 q hq; have := g3 t rfl; omega⟩
    · rintro ⟨h1, h2, h3⟩
      obtain ⟨g1, g2, g3⟩ := h1 t (by simp)
      exact ⟨⟨⟨g1, g2⟩, g3⟩, fun x hx => ⟨(h1 x (by simp [hx])).1, (h1 x (by simp [hx])).2.1, fun q hq => by injection hq with hq; rw [← hq]; exact h2 x hx⟩, h3⟩
theorem holdI_eq {s : Sr} (h : storeOk s = true) : holdI s = holdR s := by
  have ht := (headI_parts (storeOk_ok h).1).2.2.2.2.2
  have hn := (headI_parts (storeOk_ok h).1).2.2.2.2.1
  have ht' := ht
  simp only [timesR, Bool.and_eq_true, decide_eq_true_eq] at ht'
  obtain ⟨h1, h2⟩ := ht'
  rw [asc1_iff] at h1
  obtain ⟨h3, h4⟩ := h1
  have hin : s.time ∈ s.tms ↔ s.tms.getLast? = some s.time := by
    constructor
    · intro hm
      obtain ⟨i, hi, he⟩ := List.mem_iff_getElem.1 hm
      rw [List.getLast?_eq_getElem?, List.getElem?_eq_getElem (by omega)]
      rcases Nat.lt_or_ge i (s.tms.length - 1) with hlt | hge
      · have := List.pairwise_iff_getElem.1 h4 i (s.tms.length - 1) hi (by omega) hlt
        have := (h3 _ (List.getElem_mem (show s.tms.length - 1 < s.tms.length by omega))).2.1
        omega
      · have : s.tms.length - 1 = i := by omega
        simp only [this, he]
    · intro hm
      exact List.mem_of_getLast? hm
  unfold holdI holdR
  rw [if_pos h]
  by_cases hm : s.time ∈ s.tms
  · rw [if_pos hm, if_pos (hin.1 hm)]
    simp only
    rw [if_pos ht]
  · rw [if_neg hm, if_neg (fun e => hm (hin.2 e))]
    simp only
    have hlt : ∀ t ∈ s.tms, t < s.time := fun t hx => by
      have := (h3 t hx).2.1
      have : t ≠ s.time := fun e => hm (by rw [← e]; exact hx)
      omega
    have hasc : asc1 s.time none (s.tms ++ [s.time]) = true := by
      rw [asc1_iff]
      refine ⟨fun t hx => ?_, List.pairwise_append.2 ⟨h4, List.pairwise_singleton _ _, fun x hx y hy => by rw [List.mem_singleton.1 hy]; exact hlt x hx⟩⟩
      rcases List.mem_append.1 hx with hx | hx
      · exact ⟨(h3 t hx).1, (h3 t hx).2.1, fun q hq => by cases hq⟩
      · rw [List.mem_singleton.1 hx]
        exact ⟨hn.1, Int.le_refl _, fun q hq => by cases hq⟩
    have e : timesR (s.tms ++ [s.time]) s.time = decide (s.tms.length + 1 ≤ 3) := by
      unfold timesR
      rw [hasc]
      simp
    rw [e]
    simp only [decide_eq_true_eq]
end Go.Proofs.YtgoeenodllmdpaaGreat.B


namespace Go.Proofs.YtgoeenodllmdpaaGreat.B
open Go.RowKit Go.Proofs
set_option linter.unusedVariables false
set_option linter.unusedSimpArgs false
variable {E : Env}

theorem trimI_sub (r : List Ent) (ts : List Int) (b : Bool) : (trimI r ts b).Sublist r := by
  unfold trimI
  split
  · exact trimR_sub r ts b
  · exact List.nil_sublist r
theorem joinI_eq {a b l : List Ent} (h : joinI a b = some l) : l = joinL a b := by
  unfold joinI at h
  split at h
  · cases h
    rfl
  · cases h
theorem Fits.sub {a b : List Ent} (h : Fits b) (hs : a.Sublist b) : Fits a := fun e he => h e (hs.subset he)
theorem pushI_small : ∀ {n : Nat} {s x : Sr} {r : List Ent}, Small s → Fits r → pushI n s r = some x → Small x
  | 0, s, x, r, h, hr, hx => by
    rw [pushI, Option.bind_eq_some_iff] at hx
    obtain ⟨a, ha, hx⟩ := hx
    exact setR_small h (by omega) (Fits.sub (by rw [joinI_eq ha]; exact hr.join (h.lv 2).2) (trimI_sub _ _ _)) hx
  | n + 1, s, x, r, h, hr, hx => by
    unfold pushI at hx
    split at hx
    · rename_i y hy
      cases hx
      rw [Option.bind_eq_some_iff] at hy
      obtain ⟨a, ha, hy⟩ := hy
      exact setR_small h (i := 1 - n) (by omega) (Fits.sub (by rw [joinI_eq ha]; exact hr.join (h.lv (1 - n)).2) (trimI_sub _ _ _)) hy
    · split at hx
      · cases hx
      · rename_i y hy
        exact setR_small (pushI_small h (h.lv (1 - n)).2 hy) (by omega) (Fits.sub hr (trimI_sub _ _ _)) hx
def att (n : Nat) (s : Sr) (es : List Ent) : Option Sr := (joinI es (s.lev.getD (2 - n) [])).bind fun a => setR s (2 - n) (trimI a s.tms (decide (n = 0)))
theorem pushI_0 (s : Sr) (es : List Ent) : pushI 0 s es = att 0 s es := rfl
theorem pushI_s (n : Nat) (s : Sr) (es : List Ent) : pushI (n + 1) s es = match att (n + 1) s es with
    | some x => some x
    | none => match pushI n s (s.lev.getD (2 - (n + 1)) []) with
      | none => none
      | some x => setR x (2 - (n + 1)) (trimI es x.tms false) := by
  have e : 2 - (n + 1) = 1 - n := by omega
  rw [pushI, att, e]
  simp only [show decide (n + 1 = 0) = false from decide_eq_false (by omega)]
  generalize ((joinI es (s.lev.getD (1 - n) [])).bind fun a => setR s (1 - n) (trimI a s.tms false)) = X
  cases X with
  | some x => rfl
  | none =>
    generalize pushI n s (s.lev.getD (1 - n) []) = Y
    cases Y <;> rfl
theorem PSt.parts {H0 H : Hp} {o : Nat} {s : Sr} (h : PSt H0 H o s) : ∃ a ol os d obl, H.at o = some ⟨[[a, .sl ol 0 3, .sl os 0 3, .int .i64 s.keep, .int .i64 s.time, d]], 6, 28, false⟩ ∧ OwnE H0 H a s.top ∧ OwnI H0 H d s.tms ∧ H.at ol = some obl ∧ obl.esz = 1 ∧
    ∀ i, i < 3 → ∃ u, obl.rows[i]? = some [u] ∧ Ents H u (s.lev.getD i []) := by
  obtain ⟨h1, a, ol, os, d, h2, h3⟩ := h
  obtain ⟨p1, p2, p3⟩ := h3.parts
  obtain ⟨ob, u, k1, k2, k3, k4⟩ := h3.lev 0 (by omega)
  refine ⟨a, ol, os, d, ob, h2, p1, p2, k1, k2, fun i hi => ?_⟩
  obtain ⟨ob', u', g1, g2, g3, g4⟩ := h3.lev i hi
  rw [k1] at g1
  cases g1
  exact ⟨u', g3, g4⟩
theorem PTop.back {H H' : Hp} {o y : Nat} {ob : Ob} (hle : HLe H H') (hb : H.at o = some ob) (h : PTop H' o y) : PTop H o y := by
  obtain ⟨a, rs, ob', k1, k2, k3⟩ := h
  rw [hle.2 _ _ hb] at k1
  cases k1
  exact ⟨a, rs, ob, hb, k2, k3⟩
def OpR (H0 H : Hp) (o : Nat) (u : AV) (H' : Hp) (r : Option Sr) : Prop := HLe H0 H' ∧ K4 H H' ∧ match r with
  | some x => u = .bool true ∧ PSt H0 H' o x
  | none => u = .bool false

def PushP (E : Env) (o n : Nat) : Prop := ∀ (r : AV) (s : Sr) (es : List Ent) (H0 H : Hp), PSt H0 H o s → HLe H0 H → Ents H r es → SmB es → Small s →
    AC Tryz.prog E 238 [.pt o 0 0, .int .i64 ((2 - n : Nat) : Int), r] H (fun u H' => OpR H0 H o u H' (pushI n s es))
set_option maxHeartbeats 1600000 in
theorem push_step (o n : Nat) (hn : n ≤ 2) (ih : ∀ m, n = m + 1 → PushP E o m) : PushP E o n := by
  intro r s es H0 H hs hle0 hr hes hsm
  refine AC_by fol (tC_le tabJ_ok) h_impl_Store_push ?_
  obtain ⟨lv, hlv⟩ : ∃ lv, lv = 2 - n := ⟨_, rfl⟩
  have hl3 : lv < 3 := by omega
  have hlI : (lv : Int) < 3 := by omega
  rw [← hlv]
  obtain ⟨a, ol, os, d, obl, b0, p1, p2, k1, k2, k3⟩ := hs.parts
  obtain ⟨u, ku, hu⟩ := k3 lv hl3
  have hbot : (decide ((lv : Int) = 2)) = decide (n = 0) := by
    rw [decide_eq_decide]
    omega
  obtain ⟨tl1, tl2, tl3⟩ : s.tms.length ≤ 1000 ∧ SmB (s.lev.getD lv []) ∧ True := ⟨hsm.2.2.1, hsm.lv lv, trivial⟩
  obtain ⟨ll, hll⟩ : ∃ ll, ll = s.lev.getD lv [] := ⟨_, rfl⟩
  rw [← hll] at hu tl2
  simp only [c_impl_Store_push]
  refine W_cut (tC_mono AC_mono) (fun t H' => H' = H ∧ t 0 = .pt o 0 0 ∧ t 1 = .int .i64 lv ∧ t 2 = r) (by simp) ?_
  rintro t H' ⟨rfl, t0, t1, t2⟩
  refine W_cut (tC_mono AC_mono) (fun t H2 => H2 = H' ∧ t 0 = .pt o 0 0 ∧ t 1 = .int .i64 lv ∧ t 2 = r ∧ t 7 = .bool (decide (n = 0))) (by simp [t0, t1, t2, ← hbot]) ?_
  rintro t H2 ⟨rfl, t0, t1, t2, t7⟩
  refine W_cut (tC_mono AC_mono) (fun t H3 => t 0 = .pt o 0 0 ∧ t 1 = .int .i64 lv ∧ t 2 = r ∧ t 7 = .bool (decide (n = 0)) ∧ HLe H2 H3 ∧ ∃ w, t 8 = w ∧ t 9 = .bool (joinI es ll).isSome ∧ ∀ l, joinI es ll = some l → OwnE H2 H3 w l) ?_ ?_
  · simp [t0, t1, t2, t7, b0, k1, k2, ku, hl3, hlI]
    refine cg_ex (RunJoin_ok r u es ll H2 hr hu hes tl2) ?_
    rintro v H3 ⟨hle3, hret⟩
    cases hj : joinI es ll with
    | none =>
      rw [hj] at hret
      obtain rfl := hret
      simp [t0, t1, t2, t7]
      exact hle3
    | some l =>
      rw [hj] at hret
      obtain ⟨w, rfl, hw⟩ := hret
      simp [t0, t1, t2, t7]
      exact ⟨hle3, hw⟩
  rintro t H3 ⟨t0, t1, t2, t7, hle3, w, t8, t9, hw⟩
  have b3 := hle3.2 _ _ b0
  have hs3 := hs.le hle3
  refine W_cut (tC_mono AC_mono) (fun t H4 => t 0 = .pt o 0 0 ∧ t 1 = .int .i64 lv ∧ t 2 = r ∧ t 7 = .bool (decide (n = 0)) ∧ HLe H2 H4 ∧ att n s es = none) ?_ ?_
  · cases hj : joinI es ll with
    | none =>
      rw [hj] at t9
      have ha : att n s es = none := by
        unfold att
        rw [← hlv, ← hll, hj]
        rfl
      simp [t0, t1, t2, t7, t8, t9, ha]
      exact hle3
    | some l =>
      rw [hj] at t9
      have hw2 := hw l hj
      have hlj := joinI_eq hj
      have hlE : EsB l := by
        rw [hlj]
        exact hes.join tl2
      have ha : att n s es = setR s lv (trimI l s.tms (decide (n = 0))) := by
        unfold att
        rw [← hlv, ← hll, hj]
        rfl
      simp [t0, t1, t2, t7, t8, t9, b3]
      refine cg_ex (RunTrim_ok w d l s.tms (decide (n = 0)) H3 hw2.ents (p2.ints.le hle3) hlE (by omega)) ?_
      rintro w4 H4 ⟨hle4, hw4⟩
      simp [t0, t1, t2, t7]
      refine cg_ex (put_ok o lv w4 s _ H0 H4 (hs3.le hle4) ((hle0.trans hle3).trans hle4) hw4.ents (hlE.sub (trimI_sub _ _ _)) hl3 (fun y hy ht => by
        have h9 := hs3.top_lt (PTop.back hle4 b3 ht)
        have := hw4.2 y hy
        omega) (fun y hy => by have := hw4.2 y hy; have := hle0.1; have := hle3.1; omega)) ?_
      rintro v H5 ⟨q1, q2, q3⟩
      rw [← ha] at q3
      cases h5 : att n s es with
      | some x =>
        rw [h5] at q3
        obtain ⟨rfl, q4⟩ := q3
        simp
        have : pushI n s es = some x := by
          cases n with
          | zero => exact h5
          | succ n =>
            rw [pushI_s, h5]
        rw [this]
        exact ⟨q1, ((hle3.trans hle4).k4).trans q2, rfl, q4⟩
      | none =>
        rw [h5] at q3
        obtain ⟨rfl, q4⟩ := q3
        simp [t0, t1, t2, t7]
        exact (hle3.trans hle4).trans q4
  clear t0 t1 t2 t7 t8 t9
  rintro t H4 ⟨t0, t1, t2, t7, hle4, hatt⟩
  have b4 := hle4.2 _ _ b0
  have kk4 := hle4.2 _ _ k1
  have hs4 := hs.le hle4
  cases n with
  | zero =>
    simp [t0, t1, t2, t7]
    rw [pushI_0, hatt]
    exact ⟨hle0.trans hle4, hle4.k4, rfl⟩
  | succ n =>
    have hw1 : IntKind.i64.wrap ((lv : Int) + 1) = ((2 - n : Nat) : Int) := by
      rw [wrapN (by omega)]
      congr 1
      omega
    rw [pushI_s, hatt, ← hlv, ← hll]
    simp [t0, t1, t2, t7, b4, kk4, k2, ku, hl3, hlI, hw1]
    refine cg_ex (ih n rfl u s ll H0 H4 hs4 (hle0.trans hle4) (hu.le hle4) tl2 hsm) ?_
    rintro v H5 ⟨q1, q2, q3⟩
    have hk5 := hle4.k4.trans q2
    cases h5 : pushI n s ll with
    | none =>
      rw [h5] at q3
      obtain rfl := q3
      simp
      exact ⟨q1, hk5, rfl⟩
    | some x =>
      rw [h5] at q3
      obtain ⟨rfl, hx⟩ := q3
      have hsx := pushI_small hsm tl2.2 h5
      obtain ⟨a5, ol5, os5, d5, obl5, b5, p51, p52, k51, k52, k53⟩ := hx.parts
      have hr5 := hr.k4 hk5
      simp [t0, t1, t2, t7, b5]
      refine cg_ex (RunTrim_ok r d5 es x.tms false H5 hr5 p52.ints hes.big (by have := hsx.2.2.1; omega)) ?_
      rintro w6 H6 ⟨hle6, hw6⟩
      simp [t0, t1, t2, t7]
      refine cg_ex (put_ok o lv w6 x _ H0 H6 (hx.le hle6) (q1.trans hle6) hw6.ents (hes.big.sub (trimI_sub _ _ _)) hl3 (fun y hy ht => by
        have h9 := hx.top_lt (PTop.back hle6 b5 ht)
        have := hw6.2 y hy
        omega) (fun y hy => by have := hw6.2 y hy; have := q1.1; omega)) ?_
      rintro v H7 ⟨y1, y2, y3⟩
      have hk7 := (hk5.trans hle6.k4).trans y2
      cases h7 : setR x lv (trimI es x.tms false) with
      | some z =>
        rw [h7] at y3
        obtain ⟨rfl, hz⟩ := y3
        simp
        exact ⟨y1, hk7, rfl, hz⟩
      | none =>
        rw [h7] at y3
        obtain ⟨rfl, hz⟩ := y3
        simp
        exact ⟨y1, hk7, rfl⟩
theorem pushP_ok (o : Nat) : ∀ (n : Nat), n ≤ 2 → PushP E o n
  | 0, h => push_step o 0 h (fun m e => by omega)
  | n + 1, h => push_step o (n + 1) h (fun m e => by
    have : m = n := by omega
    subst this
    exact pushP_ok o m (by omega))

theorem down_ok (o : Nat) (s : Sr) (H0 H : Hp) (hs : PSt H0 H o s) (hle0 : HLe H0 H) (hsm : Small s) :
    AC Tryz.prog E 191 [.pt o 0 0] H (fun u H' => OpR H0 H o u H' (downI s)) := by
  refine AC_by fol (tC_le tabJ_ok) h_impl_Store_down ?_
  obtain ⟨a, ol, os, d, obl, b0, p1, p2, k1, k2, k3⟩ := hs.parts
  simp [c_impl_Store_down, b0]
  refine cg_ex (pushP_ok o 2 (by omega) a s s.top H0 H hs hle0 p1.ents hsm.1 hsm) ?_
  rintro v H2 ⟨q1, q2, q3⟩
  cases h : pushI 2 s s.top with
  | none =>
    rw [h] at q3
    obtain rfl := q3
    simp [downI, h]
    exact ⟨q1, q2, rfl⟩
  | some x =>
    rw [h] at q3
    obtain ⟨rfl, hx⟩ := q3
    obtain ⟨ho, a2, ol2, os2, d2, b2, hm⟩ := hx
    obtain ⟨g1, g2, g3⟩ := hm.parts
    have u2 := Hp.at_lt b2
    simp [b2, u2, downI, h]
    have F := Fr.one H2 o (some ⟨[[.nils, .sl ol2 0 3, .sl os2 0 3, .int .i64 x.keep, .int .i64 x.time, d2]], 6, 28, false⟩)
    have hm2 := hm.fr F (fun y ob hy hob => by rw [hy, b2] at hob; cases hob; rfl)
    obtain ⟨j1, j2, j3⟩ := hm2.parts
    refine ⟨q1.fr_le F (fun y hy => by rw [hy]; exact ho), q2.trans (F.k4 (fun y ob hy hob => by rw [hy, b2] at hob; cases hob; simp)), rfl, ho, .nils, ol2, os2, d2, Hp.at_set _ u2, ?_⟩
    exact hm2.upd x.time OwnM.nils j2 j3 (fun y hy => hy) (fun lr _ _ y hy => hy.elim)

end Go.Proofs.YtgoeenodllmdpaaGreat.B


namespace Go.Proofs.YtgoeenodllmdpaaGreat.B
open Go.RowKit Go.Proofs
set_option linter.unusedVariables false
set_option linter.unusedSimpArgs false
variable {E : Env}

theorem setR_time {s x : Sr} {i : Nat} {es : List Ent} (h : setR s i es = some x) : x.time = s.time := by
  unfold setR at h
  split at h
  · cases h
  · split at h
    · cases h
      rfl
    · cases h
theorem pushI_time : ∀ {n : Nat} {s x : Sr} {r : List Ent}, pushI n s r = some x → x.time = s.time
  | 0, s, x, r, hx => by
    rw [pushI, Option.bind_eq_some_iff] at hx
    obtain ⟨a, ha, hx⟩ := hx
    exact setR_time hx
  | n + 1, s, x, r, hx => by
    unfold pushI at hx
    split at hx
    · rename_i y hy
      cases hx
      rw [Option.bind_eq_some_iff] at hy
      obtain ⟨a, ha, hy⟩ := hy
      exact setR_time hy
    · split at hx
      · cases hx
      · rename_i y hy
        exact (setR_time hx).trans (pushI_time hy)
theorem downI_small {s x : Sr} (h : Small s) (hx : downI s = some x) : Small x ∧ x.top = [] ∧ x.time = s.time := by
  unfold downI at hx
  cases hp : pushI 2 s s.top with
  | none =>
    rw [hp] at hx
    cases hx
  | some y =>
    rw [hp] at hx
    cases hx
    have hy := pushI_small h h.1.2 hp
    exact ⟨⟨⟨by simp, fun e he => by simp at he⟩, hy.2⟩, rfl, (pushI_time hp : y.time = s.time)⟩
theorem PSt.upd {H0 H : Hp} {o : Nat} {a a' d : AV} {ol os : Nat} {s : Sr} {tp : List Ent} {t : Int} (ho : H0.length ≤ o) (hb : H.at o = some ⟨[[a, .sl ol 0 3, .sl os 0 3, .int .i64 s.keep, .int .i64 s.time, d]], 6, 28, false⟩) {K : Hp} (hle : HLe K H) (hm : MSt H0 K (.ag [a, .sl ol 0 3, .sl os 0 3, .int .i64 s.keep, .int .i64 s.time, d]) s) (ha : OwnE H0 H a' tp) (hb' : ∀ y, a'.of y → K.length ≤ y) :
    PSt H0 (List.set H o (some ⟨[[a', .sl ol 0 3, .sl os 0 3, .int .i64 s.keep, .int .i64 t, d]], 6, 28, false⟩)) o { s with top := tp, time := t } := by
  obtain ⟨p1, p2, p3⟩ := hm.parts
  have hm2 := hm.upd2 t hle ha hb'
  exact ⟨ho, a', ol, os, d, Hp.at_set _ (Hp.at_lt hb), hm2.fr (Fr.one H o _) (fun y ob hy hob => by rw [hy, hb] at hob; cases hob; rfl)⟩
theorem PSt.fr4 {H : Hp} {o : Nat} {r : List (List AV)} (x : Option Ob) (hb : H.at o = some ⟨r, 6, 28, false⟩) : K4 H (List.set H o x) := (Fr.one H o x).k4 (fun y ob hy hob => by rw [hy, hb] at hob; cases hob; simp)
set_option maxHeartbeats 1600000 in
theorem write_ok (o : Nat) (k : ByteArray) (val : Int) (gone : Bool) (tt : Int) (s : Sr) (H0 H : Hp) (hs : PSt H0 H o s) (hle0 : HLe H0 H) (hsm : Small s) (ht : IntKind.i64.wrap (s.time + 1) = s.time + 1) (hk : k.size < 4611686018427387904) :
    AC Tryz.prog E 120 [.pt o 0 0, .ag [.str k, .int .i64 val, .bool gone, .int .i64 tt]] H (fun u H' => OpR H0 H o u H' (writeI s ⟨k, val, gone, s.time + 1⟩)) := by
  obtain ⟨a, ol, os, d, obl, b0, p1, p2, k1, k2, k3⟩ := hs.parts
  have l1 := p1.ents.len
  have u0 := Hp.at_lt b0
  refine AC_by fol (tC_le tabJ_ok) h_impl_Store_write ?_
  simp only [c_impl_Store_write]
  refine W_cut (tC_mono AC_mono) (fun t H2 => t 0 = .pt o 0 0 ∧ t 3 = .pt H.length 0 0 ∧ H2 = H ++ [some ⟨[[.str k, .int .i64 val, .bool gone, .int .i64 tt]], 4, 99, false⟩]) (by simp) ?_
  rintro t H2 ⟨t0, t3, rfl⟩
  refine W_cut (tC_mono AC_mono) (fun t H2 => t 0 = .pt o 0 0 ∧ t 3 = .pt H.length 0 0 ∧ H2 = H ++ [some ⟨[[.str k, .int .i64 val, .bool gone, .int .i64 (s.time + 1)]], 4, 99, false⟩]) (by simp [t0, t3, b0, u0, Hp.at_app, ht]) ?_
  rintro t H2 ⟨t0, t3, hH2⟩
  have hle2 : HLe H H2 := by rw [hH2]; exact HLe.self _ _
  have bE : H2.at H.length = some ⟨[[.str k, .int .i64 val, .bool gone, .int .i64 (s.time + 1)]], 4, 99, false⟩ := by rw [hH2]; simp
  have b2 := hle2.2 _ _ b0
  have hs2 := hs.le hle2
  clear hH2
  refine W_cut (tC_mono AC_mono) (fun t H3 => t 0 = .pt o 0 0 ∧ t 3 = .pt H.length 0 0 ∧ entOk ⟨k, val, gone, s.time + 1⟩ = true ∧ HLe H0 H3 ∧ K4 H H3 ∧ H3.at H.length = some ⟨[[.str k, .int .i64 val, .bool gone, .int .i64 (s.time + 1)]], 4, 99, false⟩ ∧ ∃ x, (if s.top.length = 4 then downI s else some s) = some x ∧ x.time = s.time ∧ Small x ∧ PSt H0 H3 o x) ?_ ?_
  · simp [t0, t3, bE]
    refine cg_use (entryOk_ok ⟨k, val, gone, s.time + 1⟩ _ hk) ?_
    cases he : entOk ⟨k, val, gone, s.time + 1⟩ with
    | false =>
      simp
      exact ⟨hle0.trans hle2, hle2.k4, by rw [writeI, if_neg (by rw [he]; simp)]⟩
    | true =>
      simp [t0, t3, b2, l1, p1.ents.slc]
      by_cases h4 : s.top.length = 4
      · have h4I : (s.top.length : Int) = 4 := by omega
        simp [h4, h4I, t0]
        refine cg_ex (down_ok o s H0 H2 hs2 (hle0.trans hle2) hsm) ?_
        rintro v H3 ⟨q1, q2, q3⟩
        have bE3 := q2.2 _ _ bE rfl
        cases hd : downI s with
        | none =>
          rw [hd] at q3
          obtain rfl := q3
          simp
          exact ⟨q1, hle2.k4.trans q2, by rw [writeI, if_pos he, if_pos h4, hd]⟩
        | some x =>
          rw [hd] at q3
          obtain ⟨rfl, hx⟩ := q3
          simp [t0, t3]
          have hsx := downI_small hsm hd
          exact ⟨q1, hle2.k4.trans q2, bE3, hsx.2.2, hsx.1, hx⟩
      · have h4I : ¬ (s.top.length : Int) = 4 := by omega
        simp [h4, h4I, t0, t3]
        exact ⟨hle0.trans hle2, hle2.k4, bE, hsm, hs2⟩
  rintro t H3 ⟨t0, t3, he, q1, q2, bE3, x, hx, hxt, hsx, hx3⟩
  obtain ⟨ho, a3, ol3, os3, d3, b3, hm3⟩ := hx3
  obtain ⟨p31, p32, p33⟩ := hm3.parts
  have u3 := Hp.at_lt b3
  have hw : writeI s ⟨k, val, gone, s.time + 1⟩ = (joinI x.top [⟨k, val, gone, s.time + 1⟩]).map fun t => { x with top := t, time := s.time + 1 } := by
    rw [writeI, if_pos he, hx]
  rw [hw]
  obtain ⟨G, hG⟩ : ∃ G : Hp, G = H3 ++ [some ⟨[[.str k, .int .i64 val, .bool gone, .int .i64 (s.time + 1)]], 4, 99, false⟩] := ⟨_, rfl⟩
  have hleG : HLe H3 G := by rw [hG]; exact HLe.self _ _
  have bG := hleG.2 _ _ b3
  have bEG := hleG.2 _ _ bE3
  have hone : OwnE H3 G (.sl H3.length 0 1) [⟨k, val, gone, s.time + 1⟩] := ⟨Own.obj (R := [[.str k, .int .i64 val, .bool gone, .int .i64 (s.time + 1)]]) (by rw [hG]; simp) rfl, fun y hy => by simp at hy; omega⟩
  simp [t0, t3, b3, bE3, ← hG, bG, bEG]
  refine cg_ex (RunJoin_ok a3 (.sl H3.length 0 1) x.top [⟨k, val, gone, s.time + 1⟩] G (p31.ents.le hleG) hone.ents hsx.1 ⟨by simp, fun e hm => by rw [List.mem_singleton.1 hm]; exact (entOk_fit he).1⟩) ?_
  rintro v H4 ⟨hle4, hret⟩
  have b4 := hle4.2 _ _ bG
  have bE4 := hle4.2 _ _ bEG
  have u4 := Hp.at_lt b4
  have ne1 : o ≠ H.length := by have := Hp.at_lt b0; omega
  have hle34 := hleG.trans hle4
  cases hj : joinI x.top [⟨k, val, gone, s.time + 1⟩] with
  | none =>
    rw [hj] at hret
    obtain rfl := hret
    simp [t0, t3, b4, bE4, u4, ne1, ne1.symm, Hp.at_set_ne, Hp.at_set]
    exact ⟨(q1.trans hle34).set ho _, (q2.trans hle34.k4).trans (PSt.fr4 _ b4), rfl⟩
  | some l =>
    rw [hj] at hret
    obtain ⟨w, rfl, hw⟩ := hret
    simp [t0, t3, b4, bE4, u4, ne1, ne1.symm, Hp.at_set_ne, Hp.at_set, hw.rows.one, hw.rows.cells, hw.rows.cells1]
    exact ⟨(q1.trans hle34).set ho _, (q2.trans hle34.k4).trans (PSt.fr4 _ b4), rfl, PSt.upd ho b4 hle34 hm3 (hw.base (Nat.le_trans q1.1 hleG.1)) (fun y hy => Nat.le_trans hleG.1 (hw.2 y hy))⟩

end Go.Proofs.YtgoeenodllmdpaaGreat.B


namespace Go.Proofs.YtgoeenodllmdpaaGreat.B
open Go.RowKit Go.Proofs
set_option linter.unusedVariables false
set_option linter.unusedSimpArgs false
variable {E : Env}

theorem eqI_any (ts : List Int) (x : Int) : ts.any (fun y => decide (x = y)) = decide (x ∈ ts) := by
  rw [Bool.eq_iff_iff, List.any_eq_true, decide_eq_true_iff]
  constructor
  · rintro ⟨y, hy, h⟩
    rw [decide_eq_true_iff] at h
    rw [h]
    exact hy
  · intro h
    exact ⟨x, h, by simp⟩
theorem IndexI_ok (a : AV) (ts : List Int) (x : Int) (H : Hp) (ha : Ints H a ts) (hn : ts.length < 1099511627776) :
    AC Tryz.prog E 213 [a, .int .i64 x] H (fun v H' => v = .int .i64 (idxV (fun y => decide (x = y)) ts) ∧ H' = H) := by
  refine AC_byp (tC_le tabJ_ok) h_slices_Index_Sint_int (by simp) ?_
  have l1 := ha.len
  simp [c_slices_Index_Sint_int, l1, ha.slc]
  refine W_for (fun m t H' => ∃ i, i + m = ts.length ∧ t 0 = a ∧ t 1 = .int .i64 x ∧ t 7 = .int .i64 ts.length ∧ t 8 = .int .i64 (i : Nat) ∧ H' = H ∧ ∀ y ∈ ts.take i, decide (x = y) = false) ts.length ?_ (tC_mono AC_mono) ?_
  · exact ⟨0, by simp⟩
  rintro m t H' ⟨i, him, h0, h1, h7, h8, rfl, hI⟩
  simp [h0, h1, h7, h8]
  refine c_split (fun hq => ?_) (fun hq => ?_) <;> simp at hq
  · have hw := wrapN (i := i) (by omega)
    obtain ⟨o, i0, ob, rfl, a1, a2, a3⟩ := ha.get hq
    by_cases hx : x = ts[i]
    · obtain ⟨e1, e2⟩ := findIdx_first (p := fun y => decide (x = y)) hq (by simp [hx]) hI
      simp [h0, h1, h7, h8, hq, a1, a2, a3, hw, eq_true hx]
      simp only [idxV, e1, e2]
      simp
    · simp [h0, h1, h7, h8, hq, a1, a2, a3, hw, hx]
      exact ⟨m - 1, by omega, i + 1, by omega, by omega, fun y hy => by simpa using take_snoc hq (by simp [hx]) hI y hy⟩
  · have : i = ts.length := by omega
    subst this
    rw [List.take_length] at hI
    have : ts.any (fun y => decide (x = y)) = false := by
      rw [List.any_eq_false]
      intro x hx
      rw [hI x hx]
      simp
    simp only [idxV, this]
    simp
theorem ContainsI_ok (a : AV) (ts : List Int) (x : Int) (H : Hp) (ha : Ints H a ts) (hn : ts.length < 1099511627776) :
    AC Tryz.prog E 165 [a, .int .i64 x] H (fun v H' => v = .bool (decide (x ∈ ts)) ∧ H' = H) := by
  refine AC_byp (tC_le tabJ_ok) h_slices_Contains_Sint_int (by simp) ?_
  simp [c_slices_Contains_Sint_int]
  refine cg_use (IndexI_ok a ts x H ha hn) ?_
  have := idxV_pos (fun y => decide (x = y)) ts
  rw [eqI_any, decide_eq_true_iff] at this
  simp [this]

end Go.Proofs.YtgoeenodllmdpaaGreat.B


namespace Go.Proofs.YtgoeenodllmdpaaGreat.B
open Go.RowKit Go.Proofs
set_option linter.unusedVariables false
set_option linter.unusedSimpArgs false
variable {E : Env}

theorem Put1_ok (o ck cv : Nat) (k : ByteArray) (val : Int) (s : Sr) (H0 H : Hp) (hs : PSt H0 H o s) (hle0 : HLe H0 H) (hsm : Small s) (ht : IntKind.i64.wrap (s.time + 1) = s.time + 1) (hk : k.size < 4611686018427387904) (h1 : H0.at ck = some ⟨[[.str k]], 1, 9, false⟩) (h2 : H0.at cv = some ⟨[[.int .i64 val]], 1, 3, false⟩) :
    AC Tryz.prog E 119 [.pt o 0 0, .pt ck 0 0, .pt cv 0 0] H (fun u H' => OpR H0 H o u H' (writeI s ⟨k, val, false, s.time + 1⟩)) := by
  have e1 := hle0.2 _ _ h1
  have e2 := hle0.2 _ _ h2
  refine AC_by fol (tC_le tabJ_ok) h_impl_StorePut_1 ?_
  simp [c_impl_StorePut_1, e1, e2]
  refine cg_ex (write_ok o k val false 0 s H0 H hs hle0 hsm ht hk) ?_
  rintro v H2 hr
  simp
  exact hr
end Go.Proofs.YtgoeenodllmdpaaGreat.B


namespace Go.Proofs.YtgoeenodllmdpaaGreat.B
open Go.RowKit Go.Proofs
set_option linter.unusedVariables false
set_option linter.unusedSimpArgs false
variable {E : Env}

def RetQ (H0 H : Hp) (u : AV) (o : Option Sr) : Prop := HLe H0 H ∧ match o with
  | some x => ∃ w, u = .tu [w, .bool true] ∧ MSt H0 H w x ∧ FarS H0.length H w x
  | none => u = .tu [zst, .bool false]
theorem RetQ.ret {H0 H : Hp} {u : AV} {o : Option Sr} (h : RetQ H0 H u o) : RetS H0 H u o := by
  obtain ⟨h1, h2⟩ := h
  cases o with
  | none => exact ⟨h1, h2⟩
  | some x =>
    obtain ⟨w, e, hm, _⟩ := h2
    exact ⟨h1, w, e, hm⟩
theorem RetQ.shape {H0 H : Hp} {u : AV} {o : Option Sr} (h : RetQ H0 H u o) : ∃ a b c k t d, u = .tu [.ag [a, b, c, k, t, d], .bool o.isSome] ∧ one a = true ∧ one b = true ∧ one c = true ∧ one k = true ∧ one t = true ∧ one d = true := h.ret.shape
theorem RetQ.fin {S : Nat → Prop} {H0 H1 H2 H3 : Hp} {u : AV} {o : Option Sr} (h : RetQ H1 H2 u o) (hle : HLe H0 H1) (hf : Fr S H2 H3) (hS : ∀ x ob, S x → H2.at x = some ob → ob.esz = 6) (hS2 : ∀ x, S x → H0.length ≤ x) : RetQ H0 H3 u o := by
  obtain ⟨h1, h2⟩ := h
  refine ⟨(hle.trans h1).fr_le hf hS2, ?_⟩
  cases o with
  | none => exact h2
  | some x =>
    obtain ⟨w, e, hm, hq⟩ := h2
    exact ⟨w, e, (hm.fr hf hS).base hle.1, (hq.fr hf (fun y hy => .inr (fun ob ho => hS y ob hy ho))).base hle.1⟩
def okThen (s : Sr) (r : Option Sr) : Option Sr := if storeOk s = true then r else none
set_option maxHeartbeats 1600000 in
theorem changed_ok (v : AV) (f : Nat) (caps : List AV) (s : Sr) (r : Option Sr) (H : Hp) (hs : St H v s) (hb : StB s) (hg : ∀ x, tabJ f (.pt x 0 0 :: caps) = none)
    (hf : storeOk s = true → ∀ o B G, HLe H B → PSt B G o s → HLe B G → AC Tryz.prog E f (.pt o 0 0 :: caps) G (fun u H' => OpR B G o u H' r)) (hx : storeOk s = true → ∀ x, r = some x → Small x) :
    AC Tryz.prog E 100 [v, .fn f caps] H (fun u H' => RetQ H H' u (okThen s r)) := by
  have hs0 := hs
  obtain ⟨a, b, c, d, rfl, n1, n2, n3, n4, hea, hed⟩ := hs.shape
  refine AC_by fol (tC_le tabJ_ok) h_impl_changed ?_
  obtain ⟨H1, hH1⟩ : ∃ H1 : Hp, H1 = H ++ [some ⟨[[a, b, c, .int .i64 s.keep, .int .i64 s.time, d]], 6, 28, false⟩, some ⟨[[.nils, .nils, .nils, .int .i64 0, .int .i64 0, .nils]], 6, 28, false⟩] := ⟨_, rfl⟩
  have hle1 : HLe H H1 := by rw [hH1]; exact HLe.self _ _
  have b0 : H1.at H.length = some ⟨[[a, b, c, .int .i64 s.keep, .int .i64 s.time, d]], 6, 28, false⟩ := by rw [hH1]; simp
  have b1 : H1.at (H.length + 1) = some ⟨[[.nils, .nils, .nils, .int .i64 0, .int .i64 0, .nils]], 6, 28, false⟩ := by rw [hH1]; simp
  have hl1 : H1.length = H.length + 2 := by rw [hH1]; simp
  have u1 := Hp.at_lt b1
  simp [c_impl_changed, n1, n2, n3, n4, ← hH1, b0]
  refine cg_use (implStoreOk_ok _ s H1 (hs0.le hle1) hb) ?_
  cases hso : storeOk s with
  | false =>
    simp [b1, Hp.at_set, u1, okThen, hso, RetQ]
    exact hle1.set (by omega) _
  | true =>
  have hsm := storeOk_small hso
  simp [b0]
  refine cg_ex (clone_ok _ s H1 (hs0.le hle1) hb hsm.2.2.2.2.2.2.2.1 hsm.2.2.2.2.2.2.2.2) ?_
  rintro v2 H2 ⟨hle2, hm2, -⟩
  obtain ⟨xa, xl, xs, xd, rfl, xn1, xn2, xdi⟩ := hm2.shape
  have b12 := hle2.2 _ _ b1
  obtain ⟨G, hG⟩ : ∃ G : Hp, G = H2 ++ [some ⟨[[xa, .sl xl 0 3, .sl xs 0 3, .int .i64 s.keep, .int .i64 s.time, xd]], 6, 28, false⟩] := ⟨_, rfl⟩
  have hleG : HLe H2 G := by rw [hG]; exact HLe.self _ _
  have bG : G.at H2.length = some ⟨[[xa, .sl xl 0 3, .sl xs 0 3, .int .i64 s.keep, .int .i64 s.time, xd]], 6, 28, false⟩ := by rw [hG]; simp
  simp [xn1, xn2, ← hG]
  have hps : PSt H1 G H2.length s := ⟨hle2.1, _, _, _, _, bG, hm2.le hleG⟩
  refine cg_ex (hf hso H2.length H1 G hle1 hps (hle2.trans hleG)) ?_ (hg _)
  rintro u H3 ⟨q1, q2, q3⟩
  have b3 := q1.2 _ _ b1
  have u3 := Hp.at_lt b3
  cases r with
  | none =>
    obtain rfl := q3
    simp [b3, u3, Hp.at_set, okThen, hso, RetQ]
    exact (hle1.trans q1).set (by omega) _
  | some x =>
    obtain ⟨rfl, hx3⟩ := q3
    have hsx := hx hso x rfl
    obtain ⟨ho, ya, yl, ys, yd, bo, hmx⟩ := hx3
    have p := hmx.parts
    simp [b3, bo, p.1.rows.one, p.2.1.rows.one]
    refine cg_ex (clone_ok _ x H3 hmx.st hsx.stB hsx.2.2.2.2.2.2.2.1 hsx.2.2.2.2.2.2.2.2) ?_
    rintro v4 H4 ⟨hle4, hm4, hq4⟩
    obtain ⟨za, zl, zs, zd, rfl, zn1, zn2, zdi⟩ := hm4.shape
    have b4 := hle4.2 _ _ b3
    have u4 := Hp.at_lt b4
    simp [zn1, zn2, b4, u4, Hp.at_set, okThen, hso, RetQ]
    have F := Fr.one H4 (H.length + 1) (some ⟨[[za, .sl zl 0 3, .sl zs 0 3, .int .i64 x.keep, .int .i64 x.time, zd]], 6, 28, false⟩)
    exact ⟨((hle1.trans q1).trans hle4).set (by omega) _, (hm4.fr F (fun y ob hy ho => by rw [hy, b4] at ho; cases ho; rfl)).base ((hle1.trans q1).1), (hq4.fr F (fun y hy => .inr (fun ob ho => by rw [hy, b4] at ho; cases ho; rfl))).base ((hle1.trans q1).1)⟩

end Go.Proofs.YtgoeenodllmdpaaGreat.B


namespace Go.Proofs.YtgoeenodllmdpaaGreat.B
open Go.RowKit Go.Proofs
set_option linter.unusedVariables false
set_option linter.unusedSimpArgs false
variable {E : Env}

theorem RetH.toS {H0 H : Hp} {u : AV} {s : Sr} {o : Option Sr} (h : RetH H0 H u s o) : ∃ w n ok, u = .tu [w, n, ok] ∧ RetS H0 H (.tu [w, ok]) o := by
  obtain ⟨h1, h2⟩ := h
  cases o with
  | none => exact ⟨_, _, _, h2, h1, rfl⟩
  | some x =>
    obtain ⟨w, e, hm⟩ := h2
    exact ⟨_, _, _, e, h1, w, rfl, hm⟩
theorem l13Do_ok (v : AV) (s : Sr) (e : Dd) (H : Hp) (hs : St H v s) (hb : StB s) (hk : e.key.size < 4611686018427387904) :
    AC Tryz.prog E 72 [v, ddAV e] H (fun u H' => RetS H H' u (doR s e)) := by
  have hs0 := hs
  obtain ⟨a, b, c, d, rfl, n1, n2, n3, n4, hea, hed⟩ := hs.shape
  refine AC_by fol (tC_le tab2_ok) h_spec_l13Do ?_
  obtain ⟨H1, hH1⟩ : ∃ H1 : Hp, H1 = H ++ [some ⟨[[a, b, c, .int .i64 s.keep, .int .i64 s.time, d]], 6, 28, false⟩, some ⟨[[.int .i64 e.kind, .str e.key, .int .i64 e.num]], 3, 47, false⟩, some ⟨[[.nils, .nils, .nils, .int .i64 0, .int .i64 0, .nils]], 6, 28, false⟩] := ⟨_, rfl⟩
  have hle1 : HLe H H1 := by rw [hH1]; exact HLe.self _ _
  have b0 : H1.at H.length = some ⟨[[a, b, c, .int .i64 s.keep, .int .i64 s.time, d]], 6, 28, false⟩ := by rw [hH1]; simp
  have b1 : H1.at (H.length + 1) = some ⟨[[.int .i64 e.kind, .str e.key, .int .i64 e.num]], 3, 47, false⟩ := by rw [hH1]; simp
  have b2 : H1.at (H.length + 2) = some ⟨[[.nils, .nils, .nils, .int .i64 0, .int .i64 0, .nils]], 6, 28, false⟩ := by rw [hH1]; simp
  have hl1 : H1.length = H.length + 3 := by rw [hH1]; simp
  have u2 := Hp.at_lt b2
  have hs1 := hs0.le hle1
  simp [c_spec_l13Do, ddAV, n1, n2, n3, n4, ← hH1, b1]
  refine c_split (fun q0 => ?_) (fun q0 => ?_) <;> simp at q0
  · have hd : doR s e = putR s e.key e.num := by simp [doR, q0]
    simp [b0, b1]
    refine cg_ex (StorePut_ok _ s e.key e.num H1 hs1 hb hk) ?_
    intro v2 H2 hret
    obtain ⟨xa, xb, xc, xk, xt, xd, rfl, o1, o2, o3, o4, o5, o6⟩ := hret.shape
    have b22 := hret.1.2 _ _ b2
    have u22 := Hp.at_lt b22
    simp [o1, o2, o3, o4, o5, o6, b22, Hp.at_set, u22]
    rw [hd]
    have hF := Fr.one H2 (H.length + 2) (some ⟨[[xa, xb, xc, xk, xt, xd]], 6, 28, false⟩)
    exact hret.fin hle1 hF (fun x ob hx ho => by rw [hx, b22] at ho; cases ho; rfl) (fun x hx => by rw [hx]; omega)
  simp
  refine c_split (fun q1 => ?_) (fun q1 => ?_) <;> simp at q1
  · have hd : doR s e = takeR s e.key := by simp [doR, q1]
    simp [b0, b1]
    refine cg_ex (StoreTake_ok _ s e.key H1 hs1 hb hk) ?_
    intro v2 H2 hret
    obtain ⟨xa, xb, xc, xk, xt, xd, rfl, o1, o2, o3, o4, o5, o6⟩ := hret.shape
    have b22 := hret.1.2 _ _ b2
    have u22 := Hp.at_lt b22
    simp [o1, o2, o3, o4, o5, o6, b22, Hp.at_set, u22]
    rw [hd]
    have hF := Fr.one H2 (H.length + 2) (some ⟨[[xa, xb, xc, xk, xt, xd]], 6, 28, false⟩)
    exact hret.fin hle1 hF (fun x ob hx ho => by rw [hx, b22] at ho; cases ho; rfl) (fun x hx => by rw [hx]; omega)
  simp
  refine c_split (fun q2 => ?_) (fun q2 => ?_) <;> simp at q2
  · have hd : doR s e = holdR s := by simp [doR, q2]
    simp [b0, b1]
    refine cg_ex (StoreHold_ok _ s H1 hs1 hb) ?_
    intro v2 H2 hret
    obtain ⟨w, n, ok, hv2, hret'⟩ := hret.toS
    subst hv2
    clear hret
    have hret := hret'
    clear hret'
    obtain ⟨xa, xb, xc, xk, xt, xd, hw, o1, o2, o3, o4, o5, o6⟩ := hret.shape
    cases hw
    have b22 := hret.1.2 _ _ b2
    have u22 := Hp.at_lt b22
    simp [o1, o2, o3, o4, o5, o6, b22, Hp.at_set, u22, Hp.at_app, set_in']
    rw [hd]
    have hF := (Fr.one H2 (H.length + 2) (some ⟨[[xa, xb, xc, xk, xt, xd]], 6, 28, false⟩)).app [some ⟨[[xa, xb, xc, xk, xt, xd]], 6, 28, false⟩]
    exact hret.fin hle1 hF (fun x ob hx ho => by rw [hx, b22] at ho; cases ho; rfl) (fun x hx => by rw [hx]; omega)
  simp
  refine c_split (fun q3 => ?_) (fun q3 => ?_) <;> simp at q3
  · have hd : doR s e = freeR s e.num := by simp [doR, q3]
    simp [b0, b1]
    refine cg_ex (StoreFree_ok _ s e.num H1 hs1 hb) ?_
    intro v2 H2 hret
    obtain ⟨xa, xb, xc, xk, xt, xd, rfl, o1, o2, o3, o4, o5, o6⟩ := hret.shape
    have b22 := hret.1.2 _ _ b2
    have u22 := Hp.at_lt b22
    simp [o1, o2, o3, o4, o5, o6, b22, Hp.at_set, u22]
    rw [hd]
    have hF := Fr.one H2 (H.length + 2) (some ⟨[[xa, xb, xc, xk, xt, xd]], 6, 28, false⟩)
    exact hret.fin hle1 hF (fun x ob hx ho => by rw [hx, b22] at ho; cases ho; rfl) (fun x hx => by rw [hx]; omega)
  simp
  refine c_split (fun q4 => ?_) (fun q4 => ?_) <;> simp at q4
  · have hd : doR s e = letR s := by simp [doR, q4]
    simp [b0, b1]
    refine cg_ex (StoreDown_ok _ s H1 hs1 hb) ?_
    intro v2 H2 hret
    obtain ⟨xa, xb, xc, xk, xt, xd, rfl, o1, o2, o3, o4, o5, o6⟩ := hret.shape
    have b22 := hret.1.2 _ _ b2
    have u22 := Hp.at_lt b22
    simp [o1, o2, o3, o4, o5, o6, b22, Hp.at_set, u22]
    rw [hd]
    have hF := Fr.one H2 (H.length + 2) (some ⟨[[xa, xb, xc, xk, xt, xd]], 6, 28, false⟩)
    exact hret.fin hle1 hF (fun x ob hx ho => by rw [hx, b22] at ho; cases ho; rfl) (fun x hx => by rw [hx]; omega)
  simp
  refine c_split (fun q5 => ?_) (fun q5 => ?_) <;> simp at q5
  · have hd : doR s e = joinR s e.num := by simp [doR, q5]
    simp [b0, b1]
    refine cg_ex (StoreJoin_ok _ s e.num H1 hs1 hb) ?_
    intro v2 H2 hret
    obtain ⟨xa, xb, xc, xk, xt, xd, rfl, o1, o2, o3, o4, o5, o6⟩ := hret.shape
    have b22 := hret.1.2 _ _ b2
    have u22 := Hp.at_lt b22
    simp [o1, o2, o3, o4, o5, o6, b22, Hp.at_set, u22]
    rw [hd]
    have hF := Fr.one H2 (H.length + 2) (some ⟨[[xa, xb, xc, xk, xt, xd]], 6, 28, false⟩)
    exact hret.fin hle1 hF (fun x ob hx ho => by rw [hx, b22] at ho; cases ho; rfl) (fun x hx => by rw [hx]; omega)
  have hd : doR s e = none := by simp [doR, q0, q1, q2, q3, q4, q5]
  simp [b2, Hp.at_set, u2, hd, RetS]
  exact hle1.set (by omega) _

end Go.Proofs.YtgoeenodllmdpaaGreat.B


namespace Go.Proofs.YtgoeenodllmdpaaGreat.B
open Go.RowKit Go.Proofs
set_option linter.unusedVariables false
set_option linter.unusedSimpArgs false
variable {E : Env}

theorem okThen_some {s x : Sr} {r : Option Sr} (h : storeOk s = true) (hr : r = some x) : okThen s r = some x := by rw [okThen, if_pos h, hr]
theorem okThen_put (s : Sr) (k : ByteArray) (v : Int) : okThen s (writeI s ⟨k, v, false, s.time + 1⟩) = putR s k v := by
  unfold okThen
  split
  · rename_i h
    rw [writeI_eq h rfl]
    rfl
  · rename_i h
    simp [putR, addR, h]
theorem put_small {s x : Sr} {k : ByteArray} {v : Int} (h : putR s k v = some x) : Small x := addR_small h
theorem implPut_ok (v : AV) (s : Sr) (k : ByteArray) (val : Int) (H : Hp) (hs : St H v s) (hb : StB s) (hk : k.size < 4611686018427387904) :
    AC Tryz.prog E 48 [v, .str k, .int .i64 val] H (fun u H' => RetQ H H' u (putR s k val)) := by
  have hs0 := hs
  obtain ⟨a, b, c, d, rfl, n1, n2, n3, n4, hea, hed⟩ := hs.shape
  refine AC_by fol (tC_le tabJ_ok) h_impl_StorePut ?_
  obtain ⟨H1, hH1⟩ : ∃ H1 : Hp, H1 = H ++ [some ⟨[[a, b, c, .int .i64 s.keep, .int .i64 s.time, d]], 6, 28, false⟩, some ⟨[[.str k]], 1, 9, false⟩, some ⟨[[.int .i64 val]], 1, 3, false⟩, some ⟨[[.nils, .nils, .nils, .int .i64 0, .int .i64 0, .nils]], 6, 28, false⟩] := ⟨_, rfl⟩
  have hle1 : HLe H H1 := by rw [hH1]; exact HLe.self _ _
  have b0 : H1.at H.length = some ⟨[[a, b, c, .int .i64 s.keep, .int .i64 s.time, d]], 6, 28, false⟩ := by rw [hH1]; simp
  have b1 : H1.at (H.length + 1) = some ⟨[[.str k]], 1, 9, false⟩ := by rw [hH1]; simp
  have b2 : H1.at (H.length + 2) = some ⟨[[.int .i64 val]], 1, 3, false⟩ := by rw [hH1]; simp
  have b3 : H1.at (H.length + 3) = some ⟨[[.nils, .nils, .nils, .int .i64 0, .int .i64 0, .nils]], 6, 28, false⟩ := by rw [hH1]; simp
  simp [c_impl_StorePut, n1, n2, n3, n4, ← hH1, b0]
  refine cg_ex (changed_ok _ 119 [.pt (H.length + 1) 0 0, .pt (H.length + 2) 0 0] s (writeI s ⟨k, val, false, s.time + 1⟩) H1 (hs0.le hle1) hb (fun x => rfl)
    (fun hso o B G hB hps hle => Put1_ok o _ _ k val s B G hps hle (storeOk_small hso) (storeOk_time hso) hk (hB.2 _ _ b1) (hB.2 _ _ b2)) (fun hso x hx => put_small ((okThen_put s k val).symm.trans (okThen_some hso hx)))) ?_
  intro v2 H2 hret
  rw [okThen_put] at hret
  obtain ⟨xa, xb, xc, xk, xt, xd, rfl, o1, o2, o3, o4, o5, o6⟩ := hret.shape
  have b23 := hret.1.2 _ _ b3
  have u23 := Hp.at_lt b23
  simp [o1, o2, o3, o4, o5, o6, b23, Hp.at_set, u23]
  have hF2 := Fr.one H2 (H.length + 3) (some ⟨[[xa, xb, xc, xk, xt, xd]], 6, 28, false⟩)
  exact hret.fin hle1 hF2 (fun x ob hx ho => by rw [hx, b23] at ho; cases ho; rfl) (fun x hx => by rw [hx]; omega)

end Go.Proofs.YtgoeenodllmdpaaGreat.B


namespace Go.Proofs.YtgoeenodllmdpaaGreat.B
open Go.RowKit Go.Proofs
set_option linter.unusedVariables false
set_option linter.unusedSimpArgs false
variable {E : Env}

def ddRow (d : Dd) : List AV := [.int .i64 d.kind, .str d.key, .int .i64 d.num]
def Dds (H : Hp) (v : AV) (ds : List Dd) : Prop := Rows 3 H v (ds.map ddRow)
theorem Dds.get {H : Hp} {v : AV} {ds : List Dd} (h : Dds H v ds) {j : Nat} (hj : j < ds.length) : ∃ o i ob, v = .sl o i ds.length ∧ H.at o = some ob ∧ ob.esz = 3 ∧ ob.rows[i + j]? = some [.int .i64 ds[j].kind, .str ds[j].key, .int .i64 ds[j].num] := by
  obtain ⟨o, i, ob, h1, h2, h3, h4⟩ := Rows.get h (j := j) (by simpa using hj)
  exact ⟨o, i, ob, by simpa using h1, h2, h3, by simpa [ddRow] using h4⟩
theorem doAll_step (s : Sr) (ds : List Dd) {i : Nat} (hi : i < ds.length) : doAll s (ds.take (i + 1)) = (doR (doAll s (ds.take i)) ds[i]).getD (doAll s (ds.take i)) := by
  rw [List.take_succ_eq_append_getElem hi, doAll, List.foldl_append]
  rfl

theorem PastDo_ok (v u : AV) (s : Sr) (ds : List Dd) (H : Hp) (hs : St H v s) (hb : StB s) (hu : Dds H u ds) (hk : ∀ d ∈ ds, d.key.size < 4611686018427387904) :
    AC Tryz.prog E 31 [v, u] H (fun w H' => RetS H H' w (pastR s ds)) := by
  have hs0 := hs
  obtain ⟨a, b, c, d, rfl, n1, n2, n3, n4, hea, hed⟩ := hs.shape
  refine AC_by fol (tC_le tab2_ok) h_spec_PastDo ?_
  obtain ⟨H1, hH1⟩ : ∃ H1 : Hp, H1 = H ++ [some ⟨[[a, b, c, .int .i64 s.keep, .int .i64 s.time, d]], 6, 28, false⟩, some ⟨[[.nils, .nils, .nils, .int .i64 0, .int .i64 0, .nils]], 6, 28, false⟩] := ⟨_, rfl⟩
  have hle1 : HLe H H1 := by rw [hH1]; exact HLe.self _ _
  have b0 : H1.at H.length = some ⟨[[a, b, c, .int .i64 s.keep, .int .i64 s.time, d]], 6, 28, false⟩ := by rw [hH1]; simp
  have b1 : H1.at (H.length + 1) = some ⟨[[.nils, .nils, .nils, .int .i64 0, .int .i64 0, .nils]], 6, 28, false⟩ := by rw [hH1]; simp
  have hl1 : H1.length = H.length + 2 := by rw [hH1]; simp
  have u1 := Hp.at_lt b1
  have hlen : lenV u = .int .i64 ds.length := by simpa using Rows.len hu
  have hslc : slC u := Rows.slc hu
  simp [c_spec_PastDo, n1, n2, n3, n4, ← hH1, b0]
  refine cg_use (StoreOk_ok _ s H1 (hs0.le hle1) hb) ?_
  cases hso : storeOk s with
  | false =>
    simp [b1, Hp.at_set, u1, pastR, hso, RetS]
    exact hle1.set (by omega) _
  | true =>
  have hsm := storeOk_small hso
  simp [hlen, hslc]
  refine c_split (fun hq => ?_) (fun hq => ?_) <;> simp at hq
  · have hp : pastR s ds = none := by simp [pastR, hso]; omega
    simp [b1, Hp.at_set, u1, hp, RetS]
    exact hle1.set (by omega) _
  have hp : pastR s ds = some (doAll s ds) := by simp [pastR, hso]; omega
  simp [b0]
  refine cg_ex (l12Copy_ok _ s H1 (hs0.le hle1) hb hsm.2.2.2.2.2.2.2.1 hsm.2.2.2.2.2.2.2.2) ?_
  rintro v2 H2 ⟨hle2, hm2⟩
  obtain ⟨xa, xl, xs, xd, rfl, xn1, xn2, xdi⟩ := hm2.shape
  have b02 := hle2.2 _ _ b0
  have b12 := hle2.2 _ _ b1
  have u0 := Hp.at_lt b02
  have m01 : H.length ≠ H.length + 1 := by omega
  obtain ⟨H3, hH3⟩ : ∃ H3 : Hp, H3 = List.set H2 H.length (some ⟨[[xa, .sl xl 0 3, .sl xs 0 3, .int .i64 s.keep, .int .i64 s.time, xd]], 6, 28, false⟩) := ⟨_, rfl⟩
  have hF3 : Fr (fun x => x = H.length) H2 H3 := by rw [hH3]; exact Fr.one _ _ _
  have hm3 := (hm2.fr hF3 (fun x ob hx ho => by rw [hx, b02] at ho; cases ho; rfl)).base hle1.1
  have hle3 : HLe H H3 := (hle1.trans hle2).fr_le hF3 (fun x hx => by rw [hx]; exact Nat.le_refl _)
  have b03 : H3.at H.length = some ⟨[[xa, .sl xl 0 3, .sl xs 0 3, .int .i64 s.keep, .int .i64 s.time, xd]], 6, 28, false⟩ := by rw [hH3]; exact Hp.at_set _ u0
  have b13 := hF3.2 _ _ m01.symm b12
  simp [xn1, xn2, b02, Hp.at_set, u0, ← hH3]
  refine W_for (fun m t H' => ∃ (i : Nat) (x : Sr) (wa : AV) (wl ws : Nat) (wd : AV), i + m = ds.length ∧ t 1 = u ∧ t 2 = .pt H.length 0 0 ∧ t 4 = .pt (H.length + 1) 0 0 ∧ t 6 = .int .i64 i ∧ HLe H H' ∧
    H'.at H.length = some ⟨[[wa, .sl wl 0 3, .sl ws 0 3, .int .i64 x.keep, .int .i64 x.time, wd]], 6, 28, false⟩ ∧ H'.at (H.length + 1) = some ⟨[[.nils, .nils, .nils, .int .i64 0, .int .i64 0, .nils]], 6, 28, false⟩ ∧
    one wa = true ∧ one wd = true ∧ MSt H H' (.ag [wa, .sl wl 0 3, .sl ws 0 3, .int .i64 x.keep, .int .i64 x.time, wd]) x ∧ Small x ∧ x = doAll s (ds.take i)) ds.length ?_ (tC_mono AC_mono) ?_
  · exact ⟨0, s, xa, xl, xs, xd, by omega, by simp, by simp, by simp, by simp, hle3, b03, b13, xn1, xn2, hm3, hsm, by simp [doAll]⟩
  rintro m t H' ⟨i, x, wa, wl, ws, wd, him, h1, h2, h4, h6, hle', c0, c1, wn1, wn2, hm, hsx, hx⟩
  have t0 := Hp.at_lt c0
  have t1 := Hp.at_lt c1
  simp [h1, h2, h4, h6, hlen, hslc]
  refine c_split (fun hq2 => ?_) (fun hq2 => ?_) <;> simp at hq2
  · have hi : i < ds.length := by omega
    obtain ⟨o1, i1, ob1, rfl, a1, a2, a3⟩ := Dds.get (Rows.le hu hle') hi
    have hw := wrapN (i := i) (by omega)
    simp [h1, h2, h4, h6, c0, a1, a2, a3, hi]
    refine ⟨?_, ?_⟩
    · refine cg_ex (l13Do_ok _ x (ds[i]) H' (hm.st) hsx.stB (hk _ (List.getElem_mem hi))) ?_
      rintro v5 H5 hret
      have hle5 : HLe H' H5 := hret.1
      have c05 := hle5.2 _ _ c0
      have c15 := hle5.2 _ _ c1
      have a15 := hle5.2 _ _ a1
      have t05 := Hp.at_lt c05
      have t15 := Hp.at_lt c15
      have ta5 := Hp.at_lt a15
      cases hd : doR x ds[i] with
      | none =>
        rw [hd] at hret
        obtain ⟨hle5', rfl⟩ := hret
        simp [h1, h2, h4, h6, c05, c15, a15, a2, a3, hi, hw, Hp.at_app, Hp.at_set, Hp.at_set_ne, List.length_set, t05, t15, ta5, m01, m01.symm, set_in']
        refine ⟨m - 1, by omega, i + 1, by omega, by omega, (hle'.trans hle5').app _, x, wa, wl, ws, wd, by simp, wn1, wn2, (hm.le hle5').le (HLe.self _ _), hsx, ?_⟩
        rw [doAll_step s ds hi, ← hx, hd]
        rfl
      | some y =>
        rw [hd] at hret
        obtain ⟨hle5', w5, rfl, hm5⟩ := hret
        obtain ⟨ya, yl, ys, yd, hy, yn1, yn2, ydi⟩ := hm5.shape
        subst hy
        simp [yn1, yn2, h1, h2, h4, h6, c05, c15, a15, a2, a3, hi, hw, Hp.at_app, Hp.at_set, Hp.at_set_ne, List.length_set, t05, t15, ta5, m01, m01.symm, set_in']
        have hF := (Fr.one H5 H.length (some ⟨[[ya, .sl yl 0 3, .sl ys 0 3, .int .i64 y.keep, .int .i64 y.time, yd]], 6, 28, false⟩)).app [some ⟨[[ya, .sl yl 0 3, .sl ys 0 3, .int .i64 y.keep, .int .i64 y.time, yd]], 6, 28, false⟩]
        refine ⟨m - 1, by omega, i + 1, by omega, by omega, (hle'.trans hle5').fr_le hF (fun z hz => by rw [hz]; exact Nat.le_refl _), y, ya, yl, ys, yd, by simp, yn1, yn2, (hm5.fr hF (fun z ob hz ho => by rw [hz, c05] at ho; cases ho; rfl)).base hle'.1, doR_small hd, ?_⟩
        rw [doAll_step s ds hi, ← hx, hd]
        rfl
      
    · have ta := Hp.at_lt a1
      simp [Hp.at_app, t0, t1, ta, c0, a1, a2, a3, hi]
      refine cg_ex (l13Do_ok _ x (ds[i]) _ ((hm.le (HLe.self _ _)).st) hsx.stB (hk _ (List.getElem_mem hi))) ?_
      rintro v5 H5 hret
      have hle5 : HLe H' H5 := (HLe.self H' _).trans hret.1
      have c05 := hle5.2 _ _ c0
      have c15 := hle5.2 _ _ c1
      have a15 := hle5.2 _ _ a1
      have t05 := Hp.at_lt c05
      have t15 := Hp.at_lt c15
      have ta5 := Hp.at_lt a15
      have c75 := hret.1.2 _ _ (Hp.at_app_0.trans Hp.at_0)
      have t75 := Hp.at_lt c75
      have m70 : H'.length ≠ H.length := by omega
      have m71 : H'.length ≠ H.length + 1 := by omega
      have m7a : H'.length ≠ o1 := by have := Hp.at_lt a1; omega
      cases hd : doR x ds[i] with
      | none =>
        rw [hd] at hret
        obtain ⟨hle5', rfl⟩ := hret
        simp [h1, h2, h4, h6, c05, c15, a15, a2, a3, hi, hw, Hp.at_app, Hp.at_set, Hp.at_set_ne, List.length_set, t05, t15, ta5, m01, m01.symm, c75, t75, m70, m71, m7a, m70.symm, m71.symm, m7a.symm]
        have hF := Fr.one H5 H'.length (some ⟨[[.nils, .nils, .nils, .int .i64 0, .int .i64 0, .nils]], 6, 28, false⟩)
        refine ⟨m - 1, by omega, i + 1, by omega, by omega, (hle'.trans hle5).fr_le hF (fun z hz => by rw [hz]; exact hle'.1), x, wa, wl, ws, wd, by simp, wn1, wn2, (hm.le hle5).fr hF (fun z ob hz ho => by rw [hz, c75] at ho; cases ho; rfl), hsx, ?_⟩
        rw [doAll_step s ds hi, ← hx, hd]
        rfl
      | some y =>
        rw [hd] at hret
        obtain ⟨hle5', w5, rfl, hm5⟩ := hret
        obtain ⟨ya, yl, ys, yd, hy, yn1, yn2, ydi⟩ := hm5.shape
        subst hy
        simp [yn1, yn2, h1, h2, h4, h6, c05, c15, a15, a2, a3, hi, hw, Hp.at_app, Hp.at_set, Hp.at_set_ne, List.length_set, t05, t15, ta5, m01, m01.symm, c75, t75, m70, m71, m7a, m70.symm, m71.symm, m7a.symm]
        have hF := ((Fr.refl (fun z => z = H'.length ∨ z = H.length) H5).set (o := H'.length) (.inl (.inl rfl)) (some ⟨[[ya, .sl yl 0 3, .sl ys 0 3, .int .i64 y.keep, .int .i64 y.time, yd]], 6, 28, false⟩)).set (o := H.length) (.inl (.inr rfl)) (some ⟨[[ya, .sl yl 0 3, .sl ys 0 3, .int .i64 y.keep, .int .i64 y.time, yd]], 6, 28, false⟩)
        refine ⟨m - 1, by omega, i + 1, by omega, by omega, (hle'.trans hle5).fr_le hF (fun z hz => by have := hle'.1; rcases hz with h | h <;> omega), y, ya, yl, ys, yd, by simp, yn1, yn2, (hm5.fr hF (fun z ob hz ho => by rcases hz with h | h <;> rw [h] at ho <;> simp only [c75, c05] at ho <;> cases ho <;> rfl)).base (Nat.le_trans hle'.1 (by simp)), doR_small hd, ?_⟩
        rw [doAll_step s ds hi, ← hx, hd]
        rfl
      
  · have hie : i = ds.length := by omega
    subst hie
    rw [List.take_of_length_le (Nat.le_refl _)] at hx
    simp [h2, h4, c0, c1, wn1, wn2, Hp.at_set, t1, hp, ← hx]
    have hF := Fr.one H' (H.length + 1) (some ⟨[[wa, .sl wl 0 3, .sl ws 0 3, .int .i64 x.keep, .int .i64 x.time, wd]], 6, 28, false⟩)
    exact ⟨hle'.fr_le hF (fun y hy => by rw [hy]; omega), _, rfl, MSt.fr hm hF (fun y ob hy ho => by rw [hy, c1] at ho; cases ho; rfl)⟩

end Go.Proofs.YtgoeenodllmdpaaGreat.B


namespace Go.Proofs.YtgoeenodllmdpaaGreat.B
open Go.RowKit Go.Proofs
set_option linter.unusedVariables false
set_option linter.unusedSimpArgs false
variable {E : Env}

end Go.Proofs.YtgoeenodllmdpaaGreat.B


namespace Go.Proofs.YtgoeenodllmdpaaGreat.B
open Go.RowKit Go.Proofs
set_option linter.unusedVariables false
set_option linter.unusedSimpArgs false
variable {E : Env}

theorem St.far {H : Hp} {v : AV} {s : Sr} (h : St H v s) : FarP false (fun _ _ _ => True) 0 H v s := by
  obtain ⟨a, b, c, d, lr, sr, e, h1, h2, h3, h4, h5, h6⟩ := h
  exact ⟨a, b, c, d, lr, sr, e, h1, h2, All2.mono (fun _ _ ⟨u, k1, k2⟩ => ⟨u, k1, k2, fun _ _ => Nat.zero_le _⟩) h3, h4, All2.mono (fun _ _ ⟨u, k1, k2, k3⟩ => ⟨u, k1, k2, fun _ _ => Nat.zero_le _⟩) h5, h6, fun _ _ => Nat.zero_le _, trivial⟩
theorem St.fr6 {S : Nat → Prop} {H H' : Hp} {v : AV} {s : Sr} (h : St H v s) (hf : Fr S H H') (hS : ∀ y ob, S y → H.at y = some ob → ob.esz = 6) : St H' v s := (h.far.fr hf (fun y hy => .inr (fun ob ho => hS y ob hy ho))).st
end Go.Proofs.YtgoeenodllmdpaaGreat.B


namespace Go.Proofs.YtgoeenodllmdpaaGreat.B
open Go.RowKit Go.Proofs
set_option linter.unusedVariables false
set_option linter.unusedSimpArgs false
variable {E : Env}

end Go.Proofs.YtgoeenodllmdpaaGreat.B


namespace Go.Proofs.YtgoeenodllmdpaaGreat.B
open Go.RowKit Go.Proofs
set_option linter.unusedVariables false
set_option linter.unusedSimpArgs false
variable {E : Env}

theorem Rd.box {H : Hp} {o N n : Nat} (h : Rd H o N) (X : Option Ob) (hne : n ≠ o) (h1 : ∀ ob, H.at n = some ob → ob.esz ≠ 1) : Rd (List.set H n X) o N :=
  h.fr (Fr.one H n X) (fun e => hne e.symm) (fun x ob hx ho => by subst hx; exact h1 ob ho)

theorem l71Deed_ok (o N : Nat) (kv : AV) (ks : List ByteArray) (H : Hp) (hr : Rd H o N) (hk : Strs H kv ks) (hkl : ks.length < 1099511627776) (hks : ∀ s ∈ ks, s.size ≤ 5) (hN : N < 137438953472) :
    AC Tryz.prog E 149 [.pt o 0 0, kv] H (fun v H' => ∃ d, v = ddAV d ∧ d.key.size ≤ 5 ∧ Dr o H H' ∧ Rd H' o (N + 9)) := by
  refine AC_by fol (tC_le tab2_ok) h_spec_l71Deed ?_
  have hol := hr.lt
  have m0 : H.length ≠ o := by omega
  simp [c_spec_l71Deed]
  refine cg_ex (pick_ok o N 10 _ (hr.le (HLe.self _ _)) (by omega) (by omega)) ?_
  rintro v H1 ⟨n, rfl, hn, hd1, hr1, hlen⟩
  have b1 := hd1.2 H.length ⟨[[.int .i64 0, .str ⟨#[]⟩, .int .i64 0]], 3, 47, false⟩ (by omega) (by simp)
  have hD : Dr o H H1 := (Fr.app (Fr.refl _ H) _).same hd1
  have hk1 : Strs H1 kv ks := (Rows.dr (hr.le (HLe.self _ _)) (hk.le (HLe.self _ _)) (by decide) hd1)
  have fin : ∀ (H2 : Hp) (d : Dd) (M : Nat), d.key.size ≤ 5 → Dr o H1 H2 → Rd H2 o M → M ≤ N + 9 → ∃ d', ddAV d = ddAV d' ∧ d'.key.size ≤ 5 ∧ Dr o H (List.set H2 H.length (some ⟨[[.int .i64 d.kind, .str d.key, .int .i64 d.num]], 3, 47, false⟩)) ∧ Rd (List.set H2 H.length (some ⟨[[.int .i64 d.kind, .str d.key, .int .i64 d.num]], 3, 47, false⟩)) o (N + 9) := by
    intro H2 d M h1 h2 h3 h4
    have b2 := h2.2 _ _ m0 b1
    exact ⟨d, rfl, h1, (hD.same h2).set (.inr (Nat.le_refl _)) _, (h3.box _ m0 (fun ob ho => by rw [b2] at ho; cases ho; simp)).mono h4⟩
  have hcase : n = 0 ∨ n = 1 ∨ n = 2 ∨ n = 3 ∨ n = 4 ∨ n = 5 ∨ n = 6 ∨ n = 7 ∨ n = 8 ∨ n = 9 := by omega
  have u1 := Hp.at_lt b1
  have put : ∀ t : Tm, True := fun _ => trivial
  simp
  refine c_split (fun q0 => ?_) (fun q0 => ?_) <;> simp at q0
  · simp [q0]
    refine cg_ex (l71Near_ok o _ kv ks _ hr1 hk1 hkl hks (by omega)) ?_
    rintro _ H2 ⟨k, rfl, hk5, hd2, hr2⟩
    simp
    refine cg_ex (pick_ok o _ 100 _ hr2 (by omega) (by omega)) ?_
    rintro _ H3 ⟨m, rfl, hm, hd3, hr3, -⟩
    have hb := (hd2.same hd3).2 _ _ m0 b1
    simp [hb, Hp.at_set, Hp.at_lt hb]
    exact fin _ ⟨1, k, m⟩ _ hk5 (hd2.same hd3) hr3 (by omega)
  simp
  refine c_split (fun q1 => ?_) (fun q1 => ?_) <;> simp at q1
  · simp [q1]
    refine cg_ex (l71Near_ok o _ kv ks _ hr1 hk1 hkl hks (by omega)) ?_
    rintro _ H2 ⟨k, rfl, hk5, hd2, hr2⟩
    simp
    refine cg_ex (pick_ok o _ 100 _ hr2 (by omega) (by omega)) ?_
    rintro _ H3 ⟨m, rfl, hm, hd3, hr3, -⟩
    have hb := (hd2.same hd3).2 _ _ m0 b1
    simp [hb, Hp.at_set, Hp.at_lt hb]
    exact fin _ ⟨1, k, m⟩ _ hk5 (hd2.same hd3) hr3 (by omega)
  simp
  refine c_split (fun q2 => ?_) (fun q2 => ?_) <;> simp at q2
  · simp [q2]
    refine cg_ex (l71Near_ok o _ kv ks _ hr1 hk1 hkl hks (by omega)) ?_
    rintro _ H2 ⟨k, rfl, hk5, hd2, hr2⟩
    simp
    refine cg_ex (pick_ok o _ 100 _ hr2 (by omega) (by omega)) ?_
    rintro _ H3 ⟨m, rfl, hm, hd3, hr3, -⟩
    have hb := (hd2.same hd3).2 _ _ m0 b1
    simp [hb, Hp.at_set, Hp.at_lt hb]
    exact fin _ ⟨1, k, m⟩ _ hk5 (hd2.same hd3) hr3 (by omega)
  simp
  refine c_split (fun q3 => ?_) (fun q3 => ?_) <;> simp at q3
  · simp [q3]
    refine cg_ex (l71Near_ok o _ kv ks _ hr1 hk1 hkl hks (by omega)) ?_
    rintro _ H2 ⟨k, rfl, hk5, hd2, hr2⟩
    simp
    refine cg_ex (pick_ok o _ 100 _ hr2 (by omega) (by omega)) ?_
    rintro _ H3 ⟨m, rfl, hm, hd3, hr3, -⟩
    have hb := (hd2.same hd3).2 _ _ m0 b1
    simp [hb, Hp.at_set, Hp.at_lt hb]
    exact fin _ ⟨1, k, m⟩ _ hk5 (hd2.same hd3) hr3 (by omega)
  simp
  refine c_split (fun q4 => ?_) (fun q4 => ?_) <;> simp at q4
  · simp [q4]
    refine cg_ex (l71Near_ok o _ kv ks _ hr1 hk1 hkl hks (by omega)) ?_
    rintro _ H2 ⟨k, rfl, hk5, hd2, hr2⟩
    simp
    refine cg_ex (pick_ok o _ 100 _ hr2 (by omega) (by omega)) ?_
    rintro _ H3 ⟨m, rfl, hm, hd3, hr3, -⟩
    have hb := (hd2.same hd3).2 _ _ m0 b1
    simp [hb, Hp.at_set, Hp.at_lt hb]
    exact fin _ ⟨1, k, m⟩ _ hk5 (hd2.same hd3) hr3 (by omega)
  simp [q4]
  refine c_split (fun q5 => ?_) (fun q5 => ?_) <;> simp at q5
  · simp
    refine cg_ex (l71Near_ok o _ kv ks _ hr1 hk1 hkl hks (by omega)) ?_
    rintro _ H2 ⟨k, rfl, hk5, hd2, hr2⟩
    have hb := hd2.2 _ _ m0 b1
    simp [hb, Hp.at_set, Hp.at_lt hb]
    exact fin _ ⟨2, k, 0⟩ _ hk5 hd2 hr2 (by omega)
  simp
  refine c_split (fun q6 => ?_) (fun q6 => ?_) <;> simp at q6
  · simp [b1, Hp.at_set, u1]
    exact fin H1 ⟨3, ⟨#[]⟩, 0⟩ _ (by decide) (Fr.refl _ _) hr1 (by omega)
  simp
  refine c_split (fun q7 => ?_) (fun q7 => ?_) <;> simp at q7
  · simp
    refine cg_ex (pick_ok o _ 20 _ hr1 (by omega) (by omega)) ?_
    rintro _ H3 ⟨m, rfl, hm, hd3, hr3, -⟩
    have hb := hd3.2 _ _ m0 b1
    simp [hb, Hp.at_set, Hp.at_lt hb]
    exact fin _ ⟨4, ⟨#[]⟩, m⟩ _ (by show 0 ≤ 5; omega) hd3 hr3 (by omega)
  simp
  refine c_split (fun q8 => ?_) (fun q8 => ?_) <;> simp at q8
  · simp [b1, Hp.at_set, u1]
    exact fin H1 ⟨5, ⟨#[]⟩, 0⟩ _ (by decide) (Fr.refl _ _) hr1 (by omega)
  simp
  refine cg_ex (pick_ok o _ 3 _ hr1 (by omega) (by omega)) ?_
  rintro _ H3 ⟨m, rfl, hm, hd3, hr3, -⟩
  have hb := hd3.2 _ _ m0 b1
  simp [hb, Hp.at_set, Hp.at_lt hb]
  exact fin _ ⟨6, ⟨#[]⟩, m⟩ _ (by show 0 ≤ 5; omega) hd3 hr3 (by omega)

end Go.Proofs.YtgoeenodllmdpaaGreat.B


namespace Go.Proofs.YtgoeenodllmdpaaGreat.B
open Go.RowKit Go.Proofs
set_option linter.unusedVariables false
set_option linter.unusedSimpArgs false
variable {E : Env}

def sv0 (keep : Int) : Sv := ⟨⟨#[]⟩, ⟨#[]⟩, ⟨#[]⟩, [], keep⟩
theorem StoreNew_ok (keep : Int) (H : Hp) : AC Tryz.prog E 67 [.int .i64 keep] H (fun u H' => RetS H H' u (newR keep)) := by
  refine AC_by fol (tC_le tab2_ok) h_spec_StoreNew ?_
  simp [c_spec_StoreNew]
  refine c_split (fun hq => ?_) (fun hq => ?_) <;> simp at hq
  · have hn : newR keep = none := by unfold newR; rw [if_neg (by omega)]
    simp [hn, RetS]
  have hn : newR keep = some ⟨[], List.replicate 3 [], List.replicate 3 (sv0 keep), keep, 0, []⟩ := by
    unfold newR
    rw [if_pos (by omega)]
    rfl
  simp
  refine W_for (fun m t H' => ∃ i lv sv lr sr, i + m = 3 ∧ t 0 = .int .i64 keep ∧ t 2 = .pt H.length 0 0 ∧ t 4 = .pt (H.length + 3) 0 0 ∧ t 5 = .int .i64 (i : Nat) ∧ HLe H H' ∧
    H'.at H.length = some ⟨[[.nils, .nils, .nils, .int .i64 0, .int .i64 0, .nils]], 6, 28, false⟩ ∧
    H'.at (H.length + 3) = some ⟨[[.sl (H.length + 1) 0 0, lv, sv, .int .i64 keep, .int .i64 0, .sl (H.length + 2) 0 0]], 6, 28, false⟩ ∧
    OwnE H H' (.sl (H.length + 1) 0 0) [] ∧ OwnI H H' (.sl (H.length + 2) 0 0) [] ∧ Own 1 23 H' lv lr ∧ (∀ x, lv.of x → H.length + 4 ≤ x) ∧ All2 (LvRow H') lr (List.replicate i []) ∧ OffB H (.sl (H.length + 1) 0 0) lr ∧
    Own 5 66 H' sv sr ∧ (∀ x, sv.of x → H.length + 4 ≤ x) ∧ All2 (SvRow H' (fun x => lv.of x ∨ H.length + 2 = x)) sr (List.replicate i (sv0 keep))) 3 ?_ (tC_mono AC_mono) ?_
  · refine ⟨0, .nils, .nils, [], [], rfl, by simp, by simp, by simp, by simp, HLe.self _ _, by simp, by simp, ⟨Own.obj (R := []) (by simp) rfl, fun x hx => by simp at hx; omega⟩, ⟨Own.obj (R := []) (by simp) rfl, fun x hx => by simp at hx; omega⟩, Own.nils, fun x hx => hx.elim, trivial, OffB.nil _ _, Own.nils, fun x hx => hx.elim, trivial⟩
  rintro m t H' ⟨i, lv, sv, lr, sr, him, h0, h2, h4, h5, hle, k0, k3, htop, htms, hlv, hlva, hlvr, hoff, hsv, hsva, hsvr⟩
  simp [h0, h2, h4, h5]
  refine c_split (fun hq2 => ?_) (fun hq2 => ?_) <;> simp at hq2
  · have hi3 : i < 3 := by omega
    have hw := wrapN (i := i) (by omega)
    have u0 := Hp.at_lt k0
    have u3 := Hp.at_lt k3
    simp [h0, h2, h4, h5, k3, Hp.at_app, u3]
    rw [List.append_cons]
    have hA : HLe H' (H' ++ [some ⟨[], 4, 99, false⟩]) := HLe.self _ _
    refine appG_one' (bytes := 24) (R := lr) (by simp) (hlv.le hA) (by have := All2.length hlvr; simp at this; omega) (fun v5 H5 g1 g2 g3 => ?_)
    have hF5 : Fr lv.of H' H5 := (hA.fr (S := lv.of)).same g2
    have nlv : ∀ x, x < H.length + 4 → ¬ lv.of x := fun x h1 h2 => by have := hlva x h2; omega
    have k05 := hF5.2 _ _ (nlv _ (by omega)) k0
    have k35 := hF5.2 _ _ (nlv _ (by omega)) k3
    have ktop := g2.2 H'.length _ (fun h => by have := hlv.lt h; omega) (Hp.at_app_0.trans Hp.at_0)
    have u05 := Hp.at_lt k05
    have u35 := Hp.at_lt k35
    have m03 : H.length ≠ H.length + 3 := by omega
    have hl5 := g2.1
    simp at hl5
    simp [h0, h2, h4, h5, k35, g1.rows.one, g1.rows.cells, g1.rows.cells1, Hp.at_set, Hp.at_app, List.length_set, u35]
    obtain ⟨X, hX⟩ : ∃ X : Option Ob, X = some ⟨[[.sl (H.length + 1) 0 0, v5, sv, .int .i64 keep, .int .i64 0, .sl (H.length + 2) 0 0]], 6, 28, false⟩ := ⟨_, rfl⟩
    rw [← hX]
    obtain ⟨G5, hG5⟩ : ∃ G5 : Hp, G5 = List.set H5 (H.length + 3) X := ⟨_, rfl⟩
    have hGl : H5.length = G5.length := by rw [hG5]; simp
    have hG : Fr (fun x => x = H.length + 3) H5 G5 := by rw [hG5]; exact Fr.one _ _ _
    have kG3 : G5.at (H.length + 3) = X := by rw [hG5]; exact Hp.at_set _ u35
    rw [← hG5, hGl, List.append_cons]
    have hB : HLe G5 (G5 ++ [some ⟨[], 1, 9, false⟩]) := HLe.self _ _
    have hsv5 : Own 5 66 H5 sv sr := hsv.fr hF5 (fun x hx h => hlv.rows.apart hsv.rows (by simp) h hx)
    have hsvG : Own 5 66 G5 sv sr := hsv5.fr hG (fun x hx => by have := hsva x hx; omega)
    refine appG_one' (bytes := 80) (R := sr) (by simp) (hsvG.le hB) (by have := All2.length hsvr; simp at this; omega) (fun v7 H7 p1 p2 p3 => ?_)
    have hF7 : Fr sv.of G5 H7 := (hB.fr (S := sv.of)).same p2
    have nsv : ∀ x, x < H.length + 4 → ¬ sv.of x := fun x h1 h2 => by have := hsva x h2; omega
    have kG0 := hG.2 _ _ m03 k05
    have k07 := hF7.2 _ _ (nsv _ (by omega)) kG0
    have k37 := hF7.2 _ _ (nsv _ (by omega)) (kG3.trans hX)
    have u37 := Hp.at_lt k37
    have hl7 := hF7.1
    have hsvl : ∀ x, sv.of x → x < H'.length := fun x hx => hsv.lt hx
    have hlvl : ∀ x, lv.of x → x < H'.length := fun x hx => hlv.lt hx
    have ktG := hG.2 _ _ (show H'.length ≠ H.length + 3 by omega) ktop
    have kt7 := hF7.2 _ _ (fun h => by have := hsvl _ h; omega) ktG
    have ks7 := p2.2 G5.length _ (fun h => by have := hsvl _ h; omega) (Hp.at_app_0.trans Hp.at_0)
    simp [h0, h2, h4, h5, k37, p1.rows.one, p1.rows.cells, p1.rows.cells1, hw]
    obtain ⟨Z, hZ⟩ : ∃ Z : Option Ob, Z = some ⟨[[.sl (H.length + 1) 0 0, v5, v7, .int .i64 keep, .int .i64 0, .sl (H.length + 2) 0 0]], 6, 28, false⟩ := ⟨_, rfl⟩
    rw [← hZ]
    have hS := Fr.one H7 (H.length + 3) Z
    have hF58 : Fr (fun x => x = H.length + 3 ∨ sv.of x) H5 (List.set H7 (H.length + 3) Z) := ((hG.mono (fun x hx => .inl (.inl hx))).trans hF7 (fun x hx => .inl (.inr hx))).trans hS (fun x hx => .inl (.inl hx))
    have hF8 : Fr (fun x => lv.of x ∨ sv.of x ∨ x = H.length + 3) H' (List.set H7 (H.length + 3) Z) := (hF5.mono (fun x hx => .inl (.inl hx))).trans hF58 (fun x hx => hx.elim (fun h => .inl (.inr (.inr h))) (fun h => .inl (.inr (.inl h))))
    have ns4 : ∀ x ob, (lv.of x ∨ sv.of x ∨ x = H.length + 3) → H'.at x = some ob → ob.esz ≠ 4 := fun x ob hs ho => by
      rcases hs with h | h | h
      · rw [hlv.esz h ho]; decide
      · rw [hsv.esz h ho]; decide
      · subst h; rw [k3] at ho; cases ho; simp
    have v5a : ∀ x, v5.of x → lv.of x ∨ H'.length ≤ x := fun x hx => (g3 x hx).imp id (fun h => by simp at h; omega)
    have v7a : ∀ x, v7.of x → sv.of x ∨ H5.length ≤ x := fun x hx => (p3 x hx).imp id (fun h => by simp at h; omega)
    have k0F := hS.2 _ _ m03 k07
    have ktF := hS.2 _ _ (show H'.length ≠ H.length + 3 by omega) kt7
    have ksF := hS.2 _ _ (show G5.length ≠ H.length + 3 by omega) ks7
    refine ⟨m - 1, by omega, i + 1, by omega, by omega, hle.fr_le hF8 (fun x hx => by rcases hx with h | h | h; (have := hlva x h; omega); (have := hsva x h; omega); omega), k0F, v5, v7, (Hp.at_set _ u37).trans hZ, ?_, ?_, lr ++ [[.sl H'.length 0 0]], ?_, ?_, ?_, hoff.add (fun y hy hy2 => by have h1 : H.length + 1 = y := hy; have h2 : H'.length = y := hy2; have := Hp.at_lt k3; omega) (fun y hy => by have h2 : H'.length = y := hy; have := hle.1; omega), sr ++ [[.str ⟨#[]⟩, .str ⟨#[]⟩, .str ⟨#[]⟩, .sl G5.length 0 0, .int .i64 keep]], ?_, ?_, ?_⟩
    · exact htop.fr hF8 (fun x hx hs => by
        have hx' : H.length + 1 = x := hx
        rcases hs with h | h | h
        · have := hlva x h; omega
        · have := hsva x h; omega
        · omega)
    · exact htms.fr hF8 (fun x hx hs => by
        have hx' : H.length + 2 = x := hx
        rcases hs with h | h | h
        · have := hlva x h; omega
        · have := hsva x h; omega
        · omega)
    · exact g1.fr hF58 (fun x hx hs => by
        rcases hs with h | h
        · rcases v5a x hx with hh | hh
          · have := hlva x hh; omega
          · omega
        · exact g1.rows.apart hsv5.rows (by simp) hx h)
    · intro x hx
      rcases v5a x hx with h | h
      · exact hlva x h
      · omega
    · rw [List.replicate_succ']
      exact (All2.mono (fun row es h => h.fr hF8 ns4) hlvr).append ⟨⟨_, rfl, Own.rows (ety := 99) (Own.obj (R := []) ktF rfl)⟩, trivial⟩
    · exact p1.fr hS (fun x hx => by
        rcases v7a x hx with h | h
        · have := hsva x h; omega
        · omega)
    · intro x hx
      rcases v7a x hx with h | h
      · exact hsva x h
      · omega
    · rw [List.replicate_succ']
      refine (All2.mono (fun row sv' h => ?_) hsvr).append ⟨⟨.sl G5.length 0 0, rfl, Own.rows (ety := 9) (Own.obj (R := []) ksF rfl), fun x hx h => ?_⟩, trivial⟩
      · refine SvRow.fr (X' := fun x => v5.of x ∨ H.length + 2 = x) h hF8 (fun x ob hs ho => ?_) (fun x hx hx' => hx'.elim (fun h => (v5a x h).elim .inl (fun h => by omega)) .inr)
        rcases hs with h | h | h
        · exact .inr (.inl h)
        · exact .inl (by rw [hsv.esz h ho]; decide)
        · exact .inl (by subst h; rw [k3] at ho; cases ho; simp)
      · have hx' : G5.length = x := hx
        rcases h with h | h
        · have := g1.lt h; omega
        · omega
  · have hi3 : i = 3 := by omega
    subst hi3
    have u0 := Hp.at_lt k0
    obtain ⟨ol, rfl⟩ := hlv.sl (by rw [hlvr.length]; simp)
    obtain ⟨os, rfl⟩ := hsv.sl (by rw [hsvr.length]; simp)
    have hl3 : lr.length = 3 := by rw [hlvr.length]; simp
    have hs3 : sr.length = 3 := by rw [hsvr.length]; simp
    rw [hl3] at hlv k3
    rw [hs3] at hsv k3
    simp [h2, h4, k0, k3, Hp.at_set, u0, hn]
    have hF := Fr.one H' H.length (some ⟨[[.sl (H.length + 1) 0 0, .sl ol 0 3, .sl os 0 3, .int .i64 keep, .int .i64 0, .sl (H.length + 2) 0 0]], 6, 28, false⟩)
    have hm : MSt H H' (.ag [.sl (H.length + 1) 0 0, .sl ol 0 3, .sl os 0 3, .int .i64 keep, .int .i64 0, .sl (H.length + 2) 0 0]) ⟨[], List.replicate 3 [], List.replicate 3 (sv0 keep), keep, 0, []⟩ :=
      ⟨.sl (H.length + 1) 0 0, ol, os, .sl (H.length + 2) 0 0, lr, sr, rfl, htop, hlv, hlvr, hsv, All2.mono (fun _ _ h => by
        obtain ⟨r, e1, e2, e3⟩ := h
        rw [hl3] at e3
        exact ⟨r, e1, e2, e3⟩) hsvr, htms, fun hx => by have := hlva ol rfl; simp at hx; omega, by have := hlva ol rfl; omega, by have := hsva os rfl; omega, rfl, rfl, hoff⟩
    exact ⟨hle.fr_le hF (fun x hx => by rw [hx]; exact Nat.le_refl _), _, rfl, hm.fr hF (fun y ob hy ho => by rw [hy, k0] at ho; cases ho; rfl)⟩

end Go.Proofs.YtgoeenodllmdpaaGreat.B


namespace Go.Proofs.YtgoeenodllmdpaaGreat.B
open Go.RowKit Go.Proofs
set_option linter.unusedVariables false
set_option linter.unusedSimpArgs false
variable {E : Env}

abbrev OwnD := OwnM (α := Dd) 3 47 ddRow
theorem l71Deeds_ok (o N : Nat) (most : Nat) (H : Hp) (hr : Rd H o N) (hm : most < 1000) (hN : N < 68719476736) :
    AC Tryz.prog E 70 [.pt o 0 0, .int .i64 most] H (fun v H' => ∃ ds, OwnD H H' v ds ∧ ds.length ≤ most + 1 ∧ (∀ d ∈ ds, d.key.size ≤ 5) ∧ Dr o H H' ∧ Rd H' o (N + 39 + 10 * most)) := by
  refine AC_by fol (tC_le tab2_ok) h_spec_l71Deeds ?_
  have hw0 := wrapN (i := most) (by omega)
  simp [c_spec_l71Deeds, hw0]
  refine cg_ex (l71Keys_ok o N 5 H hr (by omega) (by omega)) ?_
  rintro kv H1 ⟨ks, hks, hkl, hksz, hd1, hr1⟩
  simp [hw0]
  refine cg_ex (pick_ok o _ ((most : Int) + 1) _ (hr1.le (HLe.self _ _)) (by omega) (by omega)) ?_
  rintro v H2 ⟨n, rfl, hn, hd2, hr2, hlen⟩
  have hd0 : Dr o H H2 := (hd1.app _).same hd2
  have hn1 : n ≤ most := by omega
  have hks2 : OwnS H H2 kv ks := OwnM.dr (hr1.le (HLe.self _ _)) (hks.le (HLe.self _ _)) (by decide) hd2
  simp
  refine W_for (fun m t H' => ∃ ds v, m ≤ most ∧ t 0 = .pt o 0 0 ∧ t 5 = kv ∧ t 6 = v ∧ t 7 = .int .i64 m ∧ OwnD H H' v ds ∧ OwnS H H' kv ks ∧ ds.length + m ≤ most ∧ (∀ d ∈ ds, d.key.size ≤ 5) ∧ Dr o H H' ∧ Rd H' o (N + 37 + 10 * (most - m))) n ?_ (tC_mono AC_mono) ?_
  · refine ⟨[], _, hn1, by simp, by simp, by simp; rfl, by simp, ?_, hks2, by simpa using hn1, by simp, hd0, hr2.mono (by omega)⟩
    exact (OwnM.dr (hr1.le (HLe.self _ _)) (OwnM.lit0 (HLe.refl H1)) (by decide) hd2).base hd1.len
  rintro m t H' ⟨ds, v, hm5, h0, h5, h6, h7, hv, hkv, hdl, hdk, hd, hr⟩
  simp [h0, h5, h6, h7]
  refine c_split (fun hq => ?_) (fun hq => ?_) <;> simp at hq
  · have hw : IntKind.i64.wrap ((m : Int) - 1) = ((m - 1 : Nat) : Int) := by rw [wrap64 (by omega) (by omega)]; omega
    simp [h0, h5, h6, h7]
    refine cg_ex (l71Deed_ok o _ kv ks H' hr hkv.strs (by omega) hksz (by omega)) ?_
    rintro _ H2 ⟨e, rfl, hk5, hd2, hr2⟩
    have hkv2 := OwnM.dr hr hkv (by decide) hd2
    have hv2 := OwnM.dr hr hv (by decide) hd2
    simp [h0, h5, h6, h7, ddAV]
    have hla := hd.len
    have hl2a := hd2.len
    refine appG_one' (bytes := 32) (R := ds.map ddRow) rfl hv2.1 (by simp; omega) (fun v5 H5 g1 g2 g3 => ?_)
    have hv5 : OwnD H H5 v5 (ds ++ [e]) := ⟨by simpa [ddRow] using g1, fun x hx => (g3 x hx).elim (hv2.2 x) (fun h => by omega)⟩
    have hr5 := (hr2.fr g2 (fun h => hr2.ne hv2.rows (by decide) h rfl) (fun x ob hx ho => by rw [hv2.1.esz hx ho]; decide))
    have hd5 : Dr o H H5 := (hd.same hd2).trans g2 (fun x hx => .inr (hv2.2 x hx))
    have hkv5 := hkv2.fr g2 (fun x hx hs => hkv2.rows.apart hv2.rows (by simp) hx hs)
    simp [h0, h5, h6, h7, hw]
    refine ⟨m - 1, by omega, by omega, rfl, ds ++ [e], hv5, hkv5, by simp; omega, fun d hd => ?_, hd5, hr5.mono (by omega)⟩
    rcases List.mem_append.1 hd with h | h
    · exact hdk d h
    · rw [List.mem_singleton.1 h]; exact hk5
  · have : m = 0 := by omega
    subst this
    simp [h0, h6]
    refine cg_ex (pick_ok o _ 24 _ hr (by omega) (by omega)) ?_
    rintro _ H2 ⟨c, rfl, hc, hd2, hr2, -⟩
    have hv2 := OwnM.dr hr hv (by decide) hd2
    simp [h0, h6]
    refine c_split (fun hq => ?_) (fun hq => ?_) <;> simp at hq
    · simp [h0, h6]
      refine cg_ex (pick_ok o _ 9 _ hr2 (by omega) (by omega)) ?_
      rintro _ H3 ⟨q, rfl, hq9, hd3, hr3, -⟩
      have hv3 := OwnM.dr hr2 hv2 (by decide) hd3
      simp [h0, h6]
      have hlb := hd.len
      have hl2b := hd2.len
      have hl3b := hd3.len
      refine appG_one' (bytes := 32) (R := ds.map ddRow) rfl hv3.1 (by simp; omega) (fun v5 H5 g1 g2 g3 => ?_)
      have hv5 : OwnD H H5 v5 (ds ++ [⟨IntKind.i64.wrap ((q : Int) - 1), ⟨#[120]⟩, -1⟩]) := ⟨by simpa [ddRow] using g1, fun x hx => (g3 x hx).elim (hv3.2 x) (fun h => by omega)⟩
      have hr5 := (hr3.fr g2 (fun h => hr3.ne hv3.rows (by decide) h rfl) (fun x ob hx ho => by rw [hv3.1.esz hx ho]; decide))
      have hd5 : Dr o H H5 := ((hd.same hd2).same hd3).trans g2 (fun x hx => .inr (hv3.2 x hx))
      simp
      refine ⟨_, hv5, by simp; omega, fun d hd => ?_, hd5, hr5.mono (by omega)⟩
      rcases List.mem_append.1 hd with h | h
      · exact hdk d h
      · rw [List.mem_singleton.1 h]; show 1 ≤ 5; omega
    · simp [h0, h6]
      exact ⟨ds, hv2, by omega, hdk, hd.same hd2, hr2.mono (by omega)⟩

end Go.Proofs.YtgoeenodllmdpaaGreat.B


namespace Go.Proofs.YtgoeenodllmdpaaGreat.B
open Go.RowKit Go.Proofs
set_option linter.unusedVariables false
set_option linter.unusedSimpArgs false
variable {E : Env}

theorem MSt.frn {S : Nat → Prop} {H0 H H' : Hp} {v : AV} {s : Sr} (h : MSt H0 H v s) (hf : Fr S H H') (hS : ∀ x ob, S x → H.at x = some ob → ob.esz = 2 ∨ ob.esz = 6) : MSt H0 H' v s := by
  obtain ⟨a, ol, os, d, lr, sr, rfl, ha, hlv, hlr, hsv, hsr, hd, hdo, hol, hos, hl3, hs3, hoff⟩ := h
  have no : ∀ {esz ety : Nat} {v : AV} {R : List (List AV)}, esz ≠ 2 ∧ esz ≠ 6 → Own esz ety H v R → ∀ x, v.of x → ¬ S x := by
    intro esz ety v R hne ho x hx hs
    rcases ho with ⟨rfl, _⟩ | ⟨rfl, _⟩ | ⟨o', ob, rfl, a2, a3, a4, _⟩
    · exact hx.elim
    · exact hx.elim
    · have : o' = x := hx
      subst this
      rcases hS _ _ hs a2 with h | h
      · exact hne.1 (a4.symm.trans h)
      · exact hne.2 (a4.symm.trans h)
  refine ⟨a, ol, os, d, lr, sr, rfl, ha.fr hf (no (by omega) ha.1), hlv.fr hf (no (by omega) hlv), All2.mono (fun _ _ h => h.fr hf (fun x ob hs ho => by have := hS x ob hs ho; omega)) hlr, hsv.fr hf (no (by omega) hsv),
    All2.mono (fun _ _ h => h.fr hf (fun x ob hs ho => .inl (by have := hS x ob hs ho; omega)) (fun _ _ h => h)) hsr, hd.fr hf (no (by omega) hd.1), hdo, hol, hos, hl3, hs3, hoff⟩
theorem doAll_small : ∀ (ds : List Dd) {s : Sr}, Small s → Small (doAll s ds)
  | [], s, h => h
  | d :: ds, s, h => by
    have : doAll s (d :: ds) = doAll ((doR s d).getD s) ds := rfl
    rw [this]
    refine doAll_small ds ?_
    cases hd : doR s d with
    | none => exact h
    | some x => exact doR_small hd
theorem pastR_small {s x : Sr} {ds : List Dd} (h : pastR s ds = some x) : Small x := by
  unfold pastR at h
  split at h
  · rename_i hc
    cases h
    simp only [Bool.and_eq_true] at hc
    exact doAll_small ds (storeOk_small hc.1)
  · cases h

end Go.Proofs.YtgoeenodllmdpaaGreat.B


namespace Go.Proofs.YtgoeenodllmdpaaGreat.B
open Go.RowKit
set_option linter.unusedVariables false
set_option linter.unusedSimpArgs false

structure Best (l : List Ent) (k : ByteArray) (t : Int) (e : Ent) : Prop where
  mem : e ∈ l
  key : e.key = k
  le : e.time ≤ t
  max : ∀ y ∈ l, y.key = k → y.time ≤ t → y.time ≤ e.time
theorem Best.congr {l l' : List Ent} (h : ∀ x, x ∈ l ↔ x ∈ l') {k : ByteArray} {t : Int} {e : Ent} (hb : Best l k t e) : Best l' k t e := ⟨(h e).1 hb.mem, hb.key, hb.le, fun y hy => hb.max y ((h y).2 hy)⟩
theorem best_of {l : List Ent} {k : ByteArray} {t : Int} : ∀ {x : Ent}, x ∈ l → x.key = k → x.time ≤ t → ∃ e, Best l k t e ∧ x.time ≤ e.time := by
  induction l with
  | nil => intro x hx; cases hx
  | cons a l ih =>
    intro x hx hk ht
    by_cases ha : a.key = k ∧ a.time ≤ t
    · by_cases hl : ∃ z ∈ l, z.key = k ∧ z.time ≤ t
      · obtain ⟨z, hz, hzk, hzt⟩ := hl
        obtain ⟨e, he, hze⟩ := ih hz hzk hzt
        by_cases hc : a.time ≤ e.time
        · refine ⟨e, ⟨by simp [he.mem], he.key, he.le, fun y hy hyk hyt => ?_⟩, ?_⟩
          · rcases List.mem_cons.1 hy with rfl | hy
            · exact hc
            · exact he.max y hy hyk hyt
          · rcases List.mem_cons.1 hx with rfl | hx
            · exact hc
            · exact he.max x hx hk ht
        · refine ⟨a, ⟨by simp, ha.1, ha.2, fun y hy hyk hyt => ?_⟩, ?_⟩
          · rcases List.mem_cons.1 hy with rfl | hy
            · exact Int.le_refl _
            · have := he.max y hy hyk hyt
              omega
          · rcases List.mem_cons.1 hx with rfl | hx
            · exact Int.le_refl _
            · have := he.max x hx hk ht
              omega
      · have hno : ∀ y ∈ l, y.key = k → y.time ≤ t → False := fun y hy h1 h2 => hl ⟨y, hy, h1, h2⟩
        refine ⟨a, ⟨by simp, ha.1, ha.2, fun y hy hyk hyt => ?_⟩, ?_⟩
        · rcases List.mem_cons.1 hy with rfl | hy
          · exact Int.le_refl _
          · exact (hno y hy hyk hyt).elim
        · rcases List.mem_cons.1 hx with rfl | hx
          · exact Int.le_refl _
          · exact (hno x hx hk ht).elim
    · rcases List.mem_cons.1 hx with rfl | hx
      · exact absurd ⟨hk, ht⟩ ha
      · obtain ⟨e, he, hxe⟩ := ih hx hk ht
        refine ⟨e, ⟨by simp [he.mem], he.key, he.le, fun y hy hyk hyt => ?_⟩, hxe⟩
        rcases List.mem_cons.1 hy with rfl | hy
        · exact absurd ⟨hyk, hyt⟩ ha
        · exact he.max y hy hyk hyt
def Same (t : Int) (l l' : List Ent) : Prop := ∀ k e, Best l k t e ↔ Best l' k t e
def Seen (t : Int) (l l' : List Ent) : Prop := ∀ k e, e.gone = false → (Best l k t e ↔ Best l' k t e)
theorem Same.seen {t : Int} {l l' : List Ent} (h : Same t l l') : Seen t l l' := fun k e _ => h k e
theorem Same.refl (t : Int) (l : List Ent) : Same t l l := fun _ _ => Iff.rfl
theorem Same.trans {t : Int} {a b c : List Ent} (h : Same t a b) (k : Same t b c) : Same t a c := fun x e => (h x e).trans (k x e)
theorem Seen.trans {t : Int} {a b c : List Ent} (h : Seen t a b) (k : Seen t b c) : Seen t a c := fun x e g => (h x e g).trans (k x e g)
theorem same_mem {t : Int} {l l' : List Ent} (h : ∀ x, x ∈ l ↔ x ∈ l') : Same t l l' := fun k e => ⟨Best.congr h, Best.congr (fun x => (h x).symm)⟩
theorem same_sub {t : Int} {l l' : List Ent} (hs : ∀ x ∈ l', x ∈ l) (hb : ∀ k e, Best l k t e → e ∈ l') : Same t l l' := fun k e => by
  constructor
  · intro h
    exact ⟨hb k e h, h.key, h.le, fun y hy => h.max y (hs y hy)⟩
  · intro h
    refine ⟨hs e h.mem, h.key, h.le, fun y hy hyk hyt => ?_⟩
    obtain ⟨g, hg, hyg⟩ := best_of hy hyk hyt
    have := h.max g (hb k g hg) hg.key hg.le
    omega
def Newer (a b : List Ent) : Prop := ∀ x ∈ a, ∀ y ∈ b, x.key = y.key → y.time < x.time
theorem best_app {a b : List Ent} (h : Newer a b) {k : ByteArray} {t : Int} {e : Ent} : Best (a ++ b) k t e ↔ Best a k t e ∨ ((∀ x ∈ a, x.key = k → ¬ x.time ≤ t) ∧ Best b k t e) := by
  constructor
  · intro hb
    by_cases hx : ∃ x ∈ a, x.key = k ∧ x.time ≤ t
    · obtain ⟨x, hxa, hxk, hxt⟩ := hx
      have hm := hb.max x (by simp [hxa]) hxk hxt
      rcases List.mem_append.1 hb.mem with hea | heb
      · exact .inl ⟨hea, hb.key, hb.le, fun y hy => hb.max y (by simp [hy])⟩
      · have := h x hxa e heb (hxk.trans hb.key.symm)
        omega
    · have hno : ∀ x ∈ a, x.key = k → ¬ x.time ≤ t := fun x h1 h2 h3 => hx ⟨x, h1, h2, h3⟩
      rcases List.mem_append.1 hb.mem with hea | heb
      · exact absurd hb.le (hno e hea hb.key)
      · exact .inr ⟨hno, heb, hb.key, hb.le, fun y hy => hb.max y (by simp [hy])⟩
  · rintro (hb | ⟨hno, hb⟩)
    · refine ⟨by simp [hb.mem], hb.key, hb.le, fun y hy hyk hyt => ?_⟩
      rcases List.mem_append.1 hy with hy | hy
      · exact hb.max y hy hyk hyt
      · have := h e hb.mem y hy (hb.key.trans hyk.symm)
        omega
    · refine ⟨by simp [hb.mem], hb.key, hb.le, fun y hy hyk hyt => ?_⟩
      rcases List.mem_append.1 hy with hy | hy
      · exact absurd hyt (hno y hy hyk)
      · exact hb.max y hy hyk hyt
theorem Seen.left {t : Int} {a b b' : List Ent} (h : Newer a b) (h' : Newer a b') (hs : Seen t b b') : Seen t (a ++ b) (a ++ b') := fun k e g => by
  rw [best_app h, best_app h', hs k e g]
theorem Same.right {t : Int} {a a' b : List Ent} (h : Newer a b) (h' : Newer a' b) (hs : Same t a a') : Same t (a ++ b) (a' ++ b) := fun k e => by
  rw [best_app h, best_app h', hs k e]
  have : (∀ x ∈ a, x.key = k → ¬ x.time ≤ t) ↔ (∀ x ∈ a', x.key = k → ¬ x.time ≤ t) := by
    constructor
    · intro hn x hx hk ht
      obtain ⟨g, hg, _⟩ := best_of hx hk ht
      exact hn g ((hs k g).2 hg).mem hg.key hg.le
    · intro hn x hx hk ht
      obtain ⟨g, hg, _⟩ := best_of hx hk ht
      exact hn g ((hs k g).1 hg).mem hg.key hg.le
  rw [this]

def Look (ts : List Int) (r : List Ent) (t : Int) : Prop := t ∈ ts ∨ ∀ x ∈ r, x.time ≤ t
theorem trim1_best {ts : List Int} {t : Int} : ∀ {r : List Ent} {p : Option Ent}, (∀ q, p = some q → ∀ y ∈ r, ahead q y = true) → r.Pairwise (fun x y => ahead x y = true) → (t ∈ ts ∨ ((∀ x ∈ r, x.time ≤ t) ∧ ∀ q, p = some q → q.time ≤ t)) →
    ∀ k e, Best r k t e → (∀ q, p = some q → q.key = k → t < q.time) → e ∈ trim1 ts p r
  | [], p, _, _, _, k, e, hb, _ => by cases hb.mem
  | a :: r, p, hp, hs, hlook, k, e, hb, hpq => by
    obtain ⟨h1, h2⟩ := List.pairwise_cons.1 hs
    have hlook2 : t ∈ ts ∨ ((∀ x ∈ r, x.time ≤ t) ∧ ∀ q, some a = some q → q.time ≤ t) := hlook.imp id (fun h => ⟨fun x hx => h.1 x (by simp [hx]), fun q hq => by injection hq with hq; rw [← hq]; exact h.1 a (by simp)⟩)
    rw [trim1]
    have rec' : e ∈ r → e ∈ trim1 ts (some a) r := fun her => by
      refine trim1_best (fun q hq y hy => by injection hq with hq; rw [← hq]; exact h1 y hy) h2 hlook2 k e ⟨her, hb.key, hb.le, fun y hy => hb.max y (by simp [hy])⟩ (fun q hq hqk => ?_)
      injection hq with hq
      subst hq
      rcases Int.lt_or_le t a.time with hlt | hle
      · exact hlt
      · have := hb.max a (by simp) hqk hle
        have h3 := h1 e her
        rw [ahead_iff, hqk, hb.key, sless_irrefl] at h3
        rcases h3 with h3 | h3
        · cases h3
        · omega
    rcases List.mem_cons.1 hb.mem with he | he
    · subst he
      have hk : seenB ts p e = true := by
        unfold seenB
        cases p with
        | none => rfl
        | some q =>
          simp only [Bool.or_eq_true, Bool.not_eq_true', decide_eq_false_iff_not]
          by_cases hqk : q.key = e.key
          · right
            have hqt := hpq q rfl (hqk.trans hb.key)
            rcases hlook with hl | hl
            · rw [List.any_eq_true]
              exact ⟨t, hl, by simp only [Bool.and_eq_true, decide_eq_true_eq]; exact ⟨hb.le, hqt⟩⟩
            · have := hl.2 q rfl
              omega
          · exact .inl hqk
      rw [if_pos hk]
      simp
    · split
      · exact List.mem_cons_of_mem _ (rec' he)
      · exact rec' he

theorem trim1_mem {ts : List Int} {p : Option Ent} {r : List Ent} {x : Ent} (h : x ∈ trim1 ts p r) : x ∈ r := (trim1_sub ts p r).subset h
theorem trim1_same {ts : List Int} {t : Int} {r : List Ent} (hr : r.Pairwise (fun x y => ahead x y = true)) (hl : Look ts r t) : Same t r (trim1 ts none r) :=
  same_sub (fun x hx => trim1_mem hx) (fun k e hb => trim1_best (fun q hq => by cases hq) hr (hl.imp id (fun h => ⟨h, fun q hq => by cases hq⟩)) k e hb (fun q hq => by cases hq))
theorem drop1_mem : ∀ {r : List Ent} {x : Ent}, r.Pairwise (fun x y => ahead x y = true) → x ∈ r → x ∈ drop1 r ∨ (x.gone = true ∧ ∀ y ∈ r, y.key = x.key → x.time ≤ y.time)
  | [], x, _, h => by cases h
  | a :: r, x, hs, h => by
    obtain ⟨h1, h2⟩ := List.pairwise_cons.1 hs
    rw [drop1]
    rcases List.mem_cons.1 h with rfl | hx
    · by_cases hk : (!x.gone || !lastB x r) = true
      · rw [if_pos hk]
        exact .inl (by simp)
      · right
        simp only [Bool.or_eq_true, Bool.not_eq_true', not_or, Bool.not_eq_false] at hk
        refine ⟨hk.1, fun y hy hyk => ?_⟩
        rcases List.mem_cons.1 hy with rfl | hy
        · exact Int.le_refl _
        · exfalso
          have hl := hk.2
          cases r with
          | nil => cases hy
          | cons f fs =>
            simp only [lastB, Bool.not_eq_true', decide_eq_false_iff_not] at hl
            have hxf := h1 f (by simp)
            have hxy := h1 y hy
            have hfx : f.key ≠ x.key := hl
            rw [ahead_iff] at hxf
            rcases hxf with hxf | hxf
            · rcases List.mem_cons.1 hy with rfl | hy
              · exact hfx hyk
              · have hfy := (List.pairwise_cons.1 h2).1 y hy
                rw [ahead_iff, hyk] at hfy
                rcases hfy with hfy | hfy
                · have := sless_asymm hxf
                  rw [hfy] at this
                  cases this
                · exact hfx hfy.1
            · exact hfx hxf.1.symm
    · rcases drop1_mem h2 hx with hd | ⟨hg, hm⟩
      · left
        split
        · exact List.mem_cons_of_mem _ hd
        · exact hd
      · right
        refine ⟨hg, fun y hy hyk => ?_⟩
        rcases List.mem_cons.1 hy with rfl | hy
        · have := h1 x hx
          rw [ahead_iff, hyk, sless_irrefl] at this
          rcases this with h | h
          · cases h
          · omega
        · exact hm y hy hyk
theorem drop1_seen {t : Int} {r : List Ent} (hr : r.Pairwise (fun x y => ahead x y = true)) : Seen t r (drop1 r) := fun k e g => by
  have hsub : ∀ x ∈ drop1 r, x ∈ r := fun x hx => (drop1_sub r).subset hx
  constructor
  · intro h
    rcases drop1_mem hr h.mem with hd | ⟨hg, _⟩
    · exact ⟨hd, h.key, h.le, fun y hy => h.max y (hsub y hy)⟩
    · rw [hg] at g; cases g
  · intro h
    refine ⟨hsub e h.mem, h.key, h.le, fun y hy hyk hyt => ?_⟩
    rcases drop1_mem hr hy with hd | ⟨_, hm⟩
    · exact h.max y hd hyk hyt
    · exact hm e (hsub e h.mem) (h.key.trans hyk.symm)
theorem trimR_seen {ts : List Int} {t : Int} {r : List Ent} (b : Bool) (hr : r.Pairwise (fun x y => ahead x y = true)) (hl : Look ts r t) : Seen t r (trimR r ts b) := by
  unfold trimR
  split
  · exact (trim1_same hr hl).seen.trans (drop1_seen (hr.sublist (trim1_sub ts none r)))
  · exact (trim1_same hr hl).seen
theorem trimR_same {ts : List Int} {t : Int} {r : List Ent} (hr : r.Pairwise (fun x y => ahead x y = true)) (hl : Look ts r t) : Same t r (trimR r ts false) := by
  unfold trimR
  rw [if_neg (by decide)]
  exact trim1_same hr hl

end Go.Proofs.YtgoeenodllmdpaaGreat.B


namespace Go.Proofs.YtgoeenodllmdpaaGreat.B
open Go.RowKit
set_option linter.unusedVariables false
set_option linter.unusedSimpArgs false

structure LvOk (keep : Int) (i : Nat) (l : List Ent) (v : Sv) : Prop where
  run : runOk l = true
  len : l.length ≤ sizeL i
  sv : sieveO (keysR l) keep = some v
theorem runOk_sub {r l : List Ent} (h : runOk r = true) (hs : l.Sublist r) : runOk l = true := by
  obtain ⟨h1, h2, h3⟩ := runOk_pair h
  exact runOk_of (h1.sublist hs) (fun e he => h2 e (hs.subset he)) (Nat.le_trans hs.length_le h3)
theorem setR_some {s x : Sr} {i : Nat} {r : List Ent} (h : setR s i r = some x) : ∃ v, x = { s with lev := s.lev.set i r, sv := s.sv.set i v } ∧ sieveO (keysR r) s.keep = some v ∧ r.length ≤ sizeL i := by
  unfold setR at h
  split at h
  · cases h
  · rename_i v hv
    split at h
    · rename_i hl
      injection h with h
      exact ⟨v, h.symm, hv, hl⟩
    · cases h
theorem Newer.sub {a b a' b' : List Ent} (h : Newer a b) (ha : ∀ x ∈ a', x ∈ a) (hb : ∀ x ∈ b', x ∈ b) : Newer a' b' := fun x hx y hy => h x (ha x hx) y (hb y hy)
theorem Newer.app {a b c : List Ent} (h : Newer a b) (k : Newer a c) : Newer a (b ++ c) := fun x hx y hy => (List.mem_append.1 hy).elim (h x hx y) (k x hx y)
theorem Newer.app_left {a b c : List Ent} (h : Newer a c) (k : Newer b c) : Newer (a ++ b) c := fun x hx y hy => (List.mem_append.1 hx).elim (fun h' => h x h' y hy) (fun h' => k x h' y hy)
theorem fine_of {a b : List Ent} (ha : runOk a = true) (hb : runOk b = true) (hn : Newer a b) (hl : a.length + b.length ≤ 40) : Fine a b := ⟨ha, hb, hn, hl⟩
theorem joinL_iff (a b : List Ent) (x : Ent) : x ∈ joinL a b ↔ x ∈ a ++ b := (joinL_perm b a).mem_iff
theorem join_trim {ts : List Int} {t : Int} {a b : List Ent} (bot : Bool) (h : Fine a b) (hl : Look ts (a ++ b) t) : runOk (trimR (joinL a b) ts bot) = true ∧ (∀ x ∈ trimR (joinL a b) ts bot, x ∈ a ++ b) ∧ Seen t (a ++ b) (trimR (joinL a b) ts bot) ∧ (bot = false → Same t (a ++ b) (trimR (joinL a b) ts bot)) := by
  have hr := h.run
  have hp := (runOk_pair hr).1
  have hl' : Look ts (joinL a b) t := hl.imp id (fun g x hx => g x ((joinL_iff a b x).1 hx))
  have hs : Same t (a ++ b) (joinL a b) := same_mem (fun x => (joinL_iff a b x).symm)
  refine ⟨runOk_sub hr (trimR_sub _ _ _), fun x hx => (joinL_iff a b x).1 ((trimR_sub _ _ _).subset hx), hs.seen.trans (trimR_seen bot hp hl'), fun hb => ?_⟩
  subst hb
  exact hs.trans (trimR_same hp hl')
theorem Look.sub {ts : List Int} {t : Int} {r r' : List Ent} (h : Look ts r t) (hs : ∀ x ∈ r', x ∈ r) : Look ts r' t := h.imp id (fun g x hx => g x (hs x hx))

section
variable {s x : Sr} {a b c r : List Ent} {u v w : Sv}
theorem into0 (hl : s.lev = [a, b, c]) (hs : s.sv = [u, v, w]) (hf : Fine r c) (hx : intoR 0 s r = some x) :
    ∃ c' w', x = { s with lev := [a, b, c'], sv := [u, v, w'] } ∧ LvOk s.keep 2 c' w' ∧ (∀ y ∈ c', y ∈ r ++ c) ∧ ∀ t, Look s.tms (r ++ c) t → Seen t (r ++ c) c' := by
  rw [intoR, hl] at hx
  obtain ⟨w', rfl, h2, h3⟩ := setR_some hx
  have hj := fun t => join_trim (ts := s.tms) (t := t) true hf
  refine ⟨_, w', by rw [hl, hs]; rfl, ⟨?_, h3, h2⟩, ?_, fun t ht => (hj t ht).2.2.1⟩
  · exact runOk_sub hf.run (trimR_sub _ _ _)
  · exact fun y hy => (joinL_iff _ _ _).1 ((trimR_sub _ _ _).subset hy)
theorem into1 (hl : s.lev = [a, b, c]) (hs : s.sv = [u, v, w]) (hf : Fine r b) (hf2 : Fine b c) (hrc : Newer r c) (hc : LvOk s.keep 2 c w) (hx : intoR 1 s r = some x) :
    ∃ b' c' v' w', x = { s with lev := [a, b', c'], sv := [u, v', w'] } ∧ LvOk s.keep 1 b' v' ∧ LvOk s.keep 2 c' w' ∧ Newer b' c' ∧ (∀ y ∈ b', y ∈ r ++ b) ∧ (∀ y ∈ b' ++ c', y ∈ r ++ (b ++ c)) ∧ ∀ t, Look s.tms (r ++ (b ++ c)) t → Seen t (r ++ (b ++ c)) (b' ++ c') := by
  have hj := fun t => join_trim (ts := s.tms) (t := t) false hf
  have hsub : ∀ y ∈ trimR (joinL r b) s.tms false, y ∈ r ++ b := fun y hy => (joinL_iff _ _ _).1 ((trimR_sub _ _ _).subset hy)
  have hrbc : Newer (r ++ b) c := hrc.app_left hf2.new
  rw [intoR, hl] at hx
  simp only [List.getD_cons_succ, List.getD_cons_zero] at hx
  cases h1 : setR s 1 (trimR (joinL r b) s.tms false) with
  | some z =>
    have hx : some z = some x := by
      rw [← hx, show (1 - 0 : Nat) = 1 from rfl]
      simp only [List.getD_cons_succ, List.getD_cons_zero, h1]
    injection hx with hx
    subst hx
    obtain ⟨v', rfl, h2, h3⟩ := setR_some h1
    refine ⟨trimR (joinL r b) s.tms false, c, v', w, by rw [hl, hs]; rfl, ⟨runOk_sub hf.run (trimR_sub _ _ _), h3, h2⟩, hc, hrbc.sub hsub (fun _ h => h), hsub, fun y hy => ?_, fun t ht => ?_⟩
    · rcases List.mem_append.1 hy with h | h
      · rw [← List.append_assoc]
        exact List.mem_append_left _ (hsub y h)
      · simp [h]
    · have ht' : Look s.tms (r ++ b) t := ht.sub (fun y hy => by rw [← List.append_assoc]; exact List.mem_append_left _ hy)
      rw [← List.append_assoc]
      exact (((hj t ht').2.2.2 rfl).right hrbc (hrbc.sub hsub (fun _ h => h))).seen
  | none =>
    have hx : (match intoR 0 s b with | none => none | some x => setR x 1 (trimR r x.tms false)) = some x := by
      rw [← hx, show (1 - 0 : Nat) = 1 from rfl]
      simp only [List.getD_cons_succ, List.getD_cons_zero, h1]
      rfl
    cases h0 : intoR 0 s b with
    | none => rw [h0] at hx; cases hx
    | some z =>
      rw [h0] at hx
      obtain ⟨c', w', rfl, k1, k2, k3⟩ := into0 hl hs hf2 h0
      simp only at hx
      obtain ⟨v', rfl, h2, h3⟩ := setR_some hx
      have hsubr : ∀ y ∈ trimR r s.tms false, y ∈ r := fun y hy => (trimR_sub _ _ _).subset hy
      have hrn : Newer r (b ++ c) := Newer.app hf.new hrc
      have hn' : Newer r c' := hrn.sub (fun _ h => h) k2
      refine ⟨trimR r s.tms false, c', v', w', by rfl, ⟨runOk_sub hf.ra (trimR_sub _ _ _), h3, h2⟩, k1, hn'.sub hsubr (fun _ h => h), fun y hy => List.mem_append_left _ (hsubr y hy), fun y hy => ?_, fun t ht => ?_⟩
      · rcases List.mem_append.1 hy with h | h
        · exact List.mem_append_left _ (hsubr y h)
        · exact List.mem_append_right _ (k2 y h)
      · have t1 : Look s.tms r t := ht.sub (fun y hy => List.mem_append_left _ hy)
        have t2 : Look s.tms (b ++ c) t := ht.sub (fun y hy => List.mem_append_right _ hy)
        have e1 : Seen t (r ++ (b ++ c)) (r ++ c') := Seen.left hrn hn' (k3 t t2)
        have e2 : Same t (r ++ c') (trimR r s.tms false ++ c') := Same.right hn' (hn'.sub hsubr (fun _ h => h)) (trimR_same (runOk_pair hf.ra).1 t1)
        exact e1.trans e2.seen
theorem into2 (hl : s.lev = [a, b, c]) (hs : s.sv = [u, v, w]) (hf : Fine r a) (hf1 : Fine a b) (hf2 : Fine b c) (hrb : Newer r b) (hrc : Newer r c) (hac : Newer a c) (hb : LvOk s.keep 1 b v) (hc : LvOk s.keep 2 c w) (hx : intoR 2 s r = some x) :
    ∃ a' b' c' u' v' w', x = { s with lev := [a', b', c'], sv := [u', v', w'] } ∧ LvOk s.keep 0 a' u' ∧ LvOk s.keep 1 b' v' ∧ LvOk s.keep 2 c' w' ∧ Newer a' (b' ++ c') ∧ Newer b' c' ∧ (∀ y ∈ a' ++ (b' ++ c'), y ∈ r ++ (a ++ (b ++ c))) ∧ ∀ t, Look s.tms (r ++ (a ++ (b ++ c))) t → Seen t (r ++ (a ++ (b ++ c))) (a' ++ (b' ++ c')) := by
  have hj := fun t => join_trim (ts := s.tms) (t := t) false hf
  have hsub : ∀ y ∈ trimR (joinL r a) s.tms false, y ∈ r ++ a := fun y hy => (joinL_iff _ _ _).1 ((trimR_sub _ _ _).subset hy)
  have hbc : Newer b c := hf2.new
  have hra : Newer (r ++ a) (b ++ c) := (Newer.app hrb hrc).app_left (Newer.app hf1.new hac)
  rw [intoR, hl] at hx
  cases h1 : setR s 0 (trimR (joinL r a) s.tms false) with
  | some z =>
    have hx : some z = some x := by
      rw [← hx, show (1 - 1 : Nat) = 0 from rfl]
      simp only [List.getD_cons_zero, h1]
    injection hx with hx
    subst hx
    obtain ⟨u', rfl, h2, h3⟩ := setR_some h1
    refine ⟨trimR (joinL r a) s.tms false, b, c, u', v, w, by rw [hl, hs]; rfl, ⟨runOk_sub hf.run (trimR_sub _ _ _), h3, h2⟩, hb, hc, hra.sub hsub (fun _ h => h), hbc, fun y hy => ?_, fun t ht => ?_⟩
    · rcases List.mem_append.1 hy with h | h
      · rw [← List.append_assoc]
        exact List.mem_append_left _ (hsub y h)
      · exact List.mem_append_right _ (List.mem_append_right _ h)
    · have ht' : Look s.tms (r ++ a) t := ht.sub (fun y hy => by rw [← List.append_assoc]; exact List.mem_append_left _ hy)
      rw [← List.append_assoc]
      exact (((hj t ht').2.2.2 rfl).right hra (hra.sub hsub (fun _ h => h))).seen
  | none =>
    have hx : (match intoR 1 s a with | none => none | some x => setR x 0 (trimR r x.tms false)) = some x := by
      rw [← hx, show (1 - 1 : Nat) = 0 from rfl]
      simp only [List.getD_cons_zero, h1]
      rfl
    cases h0 : intoR 1 s a with
    | none => rw [h0] at hx; cases hx
    | some z =>
      rw [h0] at hx
      obtain ⟨b', c', v', w', rfl, k1, k2, k3, -, k4, k5⟩ := into1 hl hs hf1 hf2 hac hc h0
      simp only at hx
      obtain ⟨u', rfl, h2, h3⟩ := setR_some hx
      have hsubr : ∀ y ∈ trimR r s.tms false, y ∈ r := fun y hy => (trimR_sub _ _ _).subset hy
      have hrn : Newer r (a ++ (b ++ c)) := Newer.app hf.new (Newer.app hrb hrc)
      have hn' : Newer r (b' ++ c') := hrn.sub (fun _ h => h) k4
      refine ⟨trimR r s.tms false, b', c', u', v', w', by rfl, ⟨runOk_sub hf.ra (trimR_sub _ _ _), h3, h2⟩, k1, k2, hn'.sub hsubr (fun _ h => h), k3, fun y hy => ?_, fun t ht => ?_⟩
      · rcases List.mem_append.1 hy with h | h
        · exact List.mem_append_left _ (hsubr y h)
        · exact List.mem_append_right _ (k4 y h)
      · have t1 : Look s.tms r t := ht.sub (fun y hy => List.mem_append_left _ hy)
        have t2 : Look s.tms (a ++ (b ++ c)) t := ht.sub (fun y hy => List.mem_append_right _ hy)
        have e1 : Seen t (r ++ (a ++ (b ++ c))) (r ++ (b' ++ c')) := Seen.left hrn hn' (k5 t t2)
        have e2 : Same t (r ++ (b' ++ c')) (trimR r s.tms false ++ (b' ++ c')) := Same.right hn' (hn'.sub hsubr (fun _ h => h)) (trimR_same (runOk_pair hf.ra).1 t1)
        exact e1.trans e2.seen
end

end Go.Proofs.YtgoeenodllmdpaaGreat.B


namespace Go.Proofs.YtgoeenodllmdpaaGreat.B
open Go.RowKit
set_option linter.unusedVariables false
set_option linter.unusedSimpArgs false

def entsR (s : Sr) : List Ent := s.top ++ s.lev.flatten
structure V (s : Sr) (a b c : List Ent) (u v w : Sv) : Prop where
  lev : s.lev = [a, b, c]
  sv : s.sv = [u, v, w]
  keep : 0 ≤ s.keep ∧ s.keep ≤ 5
  time : 0 ≤ s.time ∧ s.time ≤ 999
  tms : timesR s.tms s.time = true
  top : runOk s.top = true
  top4 : s.top.length ≤ 4
  la : LvOk s.keep 0 a u
  lb : LvOk s.keep 1 b v
  lc : LvOk s.keep 2 c w
  ta : Newer s.top (a ++ (b ++ c))
  ab : Newer a (b ++ c)
  bc : Newer b c
  late : ∀ e ∈ s.top ++ (a ++ (b ++ c)), e.time ≤ s.time
def Val (s : Sr) : Prop := ∃ a b c u v w, V s a b c u v w
theorem entsR_of {s : Sr} {a b c : List Ent} (h : s.lev = [a, b, c]) : entsR s = s.top ++ (a ++ (b ++ c)) := by
  unfold entsR
  rw [h]
  simp
section
variable {s x : Sr} {a b c : List Ent} {u v w : Sv}
theorem V.ok (h : V s a b c u v w) : storeOk s = true := by
  rw [← storeI_eq]
  obtain ⟨lev, sv, keep, time, tms, top, top4, la, lb, lc, ta, ab, bc, late⟩ := h
  have hl : ∀ (up : List Ent), (∀ e ∈ up, e ∈ s.top ++ (a ++ (b ++ c))) → lateI s.time up = false := fun up hu => (lateI_iff _ _).2 (fun e he => late e (hu e he))
  simp only [storeI, headI, okI, aboveI, lev, sv, List.getD_cons_zero, List.getD_cons_succ, List.take_zero, List.take_succ_cons, List.flatten_nil, List.flatten_cons, List.append_nil, List.length_cons, List.length_nil, Bool.and_eq_true, decide_eq_true_eq, Bool.not_eq_true']
  refine ⟨⟨⟨⟨⟨⟨⟨⟨trivial, trivial⟩, top⟩, top4⟩, time⟩, tms⟩, ⟨⟨⟨la.run, la.len⟩, la.sv⟩, ?_⟩, ?_⟩, ⟨⟨⟨lb.run, lb.len⟩, lb.sv⟩, ?_⟩, ?_⟩, ⟨⟨⟨lc.run, lc.len⟩, lc.sv⟩, ?_⟩, ?_⟩
  · exact (newerI_iff _ _).2 (fun x hx y hy => ta x hx y (by simp [hy]))
  · exact hl _ (fun e he => by simp [he])
  · refine (newerI_iff _ _).2 (fun x hx y hy => ?_)
    rcases List.mem_append.1 hx with h | h
    · exact ta x h y (by simp [hy])
    · exact ab x h y (by simp [hy])
  · exact hl _ (fun e he => by rcases List.mem_append.1 he with h | h <;> simp [h])
  · refine (newerI_iff _ _).2 (fun x hx y hy => ?_)
    rcases List.mem_append.1 hx with h | h
    · exact ta x h y (by simp [hy])
    · rcases List.mem_append.1 h with h | h
      · exact ab x h y (by simp [hy])
      · exact bc x h y hy
  · refine hl _ (fun e he => ?_)
    rcases List.mem_append.1 he with h | h
    · simp [h]
    · rcases List.mem_append.1 h with h | h <;> simp [h]
theorem V.fine (h : V s a b c u v w) : Fine s.top a ∧ Fine a b ∧ Fine b c := by
  have := store_fine h.ok
  rw [h.lev] at this
  exact this
def Found (s x : Sr) : Prop := ∀ t, (t ∈ s.tms ∨ t = s.time) → Seen t (entsR s) (entsR x)
theorem V.look (h : V s a b c u v w) {t : Int} (ht : t ∈ s.tms ∨ t = s.time) {l : List Ent} (hl : ∀ x ∈ l, x ∈ s.top ++ (a ++ (b ++ c))) : Look s.tms l t :=
  ht.imp id (fun e x hx => by rw [e]; exact h.late x (hl x hx))
theorem down_V (h : V s a b c u v w) (hx : downR s = some x) : Val x ∧ x.top = [] ∧ x.time = s.time ∧ x.keep = s.keep ∧ x.tms = s.tms ∧ (∀ e ∈ entsR x, e ∈ entsR s) ∧ Found s x := by
  obtain ⟨f0, f1, f2⟩ := h.fine
  have hx' : intoR 2 { s with top := [] } s.top = some x := hx
  have tb : Newer s.top b := h.ta.sub (fun _ h => h) (fun y hy => by simp [hy])
  have tc : Newer s.top c := h.ta.sub (fun _ h => h) (fun y hy => by simp [hy])
  have ac : Newer a c := h.ab.sub (fun _ h => h) (fun y hy => by simp [hy])
  obtain ⟨a', b', c', u', v', w', rfl, k1, k2, k3, k4, k5, k6, k7⟩ := into2 (s := { s with top := [] }) h.lev h.sv f0 f1 f2 tb tc ac h.lb h.lc hx'
  have hen : entsR { s with top := [], lev := [a', b', c'], sv := [u', v', w'] } = a' ++ (b' ++ c') := by
    rw [entsR_of rfl]
    rfl
  have hes := entsR_of h.lev
  refine ⟨⟨a', b', c', u', v', w', rfl, rfl, h.keep, h.time, h.tms, runOk_nil, Nat.zero_le _, k1, k2, k3, fun x hx => (by cases hx), k4, k5, fun e he => h.late e (k6 e (by simpa using he))⟩, rfl, rfl, rfl, rfl, fun e he => ?_, fun t ht => ?_⟩
  · rw [hen] at he
    rw [hes]
    exact k6 e he
  · rw [hen, hes]
    exact k7 t (h.look ht (fun _ h => h))
theorem hold_V (h : V s a b c u v w) (hx : holdR s = some x) : V x a b c u v w ∧ x.top = s.top ∧ x.lev = s.lev ∧ x.time = s.time ∧ x.keep = s.keep ∧ (x.tms = s.tms ∨ x.tms = s.tms ++ [s.time]) ∧ s.time ∈ x.tms := by
  have ho := h.ok
  rw [← holdI_eq ho] at hx
  have hx2 := hx
  rw [holdI_eq ho] at hx2
  unfold holdI at hx
  by_cases hm : s.time ∈ s.tms
  · rw [if_pos hm] at hx
    injection hx with hx
    subst hx
    exact ⟨h, rfl, rfl, rfl, rfl, .inl rfl, hm⟩
  · rw [if_neg hm] at hx
    split at hx
    · injection hx with hx
      subst hx
      have hg : ¬ s.tms.getLast? = some s.time := fun e => hm (List.mem_of_getLast? e)
      have ht : timesR (s.tms ++ [s.time]) s.time = true := by
        cases hc : timesR (s.tms ++ [s.time]) s.time with
        | true => rfl
        | false =>
          unfold holdR at hx2
          rw [if_pos ho, if_neg hg] at hx2
          simp only at hx2
          rw [hc, if_neg (by decide)] at hx2
          cases hx2
      exact ⟨⟨h.lev, h.sv, h.keep, h.time, ht, h.top, h.top4, h.la, h.lb, h.lc, h.ta, h.ab, h.bc, h.late⟩, rfl, rfl, rfl, rfl, .inr rfl, by simp⟩
    · cases hx
theorem free_V {n : Int} (h : V s a b c u v w) (hx : freeR s n = some x) : V x a b c u v w ∧ x.top = s.top ∧ x.lev = s.lev ∧ x.time = s.time ∧ x.keep = s.keep ∧ x.tms = s.tms.filter (fun y => !decide (y = n)) := by
  unfold freeR at hx
  rw [if_pos h.ok] at hx
  simp only at hx
  split at hx
  · cases hx
  · injection hx with hx
    subst hx
    have ht : timesR (s.tms.filter (fun y => !decide (y = n))) s.time = true := by
      have := h.tms
      simp only [timesR, Bool.and_eq_true, decide_eq_true_eq] at this ⊢
      rw [asc1_iff] at this ⊢
      refine ⟨⟨fun t ht => ?_, this.1.2.sublist List.filter_sublist⟩, Nat.le_trans (List.length_filter_le _ _) this.2⟩
      exact this.1.1 t (List.mem_filter.1 ht).1
    exact ⟨⟨h.lev, h.sv, h.keep, h.time, ht, h.top, h.top4, h.la, h.lb, h.lc, h.ta, h.ab, h.bc, h.late⟩, rfl, rfl, rfl, rfl, rfl⟩
theorem join_V {l : Int} (h : V s a b c u v w) (hx : joinR s l = some x) : Val x ∧ x.top = s.top ∧ x.time = s.time ∧ x.keep = s.keep ∧ x.tms = s.tms ∧ (∀ e ∈ entsR x, e ∈ entsR s) ∧ Found s x := by
  obtain ⟨f0, f1, f2⟩ := h.fine
  have hes := entsR_of h.lev
  unfold joinR at hx
  split at hx
  case isFalse => cases hx
  rename_i hl
  obtain ⟨i, hi, rfl⟩ : ∃ i : Nat, i ≤ 1 ∧ l = i := ⟨l.toNat, by omega, by omega⟩
  rw [show ((i : Nat) : Int).toNat = i by omega] at hx
  obtain ⟨x0, hx0⟩ := setR_nil h.keep i
  have hset := hx0 s rfl
  obtain ⟨v0, he, hv0, -⟩ := setR_some hset
  have hxv : x0 = v0 := by
    have := congrArg Sr.sv he
    simp only at this
    have h1 : (s.sv.set i x0)[i]? = (s.sv.set i v0)[i]? := congrArg (fun q => q[i]?) this
    rw [List.getElem?_set_self (by rw [h.sv]; simp; omega), List.getElem?_set_self (by rw [h.sv]; simp; omega)] at h1
    exact Option.some.inj h1
  rw [hset] at hx
  simp only at hx
  have tb : Newer s.top b := h.ta.sub (fun _ h => h) (fun y hy => by simp [hy])
  have tc : Newer s.top c := h.ta.sub (fun _ h => h) (fun y hy => by simp [hy])
  have ta : Newer s.top a := h.ta.sub (fun _ h => h) (fun y hy => by simp [hy])
  have ac : Newer a c := h.ab.sub (fun _ h => h) (fun y hy => by simp [hy])
  have nil0 : LvOk s.keep i [] x0 := ⟨runOk_nil, Nat.zero_le _, by rw [hxv]; exact hv0⟩
  have hcase : i = 0 ∨ i = 1 := by omega
  rcases hcase with rfl | rfl
  · rw [h.lev, h.sv] at hx
    obtain ⟨b', c', v', w', rfl, k2, k3, k5, -, k6, k7⟩ := into1 (s := { s with lev := [[], b, c], sv := [x0, v, w] }) rfl rfl f1 f2 ac h.lc hx
    have hsub : ∀ y ∈ b' ++ c', y ∈ a ++ (b ++ c) := k6
    have hen : entsR { s with lev := [[], b', c'], sv := [x0, v', w'] } = s.top ++ (b' ++ c') := by
      rw [entsR_of rfl]
      rfl
    refine ⟨⟨[], b', c', x0, v', w', rfl, rfl, h.keep, h.time, h.tms, h.top, h.top4, nil0, k2, k3, h.ta.sub (fun _ h => h) (fun y hy => hsub y hy), fun x hx => (by cases hx), k5, fun e he => h.late e ?_⟩, rfl, rfl, rfl, rfl, fun e he => ?_, fun t ht => ?_⟩
    · rcases List.mem_append.1 he with g | g
      · exact List.mem_append_left _ g
      · exact List.mem_append_right _ (hsub e g)
    · rw [hen] at he
      rw [hes]
      rcases List.mem_append.1 he with g | g
      · exact List.mem_append_left _ g
      · exact List.mem_append_right _ (hsub e g)
    · rw [hen, hes]
      exact Seen.left h.ta (h.ta.sub (fun _ h => h) hsub) (k7 t (h.look ht (fun y hy => List.mem_append_right _ hy)))
  · rw [h.lev, h.sv] at hx
    obtain ⟨c', w', rfl, k3, k6, k7⟩ := into0 (s := { s with lev := [a, [], c], sv := [u, x0, w] }) rfl rfl f2 hx
    have hsub : ∀ y ∈ c', y ∈ b ++ c := k6
    have hsub2 : ∀ y ∈ a ++ c', y ∈ a ++ (b ++ c) := fun y hy => by
      rcases List.mem_append.1 hy with g | g
      · exact List.mem_append_left _ g
      · exact List.mem_append_right _ (hsub y g)
    have hen : entsR { s with lev := [a, [], c'], sv := [u, x0, w'] } = s.top ++ (a ++ c') := by
      rw [entsR_of rfl]
      rfl
    refine ⟨⟨a, [], c', u, x0, w', rfl, rfl, h.keep, h.time, h.tms, h.top, h.top4, h.la, nil0, k3, h.ta.sub (fun _ h => h) hsub2, h.ab.sub (fun _ h => h) hsub, fun x hx => (by cases hx), fun e he => h.late e ?_⟩, rfl, rfl, rfl, rfl, fun e he => ?_, fun t ht => ?_⟩
    · rcases List.mem_append.1 he with g | g
      · exact List.mem_append_left _ g
      · exact List.mem_append_right _ (hsub2 e g)
    · rw [hen] at he
      rw [hes]
      rcases List.mem_append.1 he with g | g
      · exact List.mem_append_left _ g
      · exact List.mem_append_right _ (hsub2 e g)
    · rw [hen, hes]
      have e1 : Seen t (a ++ (b ++ c)) (a ++ c') := Seen.left h.ab (h.ab.sub (fun _ h => h) hsub) (k7 t (h.look ht (fun y hy => List.mem_append_right _ (List.mem_append_right _ hy))))
      exact Seen.left h.ta (h.ta.sub (fun _ h => h) hsub2) e1
theorem timesR_mono {ts : List Int} {n m : Int} (h : timesR ts n = true) (hnm : n ≤ m) : timesR ts m = true := by
  simp only [timesR, Bool.and_eq_true, decide_eq_true_eq] at h ⊢
  rw [asc1_iff] at h ⊢
  refine ⟨⟨fun t ht => ?_, h.1.2⟩, h.2⟩
  obtain ⟨h1, h2, h3⟩ := h.1.1 t ht
  exact ⟨h1, by omega, h3⟩
theorem add_V {e : Ent} (h : V s a b c u v w) (he : e.time = s.time + 1) (hx : addR s e = some x) : Val x ∧ x.time = s.time + 1 ∧ x.keep = s.keep ∧ x.tms = s.tms ∧ entOk e = true ∧ ∃ y, Found s y ∧ (∀ z ∈ entsR y, z ∈ entsR s) ∧ ∀ z, z ∈ entsR x ↔ z = e ∨ z ∈ entsR y := by
  unfold addR at hx
  split at hx
  case isFalse => cases hx
  rename_i hc
  simp only [Bool.and_eq_true] at hc
  have hek := hc.2
  have key : ∀ {y : Sr}, Val y → y.top.length ≤ 3 → y.time = s.time → y.keep = s.keep → y.tms = s.tms → (∀ z ∈ entsR y, z ∈ entsR s) → Found s y → x = { y with top := joinL [e] y.top, time := e.time } →
      Val x ∧ x.time = s.time + 1 ∧ x.keep = s.keep ∧ x.tms = s.tms ∧ entOk e = true ∧ ∃ y, Found s y ∧ (∀ z ∈ entsR y, z ∈ entsR s) ∧ ∀ z, z ∈ entsR x ↔ z = e ∨ z ∈ entsR y := by
    rintro y ⟨a', b', c', u', v', w', hy⟩ h3 ht hkp htm hsub hfd rfl
    have hty := entOk_time hek
    have hnew : Newer [e] (y.top ++ (a' ++ (b' ++ c'))) := fun p hp q hq _ => by
      rw [List.mem_singleton.1 hp]
      have := hy.late q hq
      omega
    have hf : Fine [e] y.top := fine_of (runOk_one hek) hy.top (hnew.sub (fun _ h => h) (fun q hq => by simp [hq])) (by simp; omega)
    have hmem : ∀ z, z ∈ joinL [e] y.top ↔ z = e ∨ z ∈ y.top := fun z => by rw [joinL_iff]; simp
    have hey := entsR_of hy.lev
    have hex : entsR { y with top := joinL [e] y.top, time := e.time } = joinL [e] y.top ++ (a' ++ (b' ++ c')) := entsR_of hy.lev
    refine ⟨⟨a', b', c', u', v', w', hy.lev, hy.sv, hy.keep, ⟨by simp only; omega, hty.2⟩, timesR_mono hy.tms (by simp only; omega), hf.run, ?_, hy.la, hy.lb, hy.lc, ?_, hy.ab, hy.bc, ?_⟩, he, hkp, htm, hek, y, hfd, hsub, fun z => ?_⟩
    · simp only
      rw [(joinL_perm y.top [e]).length_eq]
      simp
      omega
    · intro p hp q hq hpq
      rcases (hmem p).1 hp with rfl | hp
      · exact hnew p (by simp) q (List.mem_append_right _ hq) hpq
      · exact hy.ta p hp q hq hpq
    · intro z hz
      simp only
      rcases List.mem_append.1 hz with g | g
      · rcases (hmem z).1 g with rfl | g
        · exact Int.le_refl _
        · have := hy.late z (List.mem_append_left _ g)
          omega
      · have := hy.late z (List.mem_append_right _ g)
        omega
    · rw [hex, hey]
      simp only [List.mem_append, hmem]
      exact or_assoc
  by_cases h4 : 4 ≤ s.top.length
  · rw [if_pos h4] at hx
    cases hd : downR s with
    | none => rw [hd] at hx; cases hx
    | some y =>
      rw [hd] at hx
      injection hx with hx
      obtain ⟨k1, k2, k3, k4, k5, k6, k7⟩ := down_V h hd
      exact key k1 (by rw [k2]; simp) k3 k4 k5 k6 k7 hx.symm
  · rw [if_neg h4] at hx
    injection hx with hx
    exact key ⟨a, b, c, u, v, w, h⟩ (by omega) rfl rfl rfl (fun _ h => h) (fun t _ => (Same.refl t _).seen) hx.symm
theorem do_V {d : Dd} (h : V s a b c u v w) (hx : doR s d = some x) : Val x := by
  unfold doR at hx
  split at hx
  · exact (add_V h rfl hx).1
  split at hx
  · exact (add_V h rfl hx).1
  split at hx
  · exact ⟨a, b, c, u, v, w, (hold_V h hx).1⟩
  split at hx
  · exact ⟨a, b, c, u, v, w, (free_V h hx).1⟩
  split at hx
  · unfold letR at hx
    rw [if_pos h.ok] at hx
    exact (down_V h hx).1
  split at hx
  · exact (join_V h hx).1
  · cases hx
theorem doAll_V : ∀ (ds : List Dd) {s : Sr}, Val s → Val (doAll s ds)
  | [], s, h => h
  | d :: ds, s, h => by
    have e : doAll s (d :: ds) = doAll ((doR s d).getD s) ds := rfl
    rw [e]
    refine doAll_V ds ?_
    cases hd : doR s d with
    | none => exact h
    | some x =>
      obtain ⟨a, b, c, u, v, w, hv⟩ := h
      exact do_V hv hd
theorem sieveR_nil (k : Int) : sieveR [] k = ⟨⟨#[]⟩, ⟨#[]⟩, ⟨#[]⟩, [], k⟩ := by
  have h : brs 0 [] = [] := by rw [brs]
  unfold sieveR
  rw [show (500 : Nat) = 499 + 1 from rfl, bfs, h]
  show bfs 499 ([] ++ subs 0 []) _ = _
  rw [show ([] ++ subs 0 [] : List Fk) = [] from rfl]
  rfl
theorem newR_V {k : Int} (h : newR k = some s) : Val s := by
  unfold newR at h
  split at h
  · rename_i hk
    injection h with h
    subst h
    have hn : ∀ i, LvOk k i [] ⟨⟨#[]⟩, ⟨#[]⟩, ⟨#[]⟩, [], k⟩ := fun i => ⟨runOk_nil, Nat.zero_le _, by
      rw [sieveO, if_pos ⟨by decide, hk⟩]
      exact congrArg some (sieveR_nil k)⟩
    exact ⟨[], [], [], _, _, _, rfl, rfl, hk, ⟨Int.le_refl 0, show (0 : Int) ≤ 999 by decide⟩, show timesR [] 0 = true by decide, runOk_nil, Nat.zero_le _, hn 0, hn 1, hn 2, fun x hx => (by cases hx), fun x hx => (by cases hx), fun x hx => (by cases hx), fun e he => by simp at he⟩
  · cases h
end

end Go.Proofs.YtgoeenodllmdpaaGreat.B


namespace Go.Proofs.YtgoeenodllmdpaaGreat.B
open Go.RowKit Go.Proofs
set_option linter.unusedVariables false
set_option linter.unusedSimpArgs false
variable {E : Env}

theorem l71StoreM_ok (o N : Nat) (H : Hp) (hr : Rd H o N) (hN : N < 34359738368) :
    AC Tryz.prog E 147 [.pt o 0 0] H (fun v H' => ∃ s, MSt H H' v s ∧ Small s ∧ storeOk s = true ∧ Val s ∧ Dr o H H' ∧ Rd H' o (N + 400)) := by
  refine AC_by fol (tC_le tab2_ok) h_spec_l71Store ?_
  have hol := hr.lt
  simp [c_spec_l71Store]
  refine cg_ex (pick_ok o N 5 _ (hr.le (HLe.self _ _)) (by omega) (by omega)) ?_
  rintro v H1 ⟨n, rfl, hn, hd1, hr1, hlen⟩
  have b0 := hd1.2 H.length ⟨[[.nils, .nils, .nils, .int .i64 0, .int .i64 0, .nils]], 6, 28, false⟩ (by omega) (by simp)
  have bl := hd1.2 (H.length + 1) ⟨[[.int .i64 0], [.int .i64 1], [.int .i64 1], [.int .i64 2], [.int .i64 5]], 1, 3, false⟩ (by omega) (by simp)
  have hD1 : Dr o H H1 := (Fr.app (Fr.refl _ H) _).same hd1
  have hn5 : n < 5 := by omega
  have hnI : (n : Int) < 5 := by omega
  have hrow : ∃ k : Int, (0 ≤ k ∧ k ≤ 5) ∧ ([[.int .i64 0], [.int .i64 1], [.int .i64 1], [.int .i64 2], [.int .i64 5]] : List (List AV))[n]? = some [.int .i64 k] := by
    have : n = 0 ∨ n = 1 ∨ n = 2 ∨ n = 3 ∨ n = 4 := by omega
    rcases this with rfl | rfl | rfl | rfl | rfl <;> exact ⟨_, by constructor <;> decide, rfl⟩
  obtain ⟨k, hk05, hk⟩ := hrow
  simp [bl, hk, hnI]
  refine cg_ex (StoreNew_ok k H1) ?_
  intro v2 H2 hret
  obtain ⟨s0, hs0⟩ : ∃ s0, newR k = some s0 := by
    unfold newR
    rw [if_pos hk05]
    exact ⟨_, rfl⟩
  have hso : storeOk s0 = true := by
    obtain ⟨a, b, c, u, v, w, hv⟩ := newR_V hs0
    exact hv.ok
  rw [hs0] at hret
  obtain ⟨xa, xb, xc, xk, xt, xd, rfl, o1, o2, o3, o4, o5, o6⟩ := hret.shape
  simp [o1, o2, o3, o4, o5, o6]
  have hr2 := hr1.le hret.1
  have hl2 := hret.1.1
  have hl1 := hD1.len
  have hB := HLe.self H2 [some ⟨[[xa, xb, xc, xk, xt, xd]], 6, 28, false⟩]
  refine cg_ex (l71Deeds_ok o _ 30 _ (hr2.le hB) (by omega) (by omega)) ?_
  rintro dv H3 ⟨ds, hds, hdl, hdk, hd3, hr3⟩
  have esz2 : ∀ x ob, x = o → H2.at x = some ob → ob.esz = 2 ∨ ob.esz = 6 := by
    intro x ob hx ho
    obtain ⟨b, bs, p, h1, _⟩ := hr2
    rw [hx, h1] at ho
    cases ho
    exact .inl rfl
  have hmm : MSt H1 H2 (.ag [xa, xb, xc, xk, xt, xd]) s0 := by
    obtain ⟨_, w, hw, hm⟩ := hret
    cases hw
    exact hm
  have hm3 := hmm.frn ((Fr.app (Fr.refl (fun x => x = o) H2) [some ⟨[[xa, xb, xc, xk, xt, xd]], 6, 28, false⟩]).same hd3) esz2
  have hsm := newR_small hs0
  have c3 := hd3.2 H2.length _ (show ¬ H2.length = o by omega) (Hp.at_app_0.trans Hp.at_0)
  have b03 := hd3.2 H.length _ (show ¬ H.length = o by omega) (hB.2 _ _ (hret.1.2 _ _ b0))
  simp [c3]
  refine cg_ex (PastDo_ok _ dv s0 ds H3 hm3.st hsm.stB hds.rows (fun d hd => by have := hdk d hd; omega)) ?_
  intro v4 H4 hret4
  have hp : pastR s0 ds = some (doAll s0 ds) := by
    unfold pastR
    rw [if_pos (by rw [hso, Bool.true_and, decide_eq_true_iff]; omega)]
  rw [hp] at hret4
  obtain ⟨ya, yb, yc, yk, yt, yd, rfl, p1, p2, p3, p4, p5, p6⟩ := hret4.shape
  have c4 := hret4.1.2 _ _ c3
  have b04 := hret4.1.2 _ _ b03
  have u4 := Hp.at_lt c4
  have u04 := Hp.at_lt b04
  have hl1' := Hp.at_lt b0
  have m0 : H2.length ≠ H.length := by omega
  simp [p1, p2, p3, p4, p5, p6, c4, b04, Hp.at_set, Hp.at_set_ne, List.length_set, u4, u04, m0, m0.symm]
  obtain ⟨W, hW⟩ : ∃ W : Option Ob, W = some ⟨[[ya, yb, yc, yk, yt, yd]], 6, 28, false⟩ := ⟨_, rfl⟩
  rw [← hW]
  have hF := ((Fr.refl (fun x => x = H2.length ∨ x = H.length) H4).set (o := H2.length) (.inl (.inl rfl)) W).set (o := H.length) (.inl (.inr rfl)) W
  have e6 : ∀ x ob, (x = H2.length ∨ x = H.length) → H4.at x = some ob → ob.esz = 2 ∨ ob.esz = 6 := by
    intro x ob hx ho
    rcases hx with h | h
    · rw [h, c4] at ho; cases ho; exact .inr rfl
    · rw [h, b04] at ho; cases ho; exact .inr rfl
  have hm5 : MSt H3 H4 (.ag [ya, yb, yc, yk, yt, yd]) (doAll s0 ds) := by
    obtain ⟨_, w, hw, hm⟩ := hret4
    cases hw
    exact hm
  have hB1 := hB.1
  have hd31 := hd3.len
  refine ⟨doAll s0 ds, (hm5.frn hF e6).base (by omega), pastR_small hp, (by
    obtain ⟨a, b, c, u, v, w, hv⟩ := doAll_V ds (newR_V hs0)
    exact hv.ok), doAll_V ds (newR_V hs0), ((((hD1.le_fr hret.1).app _).same hd3).le_fr hret4.1).trans hF (fun x hx => .inr (by rcases hx with h | h <;> omega)), Rd.mono ((hr3.le hret4.1).fr hF (by omega) (fun x ob hx ho => by have := e6 x ob hx ho; omega)) (by omega)⟩

end Go.Proofs.YtgoeenodllmdpaaGreat.B


namespace Go.Proofs.YtgoeenodllmdpaaGreat.B
open Go.RowKit Go.Proofs
set_option linter.unusedVariables false
set_option linter.unusedSimpArgs false
variable {E : Env}

theorem addBs_l (d : Nat) : ∀ (gs : List (List ByteArray)) (b : Bool) (s : Sv), (addBs d b s gs).l.size ≤ s.l.size + gs.length
  | [], b, s => Nat.le_refl _
  | g :: gs, b, s => by
    have h := addBs_l d gs false (addB d b s g)
    have h2 : (addB d b s g).l.size = s.l.size + 1 := by
      simp only [addB, ByteArray.size_append]
      rfl
    simp only [addBs, List.length_cons]
    omega
theorem bfs_l : ∀ (n : Nat) (q : List Fk) (s : Sv), (∀ f ∈ q, f.1.length ≤ 24) → (bfs n q s).l.size ≤ s.l.size + n * 24
  | 0, q, s, h => by simp [bfs]
  | n + 1, [], s, h => by simp [bfs]
  | n + 1, (ks, d) :: q, s, h => by
    have hk : ks.length ≤ 24 := h (ks, d) (List.mem_cons_self ..)
    have h1 := bfs_l n (q ++ subs d (brs d ks)) (addBs d true s (brs d ks)) (fun f hf => (List.mem_append.1 hf).elim (fun hf => h f (List.mem_cons_of_mem _ hf)) (subs_len hk f))
    have h2 := addBs_l d (brs d ks) true s
    have h3 := (brs_sum _ d ks (Nat.le_refl _)).2
    simp only [bfs]
    omega
theorem sieveO_l {ks : List ByteArray} {keep : Int} {x : Sv} (h : sieveO ks keep = some x) : x.l.size ≤ 12000 := by
  unfold sieveO at h
  split at h
  · rename_i hc
    cases h
    have := bfs_l 500 [(ks, 0)] ⟨⟨#[]⟩, ⟨#[]⟩, ⟨#[]⟩, [], keep⟩ (fun f hf => by
      simp at hf
      subst hf
      exact (keysOk_good hc.1).2)
    have e : (⟨#[]⟩ : ByteArray).size = 0 := rfl
    simp only [e] at this
    unfold sieveR
    omega
  · cases h
theorem storeOk_l0 {s : Sr} (h : storeOk s = true) (h3 : 0 < s.sv.length) : s.sv[0].l.size ≤ 12000 := by
  simp only [storeOk, Bool.and_eq_true, decide_eq_true_eq] at h
  have h0 := h.2.1.1
  simp only [levelOk, Bool.and_eq_true, decide_eq_true_eq] at h0
  have := sieveO_l h0.2
  rwa [getD_get _ h3] at this
theorem MSt.appT {H0 H H' : Hp} {a a' d : AV} {ol os : Nat} {s : Sr} {tp : List Ent} (h : MSt H0 H (.ag [a, .sl ol 0 3, .sl os 0 3, .int .i64 s.keep, .int .i64 s.time, d]) s) (hf : Fr a.of H H') (ha : Ents H' a' tp) :
    St H' (.ag [a', .sl ol 0 3, .sl os 0 3, .int .i64 s.keep, .int .i64 s.time, d]) { s with top := tp } := by
  obtain ⟨a2, ol2, os2, d2, lr, sr, hv, ha2, hlv, hlr, hsv, hsr, hd2, hdo2, hol, hos, hl3, hs3, hoff⟩ := h
  simp only [stAV, hl3, hs3, AV.ag.injEq, List.cons.injEq, AV.sl.injEq, and_true, true_and] at hv
  obtain ⟨rfl, rfl, rfl, rfl⟩ := hv
  have n4 : ∀ {e : Nat}, e ≠ 4 → ∀ x ob, a.of x → H.at x = some ob → ob.esz ≠ e := fun he x ob hx ho => by rw [ha2.1.esz hx ho]; exact he.symm
  refine ⟨a', .sl ol 0 3, .sl os 0 3, d, lr, sr, rfl, ha, ?_, ?_, ?_, All2.mono (fun row sv h => ?_) hsr, Rows.frz hd2.ints hf (n4 (by simp))⟩
  · rw [← hl3]
    exact Rows.frz hlv.rows hf (n4 (by simp))
  · have key : ∀ {lr : List (List AV)} {ls : List (List Ent)}, All2 (LvRow H) lr ls → (∀ y, a.of y → ∀ u, [u] ∈ lr → ¬ u.of y) → All2 (LvRow H') lr ls := by
      intro lr
      induction lr with
      | nil => intro ls h _; cases ls with
        | nil => trivial
        | cons => exact h.elim
      | cons r lr ih => intro ls h ho; cases ls with
        | nil => exact h.elim
        | cons l ls =>
          obtain ⟨⟨u, rfl, hu⟩, h2⟩ := h
          exact ⟨⟨u, rfl, Rows.fr hu hf (fun y hy hs => ho y hs u (List.mem_cons_self ..) hy)⟩, ih h2 (fun y hy w hw => ho y hy w (List.mem_cons_of_mem _ hw))⟩
    exact key hlr hoff.1
  · rw [← hs3]
    exact Rows.frz hsv.rows hf (n4 (by simp))
  · obtain ⟨r, e1, e2, _⟩ := h
    exact ⟨r, e1, Rows.frz e2 hf (n4 (by simp)), fun _ _ h => h⟩
def BoxS (H : Hp) (L : Nat) (s : Sr) : Prop := ∃ a b c d, H.at L = some ⟨[[a, b, c, .int .i64 s.keep, .int .i64 s.time, d]], 6, 28, false⟩ ∧ one a = true ∧ one b = true ∧ one c = true ∧ one d = true ∧ St H (.ag [a, b, c, .int .i64 s.keep, .int .i64 s.time, d]) s ∧ StB s
structure Spl (s : Sr) : Prop where
  val : storeOk s = true → Val s
  key : ∀ e ∈ s.top ++ s.lev.flatten, e.key.size ≤ 5
  sml : s.top.length ≤ 2000 ∧ s.lev.length ≤ 3 ∧ ∀ l ∈ s.lev, l.length ≤ 1000
theorem Small.sml {s : Sr} (h : Small s) : s.top.length ≤ 2000 ∧ s.lev.length ≤ 3 ∧ ∀ l ∈ s.lev, l.length ≤ 1000 := by
  obtain ⟨h1, h2, h3, h4, h5, h6, h7, h8, h9⟩ := h
  exact ⟨by have := h1.1; omega, by omega, fun l hl => (h2 l hl).1⟩
theorem runOk_key {r : List Ent} (h : runOk r = true) : ∀ e ∈ r, e.key.size ≤ 5 := by
  simp only [runOk, decide_eq_true_eq] at h
  intro e he
  obtain ⟨i, hi, rfl⟩ := List.getElem_of_mem he
  have := (h.1 i hi).1
  simp only [entOk, Bool.and_eq_true] at this
  exact keyOk_size this.1.1.1
theorem Val.key {s : Sr} (h : Val s) : ∀ e ∈ s.top ++ s.lev.flatten, e.key.size ≤ 5 := by
  obtain ⟨a, b, c, u, v, w, h⟩ := h
  rw [h.lev]
  intro e he
  simp only [List.flatten_cons, List.flatten_nil, List.append_nil, List.mem_append] at he
  rcases he with he | he | he | he
  · exact runOk_key h.top e he
  · exact runOk_key h.la.run e he
  · exact runOk_key h.lb.run e he
  · exact runOk_key h.lc.run e he
def SpJ (o N : Nat) (H : Hp) (L : Nat) (t : Tm) (H' : Hp) : Prop := t 2 = .pt H.length 0 0 ∧ t 3 = .pt L 0 0 ∧ H'.at H.length = some ⟨[[.nils, .nils, .nils, .int .i64 0, .int .i64 0, .nils]], 6, 28, false⟩ ∧ (∃ s, BoxS H' L s ∧ Spl s) ∧ Dr o H H' ∧ Rd H' o (N + 410)
theorem BoxS.of {H : Hp} {L : Nat} {a b c d : AV} {s : Sr} {R : List (List AV)} (hb : H.at L = some ⟨R, 6, 28, false⟩) (hs : St H (.ag [a, b, c, .int .i64 s.keep, .int .i64 s.time, d]) s) (hB : StB s) :
    BoxS (List.set H L (some ⟨[[a, b, c, .int .i64 s.keep, .int .i64 s.time, d]], 6, 28, false⟩)) L s := by
  have hs2 := hs.fr6 (Fr.one H L (some ⟨[[a, b, c, .int .i64 s.keep, .int .i64 s.time, d]], 6, 28, false⟩)) (fun y ob hy ho => by rw [hy, hb] at ho; cases ho; rfl)
  obtain ⟨a', b', c', d', e, n1, n2, n3, n4, _⟩ := hs.shape
  simp only [stAV, AV.ag.injEq, List.cons.injEq, and_true, true_and] at e
  obtain ⟨rfl, rfl, rfl, rfl⟩ := e
  exact ⟨a, b, c, d, Hp.at_set _ (Hp.at_lt hb), n1, n2, n3, n4, hs2, hB⟩
theorem SpJ.put {o N : Nat} {H K : Hp} {L : Nat} {t : Tm} {a b c d : AV} {s : Sr} {R : List (List AV)} (t2 : t 2 = .pt H.length 0 0) (t3 : t 3 = .pt L 0 0) (hb : K.at H.length = some ⟨[[.nils, .nils, .nils, .int .i64 0, .int .i64 0, .nils]], 6, 28, false⟩)
    (hc : K.at L = some ⟨R, 6, 28, false⟩) (hL : H.length < L) (ho : o < H.length) (hs : St K (.ag [a, b, c, .int .i64 s.keep, .int .i64 s.time, d]) s) (hB : StB s) (hV : Spl s) (hD : Dr o H K) {M : Nat} (hr : Rd K o M) (hM : M ≤ N + 410) :
    SpJ o N H L t (List.set K L (some ⟨[[a, b, c, .int .i64 s.keep, .int .i64 s.time, d]], 6, 28, false⟩)) := by
  have F := Fr.one K L (some ⟨[[a, b, c, .int .i64 s.keep, .int .i64 s.time, d]], 6, 28, false⟩)
  exact ⟨t2, t3, (Hp.at_set_ne (by omega)).trans hb, ⟨s, BoxS.of hc hs hB, hV⟩, hD.trans F (fun x hx => .inr (by omega)), Rd.mono (hr.fr F (by omega) (fun x ob hx ho => by rw [hx, hc] at ho; cases ho; simp)) hM⟩
theorem ok_head {s : Sr} (h : storeOk s = true) : s.lev.length = 3 ∧ s.sv.length = 3 ∧ (0 ≤ s.keep ∧ s.keep ≤ 5) ∧ (0 ≤ s.time ∧ s.time ≤ 999) ∧ timesR s.tms s.time = true ∧ runOk s.top = true := by
  simp only [storeOk, headOk, Bool.and_eq_true, decide_eq_true_eq] at h
  obtain ⟨⟨⟨⟨⟨⟨h1, h2⟩, h3⟩, h4⟩, h5⟩, h6, h7⟩, h8⟩ := h
  exact ⟨h1, h2, h3, h4, h5, h6⟩
theorem spoil_tms {s : Sr} (h : storeOk { s with tms := s.tms ++ [s.time + 1] } = true) : Val { s with tms := s.tms ++ [s.time + 1] } := by
  have h5 := (ok_head h).2.2.2.2.1
  simp only [timesR, Bool.and_eq_true] at h5
  have := asc1_bnd _ _ _ h5.1 (s.time + 1) (by simp)
  omega
theorem spoil_sv {s : Sr} (h0 : storeOk s = true) (hl : 0 < s.lev.length) (hv : 0 < s.sv.length) (h : storeOk { s with sv := s.sv.set 0 { (s.sv[0]'hv) with l := (s.sv[0]'hv).l ++ ⟨#[97]⟩ } } = true) : False := by
  have lv : ∀ {q : Sr}, storeOk q = true → levelOk q 0 = true := fun {q} hq => by
    simp only [storeOk, Bool.and_eq_true, decide_eq_true_eq] at hq
    exact hq.2.1.1
  have a1 := lv h0
  have a2 := lv h
  simp only [levelOk, Bool.and_eq_true, decide_eq_true_eq] at a1 a2
  have e := a1.2.symm.trans a2.2
  rw [getD_get default hv, getD_get default (by simpa using hv)] at e
  simp only [List.getElem_set_self, Option.some.injEq] at e
  have e2 := congrArg (fun q : Sv => q.l.size) e
  simp only [ByteArray.size_append] at e2
  have : (⟨#[97]⟩ : ByteArray).size = 1 := rfl
  omega
theorem spoil_top {s : Sr} (h : storeOk { s with top := s.top ++ [⟨⟨#[]⟩, 0, false, 0⟩] } = true) : False := by
  have h6 := (ok_head h).2.2.2.2.2
  simp only [runOk, decide_eq_true_eq] at h6
  have := (h6.1 s.top.length (by simp)).1
  simp [entOk] at this
theorem lit2 {z : Nat} (hz : z < 2) : ∃ k : Int, (k < 0 ∨ 999 < k) ∧ I64 k ∧ ([[.int .i64 (-1)], [.int .i64 1000]] : List (List AV))[z]? = some [.int .i64 k] := by
  have : z = 0 ∨ z = 1 := by omega
  rcases this with rfl | rfl
  · exact ⟨-1, .inl (by decide), ⟨by decide, by decide⟩, rfl⟩
  · exact ⟨1000, .inr (by decide), ⟨by decide, by decide⟩, rfl⟩
set_option maxHeartbeats 1600000 in
theorem l71Spoilt_ok (o N : Nat) (H : Hp) (hr : Rd H o N) (hN : N < 34359738368) :
    AC Tryz.prog E 69 [.pt o 0 0] H (fun v H' => ∃ s, St H' v s ∧ StB s ∧ Spl s ∧ Dr o H H' ∧ Rd H' o (N + 410)) := by
  refine AC_by fol (tC_le tab2_ok) h_spec_l71Spoilt ?_
  have hol := hr.lt
  obtain ⟨H1, hH1⟩ : ∃ H1 : Hp, H1 = H ++ [some ⟨[[.nils, .nils, .nils, .int .i64 0, .int .i64 0, .nils]], 6, 28, false⟩] := ⟨_, rfl⟩
  have hle1 : HLe H H1 := by rw [hH1]; exact HLe.self _ _
  have b1 : H1.at H.length = some ⟨[[.nils, .nils, .nils, .int .i64 0, .int .i64 0, .nils]], 6, 28, false⟩ := by rw [hH1]; simp
  have hD1 : Dr o H H1 := hle1.fr
  simp [c_spec_l71Spoilt, ← hH1]
  refine cg_ex (l71StoreM_ok o N H1 (hr.le hle1) hN) ?_
  rintro v H2 ⟨s, hm2, hsm, hok, hval, hd2, hr2⟩
  obtain ⟨xa, xl, xs, xd, rfl, xn1, xn2, xdi⟩ := hm2.shape
  have b2 := hd2.2 _ _ (show ¬ H.length = o by omega) b1
  obtain ⟨H3, hH3⟩ : ∃ H3 : Hp, H3 = H2 ++ [some ⟨[[xa, .sl xl 0 3, .sl xs 0 3, .int .i64 s.keep, .int .i64 s.time, xd]], 6, 28, false⟩] := ⟨_, rfl⟩
  have hle3 : HLe H2 H3 := by rw [hH3]; exact HLe.self _ _
  have c3 : H3.at H2.length = some ⟨[[xa, .sl xl 0 3, .sl xs 0 3, .int .i64 s.keep, .int .i64 s.time, xd]], 6, 28, false⟩ := by rw [hH3]; simp
  have b3 := hle3.2 _ _ b2
  have hr3 := hr2.le hle3
  have hm3 := (hm2.le hle3).base hle1.1
  have hD3 : Dr o H H3 := (hD1.same hd2).le_fr hle3
  simp [xn1, xn2, ← hH3]
  refine cg_ex (pick_ok o _ 14 _ hr3 (by omega) (by omega)) ?_
  rintro v H4 ⟨n, rfl, hn, hd4, hr4, hlen⟩
  have l21 : H.length < H2.length := Hp.at_lt b2
  have b4 := hd4.2 _ _ (show ¬ H.length = o by omega) b3
  have c4 := hd4.2 _ _ (show ¬ H2.length = o by omega) c3
  have e2 : ∀ x ob, x = o → H3.at x = some ob → ob.esz = 2 ∨ ob.esz = 6 := by
    intro x ob hx ho
    obtain ⟨b, bs, p, h1, _⟩ := hr3
    rw [hx, h1] at ho
    cases ho
    exact .inl rfl
  have hm4 := hm3.frn hd4 e2
  have hD4 : Dr o H H4 := hD3.same hd4
  have u4 := Hp.at_lt b4
  have hS : ∀ y ob, y = H.length → H4.at y = some ob → ob.esz = 6 := fun y ob hy ho => by rw [hy, b4] at ho; cases ho; rfl
  simp
  refine c_split (fun hq => ?_) (fun hq => ?_) <;> simp at hq
  · simp [c4, b4, xn1, xn2, Hp.at_set, u4]
    have F := Fr.one H4 H.length (some ⟨[[xa, .sl xl 0 3, .sl xs 0 3, .int .i64 s.keep, .int .i64 s.time, xd]], 6, 28, false⟩)
    exact ⟨s, hm4.st.fr6 F hS, hsm.stB, ⟨fun _ => hval, hval.key, hsm.sml⟩, hD4.trans F (fun x hx => .inr (by omega)), Rd.mono (hr4.fr F (by omega) (fun x ob hx ho => by have := hS x ob hx ho; omega)) (by omega)⟩
  rw [W_skip]
  refine W_cut (tC_mono AC_mono) (SpJ o N H H2.length) ?_ ?_
  · simp
    refine cg_ex (pick_ok o _ 6 _ hr4 (by omega) (by omega)) ?_
    rintro v H5 ⟨q, rfl, hq6, hd5, hr5, hlen5⟩
    have b5 := hd5.2 _ _ (show ¬ H.length = o by omega) b4
    have c5 := hd5.2 _ _ (show ¬ H2.length = o by omega) c4
    have e4 : ∀ x ob, x = o → H4.at x = some ob → ob.esz = 2 ∨ ob.esz = 6 := by
      intro x ob hx ho
      obtain ⟨b, bs, p, h1, _⟩ := hr4
      rw [hx, h1] at ho
      cases ho
      exact .inl rfl
    have hm5 := hm4.frn hd5 e4
    have hD5 : Dr o H H5 := hD4.same hd5
    have u5 := Hp.at_lt c5
    simp
    refine c_split (fun q0 => ?_) (fun q0 => ?_) <;> simp at q0
    · simp
      refine cg_ex (pick_ok o _ 2 _ (hr5.le (HLe.self _ _)) (by omega) (by omega)) ?_
      rintro v H6 ⟨z, rfl, hz, hd6, hr6, hlen6⟩
      have b6 := hd6.2 _ _ (show ¬ H.length = o by omega) ((HLe.self _ _).2 _ _ b5)
      have c6 := hd6.2 _ _ (show ¬ H2.length = o by omega) ((HLe.self _ _).2 _ _ c5)
      have l6 := hd6.2 _ _ (show ¬ H5.length = o by omega) (Hp.at_app_0.trans Hp.at_0)
      have e5 : ∀ x ob, x = o → (H5 ++ [some ⟨[[.int .i64 (-1)], [.int .i64 1000]], 1, 3, false⟩] : Hp).at x = some ob → ob.esz = 2 ∨ ob.esz = 6 := by
        intro x ob hx ho
        obtain ⟨b, bs, p, h1, _⟩ := hr5.le (HLe.self H5 [some ⟨[[.int .i64 (-1)], [.int .i64 1000]], 1, 3, false⟩])
        rw [hx, h1] at ho
        cases ho
        exact .inl rfl
      have hm6 := (hm5.le (HLe.self _ _)).frn hd6 e5
      have hD6 : Dr o H H6 := (hD5.app _).same hd6
      have u6 := Hp.at_lt c6
      have hz2 : z < 2 := by omega
      have hzI : (z : Int) < 2 := by omega
      obtain ⟨k, hkb, hk64, hk⟩ := lit2 hz2
      obtain ⟨p1, p2, p3⟩ := hm6.parts
      simp [l6, hk, hzI, c6, u6]
      have hBs := hsm.stB
      exact SpJ.put (s := { s with time := k }) (by simp) (by simp) b6 c6 l21 hol (hm6.upd (tp := s.top) (ts := s.tms) k p1 p2 p3 (fun y h => h) (fun lr h _ => h)).st ⟨hBs.1, hBs.2.1, hBs.2.2.1, hBs.2.2.2.1, hBs.2.2.2.2.1, hBs.2.2.2.2.2.1, hk64, hBs.2.2.2.2.2.2.2.1, hBs.2.2.2.2.2.2.2.2⟩ ⟨fun h => by have := (ok_head h).2.2.2.1; simp only at this; omega, hval.key, hsm.sml⟩ hD6 hr6 (by omega)
    simp
    refine c_split (fun q1 => ?_) (fun q1 => ?_) <;> simp at q1
    · obtain ⟨p1, p2, p3⟩ := hm5.parts
      have ht := storeOk_time hok
      have hlt := (headI_parts (storeOk_ok hok).1).2.2.2.2.1
      simp [c5, ht]
      refine appG_one (bytes := 8) (R := s.tms.map intRow) p2.1 (by have := hsm.2.2.1; simp; omega) (fun v6 H6 g1 g2 g3 => ?_)
      have nd : ∀ {x : Nat} {ob : Ob}, H5.at x = some ob → ob.ety ≠ 3 → ¬ xd.of x := fun ho he hx => he (p2.1.ety hx ho)
      have b6 := g2.2 _ _ (nd b5 (by simp)) b5
      have c6 := g2.2 _ _ (nd c5 (by simp)) c5
      have u6 := Hp.at_lt c6
      have hl5 := hD5.len
      have g1' : OwnI H H6 v6 (s.tms ++ [s.time + 1]) := ⟨by simpa [intRow] using g1, fun y hy => (g3 y hy).elim (p2.2 y) (fun h => by omega)⟩
      have hm6 := hm5.app (ts := s.tms ++ [s.time + 1]) g2 g1' g3
      have hBs := hsm.stB
      simp [c6, u6, g1.rows.one, g1.rows.cells, g1.rows.cells1]
      refine SpJ.put (s := { s with tms := s.tms ++ [s.time + 1] }) (by simp) (by simp) b6 c6 l21 hol hm6.st ⟨hBs.1, hBs.2.1, hBs.2.2.1, hBs.2.2.2.1, by have := hsm.2.2.1; simp; omega, hBs.2.2.2.2.2.1, hBs.2.2.2.2.2.2.1, hBs.2.2.2.2.2.2.2.1, fun t ht => ?_⟩ ⟨spoil_tms, hval.key, hsm.sml⟩ (hD5.trans g2 (fun x hx => .inr (p2.2 x hx))) (hr5.fr2 g2 (fun x hx => by have := p2.2 x hx; omega)) (by omega)
      rcases List.mem_append.1 ht with h | h
      · exact hBs.2.2.2.2.2.2.2.2 t h
      · rw [List.mem_singleton.1 h]
        exact ⟨by omega, by omega⟩
    simp
    refine c_split (fun q2 => ?_) (fun q2 => ?_) <;> simp at q2
    · obtain ⟨a', b', c', d', lr, sr, e, f1, f2, f3, f4, f5, f6⟩ := hm5.st
      simp only [stAV, AV.ag.injEq, List.cons.injEq, and_true, true_and] at e
      obtain ⟨rfl, rfl, rfl, rfl⟩ := e
      have hlr3 : lr.length = 3 := by rw [f3.length]; exact hsm.2.2.2.2.2.2.2.1
      have hBs := hsm.stB
      simp [c5]
      refine cutG_from f2 1 rfl (by omega) (fun u g1 g2 => ?_)
      simp [c5, u5, g1.one, g1.cells, g1.cells1]
      exact SpJ.put (s := { s with lev := s.lev.drop 1 }) (by simp) (by simp) b5 c5 l21 hol ⟨xa, u, .sl xs 0 3, xd, lr.drop 1, sr, rfl, f1, g1, All2.drop f3 1, f4, f5, f6⟩ ⟨hBs.1, fun es he => hBs.2.1 es (List.mem_of_mem_drop he), by have := hBs.2.2.1; simp; omega, hBs.2.2.2⟩ ⟨fun h => by have := (ok_head h).1; have h3 := hsm.2.2.2.2.2.2.2.1; simp at this; omega, fun e he => hval.key e (by
        rcases List.mem_append.1 he with h | h
        · exact List.mem_append_left _ h
        · obtain ⟨l, h1, h2⟩ := List.mem_flatten.1 h
          exact List.mem_append_right _ (List.mem_flatten.2 ⟨l, List.mem_of_mem_drop h1, h2⟩)), hsm.sml.1, by have := hsm.sml.2.1; simp; omega, fun l hl => hsm.sml.2.2 l (List.mem_of_mem_drop hl)⟩ hD5 hr5 (by omega)
    simp
    refine c_split (fun q3 => ?_) (fun q3 => ?_) <;> simp at q3
    · obtain ⟨a2, ol2, os2, d2, lr, sr, hv, ha2, hlv, hlr, hsv, hsr, hd2', hdo2, hol2, hos2, hl3, hs3, hoff⟩ := hm5
      simp only [stAV, hl3, hs3, AV.ag.injEq, List.cons.injEq, AV.sl.injEq, and_true, true_and] at hv
      obtain ⟨rfl, rfl, rfl, rfl⟩ := hv
      have hsv' := hsv
      obtain ⟨e2, obs, j1, j2, j3, j4, j5, j6⟩ := hsv'.ob
      have hsr3 : sr.length = 3 := by omega
      obtain ⟨x0, hx0⟩ : ∃ x0, x0 = s.sv[0]'(by omega) := ⟨_, rfl⟩
      obtain ⟨r0, hr0, hr1, _⟩ := hsr.get 0 (by omega) (by omega)
      rw [← hx0] at hr0 hr1
      have hx0l : x0.l.size ≤ 12000 := by rw [hx0]; exact storeOk_l0 hok (by omega)
      have hsz : x0.l.size + (⟨#[97]⟩ : ByteArray).size ≤ 9223372036854775807 := by
        have : (⟨#[97]⟩ : ByteArray).size = 1 := rfl
        omega
      have j7 : obs.rows[0]? = some [.str x0.l, .str x0.m, .str x0.f, r0, .int .i64 x0.k] := by
        have : (obs.rows.take sr.length)[0]? = sr[0]? := by rw [j6]
        rw [List.getElem?_take, if_pos (by omega)] at this
        rw [this, List.getElem?_eq_getElem (by omega), hr0]
      have u1 := Hp.at_lt j1
      simp [c5, j1, j2, j3, j7, hsz, u1]
      obtain ⟨K, hK⟩ : ∃ K : Hp, K = List.set H5 xs (some ⟨obs.rows.set 0 [.str (x0.l ++ ⟨#[97]⟩), .str x0.m, .str x0.f, r0, .int .i64 x0.k], 5, obs.ety, false⟩) := ⟨_, rfl⟩
      rw [← hK]
      have F : Fr (fun y => y = xs) H5 K := by rw [hK]; exact Fr.one _ _ _
      have jK : K.at xs = some { obs with rows := obs.rows.set 0 [.str (x0.l ++ ⟨#[97]⟩), .str x0.m, .str x0.f, r0, .int .i64 x0.k] } := by rw [hK, Hp.at_set _ u1, ← j2, ← j3]
      have n5 : ∀ {e : Nat}, e ≠ 5 → ∀ x ob, x = xs → H5.at x = some ob → ob.esz ≠ e := fun he x ob hx ho => by
        rw [hx, j1] at ho
        cases ho
        omega
      have ne6 : ∀ {x : Nat} {ob : Ob}, H5.at x = some ob → ob.esz = 6 → ¬ x = xs := fun ho he hx => by
        rw [hx, j1] at ho
        cases ho
        omega
      have hsvK := hsv.setRow j1 0 _ jK
      have hBs := hsm.stB
      refine ⟨by simp, by simp, F.2 _ _ (ne6 b5 rfl) b5, ⟨{ s with sv := s.sv.set 0 { x0 with l := x0.l ++ ⟨#[97]⟩ } }, ⟨xa, .sl xl 0 3, .sl xs 0 3, xd, F.2 _ _ (ne6 c5 rfl) c5, xn1, by simp, by simp, xn2, ?_, hBs.1, hBs.2.1, hBs.2.2.1, by simpa using hBs.2.2.2.1, hBs.2.2.2.2.1, fun y hy => ?_, hBs.2.2.2.2.2.2⟩, ⟨fun h => by rw [hx0] at h; exact (spoil_sv hok (by have := hsm.2.2.2.2.2.2.2.1; omega) (by omega) h).elim, hval.key, hsm.sml⟩⟩, hD5.trans F (fun x hx => .inr (by omega)), Rd.mono (hr5.fr2 F (fun x hx => by omega)) (by omega)⟩
      · refine ⟨xa, .sl xl 0 3, .sl xs 0 3, xd, lr, sr.set 0 [.str (x0.l ++ ⟨#[97]⟩), .str x0.m, .str x0.f, r0, .int .i64 x0.k], rfl, Rows.frz ha2.ents F (n5 (by simp)), ?_, All2.mono (fun _ _ h => h.fr F (n5 (by simp))) hlr, ?_, All2.set (All2.mono (fun row sv h => ?_) hsr) 0 ⟨r0, rfl, Rows.frz hr1 F (n5 (by simp)), fun _ _ h => h⟩, Rows.frz hd2'.ints F (n5 (by simp))⟩
        · rw [← hl3]
          exact Rows.frz hlv.rows F (n5 (by simp))
        · rw [← hs3]
          exact hsvK.rows
        · obtain ⟨r, e1, e2, _⟩ := h
          exact ⟨r, e1, Rows.frz e2 F (n5 (by simp)), fun _ _ h => h⟩
      · rcases List.mem_or_eq_of_mem_set hy with h | h
        · exact hBs.2.2.2.2.2.1 y h
        · rw [h]
          exact hBs.2.2.2.2.2.1 x0 (by rw [hx0]; exact List.getElem_mem _)
    simp
    refine c_split (fun q4 => ?_) (fun q4 => ?_) <;> simp at q4
    · obtain ⟨a', b', c', d', lr, sr, e, f1, f2, f3, f4, f5, f6⟩ := hm5.st
      simp only [stAV, AV.ag.injEq, List.cons.injEq, and_true, true_and] at e
      obtain ⟨rfl, rfl, rfl, rfl⟩ := e
      have hBs := hsm.stB
      simp [c5, u5]
      exact SpJ.put (s := { s with keep := 6 }) (by simp) (by simp) b5 c5 l21 hol ⟨xa, _, _, xd, lr, sr, rfl, f1, f2, f3, f4, f5, f6⟩ ⟨hBs.1, hBs.2.1, hBs.2.2.1, hBs.2.2.2.1, hBs.2.2.2.2.1, hBs.2.2.2.2.2.1, hBs.2.2.2.2.2.2.1, ⟨by simp, by simp⟩, hBs.2.2.2.2.2.2.2.2⟩ ⟨fun h => by have := (ok_head h).2.2.1; simp at this, hval.key, hsm.sml⟩ hD5 hr5 (by omega)
    · obtain ⟨p1, p2, p3⟩ := hm5.parts
      simp [c5]
      refine appG_one (bytes := 40) (R := s.top.map entRow) p1.1 (by have := hsm.1.1; simp; omega) (fun v6 H6 g1 g2 g3 => ?_)
      have nd : ∀ {x : Nat} {ob : Ob}, H5.at x = some ob → ob.ety ≠ 99 → ¬ xa.of x := fun ho he hx => he (p1.1.ety hx ho)
      have b6 := g2.2 _ _ (nd b5 (by simp)) b5
      have c6 := g2.2 _ _ (nd c5 (by simp)) c5
      have u6 := Hp.at_lt c6
      have g1' : Ents H6 v6 (s.top ++ [⟨⟨#[]⟩, 0, false, 0⟩]) := by
        have := g1.rows
        simpa [entRow, Ents] using this
      have hBs := hsm.stB
      simp [c6, u6, g1.rows.one, g1.rows.cells, g1.rows.cells1]
      refine SpJ.put (s := { s with top := s.top ++ [⟨⟨#[]⟩, 0, false, 0⟩] }) (by simp) (by simp) b6 c6 l21 hol (hm5.appT g2 g1') ⟨⟨by have := hsm.1.1; simp; omega, fun e he => ?_⟩, hBs.2⟩ ⟨fun h => (spoil_top h).elim, fun e he => by
        rcases List.mem_append.1 he with h | h
        · rcases List.mem_append.1 h with h | h
          · exact hval.key e (List.mem_append_left _ h)
          · rw [List.mem_singleton.1 h]
            exact Nat.zero_le _
        · exact hval.key e (List.mem_append_right _ h), by have := hsm.1.1; simp; omega, hsm.sml.2⟩ (hD5.trans g2 (fun x hx => .inr (p1.2 x hx))) (hr5.fr2 g2 (fun x hx => by have := p1.2 x hx; omega)) (by omega)
      rcases List.mem_append.1 he with h | h
      · exact hBs.1.2 e h
      · rw [List.mem_singleton.1 h]
        exact ⟨by show (0 : Nat) < _; omega, ⟨by simp, by simp⟩, ⟨by simp, by simp⟩⟩
  rintro t H5 ⟨t2, t3, b5, ⟨s', ⟨a', b', c', d', c5, n1, n2, n3, n4, hs5, hB5⟩, hV5⟩, hD5, hr5⟩
  have u5 := Hp.at_lt b5
  simp [t2, t3, c5, b5, n1, n2, n3, n4, Hp.at_set, u5]
  have F := Fr.one H5 H.length (some ⟨[[a', b', c', .int .i64 s'.keep, .int .i64 s'.time, d']], 6, 28, false⟩)
  have hS5 : ∀ y ob, y = H.length → H5.at y = some ob → ob.esz = 6 := fun y ob hy ho => by rw [hy, b5] at ho; cases ho; rfl
  exact ⟨s', hs5.fr6 F hS5, hB5, hV5, hD5.trans F (fun x hx => .inr (by omega)), Rd.mono (hr5.fr F (by omega) (fun x ob hx ho => by have := hS5 x ob hx ho; omega)) (by omega)⟩

end Go.Proofs.YtgoeenodllmdpaaGreat.B


namespace Go.Proofs.YtgoeenodllmdpaaGreat.B
open Go.RowKit Go.Proofs
set_option linter.unusedVariables false
set_option linter.unusedSimpArgs false
variable {E : Env}

theorem toList_inj' {x y : ByteArray} (h : x.toList = y.toList) : x = y := by
  have := toList_beq x y
  rw [h] at this
  simpa using this.symm
theorem ltRuns_ok (a b : AV) (xs ys : List Ent) (H : Hp) (ha : Ents H a xs) (hb : Ents H b ys) (hx : xs.length < 9223372036854775807) : AC Tryz.prog E 17 [a, b] H (fun v H' => v = .bool (decide (xs = ys)) ∧ H' = H) := by
  refine AC_byp (CLe.refl _) h_laws_ltRuns (by simp) ?_
  have l1 := ha.len
  have l2 := hb.len
  simp [c_laws_ltRuns, l1, l2, ha.slc, hb.slc]
  refine c_split (fun hq => ?_) (fun hq => ?_) <;> simp at hq <;> simp
  · intro h
    subst h
    exact hq rfl
  · refine W_for (fun k t H' => ∃ i : Nat, i + k = xs.length ∧ t 0 = a ∧ t 1 = b ∧ t 5 = .int .i64 i ∧ (∀ j : Nat, j < i → xs[j]? = ys[j]?) ∧ HLe H H') xs.length ?_ AC_mono ?_
    · exact ⟨0, by simp⟩
    rintro k t H' ⟨i, hik, h0, h1, h5, hI, hle⟩
    simp [h0, h1, h5, l1, ha.slc]
    refine c_split (fun hq2 => ?_) (fun hq2 => ?_) <;> simp at hq2
    · have hw := wrapN (i := i) (by omega)
      obtain ⟨o1, i1, ob1, rfl, a1, a2, a3⟩ := (ha.le hle).get hq2
      obtain ⟨o2, i2, ob2, rfl, b1, b2, b3⟩ := (hb.le hle).get (j := i) (by omega)
      obtain ⟨m, hm⟩ : ∃ m, m = xs[i] := ⟨_, rfl⟩
      obtain ⟨n, hn⟩ : ∃ n, n = ys[i]'(by omega) := ⟨_, rfl⟩
      rw [← hm] at a3
      rw [← hn] at b3
      simp [h0, h1, h5, a1, a2, a3, b1, b2, b3, hq2, ← hq, entRow]
      refine c_split (fun hq3 => ?_) (fun hq3 => ?_) <;> simp at hq3 <;> simp [h0, h1, h5, hw, hle]
      · intro h
        subst h
        rw [← hn] at hm
        subst hm
        simp at hq3
      · refine ⟨k - 1, by omega, i + 1, by omega, by omega, fun j hj => ?_⟩
        rcases Nat.lt_or_ge j i with h | h
        · exact hI j h
        · have : j = i := by omega
          subst this
          rw [List.getElem?_eq_getElem hq2, List.getElem?_eq_getElem (by omega), ← hm, ← hn]
          obtain ⟨m1, m2, m3, m4⟩ := m
          obtain ⟨n1, n2, n3, n4⟩ := n
          simp at hq3 ⊢
          exact ⟨toList_inj' hq3.1, hq3.2.1, hq3.2.2.1, hq3.2.2.2⟩
    · simp [hle]
      apply List.ext_getElem?
      intro j
      rcases Nat.lt_or_ge j i with h | h
      · exact hI j h
      · rw [List.getElem?_eq_none (by omega), List.getElem?_eq_none (by omega)]
theorem ltSames_ok (a b : AV) (xs ys : List ByteArray) (H : Hp) (ha : Strs H a xs) (hb : Strs H b ys) (hx : xs.length < 4611686018427387904) : AC Tryz.prog E 175 [a, b] H (fun v H' => v = .bool (decide (xs = ys)) ∧ H' = H) := by
  refine AC_byp (tC_le tab2_ok) h_laws_ltSames (by simp) ?_
  have l1 := ha.len
  have l2 := hb.len
  simp [c_laws_ltSames, l1, l2, ha.slc, hb.slc]
  refine c_split (fun hq => ?_) (fun hq => ?_) <;> simp at hq <;> simp
  · intro h
    subst h
    exact hq rfl
  · refine W_for (fun k t H' => ∃ i : Nat, i + k = xs.length ∧ t 0 = a ∧ t 1 = b ∧ t 5 = .int .i64 i ∧ (∀ j : Nat, j < i → xs[j]? = ys[j]?) ∧ HLe H H') xs.length ?_ (tC_mono AC_mono) ?_
    · exact ⟨0, by simp⟩
    rintro k t H' ⟨i, hik, h0, h1, h5, hI, hle⟩
    simp [h0, h1, h5, l1, ha.slc]
    refine c_split (fun hq2 => ?_) (fun hq2 => ?_) <;> simp at hq2
    · have hw := wrapN (i := i) (by omega)
      obtain ⟨o1, i1, ob1, rfl, a1, a2, a3⟩ := (ha.le hle).get hq2
      obtain ⟨o2, i2, ob2, rfl, b1, b2, b3⟩ := (hb.le hle).get (j := i) (by omega)
      simp [h0, h1, h5, a1, a2, a3, b1, b2, b3, hq2, ← hq]
      refine c_split (fun hq3 => ?_) (fun hq3 => ?_) <;> simp at hq3 <;> simp [h0, h1, h5, hw, hle]
      · intro h
        subst h
        exact hq3 rfl
      · refine ⟨k - 1, by omega, i + 1, by omega, rfl, fun j hj => ?_⟩
        rcases Nat.lt_or_ge j i with h | h
        · exact hI j h
        · have : j = i := by omega
          subst this
          rw [List.getElem?_eq_getElem hq2, List.getElem?_eq_getElem (by omega), hq3]
    · simp [hle]
      apply List.ext_getElem?
      intro j
      rcases Nat.lt_or_ge j i with h | h
      · exact hI j h
      · rw [List.getElem?_eq_none (by omega), List.getElem?_eq_none (by omega)]

theorem ltInts_ok (a b : AV) (xs ys : List Int) (H : Hp) (ha : Ints H a xs) (hb : Ints H b ys) (hx : xs.length < 4611686018427387904) : AC Tryz.prog E 102 [a, b] H (fun v H' => v = .bool (decide (xs = ys)) ∧ H' = H) := by
  refine AC_byp (tC_le tab2_ok) h_laws_ltInts (by simp) ?_
  have l1 := ha.len
  have l2 := hb.len
  simp [c_laws_ltInts, l1, l2, ha.slc, hb.slc]
  refine c_split (fun hq => ?_) (fun hq => ?_) <;> simp at hq <;> simp
  · intro h
    subst h
    exact hq rfl
  · refine W_for (fun k t H' => ∃ i : Nat, i + k = xs.length ∧ t 0 = a ∧ t 1 = b ∧ t 5 = .int .i64 i ∧ (∀ j : Nat, j < i → xs[j]? = ys[j]?) ∧ HLe H H') xs.length ?_ (tC_mono AC_mono) ?_
    · exact ⟨0, by simp⟩
    rintro k t H' ⟨i, hik, h0, h1, h5, hI, hle⟩
    simp [h0, h1, h5, l1, ha.slc]
    refine c_split (fun hq2 => ?_) (fun hq2 => ?_) <;> simp at hq2
    · have hw := wrapN (i := i) (by omega)
      obtain ⟨o1, i1, ob1, rfl, a1, a2, a3⟩ := (ha.le hle).get hq2
      obtain ⟨o2, i2, ob2, rfl, b1, b2, b3⟩ := (hb.le hle).get (j := i) (by omega)
      simp [h0, h1, h5, a1, a2, a3, b1, b2, b3, hq2, ← hq]
      refine c_split (fun hq3 => ?_) (fun hq3 => ?_) <;> simp at hq3 <;> simp [h0, h1, h5, hw, hle]
      · intro h
        subst h
        exact hq3 rfl
      · refine ⟨k - 1, by omega, i + 1, by omega, rfl, fun j hj => ?_⟩
        rcases Nat.lt_or_ge j i with h | h
        · exact hI j h
        · have : j = i := by omega
          subst this
          rw [List.getElem?_eq_getElem hq2, List.getElem?_eq_getElem (by omega), hq3]
    · simp [hle]
      apply List.ext_getElem?
      intro j
      rcases Nat.lt_or_ge j i with h | h
      · exact hI j h
      · rw [List.getElem?_eq_none (by omega), List.getElem?_eq_none (by omega)]


end Go.Proofs.YtgoeenodllmdpaaGreat.B


namespace Go.Proofs.YtgoeenodllmdpaaGreat.B
open Go.RowKit Go.Proofs
set_option linter.unusedVariables false
set_option linter.unusedSimpArgs false
variable {E : Env}

theorem ltSieve_ok (r r' : AV) (s s' : Sv) (H : Hp) (hr : Strs H r s.r) (hr' : Strs H r' s'.r) (hx : s.r.length < 4611686018427387904) :
    AC Tryz.prog E 103 [svAV s r, svAV s' r'] H (fun v H' => v = .bool (decide (s = s')) ∧ H' = H) := by
  refine AC_byp (tC_le tabJ_ok) h_laws_ltSieve (by simp) ?_
  have ed : decide (s = s') = (decide (s.l = s'.l) && (decide (s.m = s'.m) && (decide (s.f = s'.f) && (decide (s.k = s'.k) && decide (s.r = s'.r))))) := by
    obtain ⟨x1, x2, x3, x4, x5⟩ := s
    obtain ⟨y1, y2, y3, y4, y5⟩ := s'
    simp only [Sv.mk.injEq, Bool.decide_and]
    cases decide (x1 = y1) <;> cases decide (x2 = y2) <;> cases decide (x3 = y3) <;> cases decide (x4 = y4) <;> cases decide (x5 = y5) <;> rfl
  rw [ed]
  obtain ⟨H1, hH1⟩ : ∃ H1 : Hp, H1 = H ++ [some ⟨[[.str s.l, .str s.m, .str s.f, r, .int .i64 s.k]], 5, 66, false⟩, some ⟨[[.str s'.l, .str s'.m, .str s'.f, r', .int .i64 s'.k]], 5, 66, false⟩] := ⟨_, rfl⟩
  have hle1 : HLe H H1 := by rw [hH1]; exact HLe.self _ _
  have b0 : H1.at H.length = some ⟨[[.str s.l, .str s.m, .str s.f, r, .int .i64 s.k]], 5, 66, false⟩ := by rw [hH1]; simp
  have b1 : H1.at (H.length + 1) = some ⟨[[.str s'.l, .str s'.m, .str s'.f, r', .int .i64 s'.k]], 5, 66, false⟩ := by rw [hH1]; simp
  simp [c_laws_ltSieve, svAV, Rows.one hr, Rows.one hr', ← hH1, b0, b1]
  by_cases e1 : s.l = s'.l
  · by_cases e2 : s.m = s'.m
    · by_cases e3 : s.f = s'.f
      · by_cases e4 : s.k = s'.k
        · simp [e1, e2, e3, e4, b0, b1]
          refine cg_use (ltSames_ok r r' s.r s'.r H1 (hr.le hle1) (hr'.le hle1) hx) ?_
          simp [hle1]
        · simp [e1, e2, e3, e4, b0, b1, hle1]
      · simp [e1, e2, e3, b0, b1, hle1]
    · simp [e1, e2, b0, b1, hle1]
  · simp [e1, hle1]
theorem pre_add {α : Type} {xs ys : List α} {i : Nat} (h : ∀ j, j < i → xs[j]? = ys[j]?) (hx : i < xs.length) (hy : i < ys.length) (he : xs[i] = ys[i]) : ∀ j, j < i + 1 → xs[j]? = ys[j]? := by
  intro j hj
  rcases Nat.lt_or_ge j i with h2 | h2
  · exact h j h2
  · have : j = i := by omega
    subst this
    rw [List.getElem?_eq_getElem hx, List.getElem?_eq_getElem hy, he]
theorem pre_all {α : Type} {xs ys : List α} {i : Nat} (h : ∀ j, j < i → xs[j]? = ys[j]?) (hx : xs.length ≤ i) (hl : xs.length = ys.length) : xs = ys := by
  apply List.ext_getElem?
  intro j
  rcases Nat.lt_or_ge j i with h2 | h2
  · exact h j h2
  · rw [List.getElem?_eq_none (by omega), List.getElem?_eq_none (by omega)]
set_option maxHeartbeats 1600000 in
theorem ltStore_ok (v v' : AV) (s s' : Sr) (H : Hp) (hs : St H v s) (hs' : St H v' s') (hb : StB s) (hb' : StB s') :
    AC Tryz.prog E 29 [v, v'] H (fun u H' => u = .bool (decide (s = s')) ∧ H' = H) := by
  obtain ⟨a, b, c, d, lr, sr, rfl, f1, f2, f3, f4, f5, f6⟩ := hs
  obtain ⟨a', b', c', d', lr', sr', rfl, g1, g2, g3, g4, g5, g6⟩ := hs'
  refine AC_byp (tC_le tabJ_ok) h_laws_ltStore (by simp) ?_
  obtain ⟨H1, hH1⟩ : ∃ H1 : Hp, H1 = H ++ [some ⟨[[a, b, c, .int .i64 s.keep, .int .i64 s.time, d]], 6, 28, false⟩, some ⟨[[a', b', c', .int .i64 s'.keep, .int .i64 s'.time, d']], 6, 28, false⟩] := ⟨_, rfl⟩
  have hle1 : HLe H H1 := by rw [hH1]; exact HLe.self _ _
  have b0 : H1.at H.length = some ⟨[[a, b, c, .int .i64 s.keep, .int .i64 s.time, d]], 6, 28, false⟩ := by rw [hH1]; simp
  have b1 : H1.at (H.length + 1) = some ⟨[[a', b', c', .int .i64 s'.keep, .int .i64 s'.time, d']], 6, 28, false⟩ := by rw [hH1]; simp
  have ll := f3.length
  have ll' := g3.length
  have ls := f5.length
  have ls' := g5.length
  have k1 := f2.len
  have k2 := g2.len
  have k3 := f4.len
  have k4 := g4.len
  rw [ll] at k1
  rw [ll'] at k2
  rw [ls] at k3
  rw [ls'] at k4
  have hB := hb.2.2.1
  have hB' := hb'.2.2.1
  have hC := hb.2.2.2.1
  have no : ∀ {p : Prop}, (s = s' → p) → ¬ p → decide (s = s') = false := fun h hp => decide_eq_false (fun e => hp (h e))
  simp [c_laws_ltStore, stAV, Rows.one f1, f2.one, f4.one, Rows.one f6, Rows.one g1, g2.one, g4.one, Rows.one g6, ← hH1, b0, b1]
  refine cg_use (ltRuns_ok a a' s.top s'.top H1 (f1.le hle1) (g1.le hle1) (by have := hb.1.1; omega)) ?_
  by_cases e1 : s.top = s'.top
  · simp [e1, b0, b1, k1, k2, f2.slc, g2.slc]
    by_cases e2 : s.lev.length = s'.lev.length
    · simp [e2, b0, b1, k3, k4, f4.slc, g4.slc]
      by_cases e3 : s.sv.length = s'.sv.length
      · simp [e3, b0, b1]
        by_cases e4 : s.keep = s'.keep
        · simp [e4, b0, b1]
          by_cases e5 : s.time = s'.time
          · simp [e5, b0, b1]
            refine cg_use (ltInts_ok d d' s.tms s'.tms H1 (f6.le hle1) (g6.le hle1) (by have := hb.2.2.2.2.1; omega)) ?_
            by_cases e6 : s.tms = s'.tms
            · simp [e6]
              refine W_for (fun m t H' => ∃ i : Nat, i + m = s.lev.length ∧ t 2 = .pt H.length 0 0 ∧ t 3 = .pt (H.length + 1) 0 0 ∧ t 5 = .int .i64 i ∧ H' = H1 ∧ (∀ j, j < i → s.lev[j]? = s'.lev[j]?)) s.lev.length ?_ (tC_mono AC_mono) ?_
              · exact ⟨0, by simp⟩
              rintro m t H' ⟨i, him, t2, t3, t5, rfl, hI⟩
              simp [t2, t3, t5, b0, b1, k1, k2, f2.slc, g2.slc]
              refine c_split (fun hq => ?_) (fun hq => ?_) <;> simp at hq
              · have hw := wrapN (i := i) (by omega)
                have hil : i < s.lev.length := by omega
                have hil' : i < s'.lev.length := by omega
                obtain ⟨o1, i1, ob1, rfl, x1, x2, x3⟩ := f2.get (j := i) (by omega)
                obtain ⟨u, hu, hue⟩ := f3.get i (by omega) hil
                obtain ⟨o2, i2, ob2, rfl, y1, y2, y3⟩ := g2.get (j := i) (by omega)
                obtain ⟨u', hu', hue'⟩ := g3.get i (by omega) hil'
                rw [hu] at x3
                rw [hu'] at y3
                have x1' := hle1.2 _ _ x1
                have y1' := hle1.2 _ _ y1
                have q1 : i < lr.length := by omega
                have q2 : i < lr'.length := by omega
                simp [t2, t3, t5, b0, b1, x1', x2, x3, y1', y2, y3, q1, q2]
                refine cg_use (ltRuns_ok u u' s.lev[i] s'.lev[i] H' (hue.le hle1) (hue'.le hle1) (by have := (hb.2.1 _ (List.getElem_mem hil)).1; omega)) ?_
                by_cases ez : s.lev[i] = s'.lev[i]
                · simp [ez, t2, t3, t5, hw]
                  exact ⟨m - 1, by omega, i + 1, by omega, by omega, pre_add hI hil hil' ez⟩
                · have hn := no (p := s.lev[i] = s'.lev[i]) (fun h => by simp [h]) ez
                  simp [ez, hn, hle1]
              have elev : s.lev = s'.lev := pre_all hI (by omega) e2
              simp
              refine W_for (fun m t H2 => ∃ i : Nat, i + m = s.sv.length ∧ t 2 = .pt H.length 0 0 ∧ t 3 = .pt (H.length + 1) 0 0 ∧ t 6 = .int .i64 i ∧ H2 = H' ∧ (∀ j, j < i → s.sv[j]? = s'.sv[j]?)) s.sv.length ?_ (tC_mono AC_mono) ?_
              · exact ⟨0, by simp [t2, t3]⟩
              clear t2 t3 t5 him hq hI
              rintro m t H2 ⟨i, him, t2, t3, t6, rfl, hI⟩
              simp [t2, t3, t6, b0, b1, k3, k4, f4.slc, g4.slc]
              refine c_split (fun hq => ?_) (fun hq => ?_) <;> simp at hq
              · have hw := wrapN (i := i) (by omega)
                have hil : i < s.sv.length := by omega
                have hil' : i < s'.sv.length := by omega
                obtain ⟨o1, i1, ob1, rfl, x1, x2, x3⟩ := f4.get (j := i) (by omega)
                obtain ⟨u, hu, hue, _⟩ := f5.get i (by omega) hil
                obtain ⟨o2, i2, ob2, rfl, y1, y2, y3⟩ := g4.get (j := i) (by omega)
                obtain ⟨u', hu', hue', _⟩ := g5.get i (by omega) hil'
                rw [hu] at x3
                rw [hu'] at y3
                have x1' := hle1.2 _ _ x1
                have y1' := hle1.2 _ _ y1
                have q1 : i < sr.length := by omega
                have q2 : i < sr'.length := by omega
                simp [t2, t3, t6, b0, b1, x1', x2, x3, y1', y2, y3, q1, q2]
                have hsk := ltSieve_ok (E := E) u u' s.sv[i] s'.sv[i] H2 (hue.le hle1) (hue'.le hle1) (by have := hb.2.2.2.2.2.1 _ (List.getElem_mem hil); omega)
                simp only [svAV] at hsk
                refine cg_use hsk ?_
                by_cases ez : s.sv[i] = s'.sv[i]
                · simp [ez, t2, t3, t6, hw]
                  exact ⟨m - 1, by omega, i + 1, by omega, by omega, pre_add hI hil hil' ez⟩
                · have hn := no (p := s.sv[i] = s'.sv[i]) (fun h => by simp [h]) ez
                  simp [ez, hn, hle1]
              have esv : s.sv = s'.sv := pre_all hI (by omega) e3
              have es : s = s' := by
                obtain ⟨z1, z2, z3, z4, z5, z6⟩ := s
                obtain ⟨w1, w2, w3, w4, w5, w6⟩ := s'
                simp only at e1 elev esv e4 e5 e6
                rw [e1, elev, esv, e4, e5, e6]
              simp [es, hle1]
            · simp [e6, no (fun h => by rw [h]) e6, hle1]
          · simp [e5, no (fun h => by rw [h]) e5, hle1]
        · simp [e4, no (fun h => by rw [h]) e4, hle1]
      · have e3I : ¬ (s.sv.length : Int) = (s'.sv.length : Int) := by omega
        simp [e3, e3I, no (fun h => by rw [h]) e3, hle1]
    · have e2I : ¬ (s.lev.length : Int) = (s'.lev.length : Int) := by omega
      simp [e2, e2I, no (fun h => by rw [h]) e2, hle1]
  · simp [e1, no (fun h => by rw [h]) e1, hle1]

end Go.Proofs.YtgoeenodllmdpaaGreat.B


namespace Go.Proofs.YtgoeenodllmdpaaGreat.B
open Go.RowKit
set_option linter.unusedVariables false
set_option linter.unusedSimpArgs false

end Go.Proofs.YtgoeenodllmdpaaGreat.B


namespace Go.Proofs.YtgoeenodllmdpaaGreat.B
open Go.RowKit Go.Proofs
set_option linter.unusedVariables false
set_option linter.unusedSimpArgs false
variable {E : Env}

theorem St.frE {S : Nat → Prop} {e : Nat} {H H' : Hp} {v : AV} {s : Sr} (h : St H v s) (hf : Fr S H H') (he : e ≠ 1 ∧ e ≠ 4 ∧ e ≠ 5) (hS : ∀ y ob, S y → H.at y = some ob → ob.esz = e) : St H' v s := by
  obtain ⟨a, b, c, d, lr, sr, e0, h1, h2, h3, h4, h5, h6⟩ := h
  have n : ∀ {k : Nat}, e ≠ k → ∀ y ob, S y → H.at y = some ob → ob.esz ≠ k := fun hk y ob hy ho => by rw [hS y ob hy ho]; exact hk
  exact ⟨a, b, c, d, lr, sr, e0, Rows.frz h1 hf (n he.2.1), Rows.frz h2 hf (n he.1), All2.mono (fun _ _ ⟨u, k1, k2⟩ => ⟨u, k1, Rows.frz k2 hf (n he.2.1)⟩) h3, Rows.frz h4 hf (n he.2.2), All2.mono (fun _ _ ⟨u, k1, k2, k3⟩ => ⟨u, k1, Rows.frz k2 hf (n he.1), k3⟩) h5, Rows.frz h6 hf (n he.1)⟩
end Go.Proofs.YtgoeenodllmdpaaGreat.B


namespace Go.Proofs.YtgoeenodllmdpaaGreat.B
open Go.RowKit Go.Proofs
set_option linter.unusedVariables false
set_option linter.unusedSimpArgs false
variable {E : Env}

end Go.Proofs.YtgoeenodllmdpaaGreat.B

