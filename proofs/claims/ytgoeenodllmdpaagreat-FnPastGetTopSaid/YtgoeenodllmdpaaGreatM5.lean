/- A part of the proof: The program's deeds, as function values. The program's store functions: a change of a copy. The reference's stores: deeds are done. The program's store functions. The reference's stores: the past. The program's deeds and its past. The program's past. What is found of a store that deeds have made is what they put last, in plain Lean. The program finds what was put last. The program's past, alone and with what is written; a new store. The reference's draws: deeds. The reference's stores: a new one. The reference's draws: stores. The reference's draws: stores. Stores that are drawn, and spoilt; runs and stores are compared. Stores that are spoilt. Stores are compared. Stores are compared, whole. What changes nothing may be left out, in plain Lean. Deeds that change something. A store and deeds are drawn. Stores, keys and values that are drawn. The law FnStorePutOther. The law FnPastIdle. The reference's past with what is written. Pasts that are drawn. The law FnPastGetTop. There is no condition. -/
import Derived.Test.YtgoeenodllmdpaaGreatM0
import Derived.Test.YtgoeenodllmdpaaGreatM1
import Derived.Test.YtgoeenodllmdpaaGreatM2
import Derived.Test.YtgoeenodllmdpaaGreatM3
import Derived.Test.YtgoeenodllmdpaaGreatM4
namespace Go.Proofs.YtgoeenodllmdpaaGreat.B
open Go.RowKit Go.Proofs
set_option linter.unusedVariables false
set_option linter.unusedSimpArgs false
variable {E : Env}
theorem FreeSays_ok (c : Nat) (t x : Int) (H : Hp) (hc : H.at c = some ⟨[[.int .i64 t]], 1, 3, false⟩) :
   AC Tryz.prog E 146 [.int .i64 x, .pt c 0 0] H (fun v H' => v = .bool (decide (x = t)) /\ H' = H) := by
 refine AC_byp (tC_le tabJ_ok) h_impl_StoreFree_1_1 (by simp) ?_
 simp [c_impl_StoreFree_1_1, hc]
theorem Free1_ok (o c : Nat) (t : Int) (s : Sr) (H0 H : Hp) (hs : PSt H0 H o s) (hle0 : HLe H0 H) (hsm : Small s) (hc : H0.at c = some ⟨[[.int .i64 t]], 1, 3, false⟩) :
   AC Tryz.prog E 144 [.pt o 0 0, .pt c 0 0] H (fun u H' => OpR H0 H o u H' (freeI s t)) := by
 obtain ⟨ho, a, ol, os, d, b0, hm⟩ := hs
 obtain ⟨p1, p2, p3⟩ := hm.parts
 have u0 := Hp.at_lt b0
 have uc := Hp.at_lt hc
 have hc1 := hle0.2 _ _ hc
 refine AC_by fol (tC_le tabJ_ok) h_impl_StoreFree_1 ?_
 have ts3 : s.tms.length <= 1000 := hsm.2.2.1
 have l1 := p2.ints.len
 simp [c_impl_StoreFree_1, b0, l1, p2.ints.slc]
 refine cg_ex (DeleteI_ok d s.tms 146 [.pt c 0 0] (fun x => decide (x = t)) H0 H p2 ts3 (fun x hx H' hF => FreeSays_ok c t x H' (hF.2 _ _ (fun h => by have := p2.2 _ h; omega) hc1)) (fun x => rfl)) ?_
 rintro v H2 ⟨g1, g2, g3⟩
 have nd : ¬ d.of o := fun h => by have := p2.1.ety h b0; simp at this
 have b2 := g1.2 _ _ nd b0
 have u2 := Hp.at_lt b2
 have hm2 := hm.app (ts := s.tms.filter fun x => !decide (x = t)) g1 g2 (fun y hy => .inl (g3 y hy))
 have l2 := g2.ints.len
 simp [b2, u2, Hp.at_set, g2.rows.one, g2.rows.cells, g2.rows.cells1, g2.ints.slc, l2]
 refine ⟨(hle0.fr_le g1 (fun y hy => p2.2 y hy)).set ho _, (g1.k4 (fun y ob hy hob => by rw [p2.1.esz hy hob]; simp)).trans (PSt.fr4 _ b2), ?_⟩
 by_cases htm : t ∈ s.tms
 · have hl : (s.tms.filter fun x => !decide (x = t)).length < s.tms.length := by
     rw [List.length_filter_lt_length_iff_exists]
     exact ⟨t, htm, by simp⟩
   rw [freeI, if_pos hl, decide_eq_true htm]
   exact ⟨rfl, PSt.of (s := { s with tms := s.tms.filter fun x => !decide (x = t) }) ho b2 hm2⟩
 · have hl : ¬ (s.tms.filter fun x => !decide (x = t)).length < s.tms.length := by
     rw [List.length_filter_lt_length_iff_exists]
     rintro ⟨x, hx, hn⟩
     have : x = t := by simpa using hn
     exact htm (this ▸ hx)
   rw [freeI, if_neg hl, decide_eq_false htm]
theorem Put1_ok (o ck cv : Nat) (k : ByteArray) (val : Int) (s : Sr) (H0 H : Hp) (hs : PSt H0 H o s) (hle0 : HLe H0 H) (hsm : Small s) (ht : IntKind.i64.wrap (s.time + 1) = s.time + 1) (hk : k.size < 4611686018427387904) (h1 : H0.at ck = some ⟨[[.str k]], 1, 9, false⟩) (h2 : H0.at cv = some ⟨[[.int .i64 val]], 1, 3, false⟩) :
   AC Tryz.prog E 119 [.pt o 0 0, .pt ck 0 0, .pt cv 0 0] H (fun u H' => OpR H0 H o u H' (writeI s ⟨k, val, false, s.time + 1⟩)) := by
 have e1 := hle0.2 _ _ h1
 have e2 := hle0.2 _ _ h2
 refine AC_by fol (tC_le tabJ_ok) h_impl_StorePut_1 ?_
 simp [c_impl_StorePut_1, e1, e2]
 refine cg_ex (write_ok o k val false 0 s H0 H hs hle0 hsm ht hk) ?_
 rintro v H2 hr
 simp
 exact hr
theorem Take1_ok (o ck : Nat) (k : ByteArray) (s : Sr) (H0 H : Hp) (hs : PSt H0 H o s) (hle0 : HLe H0 H) (hsm : Small s) (ht : IntKind.i64.wrap (s.time + 1) = s.time + 1) (hk : k.size < 4611686018427387904) (h1 : H0.at ck = some ⟨[[.str k]], 1, 9, false⟩) :
   AC Tryz.prog E 244 [.pt o 0 0, .pt ck 0 0] H (fun u H' => OpR H0 H o u H' (writeI s ⟨k, 0, true, s.time + 1⟩)) := by
 have e1 := hle0.2 _ _ h1
 refine AC_by fol (tC_le tabJ_ok) h_impl_StoreTake_1 ?_
 simp [c_impl_StoreTake_1, e1]
 refine cg_ex (write_ok o k 0 true 0 s H0 H hs hle0 hsm ht hk) ?_
 rintro v H2 hr
 simp
 exact hr
theorem Join1_ok (o c : Nat) (l : Int) (s : Sr) (H0 H : Hp) (hs : PSt H0 H o s) (hle0 : HLe H0 H) (hsm : Small s) (hc : H0.at c = some ⟨[[.int .i64 l]], 1, 3, false⟩) :
   AC Tryz.prog E 245 [.pt o 0 0, .pt c 0 0] H (fun u H' => OpR H0 H o u H' (joinSI s l)) := by
 obtain ⟨a, ol, os, d, obl, b0, p1, p2, k1, k2, k3⟩ := hs.parts
 have hc1 := hle0.2 _ _ hc
 refine AC_by fol (tC_le tabJ_ok) h_impl_StoreJoin_1 ?_
 simp [c_impl_StoreJoin_1, hc1, b0]
 by_cases h : 0 <= l /\ l <= 1
 · obtain ⟨i, rfl⟩ : ∃ i : Nat, l = i := ⟨l.toNat, by omega⟩
   have hi : i <= 1 := by omega
   obtain ⟨u, ku, hu⟩ := k3 i (by omega)
   have hi3 : i < 3 := by omega
   have hiI : (i : Int) < 3 := by omega
   have hi1 : (i : Int) <= 1 := h.2
   have hsl := hsm.lv i
   have hw : IntKind.i64.wrap ((i : Int) + 1) = ((2 - (1 - i) : Nat) : Int) := by
     rw [wrapN (by omega)]
     congr 1
     omega
   have hdef : joinSI s i = (pushI (1 - i) s (s.lev.getD i [])).bind fun x => setR x i [] := by
     rw [joinSI, if_pos h]
     rfl
   rw [hdef]
   obtain ⟨ll, hll⟩ : ∃ ll, ll = s.lev.getD i [] := ⟨_, rfl⟩
   rw [<- hll] at hu hsl ⊢
   simp [hi1, b0, hc1, k1, k2, ku, hiI, hi3, hw]
   refine cg_ex (pushP_ok o (1 - i) (by omega) u s ll H0 H hs hle0 hu hsl hsm) ?_
   rintro v H2 ⟨q1, q2, q3⟩
   cases hp : pushI (1 - i) s ll with
   | none =>
     rw [hp] at q3
     obtain rfl := q3
     simp
     exact ⟨q1, q2, rfl⟩
   | some x =>
     rw [hp] at q3
     obtain ⟨rfl, hx⟩ := q3
     have hc2 := q1.2 _ _ hc
     simp [hc2]
     refine cg_ex (put_ok o i .nils x [] H0 H2 hx q1 (.inl ⟨rfl, rfl⟩) ⟨by simp, fun e he => by cases he⟩ hi3 (fun y hy => hy.elim) (fun y hy => hy.elim)) ?_
     rintro v H3 ⟨y1, y2, y3⟩
     cases hr : setR x i [] with
     | some z =>
       rw [hr] at y3
       obtain ⟨rfl, hz⟩ := y3
       simp
       exact ⟨y1, q2.trans y2, rfl, hz⟩
     | none =>
       rw [hr] at y3
       obtain ⟨rfl, hz⟩ := y3
       simp
       exact ⟨y1, q2.trans y2, rfl⟩
 · have hf : (decide (0 <= l) && decide (l <= 1)) = false := by
     rw [<- Bool.not_eq_true, Bool.and_eq_true, decide_eq_true_iff, decide_eq_true_iff]
     exact h
   simp [hf]
   exact ⟨hle0, K4.refl _, by rw [joinSI, if_neg h]⟩
end Go.Proofs.YtgoeenodllmdpaaGreat.B

namespace Go.Proofs.YtgoeenodllmdpaaGreat.B
open Go.RowKit Go.Proofs
set_option linter.unusedVariables false
set_option linter.unusedSimpArgs false
variable {E : Env}
def RetQ (H0 H : Hp) (u : AV) (o : Option Sr) : Prop := HLe H0 H /\ match o with
 | some x => ∃ w, u = .tu [w, .bool true] /\ MSt H0 H w x /\ FarS H0.length H w x
 | none => u = .tu [zst, .bool false]
theorem RetQ.ret {H0 H : Hp} {u : AV} {o : Option Sr} (h : RetQ H0 H u o) : RetS H0 H u o := by
 obtain ⟨h1, h2⟩ := h
 cases o with
 | none => exact ⟨h1, h2⟩
 | some x =>
   obtain ⟨w, e, hm, _⟩ := h2
   exact ⟨h1, w, e, hm⟩
theorem RetQ.shape {H0 H : Hp} {u : AV} {o : Option Sr} (h : RetQ H0 H u o) : ∃ a b c k t d, u = .tu [.ag [a, b, c, k, t, d], .bool o.isSome] /\ one a = true /\ one b = true /\ one c = true /\ one k = true /\ one t = true /\ one d = true := h.ret.shape
theorem RetQ.fin {S : Nat -> Prop} {H0 H1 H2 H3 : Hp} {u : AV} {o : Option Sr} (h : RetQ H1 H2 u o) (hle : HLe H0 H1) (hf : Fr S H2 H3) (hS : ∀ x ob, S x -> H2.at x = some ob -> ob.esz = 6) (hS2 : ∀ x, S x -> H0.length <= x) : RetQ H0 H3 u o := by
 obtain ⟨h1, h2⟩ := h
 refine ⟨(hle.trans h1).fr_le hf hS2, ?_⟩
 cases o with
 | none => exact h2
 | some x =>
   obtain ⟨w, e, hm, hq⟩ := h2
   exact ⟨w, e, (hm.fr hf hS).base hle.1, (hq.fr hf (fun y hy => .inr (fun ob ho => hS y ob hy ho))).base hle.1⟩
def okThen (s : Sr) (r : Option Sr) : Option Sr := if storeOk s = true then r else none
set_option maxHeartbeats 1600000 in
theorem changed_ok (v : AV) (f : Nat) (caps : List AV) (s : Sr) (r : Option Sr) (H : Hp) (hs : St H v s) (hb : StB s) (hg : ∀ x, tabJ f (.pt x 0 0 :: caps) = none)
   (hf : storeOk s = true -> ∀ o B G, HLe H B -> PSt B G o s -> HLe B G -> AC Tryz.prog E f (.pt o 0 0 :: caps) G (fun u H' => OpR B G o u H' r)) (hx : storeOk s = true -> ∀ x, r = some x -> Small x) :
   AC Tryz.prog E 100 [v, .fn f caps] H (fun u H' => RetQ H H' u (okThen s r)) := by
 have hs0 := hs
 obtain ⟨a, b, c, d, rfl, n1, n2, n3, n4, hea, hed⟩ := hs.shape
 refine AC_by fol (tC_le tabJ_ok) h_impl_changed ?_
 obtain ⟨H1, hH1⟩ : ∃ H1 : Hp, H1 = H ++ [some ⟨[[a, b, c, .int .i64 s.keep, .int .i64 s.time, d]], 6, 28, false⟩, some ⟨[[.nils, .nils, .nils, .int .i64 0, .int .i64 0, .nils]], 6, 28, false⟩] := ⟨_, rfl⟩
 have hle1 : HLe H H1 := by rw [hH1]; exact HLe.self _ _
 have b0 : H1.at H.length = some ⟨[[a, b, c, .int .i64 s.keep, .int .i64 s.time, d]], 6, 28, false⟩ := by rw [hH1]; simp
 have b1 : H1.at (H.length + 1) = some ⟨[[.nils, .nils, .nils, .int .i64 0, .int .i64 0, .nils]], 6, 28, false⟩ := by rw [hH1]; simp
 have hl1 : H1.length = H.length + 2 := by rw [hH1]; simp
 have u1 := Hp.at_lt b1
 simp [c_impl_changed, n1, n2, n3, n4, <- hH1, b0]
 refine cg_use (implStoreOk_ok _ s H1 (hs0.le hle1) hb) ?_
 cases hso : storeOk s with
 | false =>
   simp [b1, Hp.at_set, u1, okThen, hso, RetQ]
   exact hle1.set (by omega) _
 | true =>
 have hsm := storeOk_small hso
 simp [b0]
 refine cg_ex (clone_ok _ s H1 (hs0.le hle1) hb hsm.2.2.2.2.2.2.2.1 hsm.2.2.2.2.2.2.2.2) ?_
 rintro v2 H2 ⟨hle2, hm2, -⟩
 obtain ⟨xa, xl, xs, xd, rfl, xn1, xn2, xdi⟩ := hm2.shape
 have b12 := hle2.2 _ _ b1
 obtain ⟨G, hG⟩ : ∃ G : Hp, G = H2 ++ [some ⟨[[xa, .sl xl 0 3, .sl xs 0 3, .int .i64 s.keep, .int .i64 s.time, xd]], 6, 28, false⟩] := ⟨_, rfl⟩
 have hleG : HLe H2 G := by rw [hG]; exact HLe.self _ _
 have bG : G.at H2.length = some ⟨[[xa, .sl xl 0 3, .sl xs 0 3, .int .i64 s.keep, .int .i64 s.time, xd]], 6, 28, false⟩ := by rw [hG]; simp
 simp [xn1, xn2, <- hG]
 have hps : PSt H1 G H2.length s := ⟨hle2.1, _, _, _, _, bG, hm2.le hleG⟩
 refine cg_ex (hf hso H2.length H1 G hle1 hps (hle2.trans hleG)) ?_ (hg _)
 rintro u H3 ⟨q1, q2, q3⟩
 have b3 := q1.2 _ _ b1
 have u3 := Hp.at_lt b3
 cases r with
 | none =>
   obtain rfl := q3
   simp [b3, u3, Hp.at_set, okThen, hso, RetQ]
   exact (hle1.trans q1).set (by omega) _
 | some x =>
   obtain ⟨rfl, hx3⟩ := q3
   have hsx := hx hso x rfl
   obtain ⟨ho, ya, yl, ys, yd, bo, hmx⟩ := hx3
   have p := hmx.parts
   simp [b3, bo, p.1.rows.one, p.2.1.rows.one]
   refine cg_ex (clone_ok _ x H3 hmx.st hsx.stB hsx.2.2.2.2.2.2.2.1 hsx.2.2.2.2.2.2.2.2) ?_
   rintro v4 H4 ⟨hle4, hm4, hq4⟩
   obtain ⟨za, zl, zs, zd, rfl, zn1, zn2, zdi⟩ := hm4.shape
   have b4 := hle4.2 _ _ b3
   have u4 := Hp.at_lt b4
   simp [zn1, zn2, b4, u4, Hp.at_set, okThen, hso, RetQ]
   have F := Fr.one H4 (H.length + 1) (some ⟨[[za, .sl zl 0 3, .sl zs 0 3, .int .i64 x.keep, .int .i64 x.time, zd]], 6, 28, false⟩)
   exact ⟨((hle1.trans q1).trans hle4).set (by omega) _, (hm4.fr F (fun y ob hy ho => by rw [hy, b4] at ho; cases ho; rfl)).base ((hle1.trans q1).1), (hq4.fr F (fun y hy => .inr (fun ob ho => by rw [hy, b4] at ho; cases ho; rfl))).base ((hle1.trans q1).1)⟩
end Go.Proofs.YtgoeenodllmdpaaGreat.B

namespace Go.Proofs.YtgoeenodllmdpaaGreat.B
open Go.RowKit Go.Proofs
set_option linter.unusedVariables false
set_option linter.unusedSimpArgs false
variable {E : Env}
theorem RetH.toS {H0 H : Hp} {u : AV} {s : Sr} {o : Option Sr} (h : RetH H0 H u s o) : ∃ w n ok, u = .tu [w, n, ok] /\ RetS H0 H (.tu [w, ok]) o := by
 obtain ⟨h1, h2⟩ := h
 cases o with
 | none => exact ⟨_, _, _, h2, h1, rfl⟩
 | some x =>
   obtain ⟨w, e, hm⟩ := h2
   exact ⟨_, _, _, e, h1, w, rfl, hm⟩
theorem l13Do_ok (v : AV) (s : Sr) (e : Dd) (H : Hp) (hs : St H v s) (hb : StB s) (hk : e.key.size < 4611686018427387904) :
   AC Tryz.prog E 72 [v, ddAV e] H (fun u H' => RetS H H' u (doR s e)) := by
 have hs0 := hs
 obtain ⟨a, b, c, d, rfl, n1, n2, n3, n4, hea, hed⟩ := hs.shape
 refine AC_by fol (tC_le tab2_ok) h_spec_l13Do ?_
 obtain ⟨H1, hH1⟩ : ∃ H1 : Hp, H1 = H ++ [some ⟨[[a, b, c, .int .i64 s.keep, .int .i64 s.time, d]], 6, 28, false⟩, some ⟨[[.int .i64 e.kind, .str e.key, .int .i64 e.num]], 3, 47, false⟩, some ⟨[[.nils, .nils, .nils, .int .i64 0, .int .i64 0, .nils]], 6, 28, false⟩] := ⟨_, rfl⟩
 have hle1 : HLe H H1 := by rw [hH1]; exact HLe.self _ _
 have b0 : H1.at H.length = some ⟨[[a, b, c, .int .i64 s.keep, .int .i64 s.time, d]], 6, 28, false⟩ := by rw [hH1]; simp
 have b1 : H1.at (H.length + 1) = some ⟨[[.int .i64 e.kind, .str e.key, .int .i64 e.num]], 3, 47, false⟩ := by rw [hH1]; simp
 have b2 : H1.at (H.length + 2) = some ⟨[[.nils, .nils, .nils, .int .i64 0, .int .i64 0, .nils]], 6, 28, false⟩ := by rw [hH1]; simp
 have hl1 : H1.length = H.length + 3 := by rw [hH1]; simp
 have u2 := Hp.at_lt b2
 have hs1 := hs0.le hle1
 simp [c_spec_l13Do, ddAV, n1, n2, n3, n4, <- hH1, b1]
 refine c_split (fun q0 => ?_) (fun q0 => ?_) <;> simp at q0
 · have hd : doR s e = putR s e.key e.num := by simp [doR, q0]
   simp [b0, b1]
   refine cg_ex (StorePut_ok _ s e.key e.num H1 hs1 hb hk) ?_
   intro v2 H2 hret
   obtain ⟨xa, xb, xc, xk, xt, xd, rfl, o1, o2, o3, o4, o5, o6⟩ := hret.shape
   have b22 := hret.1.2 _ _ b2
   have u22 := Hp.at_lt b22
   simp [o1, o2, o3, o4, o5, o6, b22, Hp.at_set, u22]
   rw [hd]
   have hF := Fr.one H2 (H.length + 2) (some ⟨[[xa, xb, xc, xk, xt, xd]], 6, 28, false⟩)
   exact hret.fin hle1 hF (fun x ob hx ho => by rw [hx, b22] at ho; cases ho; rfl) (fun x hx => by rw [hx]; omega)
 simp
 refine c_split (fun q1 => ?_) (fun q1 => ?_) <;> simp at q1
 · have hd : doR s e = takeR s e.key := by simp [doR, q1]
   simp [b0, b1]
   refine cg_ex (StoreTake_ok _ s e.key H1 hs1 hb hk) ?_
   intro v2 H2 hret
   obtain ⟨xa, xb, xc, xk, xt, xd, rfl, o1, o2, o3, o4, o5, o6⟩ := hret.shape
   have b22 := hret.1.2 _ _ b2
   have u22 := Hp.at_lt b22
   simp [o1, o2, o3, o4, o5, o6, b22, Hp.at_set, u22]
   rw [hd]
   have hF := Fr.one H2 (H.length + 2) (some ⟨[[xa, xb, xc, xk, xt, xd]], 6, 28, false⟩)
   exact hret.fin hle1 hF (fun x ob hx ho => by rw [hx, b22] at ho; cases ho; rfl) (fun x hx => by rw [hx]; omega)
 simp
 refine c_split (fun q2 => ?_) (fun q2 => ?_) <;> simp at q2
 · have hd : doR s e = holdR s := by simp [doR, q2]
   simp [b0, b1]
   refine cg_ex (StoreHold_ok _ s H1 hs1 hb) ?_
   intro v2 H2 hret
   obtain ⟨w, n, ok, hv2, hret'⟩ := hret.toS
   subst hv2
   clear hret
   have hret := hret'
   clear hret'
   obtain ⟨xa, xb, xc, xk, xt, xd, hw, o1, o2, o3, o4, o5, o6⟩ := hret.shape
   cases hw
   have b22 := hret.1.2 _ _ b2
   have u22 := Hp.at_lt b22
   simp [o1, o2, o3, o4, o5, o6, b22, Hp.at_set, u22, Hp.at_app, set_in']
   rw [hd]
   have hF := (Fr.one H2 (H.length + 2) (some ⟨[[xa, xb, xc, xk, xt, xd]], 6, 28, false⟩)).app [some ⟨[[xa, xb, xc, xk, xt, xd]], 6, 28, false⟩]
   exact hret.fin hle1 hF (fun x ob hx ho => by rw [hx, b22] at ho; cases ho; rfl) (fun x hx => by rw [hx]; omega)
 simp
 refine c_split (fun q3 => ?_) (fun q3 => ?_) <;> simp at q3
 · have hd : doR s e = freeR s e.num := by simp [doR, q3]
   simp [b0, b1]
   refine cg_ex (StoreFree_ok _ s e.num H1 hs1 hb) ?_
   intro v2 H2 hret
   obtain ⟨xa, xb, xc, xk, xt, xd, rfl, o1, o2, o3, o4, o5, o6⟩ := hret.shape
   have b22 := hret.1.2 _ _ b2
   have u22 := Hp.at_lt b22
   simp [o1, o2, o3, o4, o5, o6, b22, Hp.at_set, u22]
   rw [hd]
   have hF := Fr.one H2 (H.length + 2) (some ⟨[[xa, xb, xc, xk, xt, xd]], 6, 28, false⟩)
   exact hret.fin hle1 hF (fun x ob hx ho => by rw [hx, b22] at ho; cases ho; rfl) (fun x hx => by rw [hx]; omega)
 simp
 refine c_split (fun q4 => ?_) (fun q4 => ?_) <;> simp at q4
 · have hd : doR s e = letR s := by simp [doR, q4]
   simp [b0, b1]
   refine cg_ex (StoreDown_ok _ s H1 hs1 hb) ?_
   intro v2 H2 hret
   obtain ⟨xa, xb, xc, xk, xt, xd, rfl, o1, o2, o3, o4, o5, o6⟩ := hret.shape
   have b22 := hret.1.2 _ _ b2
   have u22 := Hp.at_lt b22
   simp [o1, o2, o3, o4, o5, o6, b22, Hp.at_set, u22]
   rw [hd]
   have hF := Fr.one H2 (H.length + 2) (some ⟨[[xa, xb, xc, xk, xt, xd]], 6, 28, false⟩)
   exact hret.fin hle1 hF (fun x ob hx ho => by rw [hx, b22] at ho; cases ho; rfl) (fun x hx => by rw [hx]; omega)
 simp
 refine c_split (fun q5 => ?_) (fun q5 => ?_) <;> simp at q5
 · have hd : doR s e = joinR s e.num := by simp [doR, q5]
   simp [b0, b1]
   refine cg_ex (StoreJoin_ok _ s e.num H1 hs1 hb) ?_
   intro v2 H2 hret
   obtain ⟨xa, xb, xc, xk, xt, xd, rfl, o1, o2, o3, o4, o5, o6⟩ := hret.shape
   have b22 := hret.1.2 _ _ b2
   have u22 := Hp.at_lt b22
   simp [o1, o2, o3, o4, o5, o6, b22, Hp.at_set, u22]
   rw [hd]
   have hF := Fr.one H2 (H.length + 2) (some ⟨[[xa, xb, xc, xk, xt, xd]], 6, 28, false⟩)
   exact hret.fin hle1 hF (fun x ob hx ho => by rw [hx, b22] at ho; cases ho; rfl) (fun x hx => by rw [hx]; omega)
 have hd : doR s e = none := by simp [doR, q0, q1, q2, q3, q4, q5]
 simp [b2, Hp.at_set, u2, hd, RetS]
 exact hle1.set (by omega) _
end Go.Proofs.YtgoeenodllmdpaaGreat.B

namespace Go.Proofs.YtgoeenodllmdpaaGreat.B
open Go.RowKit Go.Proofs
set_option linter.unusedVariables false
set_option linter.unusedSimpArgs false
variable {E : Env}
theorem okThen_some {s x : Sr} {r : Option Sr} (h : storeOk s = true) (hr : r = some x) : okThen s r = some x := by rw [okThen, if_pos h, hr]
theorem okThen_put (s : Sr) (k : ByteArray) (v : Int) : okThen s (writeI s ⟨k, v, false, s.time + 1⟩) = putR s k v := by
 unfold okThen
 split
 · rename_i h
   rw [writeI_eq h rfl]
   rfl
 · rename_i h
   simp [putR, addR, h]
theorem okThen_take (s : Sr) (k : ByteArray) : okThen s (writeI s ⟨k, 0, true, s.time + 1⟩) = takeR s k := by
 unfold okThen
 split
 · rename_i h
   rw [writeI_eq h rfl]
   rfl
 · rename_i h
   simp [takeR, addR, h]
theorem okThen_hold (s : Sr) : okThen s (holdI s) = holdR s := by
 unfold okThen
 split
 · rename_i h
   rw [holdI_eq h]
 · rename_i h
   simp [holdR, h]
theorem okThen_free (s : Sr) (t : Int) : okThen s (freeI s t) = freeR s t := by
 unfold okThen
 split
 · rename_i h
   rw [freeI_eq h]
 · rename_i h
   simp [freeR, h]
theorem okThen_down (s : Sr) : okThen s (downI s) = letR s := by
 unfold okThen letR
 split
 · rename_i h
   rw [downI_eq h]
 · rfl
theorem okThen_join (s : Sr) (l : Int) : okThen s (joinSI s l) = joinR s l := by
 unfold okThen
 split
 · rename_i h
   rw [joinSI_eq h]
 · rename_i h
   simp [joinR, h]
theorem put_small {s x : Sr} {k : ByteArray} {v : Int} (h : putR s k v = some x) : Small x := addR_small h
theorem take_small {s x : Sr} {k : ByteArray} (h : takeR s k = some x) : Small x := addR_small h
theorem hold_small {s x : Sr} (h : holdR s = some x) : Small x := doR_small (s := s) (d := ⟨3, ⟨#[]⟩, 0⟩) (by simpa [doR] using h)
theorem free_small {s x : Sr} {t : Int} (h : freeR s t = some x) : Small x := doR_small (s := s) (d := ⟨4, ⟨#[]⟩, t⟩) (by simpa [doR] using h)
theorem let_small {s x : Sr} (h : letR s = some x) : Small x := doR_small (s := s) (d := ⟨5, ⟨#[]⟩, 0⟩) (by simpa [doR] using h)
theorem join_small {s x : Sr} {l : Int} (h : joinR s l = some x) : Small x := doR_small (s := s) (d := ⟨6, ⟨#[]⟩, l⟩) (by simpa [doR] using h)
theorem implPut_ok (v : AV) (s : Sr) (k : ByteArray) (val : Int) (H : Hp) (hs : St H v s) (hb : StB s) (hk : k.size < 4611686018427387904) :
   AC Tryz.prog E 48 [v, .str k, .int .i64 val] H (fun u H' => RetQ H H' u (putR s k val)) := by
 have hs0 := hs
 obtain ⟨a, b, c, d, rfl, n1, n2, n3, n4, hea, hed⟩ := hs.shape
 refine AC_by fol (tC_le tabJ_ok) h_impl_StorePut ?_
 obtain ⟨H1, hH1⟩ : ∃ H1 : Hp, H1 = H ++ [some ⟨[[a, b, c, .int .i64 s.keep, .int .i64 s.time, d]], 6, 28, false⟩, some ⟨[[.str k]], 1, 9, false⟩, some ⟨[[.int .i64 val]], 1, 3, false⟩, some ⟨[[.nils, .nils, .nils, .int .i64 0, .int .i64 0, .nils]], 6, 28, false⟩] := ⟨_, rfl⟩
 have hle1 : HLe H H1 := by rw [hH1]; exact HLe.self _ _
 have b0 : H1.at H.length = some ⟨[[a, b, c, .int .i64 s.keep, .int .i64 s.time, d]], 6, 28, false⟩ := by rw [hH1]; simp
 have b1 : H1.at (H.length + 1) = some ⟨[[.str k]], 1, 9, false⟩ := by rw [hH1]; simp
 have b2 : H1.at (H.length + 2) = some ⟨[[.int .i64 val]], 1, 3, false⟩ := by rw [hH1]; simp
 have b3 : H1.at (H.length + 3) = some ⟨[[.nils, .nils, .nils, .int .i64 0, .int .i64 0, .nils]], 6, 28, false⟩ := by rw [hH1]; simp
 simp [c_impl_StorePut, n1, n2, n3, n4, <- hH1, b0]
 refine cg_ex (changed_ok _ 119 [.pt (H.length + 1) 0 0, .pt (H.length + 2) 0 0] s (writeI s ⟨k, val, false, s.time + 1⟩) H1 (hs0.le hle1) hb (fun x => rfl)
   (fun hso o B G hB hps hle => Put1_ok o _ _ k val s B G hps hle (storeOk_small hso) (storeOk_time hso) hk (hB.2 _ _ b1) (hB.2 _ _ b2)) (fun hso x hx => put_small ((okThen_put s k val).symm.trans (okThen_some hso hx)))) ?_
 intro v2 H2 hret
 rw [okThen_put] at hret
 obtain ⟨xa, xb, xc, xk, xt, xd, rfl, o1, o2, o3, o4, o5, o6⟩ := hret.shape
 have b23 := hret.1.2 _ _ b3
 have u23 := Hp.at_lt b23
 simp [o1, o2, o3, o4, o5, o6, b23, Hp.at_set, u23]
 have hF2 := Fr.one H2 (H.length + 3) (some ⟨[[xa, xb, xc, xk, xt, xd]], 6, 28, false⟩)
 exact hret.fin hle1 hF2 (fun x ob hx ho => by rw [hx, b23] at ho; cases ho; rfl) (fun x hx => by rw [hx]; omega)
theorem implTake_ok (v : AV) (s : Sr) (k : ByteArray) (H : Hp) (hs : St H v s) (hb : StB s) (hk : k.size < 4611686018427387904) :
   AC Tryz.prog E 205 [v, .str k] H (fun u H' => RetQ H H' u (takeR s k)) := by
 have hs0 := hs
 obtain ⟨a, b, c, d, rfl, n1, n2, n3, n4, hea, hed⟩ := hs.shape
 refine AC_by fol (tC_le tabJ_ok) h_impl_StoreTake ?_
 obtain ⟨H1, hH1⟩ : ∃ H1 : Hp, H1 = H ++ [some ⟨[[a, b, c, .int .i64 s.keep, .int .i64 s.time, d]], 6, 28, false⟩, some ⟨[[.str k]], 1, 9, false⟩, some ⟨[[.nils, .nils, .nils, .int .i64 0, .int .i64 0, .nils]], 6, 28, false⟩] := ⟨_, rfl⟩
 have hle1 : HLe H H1 := by rw [hH1]; exact HLe.self _ _
 have b0 : H1.at H.length = some ⟨[[a, b, c, .int .i64 s.keep, .int .i64 s.time, d]], 6, 28, false⟩ := by rw [hH1]; simp
 have b1 : H1.at (H.length + 1) = some ⟨[[.str k]], 1, 9, false⟩ := by rw [hH1]; simp
 have b3 : H1.at (H.length + 2) = some ⟨[[.nils, .nils, .nils, .int .i64 0, .int .i64 0, .nils]], 6, 28, false⟩ := by rw [hH1]; simp
 simp [c_impl_StoreTake, n1, n2, n3, n4, <- hH1, b0]
 refine cg_ex (changed_ok _ 244 [.pt (H.length + 1) 0 0] s (writeI s ⟨k, 0, true, s.time + 1⟩) H1 (hs0.le hle1) hb (fun x => rfl)
   (fun hso o B G hB hps hle => Take1_ok o _ k s B G hps hle (storeOk_small hso) (storeOk_time hso) hk (hB.2 _ _ b1)) (fun hso x hx => take_small ((okThen_take s k).symm.trans (okThen_some hso hx)))) ?_
 intro v2 H2 hret
 rw [okThen_take] at hret
 obtain ⟨xa, xb, xc, xk, xt, xd, rfl, o1, o2, o3, o4, o5, o6⟩ := hret.shape
 have b23 := hret.1.2 _ _ b3
 have u23 := Hp.at_lt b23
 simp [o1, o2, o3, o4, o5, o6, b23, Hp.at_set, u23]
 have hF2 := Fr.one H2 (H.length + 2) (some ⟨[[xa, xb, xc, xk, xt, xd]], 6, 28, false⟩)
 exact hret.fin hle1 hF2 (fun x ob hx ho => by rw [hx, b23] at ho; cases ho; rfl) (fun x hx => by rw [hx]; omega)
theorem implFree_ok (v : AV) (s : Sr) (t : Int) (H : Hp) (hs : St H v s) (hb : StB s) :
   AC Tryz.prog E 65 [v, .int .i64 t] H (fun u H' => RetQ H H' u (freeR s t)) := by
 have hs0 := hs
 obtain ⟨a, b, c, d, rfl, n1, n2, n3, n4, hea, hed⟩ := hs.shape
 refine AC_by fol (tC_le tabJ_ok) h_impl_StoreFree ?_
 obtain ⟨H1, hH1⟩ : ∃ H1 : Hp, H1 = H ++ [some ⟨[[a, b, c, .int .i64 s.keep, .int .i64 s.time, d]], 6, 28, false⟩, some ⟨[[.int .i64 t]], 1, 3, false⟩, some ⟨[[.nils, .nils, .nils, .int .i64 0, .int .i64 0, .nils]], 6, 28, false⟩] := ⟨_, rfl⟩
 have hle1 : HLe H H1 := by rw [hH1]; exact HLe.self _ _
 have b0 : H1.at H.length = some ⟨[[a, b, c, .int .i64 s.keep, .int .i64 s.time, d]], 6, 28, false⟩ := by rw [hH1]; simp
 have b1 : H1.at (H.length + 1) = some ⟨[[.int .i64 t]], 1, 3, false⟩ := by rw [hH1]; simp
 have b3 : H1.at (H.length + 2) = some ⟨[[.nils, .nils, .nils, .int .i64 0, .int .i64 0, .nils]], 6, 28, false⟩ := by rw [hH1]; simp
 simp [c_impl_StoreFree, n1, n2, n3, n4, <- hH1, b0]
 refine cg_ex (changed_ok _ 144 [.pt (H.length + 1) 0 0] s (freeI s t) H1 (hs0.le hle1) hb (fun x => rfl)
   (fun hso o B G hB hps hle => Free1_ok o _ t s B G hps hle (storeOk_small hso) (hB.2 _ _ b1)) (fun hso x hx => free_small ((okThen_free s t).symm.trans (okThen_some hso hx)))) ?_
 intro v2 H2 hret
 rw [okThen_free] at hret
 obtain ⟨xa, xb, xc, xk, xt, xd, rfl, o1, o2, o3, o4, o5, o6⟩ := hret.shape
 have b23 := hret.1.2 _ _ b3
 have u23 := Hp.at_lt b23
 simp [o1, o2, o3, o4, o5, o6, b23, Hp.at_set, u23]
 have hF2 := Fr.one H2 (H.length + 2) (some ⟨[[xa, xb, xc, xk, xt, xd]], 6, 28, false⟩)
 exact hret.fin hle1 hF2 (fun x ob hx ho => by rw [hx, b23] at ho; cases ho; rfl) (fun x hx => by rw [hx]; omega)
theorem implJoin_ok (v : AV) (s : Sr) (t : Int) (H : Hp) (hs : St H v s) (hb : StB s) :
   AC Tryz.prog E 207 [v, .int .i64 t] H (fun u H' => RetQ H H' u (joinR s t)) := by
 have hs0 := hs
 obtain ⟨a, b, c, d, rfl, n1, n2, n3, n4, hea, hed⟩ := hs.shape
 refine AC_by fol (tC_le tabJ_ok) h_impl_StoreJoin ?_
 obtain ⟨H1, hH1⟩ : ∃ H1 : Hp, H1 = H ++ [some ⟨[[a, b, c, .int .i64 s.keep, .int .i64 s.time, d]], 6, 28, false⟩, some ⟨[[.int .i64 t]], 1, 3, false⟩, some ⟨[[.nils, .nils, .nils, .int .i64 0, .int .i64 0, .nils]], 6, 28, false⟩] := ⟨_, rfl⟩
 have hle1 : HLe H H1 := by rw [hH1]; exact HLe.self _ _
 have b0 : H1.at H.length = some ⟨[[a, b, c, .int .i64 s.keep, .int .i64 s.time, d]], 6, 28, false⟩ := by rw [hH1]; simp
 have b1 : H1.at (H.length + 1) = some ⟨[[.int .i64 t]], 1, 3, false⟩ := by rw [hH1]; simp
 have b3 : H1.at (H.length + 2) = some ⟨[[.nils, .nils, .nils, .int .i64 0, .int .i64 0, .nils]], 6, 28, false⟩ := by rw [hH1]; simp
 simp [c_impl_StoreJoin, n1, n2, n3, n4, <- hH1, b0]
 refine cg_ex (changed_ok _ 245 [.pt (H.length + 1) 0 0] s (joinSI s t) H1 (hs0.le hle1) hb (fun x => rfl)
   (fun hso o B G hB hps hle => Join1_ok o _ t s B G hps hle (storeOk_small hso) (hB.2 _ _ b1)) (fun hso x hx => join_small ((okThen_join s t).symm.trans (okThen_some hso hx)))) ?_
 intro v2 H2 hret
 rw [okThen_join] at hret
 obtain ⟨xa, xb, xc, xk, xt, xd, rfl, o1, o2, o3, o4, o5, o6⟩ := hret.shape
 have b23 := hret.1.2 _ _ b3
 have u23 := Hp.at_lt b23
 simp [o1, o2, o3, o4, o5, o6, b23, Hp.at_set, u23]
 have hF2 := Fr.one H2 (H.length + 2) (some ⟨[[xa, xb, xc, xk, xt, xd]], 6, 28, false⟩)
 exact hret.fin hle1 hF2 (fun x ob hx ho => by rw [hx, b23] at ho; cases ho; rfl) (fun x hx => by rw [hx]; omega)
theorem implDown_ok (v : AV) (s : Sr) (H : Hp) (hs : St H v s) (hb : StB s) :
   AC Tryz.prog E 206 [v] H (fun u H' => RetQ H H' u (letR s)) := by
 have hs0 := hs
 obtain ⟨a, b, c, d, rfl, n1, n2, n3, n4, hea, hed⟩ := hs.shape
 refine AC_by fol (tC_le tabJ_ok) h_impl_StoreDown ?_
 obtain ⟨H1, hH1⟩ : ∃ H1 : Hp, H1 = H ++ [some ⟨[[a, b, c, .int .i64 s.keep, .int .i64 s.time, d]], 6, 28, false⟩, some ⟨[[.nils, .nils, .nils, .int .i64 0, .int .i64 0, .nils]], 6, 28, false⟩] := ⟨_, rfl⟩
 have hle1 : HLe H H1 := by rw [hH1]; exact HLe.self _ _
 have b0 : H1.at H.length = some ⟨[[a, b, c, .int .i64 s.keep, .int .i64 s.time, d]], 6, 28, false⟩ := by rw [hH1]; simp
 have b3 : H1.at (H.length + 1) = some ⟨[[.nils, .nils, .nils, .int .i64 0, .int .i64 0, .nils]], 6, 28, false⟩ := by rw [hH1]; simp
 simp [c_impl_StoreDown, n1, n2, n3, n4, <- hH1, b0]
 refine cg_ex (changed_ok _ 191 [] s (downI s) H1 (hs0.le hle1) hb (fun x => rfl)
   (fun hso o B G hB hps hle => down_ok o s B G hps hle (storeOk_small hso)) (fun hso x hx => let_small ((okThen_down s).symm.trans (okThen_some hso hx)))) ?_
 intro v2 H2 hret
 rw [okThen_down] at hret
 obtain ⟨xa, xb, xc, xk, xt, xd, rfl, o1, o2, o3, o4, o5, o6⟩ := hret.shape
 have b23 := hret.1.2 _ _ b3
 have u23 := Hp.at_lt b23
 simp [o1, o2, o3, o4, o5, o6, b23, Hp.at_set, u23]
 have hF2 := Fr.one H2 (H.length + 1) (some ⟨[[xa, xb, xc, xk, xt, xd]], 6, 28, false⟩)
 exact hret.fin hle1 hF2 (fun x ob hx ho => by rw [hx, b23] at ho; cases ho; rfl) (fun x hx => by rw [hx]; omega)
def RetHQ (H0 H : Hp) (u : AV) (s : Sr) (o : Option Sr) : Prop := HLe H0 H /\ match o with
 | some x => ∃ w, u = .tu [w, .int .i64 s.time, .bool true] /\ MSt H0 H w x /\ FarS H0.length H w x
 | none => u = .tu [zst, .int .i64 0, .bool false]
theorem RetHQ.toS {H0 H : Hp} {u : AV} {s : Sr} {o : Option Sr} (h : RetHQ H0 H u s o) : ∃ w n ok, u = .tu [w, n, ok] /\ RetQ H0 H (.tu [w, ok]) o := by
 obtain ⟨h1, h2⟩ := h
 cases o with
 | none => exact ⟨_, _, _, h2, h1, rfl⟩
 | some x =>
   obtain ⟨w, e, hm, hq⟩ := h2
   exact ⟨_, _, _, e, h1, w, rfl, hm, hq⟩
theorem holdR_time {s x : Sr} (h : holdR s = some x) : x.time = s.time := by
 unfold holdR at h
 split at h
 · generalize (if s.tms.getLast? = some s.time then s.tms else s.tms ++ [s.time]) = ts at h
   by_cases ht : timesR ts s.time = true
   · rw [if_pos ht] at h
     cases h
     rfl
   · rw [if_neg ht] at h
     cases h
 · cases h
theorem implHold_ok (v : AV) (s : Sr) (H : Hp) (hs : St H v s) (hb : StB s) :
   AC Tryz.prog E 28 [v] H (fun u H' => RetHQ H H' u s (holdR s)) := by
 have hs0 := hs
 obtain ⟨a, b, c, d, rfl, n1, n2, n3, n4, hea, hed⟩ := hs.shape
 refine AC_by fol (tC_le tabJ_ok) h_impl_StoreHold ?_
 obtain ⟨H1, hH1⟩ : ∃ H1 : Hp, H1 = H ++ [some ⟨[[a, b, c, .int .i64 s.keep, .int .i64 s.time, d]], 6, 28, false⟩, some ⟨[[.nils, .nils, .nils, .int .i64 0, .int .i64 0, .nils]], 6, 28, false⟩] := ⟨_, rfl⟩
 have hle1 : HLe H H1 := by rw [hH1]; exact HLe.self _ _
 have b0 : H1.at H.length = some ⟨[[a, b, c, .int .i64 s.keep, .int .i64 s.time, d]], 6, 28, false⟩ := by rw [hH1]; simp
 have b3 : H1.at (H.length + 1) = some ⟨[[.nils, .nils, .nils, .int .i64 0, .int .i64 0, .nils]], 6, 28, false⟩ := by rw [hH1]; simp
 simp [c_impl_StoreHold, n1, n2, n3, n4, <- hH1, b0]
 refine cg_ex (changed_ok _ 101 [] s (holdI s) H1 (hs0.le hle1) hb (fun x => rfl)
   (fun hso o B G hB hps hle => hold_ok o s B G hps hle (storeOk_small hso)) (fun hso x hx => hold_small ((okThen_hold s).symm.trans (okThen_some hso hx)))) ?_
 intro v2 H2 hret
 rw [okThen_hold] at hret
 cases hh : holdR s with
 | none =>
   rw [hh] at hret
   obtain ⟨hle2, rfl⟩ := hret
   have b23 := hle2.2 _ _ b3
   have u23 := Hp.at_lt b23
   simp [b23, Hp.at_set, u23, Hp.at_app, RetHQ, at_len, at_in]
   exact ((hle1.trans hle2).set (by omega) _).app _
 | some x =>
   rw [hh] at hret
   obtain ⟨hle2, w, rfl, hm2, hq2⟩ := hret
   obtain ⟨xa, xl, xs, xd, rfl, xn1, xn2, xdi⟩ := hm2.shape
   have b23 := hle2.2 _ _ b3
   have u23 := Hp.at_lt b23
   have ht : x.time = s.time := holdR_time hh
   simp [xn1, xn2, b23, Hp.at_set, u23, Hp.at_app, RetHQ, at_len, at_in, ht]
   have F := (Fr.one H2 (H.length + 1) (some ⟨[[xa, .sl xl 0 3, .sl xs 0 3, .int .i64 x.keep, .int .i64 s.time, xd]], 6, 28, false⟩)).app [some ⟨[[xa, .sl xl 0 3, .sl xs 0 3, .int .i64 x.keep, .int .i64 s.time, xd]], 6, 28, false⟩]
   have hq3 := hq2.fr F (fun y hy => .inr (fun ob ho => by rw [hy, b23] at ho; cases ho; rfl))
   have hm3 := hm2.fr F (fun y ob hy ho => by rw [hy, b23] at ho; cases ho; rfl)
   rw [ht] at hm3 hq3
   exact ⟨((hle1.trans hle2).set (by omega) _).app _, hm3.base hle1.1, hq3.base hle1.1⟩
end Go.Proofs.YtgoeenodllmdpaaGreat.B

namespace Go.Proofs.YtgoeenodllmdpaaGreat.B
open Go.RowKit Go.Proofs
set_option linter.unusedVariables false
set_option linter.unusedSimpArgs false
variable {E : Env}
def ddRow (d : Dd) : List AV := [.int .i64 d.kind, .str d.key, .int .i64 d.num]
def Dds (H : Hp) (v : AV) (ds : List Dd) : Prop := Rows 3 H v (ds.map ddRow)
theorem Dds.get {H : Hp} {v : AV} {ds : List Dd} (h : Dds H v ds) {j : Nat} (hj : j < ds.length) : ∃ o i ob, v = .sl o i ds.length /\ H.at o = some ob /\ ob.esz = 3 /\ ob.rows[i + j]? = some [.int .i64 ds[j].kind, .str ds[j].key, .int .i64 ds[j].num] := by
 obtain ⟨o, i, ob, h1, h2, h3, h4⟩ := Rows.get h (j := j) (by simpa using hj)
 exact ⟨o, i, ob, by simpa using h1, h2, h3, by simpa [ddRow] using h4⟩
theorem doAll_step (s : Sr) (ds : List Dd) {i : Nat} (hi : i < ds.length) : doAll s (ds.take (i + 1)) = (doR (doAll s (ds.take i)) ds[i]).getD (doAll s (ds.take i)) := by
 rw [List.take_succ_eq_append_getElem hi, doAll, List.foldl_append]
 rfl
theorem PastDo_ok (v u : AV) (s : Sr) (ds : List Dd) (H : Hp) (hs : St H v s) (hb : StB s) (hu : Dds H u ds) (hk : ∀ d ∈ ds, d.key.size < 4611686018427387904) :
   AC Tryz.prog E 31 [v, u] H (fun w H' => RetS H H' w (pastR s ds)) := by
 have hs0 := hs
 obtain ⟨a, b, c, d, rfl, n1, n2, n3, n4, hea, hed⟩ := hs.shape
 refine AC_by fol (tC_le tab2_ok) h_spec_PastDo ?_
 obtain ⟨H1, hH1⟩ : ∃ H1 : Hp, H1 = H ++ [some ⟨[[a, b, c, .int .i64 s.keep, .int .i64 s.time, d]], 6, 28, false⟩, some ⟨[[.nils, .nils, .nils, .int .i64 0, .int .i64 0, .nils]], 6, 28, false⟩] := ⟨_, rfl⟩
 have hle1 : HLe H H1 := by rw [hH1]; exact HLe.self _ _
 have b0 : H1.at H.length = some ⟨[[a, b, c, .int .i64 s.keep, .int .i64 s.time, d]], 6, 28, false⟩ := by rw [hH1]; simp
 have b1 : H1.at (H.length + 1) = some ⟨[[.nils, .nils, .nils, .int .i64 0, .int .i64 0, .nils]], 6, 28, false⟩ := by rw [hH1]; simp
 have hl1 : H1.length = H.length + 2 := by rw [hH1]; simp
 have u1 := Hp.at_lt b1
 have hlen : lenV u = .int .i64 ds.length := by simpa using Rows.len hu
 have hslc : slC u := Rows.slc hu
 simp [c_spec_PastDo, n1, n2, n3, n4, <- hH1, b0]
 refine cg_use (StoreOk_ok _ s H1 (hs0.le hle1) hb) ?_
 cases hso : storeOk s with
 | false =>
   simp [b1, Hp.at_set, u1, pastR, hso, RetS]
   exact hle1.set (by omega) _
 | true =>
 have hsm := storeOk_small hso
 simp [hlen, hslc]
 refine c_split (fun hq => ?_) (fun hq => ?_) <;> simp at hq
 · have hp : pastR s ds = none := by simp [pastR, hso]; omega
   simp [b1, Hp.at_set, u1, hp, RetS]
   exact hle1.set (by omega) _
 have hp : pastR s ds = some (doAll s ds) := by simp [pastR, hso]; omega
 simp [b0]
 refine cg_ex (l12Copy_ok _ s H1 (hs0.le hle1) hb hsm.2.2.2.2.2.2.2.1 hsm.2.2.2.2.2.2.2.2) ?_
 rintro v2 H2 ⟨hle2, hm2⟩
 obtain ⟨xa, xl, xs, xd, rfl, xn1, xn2, xdi⟩ := hm2.shape
 have b02 := hle2.2 _ _ b0
 have b12 := hle2.2 _ _ b1
 have u0 := Hp.at_lt b02
 have m01 : H.length ≠ H.length + 1 := by omega
 obtain ⟨H3, hH3⟩ : ∃ H3 : Hp, H3 = List.set H2 H.length (some ⟨[[xa, .sl xl 0 3, .sl xs 0 3, .int .i64 s.keep, .int .i64 s.time, xd]], 6, 28, false⟩) := ⟨_, rfl⟩
 have hF3 : Fr (fun x => x = H.length) H2 H3 := by rw [hH3]; exact Fr.one _ _ _
 have hm3 := (hm2.fr hF3 (fun x ob hx ho => by rw [hx, b02] at ho; cases ho; rfl)).base hle1.1
 have hle3 : HLe H H3 := (hle1.trans hle2).fr_le hF3 (fun x hx => by rw [hx]; exact Nat.le_refl _)
 have b03 : H3.at H.length = some ⟨[[xa, .sl xl 0 3, .sl xs 0 3, .int .i64 s.keep, .int .i64 s.time, xd]], 6, 28, false⟩ := by rw [hH3]; exact Hp.at_set _ u0
 have b13 := hF3.2 _ _ m01.symm b12
 simp [xn1, xn2, b02, Hp.at_set, u0, <- hH3]
 refine W_for (fun m t H' => ∃ (i : Nat) (x : Sr) (wa : AV) (wl ws : Nat) (wd : AV), i + m = ds.length /\ t 1 = u /\ t 2 = .pt H.length 0 0 /\ t 4 = .pt (H.length + 1) 0 0 /\ t 6 = .int .i64 i /\ HLe H H' /\
   H'.at H.length = some ⟨[[wa, .sl wl 0 3, .sl ws 0 3, .int .i64 x.keep, .int .i64 x.time, wd]], 6, 28, false⟩ /\ H'.at (H.length + 1) = some ⟨[[.nils, .nils, .nils, .int .i64 0, .int .i64 0, .nils]], 6, 28, false⟩ /\
   one wa = true /\ one wd = true /\ MSt H H' (.ag [wa, .sl wl 0 3, .sl ws 0 3, .int .i64 x.keep, .int .i64 x.time, wd]) x /\ Small x /\ x = doAll s (ds.take i)) ds.length ?_ (tC_mono AC_mono) ?_
 · exact ⟨0, s, xa, xl, xs, xd, by omega, by simp, by simp, by simp, by simp, hle3, b03, b13, xn1, xn2, hm3, hsm, by simp [doAll]⟩
 rintro m t H' ⟨i, x, wa, wl, ws, wd, him, h1, h2, h4, h6, hle', c0, c1, wn1, wn2, hm, hsx, hx⟩
 have t0 := Hp.at_lt c0
 have t1 := Hp.at_lt c1
 simp [h1, h2, h4, h6, hlen, hslc]
 refine c_split (fun hq2 => ?_) (fun hq2 => ?_) <;> simp at hq2
 · have hi : i < ds.length := by omega
   obtain ⟨o1, i1, ob1, rfl, a1, a2, a3⟩ := Dds.get (Rows.le hu hle') hi
   have hw := wrapN (i := i) (by omega)
   simp [h1, h2, h4, h6, c0, a1, a2, a3, hi]
   refine ⟨?_, ?_⟩
   · refine cg_ex (l13Do_ok _ x (ds[i]) H' (hm.st) hsx.stB (hk _ (List.getElem_mem hi))) ?_
     rintro v5 H5 hret
     have hle5 : HLe H' H5 := hret.1
     have c05 := hle5.2 _ _ c0
     have c15 := hle5.2 _ _ c1
     have a15 := hle5.2 _ _ a1
     have t05 := Hp.at_lt c05
     have t15 := Hp.at_lt c15
     have ta5 := Hp.at_lt a15
     cases hd : doR x ds[i] with
     | none =>
       rw [hd] at hret
       obtain ⟨hle5', rfl⟩ := hret
       simp [h1, h2, h4, h6, c05, c15, a15, a2, a3, hi, hw, Hp.at_app, Hp.at_set, Hp.at_set_ne, List.length_set, t05, t15, ta5, m01, m01.symm, set_in']
       refine ⟨m - 1, by omega, i + 1, by omega, by omega, (hle'.trans hle5').app _, x, wa, wl, ws, wd, by simp, wn1, wn2, (hm.le hle5').le (HLe.self _ _), hsx, ?_⟩
       rw [doAll_step s ds hi, <- hx, hd]
       rfl
     | some y =>
       rw [hd] at hret
       obtain ⟨hle5', w5, rfl, hm5⟩ := hret
       obtain ⟨ya, yl, ys, yd, hy, yn1, yn2, ydi⟩ := hm5.shape
       subst hy
       simp [yn1, yn2, h1, h2, h4, h6, c05, c15, a15, a2, a3, hi, hw, Hp.at_app, Hp.at_set, Hp.at_set_ne, List.length_set, t05, t15, ta5, m01, m01.symm, set_in']
       have hF := (Fr.one H5 H.length (some ⟨[[ya, .sl yl 0 3, .sl ys 0 3, .int .i64 y.keep, .int .i64 y.time, yd]], 6, 28, false⟩)).app [some ⟨[[ya, .sl yl 0 3, .sl ys 0 3, .int .i64 y.keep, .int .i64 y.time, yd]], 6, 28, false⟩]
       refine ⟨m - 1, by omega, i + 1, by omega, by omega, (hle'.trans hle5').fr_le hF (fun z hz => by rw [hz]; exact Nat.le_refl _), y, ya, yl, ys, yd, by simp, yn1, yn2, (hm5.fr hF (fun z ob hz ho => by rw [hz, c05] at ho; cases ho; rfl)).base hle'.1, doR_small hd, ?_⟩
       rw [doAll_step s ds hi, <- hx, hd]
       rfl
   · have ta := Hp.at_lt a1
     simp [Hp.at_app, t0, t1, ta, c0, a1, a2, a3, hi]
     refine cg_ex (l13Do_ok _ x (ds[i]) _ ((hm.le (HLe.self _ _)).st) hsx.stB (hk _ (List.getElem_mem hi))) ?_
     rintro v5 H5 hret
     have hle5 : HLe H' H5 := (HLe.self H' _).trans hret.1
     have c05 := hle5.2 _ _ c0
     have c15 := hle5.2 _ _ c1
     have a15 := hle5.2 _ _ a1
     have t05 := Hp.at_lt c05
     have t15 := Hp.at_lt c15
     have ta5 := Hp.at_lt a15
     have c75 := hret.1.2 _ _ (Hp.at_app_0.trans Hp.at_0)
     have t75 := Hp.at_lt c75
     have m70 : H'.length ≠ H.length := by omega
     have m71 : H'.length ≠ H.length + 1 := by omega
     have m7a : H'.length ≠ o1 := by have := Hp.at_lt a1; omega
     cases hd : doR x ds[i] with
     | none =>
       rw [hd] at hret
       obtain ⟨hle5', rfl⟩ := hret
       simp [h1, h2, h4, h6, c05, c15, a15, a2, a3, hi, hw, Hp.at_app, Hp.at_set, Hp.at_set_ne, List.length_set, t05, t15, ta5, m01, m01.symm, c75, t75, m70, m71, m7a, m70.symm, m71.symm, m7a.symm]
       have hF := Fr.one H5 H'.length (some ⟨[[.nils, .nils, .nils, .int .i64 0, .int .i64 0, .nils]], 6, 28, false⟩)
       refine ⟨m - 1, by omega, i + 1, by omega, by omega, (hle'.trans hle5).fr_le hF (fun z hz => by rw [hz]; exact hle'.1), x, wa, wl, ws, wd, by simp, wn1, wn2, (hm.le hle5).fr hF (fun z ob hz ho => by rw [hz, c75] at ho; cases ho; rfl), hsx, ?_⟩
       rw [doAll_step s ds hi, <- hx, hd]
       rfl
     | some y =>
       rw [hd] at hret
       obtain ⟨hle5', w5, rfl, hm5⟩ := hret
       obtain ⟨ya, yl, ys, yd, hy, yn1, yn2, ydi⟩ := hm5.shape
       subst hy
       simp [yn1, yn2, h1, h2, h4, h6, c05, c15, a15, a2, a3, hi, hw, Hp.at_app, Hp.at_set, Hp.at_set_ne, List.length_set, t05, t15, ta5, m01, m01.symm, c75, t75, m70, m71, m7a, m70.symm, m71.symm, m7a.symm]
       have hF := ((Fr.refl (fun z => z = H'.length \/ z = H.length) H5).set (o := H'.length) (.inl (.inl rfl)) (some ⟨[[ya, .sl yl 0 3, .sl ys 0 3, .int .i64 y.keep, .int .i64 y.time, yd]], 6, 28, false⟩)).set (o := H.length) (.inl (.inr rfl)) (some ⟨[[ya, .sl yl 0 3, .sl ys 0 3, .int .i64 y.keep, .int .i64 y.time, yd]], 6, 28, false⟩)
       refine ⟨m - 1, by omega, i + 1, by omega, by omega, (hle'.trans hle5).fr_le hF (fun z hz => by have := hle'.1; rcases hz with h | h <;> omega), y, ya, yl, ys, yd, by simp, yn1, yn2, (hm5.fr hF (fun z ob hz ho => by rcases hz with h | h <;> rw [h] at ho <;> simp only [c75, c05] at ho <;> cases ho <;> rfl)).base (Nat.le_trans hle'.1 (by simp)), doR_small hd, ?_⟩
       rw [doAll_step s ds hi, <- hx, hd]
       rfl
 · have hie : i = ds.length := by omega
   subst hie
   rw [List.take_of_length_le (Nat.le_refl _)] at hx
   simp [h2, h4, c0, c1, wn1, wn2, Hp.at_set, t1, hp, <- hx]
   have hF := Fr.one H' (H.length + 1) (some ⟨[[wa, .sl wl 0 3, .sl ws 0 3, .int .i64 x.keep, .int .i64 x.time, wd]], 6, 28, false⟩)
   exact ⟨hle'.fr_le hF (fun y hy => by rw [hy]; omega), _, rfl, MSt.fr hm hF (fun y ob hy ho => by rw [hy, c1] at ho; cases ho; rfl)⟩
end Go.Proofs.YtgoeenodllmdpaaGreat.B

namespace Go.Proofs.YtgoeenodllmdpaaGreat.B
open Go.RowKit Go.Proofs
set_option linter.unusedVariables false
set_option linter.unusedSimpArgs false
variable {E : Env}
theorem DeedDo_ok (v : AV) (s : Sr) (e : Dd) (H : Hp) (hs : St H v s) (hb : StB s) (hk : e.key.size < 4611686018427387904) :
   AC Tryz.prog E 151 [ddAV e, v] H (fun u H' => RetQ H H' u (doR s e)) := by
 have hs0 := hs
 obtain ⟨a, b, c, d, rfl, n1, n2, n3, n4, hea, hed⟩ := hs.shape
 refine AC_by fol (tC_le tabJ_ok) h_impl_Deed_do ?_
 obtain ⟨H1, hH1⟩ : ∃ H1 : Hp, H1 = H ++ [some ⟨[[.int .i64 e.kind, .str e.key, .int .i64 e.num]], 3, 47, false⟩, some ⟨[[a, b, c, .int .i64 s.keep, .int .i64 s.time, d]], 6, 28, false⟩, some ⟨[[.nils, .nils, .nils, .int .i64 0, .int .i64 0, .nils]], 6, 28, false⟩] := ⟨_, rfl⟩
 have hle1 : HLe H H1 := by rw [hH1]; exact HLe.self _ _
 have b0 : H1.at (H.length + 1) = some ⟨[[a, b, c, .int .i64 s.keep, .int .i64 s.time, d]], 6, 28, false⟩ := by rw [hH1]; simp
 have b1 : H1.at H.length = some ⟨[[.int .i64 e.kind, .str e.key, .int .i64 e.num]], 3, 47, false⟩ := by rw [hH1]; simp
 have b2 : H1.at (H.length + 2) = some ⟨[[.nils, .nils, .nils, .int .i64 0, .int .i64 0, .nils]], 6, 28, false⟩ := by rw [hH1]; simp
 have hl1 : H1.length = H.length + 3 := by rw [hH1]; simp
 have u2 := Hp.at_lt b2
 have hs1 := hs0.le hle1
 simp [c_impl_Deed_do, ddAV, n1, n2, n3, n4, <- hH1, b1]
 refine c_split (fun q0 => ?_) (fun q0 => ?_) <;> simp at q0
 · have hd : doR s e = putR s e.key e.num := by simp [doR, q0]
   simp [b0, b1]
   refine cg_ex (implPut_ok _ s e.key e.num H1 hs1 hb hk) ?_
   intro v2 H2 hret
   obtain ⟨xa, xb, xc, xk, xt, xd, rfl, o1, o2, o3, o4, o5, o6⟩ := hret.shape
   have b22 := hret.1.2 _ _ b2
   have u22 := Hp.at_lt b22
   simp [o1, o2, o3, o4, o5, o6, b22, Hp.at_set, u22]
   rw [hd]
   have hF := Fr.one H2 (H.length + 2) (some ⟨[[xa, xb, xc, xk, xt, xd]], 6, 28, false⟩)
   exact hret.fin hle1 hF (fun x ob hx ho => by rw [hx, b22] at ho; cases ho; rfl) (fun x hx => by rw [hx]; omega)
 simp
 refine c_split (fun q1 => ?_) (fun q1 => ?_) <;> simp at q1
 · have hd : doR s e = takeR s e.key := by simp [doR, q1]
   simp [b0, b1]
   refine cg_ex (implTake_ok _ s e.key H1 hs1 hb hk) ?_
   intro v2 H2 hret
   obtain ⟨xa, xb, xc, xk, xt, xd, rfl, o1, o2, o3, o4, o5, o6⟩ := hret.shape
   have b22 := hret.1.2 _ _ b2
   have u22 := Hp.at_lt b22
   simp [o1, o2, o3, o4, o5, o6, b22, Hp.at_set, u22]
   rw [hd]
   have hF := Fr.one H2 (H.length + 2) (some ⟨[[xa, xb, xc, xk, xt, xd]], 6, 28, false⟩)
   exact hret.fin hle1 hF (fun x ob hx ho => by rw [hx, b22] at ho; cases ho; rfl) (fun x hx => by rw [hx]; omega)
 simp
 refine c_split (fun q2 => ?_) (fun q2 => ?_) <;> simp at q2
 · have hd : doR s e = holdR s := by simp [doR, q2]
   simp [b0, b1]
   refine cg_ex (implHold_ok _ s H1 hs1 hb) ?_
   intro v2 H2 hret
   obtain ⟨w, n, ok, hv2, hret'⟩ := hret.toS
   subst hv2
   clear hret
   have hret := hret'
   clear hret'
   obtain ⟨xa, xb, xc, xk, xt, xd, hw, o1, o2, o3, o4, o5, o6⟩ := hret.shape
   cases hw
   have b22 := hret.1.2 _ _ b2
   have u22 := Hp.at_lt b22
   simp [o1, o2, o3, o4, o5, o6, b22, Hp.at_set, u22, Hp.at_app, set_in']
   rw [hd]
   have hF := (Fr.one H2 (H.length + 2) (some ⟨[[xa, xb, xc, xk, xt, xd]], 6, 28, false⟩)).app [some ⟨[[xa, xb, xc, xk, xt, xd]], 6, 28, false⟩]
   exact hret.fin hle1 hF (fun x ob hx ho => by rw [hx, b22] at ho; cases ho; rfl) (fun x hx => by rw [hx]; omega)
 simp
 refine c_split (fun q3 => ?_) (fun q3 => ?_) <;> simp at q3
 · have hd : doR s e = freeR s e.num := by simp [doR, q3]
   simp [b0, b1]
   refine cg_ex (implFree_ok _ s e.num H1 hs1 hb) ?_
   intro v2 H2 hret
   obtain ⟨xa, xb, xc, xk, xt, xd, rfl, o1, o2, o3, o4, o5, o6⟩ := hret.shape
   have b22 := hret.1.2 _ _ b2
   have u22 := Hp.at_lt b22
   simp [o1, o2, o3, o4, o5, o6, b22, Hp.at_set, u22]
   rw [hd]
   have hF := Fr.one H2 (H.length + 2) (some ⟨[[xa, xb, xc, xk, xt, xd]], 6, 28, false⟩)
   exact hret.fin hle1 hF (fun x ob hx ho => by rw [hx, b22] at ho; cases ho; rfl) (fun x hx => by rw [hx]; omega)
 simp
 refine c_split (fun q4 => ?_) (fun q4 => ?_) <;> simp at q4
 · have hd : doR s e = letR s := by simp [doR, q4]
   simp [b0, b1]
   refine cg_ex (implDown_ok _ s H1 hs1 hb) ?_
   intro v2 H2 hret
   obtain ⟨xa, xb, xc, xk, xt, xd, rfl, o1, o2, o3, o4, o5, o6⟩ := hret.shape
   have b22 := hret.1.2 _ _ b2
   have u22 := Hp.at_lt b22
   simp [o1, o2, o3, o4, o5, o6, b22, Hp.at_set, u22]
   rw [hd]
   have hF := Fr.one H2 (H.length + 2) (some ⟨[[xa, xb, xc, xk, xt, xd]], 6, 28, false⟩)
   exact hret.fin hle1 hF (fun x ob hx ho => by rw [hx, b22] at ho; cases ho; rfl) (fun x hx => by rw [hx]; omega)
 simp
 refine c_split (fun q5 => ?_) (fun q5 => ?_) <;> simp at q5
 · have hd : doR s e = joinR s e.num := by simp [doR, q5]
   simp [b0, b1]
   refine cg_ex (implJoin_ok _ s e.num H1 hs1 hb) ?_
   intro v2 H2 hret
   obtain ⟨xa, xb, xc, xk, xt, xd, rfl, o1, o2, o3, o4, o5, o6⟩ := hret.shape
   have b22 := hret.1.2 _ _ b2
   have u22 := Hp.at_lt b22
   simp [o1, o2, o3, o4, o5, o6, b22, Hp.at_set, u22]
   rw [hd]
   have hF := Fr.one H2 (H.length + 2) (some ⟨[[xa, xb, xc, xk, xt, xd]], 6, 28, false⟩)
   exact hret.fin hle1 hF (fun x ob hx ho => by rw [hx, b22] at ho; cases ho; rfl) (fun x hx => by rw [hx]; omega)
 have hd : doR s e = none := by simp [doR, q0, q1, q2, q3, q4, q5]
 simp [b2, Hp.at_set, u2, hd, RetQ]
 exact hle1.set (by omega) _
end Go.Proofs.YtgoeenodllmdpaaGreat.B

namespace Go.Proofs.YtgoeenodllmdpaaGreat.B
open Go.RowKit Go.Proofs
set_option linter.unusedVariables false
set_option linter.unusedSimpArgs false
variable {E : Env}
def wr1 (s : Sr) (d : Dd) : List Ent := match doR s d with
 | none => []
 | some y => if d.kind = 1 then [⟨d.key, d.num, false, y.time⟩] else if d.kind = 2 then [⟨d.key, 0, true, y.time⟩] else []
def wrAll : Sr -> List Dd -> List Ent
 | s, [] => []
 | s, d :: ds => wr1 s d ++ wrAll ((doR s d).getD s) ds
theorem wrAll_app (ds es : List Dd) : ∀ s, wrAll s (ds ++ es) = wrAll s ds ++ wrAll (doAll s ds) es := by
 induction ds with
 | nil => intro s; rfl
 | cons d ds ih =>
   intro s
   show wr1 s d ++ wrAll ((doR s d).getD s) (ds ++ es) = (wr1 s d ++ wrAll ((doR s d).getD s) ds) ++ _
   rw [ih, List.append_assoc]
   rfl
theorem wrAll_step (s : Sr) (ds : List Dd) {i : Nat} (hi : i < ds.length) : wrAll s (ds.take (i + 1)) = wrAll s (ds.take i) ++ wr1 (doAll s (ds.take i)) ds[i] := by
 rw [List.take_succ_eq_append_getElem hi, wrAll_app]
 simp [wrAll]
theorem wr1_len (s : Sr) (d : Dd) : (wr1 s d).length <= 1 := by
 unfold wr1
 cases doR s d with
 | none => simp
 | some y =>
   simp only
   split
   · simp
   · split <;> simp
theorem wrAll_len (ds : List Dd) : ∀ s, (wrAll s ds).length <= ds.length := by
 induction ds with
 | nil => intro s; simp [wrAll]
 | cons d ds ih =>
   intro s
   have := ih ((doR s d).getD s)
   have := wr1_len s d
   simp only [wrAll, List.length_append, List.length_cons]
   omega
def RetP (H0 H : Hp) (u : AV) (o : Option (Sr × List Ent)) : Prop := HLe H0 H /\ match o with
 | some x => ∃ w e, u = .tu [w, e, .bool true] /\ FarS H0.length H w x.1 /\ OwnE H0 H e x.2
 | none => u = .tu [zst, .nils, .bool false]
def pastI (s : Sr) (ds : List Dd) : Option (Sr × List Ent) := if (storeOk s && decide (ds.length <= 40)) = true then some (doAll s ds, wrAll s ds) else none
theorem St.far {H : Hp} {v : AV} {s : Sr} (h : St H v s) : FarP false (fun _ _ _ => True) 0 H v s := by
 obtain ⟨a, b, c, d, lr, sr, e, h1, h2, h3, h4, h5, h6⟩ := h
 exact ⟨a, b, c, d, lr, sr, e, h1, h2, All2.mono (fun _ _ ⟨u, k1, k2⟩ => ⟨u, k1, k2, fun _ _ => Nat.zero_le _⟩) h3, h4, All2.mono (fun _ _ ⟨u, k1, k2, k3⟩ => ⟨u, k1, k2, fun _ _ => Nat.zero_le _⟩) h5, h6, fun _ _ => Nat.zero_le _, trivial⟩
theorem St.fr6 {S : Nat -> Prop} {H H' : Hp} {v : AV} {s : Sr} (h : St H v s) (hf : Fr S H H') (hS : ∀ y ob, S y -> H.at y = some ob -> ob.esz = 6) : St H' v s := (h.far.fr hf (fun y hy => .inr (fun ob ho => hS y ob hy ho))).st
theorem OwnM.fr6 {H0 H H' : Hp} {v : AV} {es : List Ent} {S : Nat -> Prop} (h : OwnE H0 H v es) (hf : Fr S H H') (hS : ∀ y ob, S y -> H.at y = some ob -> ob.esz = 6) : OwnE H0 H' v es := ⟨h.1.fr hf (fun y hy hs => by
 obtain ⟨ob, ho⟩ : ∃ ob, H.at y = some ob := by
   rcases h.1 with ⟨rfl, _⟩ | ⟨rfl, _⟩ | ⟨o', ob, rfl, k, _⟩
   · exact hy.elim
   · exact hy.elim
   · have : o' = y := hy
     subst this
     exact ⟨ob, k⟩
 have := hS y ob hs ho
 have := h.1.esz hy ho
 omega), h.2⟩
def PsI (H : Hp) (u : AV) (ds : List Dd) (s : Sr) (m : Nat) (t : Tm) (H' : Hp) : Prop := ∃ (i : Nat) (x : Sr) (L7 : Nat) (wa : AV) (wl ws : Nat) (wd v8 : AV) (es : List Ent), i + m = ds.length /\ t 4 = .pt (H.length + 1) 0 0 /\ t 7 = .pt L7 0 0 /\ t 8 = v8 /\ t 24 = u /\ t 25 = .int .i64 ds.length /\ t 26 = .int .i64 i /\ HLe H H' /\ H.length + 2 <= L7 /\
   H'.at L7 = some ⟨[[wa, .sl wl 0 3, .sl ws 0 3, .int .i64 x.keep, .int .i64 x.time, wd]], 6, 28, false⟩ /\ H'.at (H.length + 1) = some ⟨[[.nils, .nils, .nils, .int .i64 0, .int .i64 0, .nils]], 6, 28, false⟩ /\
   one wa = true /\ one wd = true /\ FarS H.length H' (.ag [wa, .sl wl 0 3, .sl ws 0 3, .int .i64 x.keep, .int .i64 x.time, wd]) x /\ Small x /\ x = doAll s (ds.take i) /\ OwnE H H' v8 es /\ es = wrAll s (ds.take i)
set_option maxHeartbeats 1600000 in
theorem past_ok (v u : AV) (s : Sr) (ds : List Dd) (H : Hp) (hs : St H v s) (hb : StB s) (hu : Dds H u ds) (hk : ∀ d ∈ ds, d.key.size < 4611686018427387904) :
   AC Tryz.prog E 71 [v, u] H (fun w H' => RetP H H' w (pastI s ds)) := by
 have hs0 := hs
 obtain ⟨a, b, c, d, rfl, n1, n2, n3, n4, hea, hed⟩ := hs.shape
 refine AC_by fol (tC_le tabJ_ok) h_impl_past ?_
 obtain ⟨H1, hH1⟩ : ∃ H1 : Hp, H1 = H ++ [some ⟨[[a, b, c, .int .i64 s.keep, .int .i64 s.time, d]], 6, 28, false⟩, some ⟨[[.nils, .nils, .nils, .int .i64 0, .int .i64 0, .nils]], 6, 28, false⟩] := ⟨_, rfl⟩
 have hle1 : HLe H H1 := by rw [hH1]; exact HLe.self _ _
 have b0 : H1.at H.length = some ⟨[[a, b, c, .int .i64 s.keep, .int .i64 s.time, d]], 6, 28, false⟩ := by rw [hH1]; simp
 have b1 : H1.at (H.length + 1) = some ⟨[[.nils, .nils, .nils, .int .i64 0, .int .i64 0, .nils]], 6, 28, false⟩ := by rw [hH1]; simp
 have hl1 : H1.length = H.length + 2 := by rw [hH1]; simp
 have u1 := Hp.at_lt b1
 have hlen : lenV u = .int .i64 ds.length := by simpa using Rows.len hu
 have hslc : slC u := Rows.slc hu
 simp [c_impl_past, n1, n2, n3, n4, <- hH1, b0]
 refine cg_use (implStoreOk_ok _ s H1 (hs0.le hle1) hb) ?_
 cases hso : storeOk s with
 | false =>
   simp [b1, Hp.at_set, u1, pastI, hso, RetP]
   exact hle1.set (by omega) _
 | true =>
 have hsm := storeOk_small hso
 simp [hlen, hslc]
 refine c_split (fun hq => ?_) (fun hq => ?_) <;> simp at hq
 · have hp : pastI s ds = none := by simp [pastI, hso]; omega
   simp [b1, Hp.at_set, u1, hp, RetP]
   exact hle1.set (by omega) _
 have hp : pastI s ds = some (doAll s ds, wrAll s ds) := by simp [pastI, hso]; omega
 simp [b0]
 refine cg_ex (clone_ok _ s H1 (hs0.le hle1) hb hsm.2.2.2.2.2.2.2.1 hsm.2.2.2.2.2.2.2.2) ?_
 rintro v2 H2 ⟨hle2, hm2, hq2⟩
 obtain ⟨xa, xl, xs, xd, rfl, xn1, xn2, xdi⟩ := hm2.shape
 have b02 := hle2.2 _ _ b0
 have b12 := hle2.2 _ _ b1
 obtain ⟨G, hG⟩ : ∃ G : Hp, G = H2 ++ [some ⟨[[xa, .sl xl 0 3, .sl xs 0 3, .int .i64 s.keep, .int .i64 s.time, xd]], 6, 28, false⟩] := ⟨_, rfl⟩
 have hleG : HLe H2 G := by rw [hG]; exact HLe.self _ _
 have bG : G.at H2.length = some ⟨[[xa, .sl xl 0 3, .sl xs 0 3, .int .i64 s.keep, .int .i64 s.time, xd]], 6, 28, false⟩ := by rw [hG]; simp
 have b1G := hleG.2 _ _ b12
 simp [xn1, xn2, hlen, hslc, <- hG]
 refine W_for (fun m t H' => PsI H u ds s m t H') ds.length ?_ (tC_mono AC_mono) ?_
 · exact ⟨0, s, H2.length, xa, xl, xs, xd, .nils, [], by omega, by simp, by simp, by simp, by simp, by simp, by simp, (hle1.trans hle2).trans hleG, by have := hle2.1; omega, bG, b1G, xn1, xn2, (hq2.fr (S := fun _ => False) hleG.fr (fun y h => h.elim)).base hle1.1, hsm, by simp [doAll], OwnM.nils, by simp [wrAll]⟩
 rintro m t H' ⟨i, x, L7, wa, wl, ws, wd, v8, es, him, h4, h7, h8, h24, h25, h26, hle', hL7, c7, c4, wn1, wn2, hst, hsx, hx, hv8, hes⟩
 simp [h4, h7, h8, h24, h25, h26]
 refine c_split (fun hq2 => ?_) (fun hq2 => ?_) <;> simp at hq2
 · have hi : i < ds.length := by omega
   obtain ⟨o1, i1, ob1, rfl, a1, a2, a3⟩ := Dds.get (Rows.le hu hle') hi
   have hw := wrapN (i := i) (by omega)
   obtain ⟨dd, hdd⟩ : ∃ dd, dd = ds[i] := ⟨_, rfl⟩
   have hkd : dd.key.size < 4611686018427387904 := by rw [hdd]; exact hk _ (List.getElem_mem hi)
   rw [<- hdd] at a3
   obtain ⟨K, hK⟩ : ∃ K : Hp, K = H' ++ [some ⟨[[.int .i64 dd.kind, .str dd.key, .int .i64 dd.num]], 3, 47, false⟩] := ⟨_, rfl⟩
   have hleK : HLe H' K := by rw [hK]; exact HLe.self _ _
   have bK : K.at H'.length = some ⟨[[.int .i64 dd.kind, .str dd.key, .int .i64 dd.num]], 3, 47, false⟩ := by rw [hK]; simp
   have c7K := hleK.2 _ _ c7
   simp [h4, h7, h8, h24, h25, h26, a1, a2, a3, hi, <- hK, bK, c7K]
   refine cg_ex (DeedDo_ok _ x dd K (hst.st.le hleK) hsx.stB hkd) ?_
   rintro v5 H5 hret
   have hle5 : HLe K H5 := hret.1
   have b5 := hle5.2 _ _ bK
   have c75 := hle5.2 _ _ c7K
   have c45 := hle5.2 _ _ (hleK.2 _ _ c4)
   have hxs : doAll s (ds.take (i + 1)) = (doR x dd).getD x := by rw [doAll_step s ds hi, <- hx, <- hdd]
   have hws : wrAll s (ds.take (i + 1)) = es ++ wr1 x dd := by rw [wrAll_step s ds hi, <- hes, <- hx, <- hdd]
   cases hd : doR x dd with
   | none =>
     rw [hd] at hret hxs
     obtain ⟨hle5', rfl⟩ := hret
     simp [h4, h7, h8, h24, h25, h26, hw]
     have hleA : HLe H' (H5 ++ [some ⟨[[.nils, .nils, .nils, .int .i64 0, .int .i64 0, .nils]], 6, 28, false⟩]) := (hleK.trans hle5).app _
     exact ⟨m - 1, by omega, i + 1, x, L7, wa, wl, ws, wd, v8, es, by omega, by simp [h4], by simp [h7], by simp [h8], by simp [h24], by simp [h25], by simp, hle'.trans hleA, hL7, hleA.2 _ _ c7, hleA.2 _ _ c4, wn1, wn2, hst.fr (S := fun _ => False) hleA.fr (fun y h => h.elim), hsx, hxs.symm, hv8.le hleA, by rw [hws]; simp [wr1, hd]⟩
   | some y =>
     rw [hd] at hret hxs
     obtain ⟨hle5', w5, rfl, hm5, hq5⟩ := hret
     obtain ⟨ya, yl, ys, yd, hy, yn1, yn2, ydi⟩ := hm5.shape
     subst hy
     have u75 := Hp.at_lt c75
     have ne7 : L7 ≠ H.length + 1 := by omega
     have ne7' : L7 ≠ H'.length := by have := Hp.at_lt c7; omega
     have l5 := hle5.1
     have lK := hleK.1
     obtain ⟨Q, hQ⟩ : ∃ Q : Hp, Q = H5 ++ [some ⟨[[ya, .sl yl 0 3, .sl ys 0 3, .int .i64 y.keep, .int .i64 y.time, yd]], 6, 28, false⟩] := ⟨_, rfl⟩
     have hleQ : HLe H5 Q := by rw [hQ]; exact HLe.self _ _
     have bQ : Q.at H5.length = some ⟨[[ya, .sl yl 0 3, .sl ys 0 3, .int .i64 y.keep, .int .i64 y.time, yd]], 6, 28, false⟩ := by rw [hQ]; simp
     have c7Q := hleQ.2 _ _ c75
     have u7Q := Hp.at_lt c7Q
     obtain ⟨R, hR⟩ : ∃ R : Hp, R = List.set Q L7 (some ⟨[[ya, .sl yl 0 3, .sl ys 0 3, .int .i64 y.keep, .int .i64 y.time, yd]], 6, 28, false⟩) := ⟨_, rfl⟩
     have FR : Fr (fun y => y = L7) Q R := by rw [hR]; exact Fr.one _ _ _
     have cR : R.at L7 = some ⟨[[ya, .sl yl 0 3, .sl ys 0 3, .int .i64 y.keep, .int .i64 y.time, yd]], 6, 28, false⟩ := by rw [hR]; exact Hp.at_set _ u7Q
     have bR := FR.2 _ _ ne7'.symm (hleQ.2 _ _ b5)
     have c4R := FR.2 _ _ ne7.symm (hleQ.2 _ _ c45)
     have hqR := (hq5.fr hleQ.fr (S := fun _ => False) (fun y hy => hy.elim)).fr FR (fun y hy => .inr (fun ob ho => by rw [hy, c7Q] at ho; cases ho; rfl))
     have hvR := ((hv8.le ((hleK.trans hle5).trans hleQ)).fr6 FR (fun y ob hy ho => by rw [hy, c7Q] at ho; cases ho; rfl))
     have hleR : HLe H R := (hle'.trans ((hleK.trans hle5).trans hleQ)).fr_le FR (fun y hy => by omega)
     have hlv : ∀ y, v8.of y -> y < K.length := fun y hy => by have := hv8.1.lt hy; omega
     have hle8 : es.length <= 1000 := by
       have := wrAll_len (ds.take i) s
       rw [<- hes, List.length_take] at this
       omega
     simp [yn1, yn2, h4, h7, h8, h24, h25, h26, hw, <- hQ, bQ, c7Q, u7Q, <- hR, bR, cR]
     refine c_split (fun q0 => ?_) (fun q0 => ?_) <;> simp at q0
     · simp [h4, h7, h8, h24, h25, h26, bR, cR]
       refine appG_add (y := ⟨dd.key, dd.num, false, y.time⟩) (row := entRow) (bytes := 40) (H0 := H) hvR hleR (by omega) rfl (fun v9 H9 g1 g2 g3 g4 => ?_)
       have nd : ∀ {z : Nat} {ob : Ob}, R.at z = some ob -> ob.esz = 6 -> ¬ v8.of z := fun ho he hz => by
         have := hvR.1.esz hz ho
         omega
       have c79 := g3.2 _ _ (nd cR rfl) cR
       have c49 := g3.2 _ _ (nd c4R rfl) c4R
       have hq9 := hqR.fr g3 (fun y hy => .inl (hlv y hy))
       simp [h4, h7, h8, h24, h25, h26, hw]
       exact ⟨m - 1, by omega, i + 1, y, L7, ya, yl, ys, yd, v9, es ++ [⟨dd.key, dd.num, false, y.time⟩], by omega, by simp [h4], by simp [h7], by simp, by simp [h24], by simp [h25], by simp, g1, hL7, c79, c49, yn1, yn2, hq9.base (Nat.le_trans hle'.1 hleK.1), doR_small hd, hxs.symm, g2, by rw [hws]; simp [wr1, hd, q0]⟩
     simp
     refine c_split (fun q1 => ?_) (fun q1 => ?_) <;> simp at q1
     · simp [h4, h7, h8, h24, h25, h26, bR, cR]
       refine appG_add (y := ⟨dd.key, 0, true, y.time⟩) (row := entRow) (bytes := 40) (H0 := H) hvR hleR (by omega) rfl (fun v9 H9 g1 g2 g3 g4 => ?_)
       have nd : ∀ {z : Nat} {ob : Ob}, R.at z = some ob -> ob.esz = 6 -> ¬ v8.of z := fun ho he hz => by
         have := hvR.1.esz hz ho
         omega
       have c79 := g3.2 _ _ (nd cR rfl) cR
       have c49 := g3.2 _ _ (nd c4R rfl) c4R
       have hq9 := hqR.fr g3 (fun y hy => .inl (hlv y hy))
       simp [h4, h7, h8, h24, h25, h26, hw]
       exact ⟨m - 1, by omega, i + 1, y, L7, ya, yl, ys, yd, v9, es ++ [⟨dd.key, 0, true, y.time⟩], by omega, by simp [h4], by simp [h7], by simp, by simp [h24], by simp [h25], by simp, g1, hL7, c79, c49, yn1, yn2, hq9.base (Nat.le_trans hle'.1 hleK.1), doR_small hd, hxs.symm, g2, by rw [hws]; simp [wr1, hd, q1]⟩
     simp [h4, h7, h8, h24, h25, h26, hw]
     exact ⟨m - 1, by omega, i + 1, y, L7, ya, yl, ys, yd, v8, es, by omega, by simp [h4], by simp [h7], by simp [h8], by simp [h24], by simp [h25], by simp, hleR, hL7, cR, c4R, yn1, yn2, hqR.base (Nat.le_trans hle'.1 hleK.1), doR_small hd, hxs.symm, hvR, by rw [hws]; simp [wr1, hd, q0, q1]⟩
 · have hie : i = ds.length := by omega
   subst hie
   rw [List.take_of_length_le (Nat.le_refl _)] at hx hes
   have t1 := Hp.at_lt c4
   simp [h4, h7, h8, c7, c4, wn1, wn2, Hp.at_set, t1, hp, <- hx, <- hes]
   have F := Fr.one H' (H.length + 1) (some ⟨[[wa, .sl wl 0 3, .sl ws 0 3, .int .i64 x.keep, .int .i64 x.time, wd]], 6, 28, false⟩)
   have hS : ∀ y ob, y = H.length + 1 -> H'.at y = some ob -> ob.esz = 6 := fun y ob hy ho => by rw [hy, c4] at ho; cases ho; rfl
   exact ⟨hle'.fr_le F (fun y hy => by rw [hy]; omega), _, _, rfl, hst.fr F (fun y hy => .inr (fun ob ho => hS y ob hy ho)), hv8.fr6 F hS⟩
end Go.Proofs.YtgoeenodllmdpaaGreat.B

namespace Go.Proofs.YtgoeenodllmdpaaGreat.B
open Go.RowKit Go.Proofs
set_option linter.unusedVariables false
set_option linter.unusedSimpArgs false
structure Hist (s : Sr) (all : List Ent) : Prop where
 val : Val s
 asc : all.Pairwise (fun a b => a.time < b.time)
 old : ∀ e ∈ all, e.time <= s.time
 ok : ∀ e ∈ all, entOk e = true
 same : ∀ t, knownR s t = true -> Seen t (entsR s) all
theorem known_iff {s : Sr} {t : Int} : knownR s t = true ↔ t ∈ s.tms \/ t = s.time := by
 simp only [knownR, Bool.or_eq_true, decide_eq_true_eq]
 exact Or.comm
theorem best_snoc {l : List Ent} {e : Ent} {k : ByteArray} {t : Int} {f : Ent} (hl : ∀ z ∈ l, z.time < e.time) {l' : List Ent} (hm : ∀ z, z ∈ l' ↔ z = e \/ z ∈ l) : Best l' k t f ↔ (e.key = k /\ e.time <= t /\ f = e) \/ (¬ (e.key = k /\ e.time <= t) /\ Best l k t f) := by
 constructor
 · intro hb
   by_cases he : e.key = k /\ e.time <= t
   · refine .inl ⟨he.1, he.2, ?_⟩
     rcases (hm f).1 hb.mem with h | h
     · exact h
     · have a1 := hb.max e ((hm e).2 (.inl rfl)) he.1 he.2
       have a2 := hl f h
       omega
   · refine .inr ⟨he, ?_⟩
     rcases (hm f).1 hb.mem with h | h
     · exact absurd ⟨by rw [<- h]; exact hb.key, by rw [<- h]; exact hb.le⟩ he
     · exact ⟨h, hb.key, hb.le, fun z hz => hb.max z ((hm z).2 (.inr hz))⟩
 · rintro (⟨h1, h2, rfl⟩ | ⟨h1, hb⟩)
   · refine ⟨(hm f).2 (.inl rfl), h1, h2, fun z hz hk ht => ?_⟩
     rcases (hm z).1 hz with rfl | hz
     · exact Int.le_refl _
     · have := hl z hz
       omega
   · refine ⟨(hm f).2 (.inr hb.mem), hb.key, hb.le, fun z hz hk ht => ?_⟩
     rcases (hm z).1 hz with rfl | hz
     · exact absurd ⟨hk, ht⟩ h1
     · exact hb.max z hz hk ht
theorem mem_snoc {l : List Ent} {e : Ent} : ∀ z, z ∈ l ++ [e] ↔ z = e \/ z ∈ l := fun z => by
 rw [List.mem_append, List.mem_singleton]
 exact Or.comm
theorem best_late {l : List Ent} {k : ByteArray} {t t' : Int} {f : Ent} (h : ∀ z ∈ l, z.time <= t) (ht : t <= t') : Best l k t' f ↔ Best l k t f :=
 ⟨fun hb => ⟨hb.mem, hb.key, h f hb.mem, fun z hz hk hzt => hb.max z hz hk (by omega)⟩, fun hb => ⟨hb.mem, hb.key, by have := hb.le; omega, fun z hz hk hzt => hb.max z hz hk (h z hz)⟩⟩
theorem Hist.add {s x : Sr} {all : List Ent} {e : Ent} (h : Hist s all) (he : e.time = s.time + 1) (hx : addR s e = some x) : Hist x (all ++ [e]) /\ x.time = s.time + 1 := by
 obtain ⟨a, b, c, u, v, w, hv⟩ := h.val
 obtain ⟨hxv, ht, hkp, htm, hek, y, hfd, hsub, hmem⟩ := add_V hv he hx
 have hy : ∀ z ∈ entsR y, z.time <= s.time := fun z hz => h.val.late z (hsub z hz)
 refine ⟨⟨hxv, ?_, ?_, ?_, ?_⟩, ht⟩
 · exact List.pairwise_append.2 ⟨h.asc, List.pairwise_singleton _ _, fun p hp q hq => by rw [List.mem_singleton.1 hq]; have := h.old p hp; omega⟩
 · intro z hz
   rcases (mem_snoc z).1 hz with rfl | hz
   · omega
   · have := h.old z hz
     omega
 · intro z hz
   rcases (mem_snoc z).1 hz with rfl | hz
   · exact hek
   · exact h.ok z hz
 · intro t hk k f hf
   rw [best_snoc (l := entsR y) (fun z hz => by have := hy z hz; omega) hmem, best_snoc (l := all) (fun z hz => by have := h.old z hz; omega) mem_snoc]
   have core : Best (entsR y) k t f ↔ Best all k t f := by
     rcases known_iff.1 hk with h1 | h1
     · rw [htm] at h1
       rw [<- hfd t (.inl h1) k f hf]
       exact h.same t (known_iff.2 (.inl h1)) k f hf
     · rw [best_late (t := s.time) hy (by omega), best_late (t := s.time) (l := all) h.old (by omega), <- hfd s.time (.inr rfl) k f hf]
       exact h.same s.time (known_now s) k f hf
   rw [core]
theorem Hist.keep {s x : Sr} {all : List Ent} (h : Hist s all) (hx : Val x) (ht : x.time = s.time) (hk : ∀ t, knownR x t = true -> knownR s t = true) (hf : Found s x) : Hist x all :=
 ⟨hx, h.asc, fun e he => by rw [ht]; exact h.old e he, h.ok, fun t hkt k f hg => by
   have h1 := hk t hkt
   rw [<- hfd_iff h1 hf k f hg]
   exact h.same t h1 k f hg⟩
where hfd_iff {s x : Sr} {t : Int} (h1 : knownR s t = true) (hf : Found s x) (k : ByteArray) (f : Ent) (hg : f.gone = false) : Best (entsR s) k t f ↔ Best (entsR x) k t f := hf t (known_iff.1 h1) k f hg
theorem Found.self {s x : Sr} (h1 : x.top = s.top) (h2 : x.lev = s.lev) : Found s x := fun t _ k f _ => by
 unfold entsR
 rw [h1, h2]
theorem Hist.do {s x : Sr} {all : List Ent} {d : Dd} (h : Hist s all) (hx : doR s d = some x) : Hist x (all ++ wr1 s d) := by
 have hw : wr1 s d = if d.kind = 1 then [⟨d.key, d.num, false, x.time⟩] else if d.kind = 2 then [⟨d.key, 0, true, x.time⟩] else [] := by
   unfold wr1
   rw [hx]
 have hv0 := h.val
 obtain ⟨a, b, c, u, v, w, hv⟩ := hv0
 unfold doR at hx
 by_cases k1 : d.kind = 1
 · rw [if_pos k1] at hx
   obtain ⟨h1, h2⟩ := h.add (e := ⟨d.key, d.num, false, s.time + 1⟩) rfl hx
   rw [hw, if_pos k1, h2]
   exact h1
 rw [if_neg k1] at hx hw
 by_cases k2 : d.kind = 2
 · rw [if_pos k2] at hx
   obtain ⟨h1, h2⟩ := h.add (e := ⟨d.key, 0, true, s.time + 1⟩) rfl hx
   rw [hw, if_pos k2, h2]
   exact h1
 rw [if_neg k2] at hx hw
 rw [hw, List.append_nil]
 by_cases k3 : d.kind = 3
 · rw [if_pos k3] at hx
   obtain ⟨h1, h2, h3, h4, h5, h6, h7⟩ := hold_V hv hx
   refine h.keep ⟨a, b, c, u, v, w, h1⟩ h4 (fun t ht => ?_) (Found.self h2 h3)
   rcases known_iff.1 ht with hm | hm
   · rcases h6 with h6 | h6
     · rw [h6] at hm
       exact known_iff.2 (.inl hm)
     · rw [h6] at hm
       rcases List.mem_append.1 hm with hm | hm
       · exact known_iff.2 (.inl hm)
       · exact known_iff.2 (.inr (List.mem_singleton.1 hm))
   · exact known_iff.2 (.inr (by rw [hm, h4]))
 rw [if_neg k3] at hx
 by_cases k4 : d.kind = 4
 · rw [if_pos k4] at hx
   obtain ⟨h1, h2, h3, h4, h5, h6⟩ := free_V hv hx
   refine h.keep ⟨a, b, c, u, v, w, h1⟩ h4 (fun t ht => ?_) (Found.self h2 h3)
   rcases known_iff.1 ht with hm | hm
   · rw [h6] at hm
     exact known_iff.2 (.inl (List.mem_filter.1 hm).1)
   · exact known_iff.2 (.inr (by rw [hm, h4]))
 rw [if_neg k4] at hx
 by_cases k5 : d.kind = 5
 · rw [if_pos k5] at hx
   unfold letR at hx
   rw [if_pos hv.ok] at hx
   obtain ⟨h1, h2, h3, h4, h5, h6, h7⟩ := down_V hv hx
   refine h.keep h1 h3 (fun t ht => ?_) h7
   rcases known_iff.1 ht with hm | hm
   · rw [h5] at hm
     exact known_iff.2 (.inl hm)
   · exact known_iff.2 (.inr (by rw [hm, h3]))
 rw [if_neg k5] at hx
 by_cases k6 : d.kind = 6
 · rw [if_pos k6] at hx
   obtain ⟨h1, h2, h3, h4, h5, h6, h7⟩ := join_V hv hx
   refine h.keep h1 h3 (fun t ht => ?_) h7
   rcases known_iff.1 ht with hm | hm
   · rw [h5] at hm
     exact known_iff.2 (.inl hm)
   · exact known_iff.2 (.inr (by rw [hm, h3]))
 rw [if_neg k6] at hx
 cases hx
theorem Hist.all : ∀ (ds : List Dd) {s : Sr} {all : List Ent}, Hist s all -> Hist (doAll s ds) (all ++ wrAll s ds)
 | [], s, all, h => by simpa [doAll, wrAll] using h
 | d :: ds, s, all, h => by
   have e : doAll s (d :: ds) = doAll ((doR s d).getD s) ds := rfl
   have e2 : wrAll s (d :: ds) = wr1 s d ++ wrAll ((doR s d).getD s) ds := rfl
   rw [e, e2, <- List.append_assoc]
   cases hd : doR s d with
   | none =>
     have hw : wr1 s d = [] := by unfold wr1; rw [hd]
     rw [hw, List.append_nil]
     exact Hist.all ds h
   | some x => exact Hist.all ds (h.do hd)
theorem Hist.start {s : Sr} (h : Val s) (ht : s.time <= 0) : Hist s [] := by
 have hn : entsR s = [] := by
   cases he : entsR s with
   | nil => rfl
   | cons e r =>
     have h1 := h.late e (by rw [he]; simp)
     have h2 := h.ent e (by rw [he]; simp)
     simp only [entOk, Bool.and_eq_true, decide_eq_true_eq] at h2
     omega
 exact ⟨h, List.Pairwise.nil, (fun e he => by cases he), (fun e he => by cases he), fun t _ k f _ => by rw [hn]⟩
def lastR (k : ByteArray) (t : Int) (all : List Ent) : Option Ent := all.reverse.find? (fun e => decide (e.key = k /\ e.time <= t))
def pastGet (all : List Ent) (k : ByteArray) (t : Int) : Int × Bool := match lastR k t all with
 | some e => if e.gone = true then (0, false) else (e.val, true)
 | none => (0, false)
theorem rev_best {k : ByteArray} {t : Int} : ∀ {r : List Ent}, r.Pairwise (fun a b => b.time < a.time) -> ∀ {e : Ent}, r.find? (fun e => decide (e.key = k /\ e.time <= t)) = some e ↔ Best r k t e
 | [], _, e => ⟨(fun h => by cases h), (fun h => by cases h.mem)⟩
 | y :: r, hp, e => by
   obtain ⟨h1, h2⟩ := List.pairwise_cons.1 hp
   rw [List.find?_cons]
   by_cases h : y.key = k /\ y.time <= t
   · have : decide (y.key = k /\ y.time <= t) = true := decide_eq_true h
     rw [this]
     simp only
     constructor
     · intro he
       obtain rfl := Option.some.inj he
       refine ⟨by simp, h.1, h.2, fun z hz hk ht => ?_⟩
       rcases List.mem_cons.1 hz with rfl | hz
       · exact Int.le_refl _
       · have := h1 z hz
         omega
     · intro hb
       rcases List.mem_cons.1 hb.mem with he | he
       · rw [he]
       · have a1 := h1 e he
         have a2 := hb.max y (by simp) h.1 h.2
         omega
   · have : decide (y.key = k /\ y.time <= t) = false := decide_eq_false h
     rw [this]
     simp only
     rw [rev_best h2]
     constructor
     · intro hb
       refine ⟨List.mem_cons_of_mem _ hb.mem, hb.key, hb.le, fun z hz hk ht => ?_⟩
       rcases List.mem_cons.1 hz with rfl | hz
       · exact absurd ⟨hk, ht⟩ h
       · exact hb.max z hz hk ht
     · intro hb
       rcases List.mem_cons.1 hb.mem with he | he
       · rw [<- he] at h
         exact absurd ⟨hb.key, hb.le⟩ h
       · exact ⟨he, hb.key, hb.le, fun z hz => hb.max z (List.mem_cons_of_mem _ hz)⟩
theorem lastR_best {k : ByteArray} {t : Int} {all : List Ent} (h : all.Pairwise (fun a b => a.time < b.time)) {e : Ent} : lastR k t all = some e ↔ Best all k t e := by
 unfold lastR
 rw [rev_best (List.pairwise_reverse.2 h)]
 exact ⟨Best.congr (fun x => List.mem_reverse), Best.congr (fun x => List.mem_reverse.symm)⟩
theorem Hist.got {s : Sr} {all : List Ent} (h : Hist s all) {k : ByteArray} {t : Int} (ht : knownR s t = true) : gotR s k t = pastGet all k t := by
 have hs := h.same t ht
 unfold pastGet
 by_cases hk : keyOk k = true
 · cases hl : lastR k t all with
   | none =>
     have hn : ∀ f : Ent, f.gone = false -> ¬ Best (entsR s) k t f := fun f hf hb => by
       have := (lastR_best h.asc).2 ((hs k f hf).1 hb)
       rw [hl] at this
       cases this
     unfold gotR
     rw [if_pos ⟨h.val.ok, hk, ht⟩]
     cases hg : getR s k t with
     | none => rfl
     | some f =>
       have hb := h.val.best.1 hg
       cases hf : f.gone with
       | false => exact absurd hb (hn f hf)
       | true => simp [hf, entOk_gone (h.val.ent f hb.mem) hf]
   | some e =>
     have hb := (lastR_best h.asc).1 hl
     simp only
     cases hg : e.gone with
     | false =>
       have hb2 := (hs k e hg).2 hb
       unfold gotR
       rw [if_pos ⟨h.val.ok, hk, ht⟩, h.val.best.2 hb2]
       simp [hg]
     | true =>
       have hn : ∀ f : Ent, f.gone = false -> ¬ Best (entsR s) k t f := fun f hf hb3 => by
         have := (lastR_best h.asc).2 ((hs k f hf).1 hb3)
         rw [hl] at this
         obtain rfl := Option.some.inj this
         rw [hg] at hf
         cases hf
       unfold gotR
       rw [if_pos ⟨h.val.ok, hk, ht⟩]
       cases hg2 : getR s k t with
       | none => rfl
       | some f =>
         have hb2 := h.val.best.1 hg2
         cases hf : f.gone with
         | false => exact absurd hb2 (hn f hf)
         | true => simp [hf, entOk_gone (h.val.ent f hb2.mem) hf]
 · unfold gotR
   rw [if_neg (fun h => hk h.2.1)]
   cases hl : lastR k t all with
   | none => rfl
   | some e =>
     have hb := (lastR_best h.asc).1 hl
     have := h.ok e hb.mem
     simp only [entOk, Bool.and_eq_true] at this
     rw [hb.key] at this
     exact absurd this.1.1.1 hk
end Go.Proofs.YtgoeenodllmdpaaGreat.B

namespace Go.Proofs.YtgoeenodllmdpaaGreat.B
open Go.RowKit Go.Proofs
set_option linter.unusedVariables false
set_option linter.unusedSimpArgs false
variable {E : Env}
theorem lastR_step {k : ByteArray} {t : Int} {all : List Ent} {i : Nat} (hi : i < all.length) : lastR k t (all.take (i + 1)) = if all[i].key = k /\ all[i].time <= t then some all[i] else lastR k t (all.take i) := by
 unfold lastR
 rw [List.take_succ_eq_append_getElem hi, List.reverse_append, List.reverse_singleton, List.singleton_append, List.find?_cons]
 by_cases h : all[i].key = k /\ all[i].time <= t
 · rw [if_pos h, decide_eq_true h]
 · rw [if_neg h, decide_eq_false h]
def lateAV (o : Option Ent) : AV := .tu [.ag (entRow (o.getD ⟨⟨#[]⟩, 0, false, 0⟩)), .bool (match o with | some e => !e.gone | none => false)]
theorem latest_ok (a : AV) (all : List Ent) (k : ByteArray) (time : Int) (H : Hp) (ha : Ents H a all) (hn : all.length < 1099511627776) :
   AC Tryz.prog E 88 [a, .str k, .int .i64 time] H (fun v H' => v = lateAV (lastR k time all) /\ H' = H) := by
 refine AC_byp (tC_le tabJ_ok) h_impl_latest (by simp [lateAV, entRow]) ?_
 have l1 := ha.len
 obtain ⟨H1, hH1⟩ : ∃ H1 : Hp, H1 = H ++ [some ⟨[[.str ⟨#[]⟩, .int .i64 0, .bool false, .int .i64 0]], 4, 99, false⟩] := ⟨_, rfl⟩
 have hle1 : HLe H H1 := by rw [hH1]; exact HLe.self _ _
 have b0 : H1.at H.length = some ⟨[[.str ⟨#[]⟩, .int .i64 0, .bool false, .int .i64 0]], 4, 99, false⟩ := by rw [hH1]; simp
 have hw0 : IntKind.i64.wrap ((all.length : Int) - 1) = (all.length : Int) - 1 := wrap64 (by omega) (by omega)
 simp [c_impl_latest, l1, ha.slc, <- hH1, hw0]
 refine W_for (fun m t H' => m <= all.length /\ t 0 = a /\ t 1 = .str k /\ t 2 = .int .i64 time /\ t 6 = .pt H.length 0 0 /\ t 8 = .int .i64 ((m : Int) - 1) /\ lastR k time (all.take m) = lastR k time all /\ H' = H1) all.length ?_ (tC_mono AC_mono) ?_
 · exact ⟨Nat.le_refl _, by simp, by simp, by simp, by simp, by simp, by rw [List.take_length], rfl⟩
 rintro m t H' ⟨hm, t0, t1, t2, t6, t8, hP, rfl⟩
 have u0 := Hp.at_lt b0
 cases m with
 | zero =>
   have hl : lastR k time all = none := by rw [<- hP]; rfl
   rw [hl]
   simp [t0, t1, t2, t6, t8, b0, u0, lateAV, entRow, Hp.at_set]
   exact hle1.set (Nat.le_refl _) _
 | succ i =>
   have hi : i < all.length := by omega
   rw [lastR_step hi] at hP
   obtain ⟨o1, i1, ob1, rfl, x0, x2, x3⟩ := ha.get hi
   have x1 := hle1.2 _ _ x0
   have hne : H.length ≠ o1 := by have := Hp.at_lt x0; omega
   have hii : ((i + 1 : Nat) : Int) - 1 = i := by omega
   have hge : (0 : Int) <= i := by omega
   have hw : IntKind.i64.wrap ((i : Int) - 1) = (i : Int) - 1 := wrap64 (by omega) (by omega)
   obtain ⟨e, he⟩ : ∃ e, e = all[i] := ⟨_, rfl⟩
   rw [<- he] at x3 hP
   rw [hii] at t8
   simp [t0, t1, t2, t6, t8, x1, x2, x3, hi]
   by_cases h1 : e.key = k
   · by_cases h2 : e.time <= time
     · rw [if_pos ⟨h1, h2⟩] at hP
       rw [<- hP]
       simp [h1, h2, t0, t1, t2, t6, t8, x1, x2, x3, hi, b0, u0, Hp.at_set, Hp.at_set_ne, hne, lateAV, entRow]
       exact hle1.set (Nat.le_refl _) _
     · rw [if_neg (fun h => h2 h.2)] at hP
       simp [h1, h2, t0, t1, t2, t6, t8, x1, x2, x3, hi, hw]
       exact ⟨i, by omega, by omega, rfl, hP⟩
   · rw [if_neg (fun h => h1 h.1)] at hP
     simp [h1, t0, t1, t2, t6, t8, x1, x2, x3, hi, hw]
     exact ⟨i, by omega, by omega, rfl, hP⟩
theorem PastGet_ok (a : AV) (all : List Ent) (k : ByteArray) (time : Int) (H : Hp) (ha : Ents H a all) (hn : all.length < 1099511627776) :
   AC Tryz.prog E 50 [a, .str k, .int .i64 time] H (fun v H' => v = .tu [.int .i64 (pastGet all k time).1, .bool (pastGet all k time).2] /\ H' = H) := by
 refine AC_byp (tC_le tabJ_ok) h_impl_PastGet (by simp) ?_
 simp [c_impl_PastGet]
 refine cg_use (latest_ok a all k time H ha hn) ?_
 unfold pastGet
 cases lastR k time all with
 | none =>
   simp [lateAV, entRow]
 | some e =>
   cases hg : e.gone with
   | true =>
     simp [lateAV, entRow, hg]
     | false =>
     simp [lateAV, entRow, hg]
end Go.Proofs.YtgoeenodllmdpaaGreat.B

namespace Go.Proofs.YtgoeenodllmdpaaGreat.B
open Go.RowKit Go.Proofs
set_option linter.unusedVariables false
set_option linter.unusedSimpArgs false
variable {E : Env}
def RetF (H0 H : Hp) (u : AV) (o : Option Sr) : Prop := HLe H0 H /\ match o with
 | some x => ∃ w, u = .tu [w, .bool true] /\ FarS H0.length H w x
 | none => u = .tu [zst, .bool false]
theorem FarS.shape {B : Nat} {H : Hp} {v : AV} {s : Sr} (h : FarS B H v s) : ∃ a b c d, v = .ag [a, b, c, .int .i64 s.keep, .int .i64 s.time, d] /\ one a = true /\ one b = true /\ one c = true /\ one d = true := by
 obtain ⟨a, b, c, d, lr, sr, e, h1, h2, h3, h4, h5, h6, h7⟩ := h
 exact ⟨a, b, c, d, e, h1.one, h2.one, h4.one, h6.one⟩
theorem pastI_fst (s : Sr) (ds : List Dd) : (pastI s ds).map (·.1) = pastR s ds := by
 unfold pastI pastR
 split <;> rfl
theorem implPastDo_ok (v u : AV) (s : Sr) (ds : List Dd) (H : Hp) (hs : St H v s) (hb : StB s) (hu : Dds H u ds) (hk : ∀ d ∈ ds, d.key.size < 4611686018427387904) :
   AC Tryz.prog E 21 [v, u] H (fun w H' => RetF H H' w (pastR s ds)) := by
 have hs0 := hs
 obtain ⟨a, b, c, d, rfl, n1, n2, n3, n4, hea, hed⟩ := hs.shape
 refine AC_by fol (tC_le tabJ_ok) h_impl_PastDo ?_
 obtain ⟨H1, hH1⟩ : ∃ H1 : Hp, H1 = H ++ [some ⟨[[a, b, c, .int .i64 s.keep, .int .i64 s.time, d]], 6, 28, false⟩, some ⟨[[.nils, .nils, .nils, .int .i64 0, .int .i64 0, .nils]], 6, 28, false⟩] := ⟨_, rfl⟩
 have hle1 : HLe H H1 := by rw [hH1]; exact HLe.self _ _
 have b0 : H1.at H.length = some ⟨[[a, b, c, .int .i64 s.keep, .int .i64 s.time, d]], 6, 28, false⟩ := by rw [hH1]; simp
 have b1 : H1.at (H.length + 1) = some ⟨[[.nils, .nils, .nils, .int .i64 0, .int .i64 0, .nils]], 6, 28, false⟩ := by rw [hH1]; simp
 simp [c_impl_PastDo, n1, n2, n3, n4, <- hH1, b0]
 refine cg_ex (past_ok _ u s ds H1 (hs0.le hle1) hb (Rows.le hu hle1) hk) ?_
 rintro v2 H2 hret
 have hp := pastI_fst s ds
 obtain ⟨hle2, hr⟩ := hret
 have b2 := hle2.2 _ _ b1
 have u2 := Hp.at_lt b2
 have hle := hle1.trans hle2
 cases hx : pastI s ds with
 | none =>
   rw [hx] at hr hp
   obtain rfl := hr
   rw [<- hp]
   simp [b2, u2, Hp.at_set, RetF, Hp.at_app, at_len, at_in, set_in']
   exact (hle.set (by omega) _).app _
 | some x =>
   rw [hx] at hr hp
   obtain ⟨w, e, rfl, hw, he⟩ := hr
   rw [<- hp]
   obtain ⟨a', b', c', d', rfl, o1, o2, o3, o4⟩ := hw.shape
   simp [b2, u2, o1, o2, o3, o4, he.1.rows.one, Hp.at_set, RetF, Hp.at_app, at_len, at_in, set_in']
   have F := (Fr.one H2 (H.length + 1) (some ⟨[[a', b', c', .int .i64 x.1.keep, .int .i64 x.1.time, d']], 6, 28, false⟩)).app [some ⟨[[a', b', c', .int .i64 x.1.keep, .int .i64 x.1.time, d']], 6, 28, false⟩]
   exact ⟨(hle.set (by omega) _).app _, (hw.fr F (fun y hy => .inr (fun ob ho => by rw [hy, b2] at ho; cases ho; rfl))).base hle1.1⟩
theorem implPastAll_ok (v u : AV) (s : Sr) (ds : List Dd) (H : Hp) (hs : St H v s) (hb : StB s) (hu : Dds H u ds) (hk : ∀ d ∈ ds, d.key.size < 4611686018427387904) :
   AC Tryz.prog E 16 [v, u] H (fun w H' => HLe H H' /\ OwnE H H' w (((pastI s ds).map (·.2)).getD [])) := by
 have hs0 := hs
 obtain ⟨a, b, c, d, rfl, n1, n2, n3, n4, hea, hed⟩ := hs.shape
 refine AC_by fol (tC_le tabJ_ok) h_impl_PastAll ?_
 obtain ⟨H1, hH1⟩ : ∃ H1 : Hp, H1 = H ++ [some ⟨[[a, b, c, .int .i64 s.keep, .int .i64 s.time, d]], 6, 28, false⟩] := ⟨_, rfl⟩
 have hle1 : HLe H H1 := by rw [hH1]; exact HLe.self _ _
 have b0 : H1.at H.length = some ⟨[[a, b, c, .int .i64 s.keep, .int .i64 s.time, d]], 6, 28, false⟩ := by rw [hH1]; simp
 simp [c_impl_PastAll, n1, n2, n3, n4, <- hH1, b0]
 refine cg_ex (past_ok _ u s ds H1 (hs0.le hle1) hb (Rows.le hu hle1) hk) ?_
 rintro v2 H2 hret
 obtain ⟨hle2, hr⟩ := hret
 have hle := hle1.trans hle2
 cases hx : pastI s ds with
 | none =>
   rw [hx] at hr
   obtain rfl := hr
   simp
   exact ⟨hle.app _, OwnM.nils⟩
 | some x =>
   rw [hx] at hr
   obtain ⟨w, e, rfl, hw, he⟩ := hr
   obtain ⟨a', b', c', d', rfl, o1, o2, o3, o4⟩ := hw.shape
   simp [o1, o2, o3, o4, he.1.rows.one]
   exact ⟨hle.app _, (he.le (HLe.self _ _)).base hle1.1⟩
end Go.Proofs.YtgoeenodllmdpaaGreat.B

namespace Go.Proofs.YtgoeenodllmdpaaGreat.B
open Go.RowKit Go.Proofs
set_option linter.unusedVariables false
set_option linter.unusedSimpArgs false
variable {E : Env}
theorem Rd.box {H : Hp} {o N n : Nat} (h : Rd H o N) (X : Option Ob) (hne : n ≠ o) (h1 : ∀ ob, H.at n = some ob -> ob.esz ≠ 1) : Rd (List.set H n X) o N :=
 h.fr (Fr.one H n X) (fun e => hne e.symm) (fun x ob hx ho => by subst hx; exact h1 ob ho)
theorem l71Deed_ok (o N : Nat) (kv : AV) (ks : List ByteArray) (H : Hp) (hr : Rd H o N) (hk : Strs H kv ks) (hkl : ks.length < 1099511627776) (hks : ∀ s ∈ ks, s.size <= 5) (hN : N < 137438953472) :
   AC Tryz.prog E 149 [.pt o 0 0, kv] H (fun v H' => ∃ d, v = ddAV d /\ d.key.size <= 5 /\ Dr o H H' /\ Rd H' o (N + 9)) := by
 refine AC_by fol (tC_le tab2_ok) h_spec_l71Deed ?_
 have hol := hr.lt
 have m0 : H.length ≠ o := by omega
 simp [c_spec_l71Deed]
 refine cg_ex (pick_ok o N 10 _ (hr.le (HLe.self _ _)) (by omega) (by omega)) ?_
 rintro v H1 ⟨n, rfl, hn, hd1, hr1, hlen⟩
 have b1 := hd1.2 H.length ⟨[[.int .i64 0, .str ⟨#[]⟩, .int .i64 0]], 3, 47, false⟩ (by omega) (by simp)
 have hD : Dr o H H1 := (Fr.app (Fr.refl _ H) _).same hd1
 have hk1 : Strs H1 kv ks := (Rows.dr (hr.le (HLe.self _ _)) (hk.le (HLe.self _ _)) (by decide) hd1)
 have fin : ∀ (H2 : Hp) (d : Dd) (M : Nat), d.key.size <= 5 -> Dr o H1 H2 -> Rd H2 o M -> M <= N + 9 -> ∃ d', ddAV d = ddAV d' /\ d'.key.size <= 5 /\ Dr o H (List.set H2 H.length (some ⟨[[.int .i64 d.kind, .str d.key, .int .i64 d.num]], 3, 47, false⟩)) /\ Rd (List.set H2 H.length (some ⟨[[.int .i64 d.kind, .str d.key, .int .i64 d.num]], 3, 47, false⟩)) o (N + 9) := by
   intro H2 d M h1 h2 h3 h4
   have b2 := h2.2 _ _ m0 b1
   exact ⟨d, rfl, h1, (hD.same h2).set (.inr (Nat.le_refl _)) _, (h3.box _ m0 (fun ob ho => by rw [b2] at ho; cases ho; simp)).mono h4⟩
 have hcase : n = 0 \/ n = 1 \/ n = 2 \/ n = 3 \/ n = 4 \/ n = 5 \/ n = 6 \/ n = 7 \/ n = 8 \/ n = 9 := by omega
 have u1 := Hp.at_lt b1
 have put : ∀ t : Tm, True := fun _ => trivial
 simp
 refine c_split (fun q0 => ?_) (fun q0 => ?_) <;> simp at q0
 · simp [q0]
   refine cg_ex (l71Near_ok o _ kv ks _ hr1 hk1 hkl hks (by omega)) ?_
   rintro _ H2 ⟨k, rfl, hk5, hd2, hr2⟩
   simp
   refine cg_ex (pick_ok o _ 100 _ hr2 (by omega) (by omega)) ?_
   rintro _ H3 ⟨m, rfl, hm, hd3, hr3, -⟩
   have hb := (hd2.same hd3).2 _ _ m0 b1
   simp [hb, Hp.at_set, Hp.at_lt hb]
   exact fin _ ⟨1, k, m⟩ _ hk5 (hd2.same hd3) hr3 (by omega)
 simp
 refine c_split (fun q1 => ?_) (fun q1 => ?_) <;> simp at q1
 · simp [q1]
   refine cg_ex (l71Near_ok o _ kv ks _ hr1 hk1 hkl hks (by omega)) ?_
   rintro _ H2 ⟨k, rfl, hk5, hd2, hr2⟩
   simp
   refine cg_ex (pick_ok o _ 100 _ hr2 (by omega) (by omega)) ?_
   rintro _ H3 ⟨m, rfl, hm, hd3, hr3, -⟩
   have hb := (hd2.same hd3).2 _ _ m0 b1
   simp [hb, Hp.at_set, Hp.at_lt hb]
   exact fin _ ⟨1, k, m⟩ _ hk5 (hd2.same hd3) hr3 (by omega)
 simp
 refine c_split (fun q2 => ?_) (fun q2 => ?_) <;> simp at q2
 · simp [q2]
   refine cg_ex (l71Near_ok o _ kv ks _ hr1 hk1 hkl hks (by omega)) ?_
   rintro _ H2 ⟨k, rfl, hk5, hd2, hr2⟩
   simp
   refine cg_ex (pick_ok o _ 100 _ hr2 (by omega) (by omega)) ?_
   rintro _ H3 ⟨m, rfl, hm, hd3, hr3, -⟩
   have hb := (hd2.same hd3).2 _ _ m0 b1
   simp [hb, Hp.at_set, Hp.at_lt hb]
   exact fin _ ⟨1, k, m⟩ _ hk5 (hd2.same hd3) hr3 (by omega)
 simp
 refine c_split (fun q3 => ?_) (fun q3 => ?_) <;> simp at q3
 · simp [q3]
   refine cg_ex (l71Near_ok o _ kv ks _ hr1 hk1 hkl hks (by omega)) ?_
   rintro _ H2 ⟨k, rfl, hk5, hd2, hr2⟩
   simp
   refine cg_ex (pick_ok o _ 100 _ hr2 (by omega) (by omega)) ?_
   rintro _ H3 ⟨m, rfl, hm, hd3, hr3, -⟩
   have hb := (hd2.same hd3).2 _ _ m0 b1
   simp [hb, Hp.at_set, Hp.at_lt hb]
   exact fin _ ⟨1, k, m⟩ _ hk5 (hd2.same hd3) hr3 (by omega)
 simp
 refine c_split (fun q4 => ?_) (fun q4 => ?_) <;> simp at q4
 · simp [q4]
   refine cg_ex (l71Near_ok o _ kv ks _ hr1 hk1 hkl hks (by omega)) ?_
   rintro _ H2 ⟨k, rfl, hk5, hd2, hr2⟩
   simp
   refine cg_ex (pick_ok o _ 100 _ hr2 (by omega) (by omega)) ?_
   rintro _ H3 ⟨m, rfl, hm, hd3, hr3, -⟩
   have hb := (hd2.same hd3).2 _ _ m0 b1
   simp [hb, Hp.at_set, Hp.at_lt hb]
   exact fin _ ⟨1, k, m⟩ _ hk5 (hd2.same hd3) hr3 (by omega)
 simp [q4]
 refine c_split (fun q5 => ?_) (fun q5 => ?_) <;> simp at q5
 · simp
   refine cg_ex (l71Near_ok o _ kv ks _ hr1 hk1 hkl hks (by omega)) ?_
   rintro _ H2 ⟨k, rfl, hk5, hd2, hr2⟩
   have hb := hd2.2 _ _ m0 b1
   simp [hb, Hp.at_set, Hp.at_lt hb]
   exact fin _ ⟨2, k, 0⟩ _ hk5 hd2 hr2 (by omega)
 simp
 refine c_split (fun q6 => ?_) (fun q6 => ?_) <;> simp at q6
 · simp [b1, Hp.at_set, u1]
   exact fin H1 ⟨3, ⟨#[]⟩, 0⟩ _ (by decide) (Fr.refl _ _) hr1 (by omega)
 simp
 refine c_split (fun q7 => ?_) (fun q7 => ?_) <;> simp at q7
 · simp
   refine cg_ex (pick_ok o _ 20 _ hr1 (by omega) (by omega)) ?_
   rintro _ H3 ⟨m, rfl, hm, hd3, hr3, -⟩
   have hb := hd3.2 _ _ m0 b1
   simp [hb, Hp.at_set, Hp.at_lt hb]
   exact fin _ ⟨4, ⟨#[]⟩, m⟩ _ (by show 0 <= 5; omega) hd3 hr3 (by omega)
 simp
 refine c_split (fun q8 => ?_) (fun q8 => ?_) <;> simp at q8
 · simp [b1, Hp.at_set, u1]
   exact fin H1 ⟨5, ⟨#[]⟩, 0⟩ _ (by decide) (Fr.refl _ _) hr1 (by omega)
 simp
 refine cg_ex (pick_ok o _ 3 _ hr1 (by omega) (by omega)) ?_
 rintro _ H3 ⟨m, rfl, hm, hd3, hr3, -⟩
 have hb := hd3.2 _ _ m0 b1
 simp [hb, Hp.at_set, Hp.at_lt hb]
 exact fin _ ⟨6, ⟨#[]⟩, m⟩ _ (by show 0 <= 5; omega) hd3 hr3 (by omega)
end Go.Proofs.YtgoeenodllmdpaaGreat.B

namespace Go.Proofs.YtgoeenodllmdpaaGreat.B
open Go.RowKit Go.Proofs
set_option linter.unusedVariables false
set_option linter.unusedSimpArgs false
variable {E : Env}
def sv0 (keep : Int) : Sv := ⟨⟨#[]⟩, ⟨#[]⟩, ⟨#[]⟩, [], keep⟩
theorem StoreNew_ok (keep : Int) (H : Hp) : AC Tryz.prog E 67 [.int .i64 keep] H (fun u H' => RetS H H' u (newR keep)) := by
 refine AC_by fol (tC_le tab2_ok) h_spec_StoreNew ?_
 simp [c_spec_StoreNew]
 refine c_split (fun hq => ?_) (fun hq => ?_) <;> simp at hq
 · have hn : newR keep = none := by unfold newR; rw [if_neg (by omega)]
   simp [hn, RetS]
 have hn : newR keep = some ⟨[], List.replicate 3 [], List.replicate 3 (sv0 keep), keep, 0, []⟩ := by
   unfold newR
   rw [if_pos (by omega)]
   rfl
 simp
 refine W_for (fun m t H' => ∃ i lv sv lr sr, i + m = 3 /\ t 0 = .int .i64 keep /\ t 2 = .pt H.length 0 0 /\ t 4 = .pt (H.length + 3) 0 0 /\ t 5 = .int .i64 (i : Nat) /\ HLe H H' /\
   H'.at H.length = some ⟨[[.nils, .nils, .nils, .int .i64 0, .int .i64 0, .nils]], 6, 28, false⟩ /\
   H'.at (H.length + 3) = some ⟨[[.sl (H.length + 1) 0 0, lv, sv, .int .i64 keep, .int .i64 0, .sl (H.length + 2) 0 0]], 6, 28, false⟩ /\
   OwnE H H' (.sl (H.length + 1) 0 0) [] /\ OwnI H H' (.sl (H.length + 2) 0 0) [] /\ Own 1 23 H' lv lr /\ (∀ x, lv.of x -> H.length + 4 <= x) /\ All2 (LvRow H') lr (List.replicate i []) /\ OffB H (.sl (H.length + 1) 0 0) lr /\
   Own 5 66 H' sv sr /\ (∀ x, sv.of x -> H.length + 4 <= x) /\ All2 (SvRow H' (fun x => lv.of x \/ H.length + 2 = x)) sr (List.replicate i (sv0 keep))) 3 ?_ (tC_mono AC_mono) ?_
 · refine ⟨0, .nils, .nils, [], [], rfl, by simp, by simp, by simp, by simp, HLe.self _ _, by simp, by simp, ⟨Own.obj (R := []) (by simp) rfl, fun x hx => by simp at hx; omega⟩, ⟨Own.obj (R := []) (by simp) rfl, fun x hx => by simp at hx; omega⟩, Own.nils, fun x hx => hx.elim, trivial, OffB.nil _ _, Own.nils, fun x hx => hx.elim, trivial⟩
 rintro m t H' ⟨i, lv, sv, lr, sr, him, h0, h2, h4, h5, hle, k0, k3, htop, htms, hlv, hlva, hlvr, hoff, hsv, hsva, hsvr⟩
 simp [h0, h2, h4, h5]
 refine c_split (fun hq2 => ?_) (fun hq2 => ?_) <;> simp at hq2
 · have hi3 : i < 3 := by omega
   have hw := wrapN (i := i) (by omega)
   have u0 := Hp.at_lt k0
   have u3 := Hp.at_lt k3
   simp [h0, h2, h4, h5, k3, Hp.at_app, u3]
   rw [List.append_cons]
   have hA : HLe H' (H' ++ [some ⟨[], 4, 99, false⟩]) := HLe.self _ _
   refine appG_one' (bytes := 24) (R := lr) (by simp) (hlv.le hA) (by have := All2.length hlvr; simp at this; omega) (fun v5 H5 g1 g2 g3 => ?_)
   have hF5 : Fr lv.of H' H5 := (hA.fr (S := lv.of)).same g2
   have nlv : ∀ x, x < H.length + 4 -> ¬ lv.of x := fun x h1 h2 => by have := hlva x h2; omega
   have k05 := hF5.2 _ _ (nlv _ (by omega)) k0
   have k35 := hF5.2 _ _ (nlv _ (by omega)) k3
   have ktop := g2.2 H'.length _ (fun h => by have := hlv.lt h; omega) (Hp.at_app_0.trans Hp.at_0)
   have u05 := Hp.at_lt k05
   have u35 := Hp.at_lt k35
   have m03 : H.length ≠ H.length + 3 := by omega
   have hl5 := g2.1
   simp at hl5
   simp [h0, h2, h4, h5, k35, g1.rows.one, g1.rows.cells, g1.rows.cells1, Hp.at_set, Hp.at_app, List.length_set, u35]
   obtain ⟨X, hX⟩ : ∃ X : Option Ob, X = some ⟨[[.sl (H.length + 1) 0 0, v5, sv, .int .i64 keep, .int .i64 0, .sl (H.length + 2) 0 0]], 6, 28, false⟩ := ⟨_, rfl⟩
   rw [<- hX]
   obtain ⟨G5, hG5⟩ : ∃ G5 : Hp, G5 = List.set H5 (H.length + 3) X := ⟨_, rfl⟩
   have hGl : H5.length = G5.length := by rw [hG5]; simp
   have hG : Fr (fun x => x = H.length + 3) H5 G5 := by rw [hG5]; exact Fr.one _ _ _
   have kG3 : G5.at (H.length + 3) = X := by rw [hG5]; exact Hp.at_set _ u35
   rw [<- hG5, hGl, List.append_cons]
   have hB : HLe G5 (G5 ++ [some ⟨[], 1, 9, false⟩]) := HLe.self _ _
   have hsv5 : Own 5 66 H5 sv sr := hsv.fr hF5 (fun x hx h => hlv.rows.apart hsv.rows (by simp) h hx)
   have hsvG : Own 5 66 G5 sv sr := hsv5.fr hG (fun x hx => by have := hsva x hx; omega)
   refine appG_one' (bytes := 80) (R := sr) (by simp) (hsvG.le hB) (by have := All2.length hsvr; simp at this; omega) (fun v7 H7 p1 p2 p3 => ?_)
   have hF7 : Fr sv.of G5 H7 := (hB.fr (S := sv.of)).same p2
   have nsv : ∀ x, x < H.length + 4 -> ¬ sv.of x := fun x h1 h2 => by have := hsva x h2; omega
   have kG0 := hG.2 _ _ m03 k05
   have k07 := hF7.2 _ _ (nsv _ (by omega)) kG0
   have k37 := hF7.2 _ _ (nsv _ (by omega)) (kG3.trans hX)
   have u37 := Hp.at_lt k37
   have hl7 := hF7.1
   have hsvl : ∀ x, sv.of x -> x < H'.length := fun x hx => hsv.lt hx
   have hlvl : ∀ x, lv.of x -> x < H'.length := fun x hx => hlv.lt hx
   have ktG := hG.2 _ _ (show H'.length ≠ H.length + 3 by omega) ktop
   have kt7 := hF7.2 _ _ (fun h => by have := hsvl _ h; omega) ktG
   have ks7 := p2.2 G5.length _ (fun h => by have := hsvl _ h; omega) (Hp.at_app_0.trans Hp.at_0)
   simp [h0, h2, h4, h5, k37, p1.rows.one, p1.rows.cells, p1.rows.cells1, hw]
   obtain ⟨Z, hZ⟩ : ∃ Z : Option Ob, Z = some ⟨[[.sl (H.length + 1) 0 0, v5, v7, .int .i64 keep, .int .i64 0, .sl (H.length + 2) 0 0]], 6, 28, false⟩ := ⟨_, rfl⟩
   rw [<- hZ]
   have hS := Fr.one H7 (H.length + 3) Z
   have hF58 : Fr (fun x => x = H.length + 3 \/ sv.of x) H5 (List.set H7 (H.length + 3) Z) := ((hG.mono (fun x hx => .inl (.inl hx))).trans hF7 (fun x hx => .inl (.inr hx))).trans hS (fun x hx => .inl (.inl hx))
   have hF8 : Fr (fun x => lv.of x \/ sv.of x \/ x = H.length + 3) H' (List.set H7 (H.length + 3) Z) := (hF5.mono (fun x hx => .inl (.inl hx))).trans hF58 (fun x hx => hx.elim (fun h => .inl (.inr (.inr h))) (fun h => .inl (.inr (.inl h))))
   have ns4 : ∀ x ob, (lv.of x \/ sv.of x \/ x = H.length + 3) -> H'.at x = some ob -> ob.esz ≠ 4 := fun x ob hs ho => by
     rcases hs with h | h | h
     · rw [hlv.esz h ho]; decide
     · rw [hsv.esz h ho]; decide
     · subst h; rw [k3] at ho; cases ho; simp
   have v5a : ∀ x, v5.of x -> lv.of x \/ H'.length <= x := fun x hx => (g3 x hx).imp id (fun h => by simp at h; omega)
   have v7a : ∀ x, v7.of x -> sv.of x \/ H5.length <= x := fun x hx => (p3 x hx).imp id (fun h => by simp at h; omega)
   have k0F := hS.2 _ _ m03 k07
   have ktF := hS.2 _ _ (show H'.length ≠ H.length + 3 by omega) kt7
   have ksF := hS.2 _ _ (show G5.length ≠ H.length + 3 by omega) ks7
   refine ⟨m - 1, by omega, i + 1, by omega, by omega, hle.fr_le hF8 (fun x hx => by rcases hx with h | h | h; (have := hlva x h; omega); (have := hsva x h; omega); omega), k0F, v5, v7, (Hp.at_set _ u37).trans hZ, ?_, ?_, lr ++ [[.sl H'.length 0 0]], ?_, ?_, ?_, hoff.add (fun y hy hy2 => by have h1 : H.length + 1 = y := hy; have h2 : H'.length = y := hy2; have := Hp.at_lt k3; omega) (fun y hy => by have h2 : H'.length = y := hy; have := hle.1; omega), sr ++ [[.str ⟨#[]⟩, .str ⟨#[]⟩, .str ⟨#[]⟩, .sl G5.length 0 0, .int .i64 keep]], ?_, ?_, ?_⟩
   · exact htop.fr hF8 (fun x hx hs => by
       have hx' : H.length + 1 = x := hx
       rcases hs with h | h | h
       · have := hlva x h; omega
       · have := hsva x h; omega
       · omega)
   · exact htms.fr hF8 (fun x hx hs => by
       have hx' : H.length + 2 = x := hx
       rcases hs with h | h | h
       · have := hlva x h; omega
       · have := hsva x h; omega
       · omega)
   · exact g1.fr hF58 (fun x hx hs => by
       rcases hs with h | h
       · rcases v5a x hx with hh | hh
         · have := hlva x hh; omega
         · omega
       · exact g1.rows.apart hsv5.rows (by simp) hx h)
   · intro x hx
     rcases v5a x hx with h | h
     · exact hlva x h
     · omega
   · rw [List.replicate_succ']
     exact (All2.mono (fun row es h => h.fr hF8 ns4) hlvr).append ⟨⟨_, rfl, Own.rows (ety := 99) (Own.obj (R := []) ktF rfl)⟩, trivial⟩
   · exact p1.fr hS (fun x hx => by
       rcases v7a x hx with h | h
       · have := hsva x h; omega
       · omega)
   · intro x hx
     rcases v7a x hx with h | h
     · exact hsva x h
     · omega
   · rw [List.replicate_succ']
     refine (All2.mono (fun row sv' h => ?_) hsvr).append ⟨⟨.sl G5.length 0 0, rfl, Own.rows (ety := 9) (Own.obj (R := []) ksF rfl), fun x hx h => ?_⟩, trivial⟩
     · refine SvRow.fr (X' := fun x => v5.of x \/ H.length + 2 = x) h hF8 (fun x ob hs ho => ?_) (fun x hx hx' => hx'.elim (fun h => (v5a x h).elim .inl (fun h => by omega)) .inr)
       rcases hs with h | h | h
       · exact .inr (.inl h)
       · exact .inl (by rw [hsv.esz h ho]; decide)
       · exact .inl (by subst h; rw [k3] at ho; cases ho; simp)
     · have hx' : G5.length = x := hx
       rcases h with h | h
       · have := g1.lt h; omega
       · omega
 · have hi3 : i = 3 := by omega
   subst hi3
   have u0 := Hp.at_lt k0
   obtain ⟨ol, rfl⟩ := hlv.sl (by rw [hlvr.length]; simp)
   obtain ⟨os, rfl⟩ := hsv.sl (by rw [hsvr.length]; simp)
   have hl3 : lr.length = 3 := by rw [hlvr.length]; simp
   have hs3 : sr.length = 3 := by rw [hsvr.length]; simp
   rw [hl3] at hlv k3
   rw [hs3] at hsv k3
   simp [h2, h4, k0, k3, Hp.at_set, u0, hn]
   have hF := Fr.one H' H.length (some ⟨[[.sl (H.length + 1) 0 0, .sl ol 0 3, .sl os 0 3, .int .i64 keep, .int .i64 0, .sl (H.length + 2) 0 0]], 6, 28, false⟩)
   have hm : MSt H H' (.ag [.sl (H.length + 1) 0 0, .sl ol 0 3, .sl os 0 3, .int .i64 keep, .int .i64 0, .sl (H.length + 2) 0 0]) ⟨[], List.replicate 3 [], List.replicate 3 (sv0 keep), keep, 0, []⟩ :=
     ⟨.sl (H.length + 1) 0 0, ol, os, .sl (H.length + 2) 0 0, lr, sr, rfl, htop, hlv, hlvr, hsv, All2.mono (fun _ _ h => by
       obtain ⟨r, e1, e2, e3⟩ := h
       rw [hl3] at e3
       exact ⟨r, e1, e2, e3⟩) hsvr, htms, fun hx => by have := hlva ol rfl; simp at hx; omega, by have := hlva ol rfl; omega, by have := hsva os rfl; omega, rfl, rfl, hoff⟩
   exact ⟨hle.fr_le hF (fun x hx => by rw [hx]; exact Nat.le_refl _), _, rfl, hm.fr hF (fun y ob hy ho => by rw [hy, k0] at ho; cases ho; rfl)⟩
end Go.Proofs.YtgoeenodllmdpaaGreat.B

namespace Go.Proofs.YtgoeenodllmdpaaGreat.B
open Go.RowKit Go.Proofs
set_option linter.unusedVariables false
set_option linter.unusedSimpArgs false
variable {E : Env}
abbrev OwnD := OwnM (α := Dd) 3 47 ddRow
theorem l71Deeds_ok (o N : Nat) (most : Nat) (H : Hp) (hr : Rd H o N) (hm : most < 1000) (hN : N < 68719476736) :
   AC Tryz.prog E 70 [.pt o 0 0, .int .i64 most] H (fun v H' => ∃ ds, OwnD H H' v ds /\ ds.length <= most + 1 /\ (∀ d ∈ ds, d.key.size <= 5) /\ Dr o H H' /\ Rd H' o (N + 39 + 10 * most)) := by
 refine AC_by fol (tC_le tab2_ok) h_spec_l71Deeds ?_
 have hw0 := wrapN (i := most) (by omega)
 simp [c_spec_l71Deeds, hw0]
 refine cg_ex (l71Keys_ok o N 5 H hr (by omega) (by omega)) ?_
 rintro kv H1 ⟨ks, hks, hkl, hksz, hd1, hr1⟩
 simp [hw0]
 refine cg_ex (pick_ok o _ ((most : Int) + 1) _ (hr1.le (HLe.self _ _)) (by omega) (by omega)) ?_
 rintro v H2 ⟨n, rfl, hn, hd2, hr2, hlen⟩
 have hd0 : Dr o H H2 := (hd1.app _).same hd2
 have hn1 : n <= most := by omega
 have hks2 : OwnS H H2 kv ks := OwnM.dr (hr1.le (HLe.self _ _)) (hks.le (HLe.self _ _)) (by decide) hd2
 simp
 refine W_for (fun m t H' => ∃ ds v, m <= most /\ t 0 = .pt o 0 0 /\ t 5 = kv /\ t 6 = v /\ t 7 = .int .i64 m /\ OwnD H H' v ds /\ OwnS H H' kv ks /\ ds.length + m <= most /\ (∀ d ∈ ds, d.key.size <= 5) /\ Dr o H H' /\ Rd H' o (N + 37 + 10 * (most - m))) n ?_ (tC_mono AC_mono) ?_
 · refine ⟨[], _, hn1, by simp, by simp, by simp; rfl, by simp, ?_, hks2, by simpa using hn1, by simp, hd0, hr2.mono (by omega)⟩
   exact (OwnM.dr (hr1.le (HLe.self _ _)) (OwnM.lit0 (HLe.refl H1)) (by decide) hd2).base hd1.len
 rintro m t H' ⟨ds, v, hm5, h0, h5, h6, h7, hv, hkv, hdl, hdk, hd, hr⟩
 simp [h0, h5, h6, h7]
 refine c_split (fun hq => ?_) (fun hq => ?_) <;> simp at hq
 · have hw : IntKind.i64.wrap ((m : Int) - 1) = ((m - 1 : Nat) : Int) := by rw [wrap64 (by omega) (by omega)]; omega
   simp [h0, h5, h6, h7]
   refine cg_ex (l71Deed_ok o _ kv ks H' hr hkv.strs (by omega) hksz (by omega)) ?_
   rintro _ H2 ⟨e, rfl, hk5, hd2, hr2⟩
   have hkv2 := OwnM.dr hr hkv (by decide) hd2
   have hv2 := OwnM.dr hr hv (by decide) hd2
   simp [h0, h5, h6, h7, ddAV]
   have hla := hd.len
   have hl2a := hd2.len
   refine appG_one' (bytes := 32) (R := ds.map ddRow) rfl hv2.1 (by simp; omega) (fun v5 H5 g1 g2 g3 => ?_)
   have hv5 : OwnD H H5 v5 (ds ++ [e]) := ⟨by simpa [ddRow] using g1, fun x hx => (g3 x hx).elim (hv2.2 x) (fun h => by omega)⟩
   have hr5 := (hr2.fr g2 (fun h => hr2.ne hv2.rows (by decide) h rfl) (fun x ob hx ho => by rw [hv2.1.esz hx ho]; decide))
   have hd5 : Dr o H H5 := (hd.same hd2).trans g2 (fun x hx => .inr (hv2.2 x hx))
   have hkv5 := hkv2.fr g2 (fun x hx hs => hkv2.rows.apart hv2.rows (by simp) hx hs)
   simp [h0, h5, h6, h7, hw]
   refine ⟨m - 1, by omega, by omega, rfl, ds ++ [e], hv5, hkv5, by simp; omega, fun d hd => ?_, hd5, hr5.mono (by omega)⟩
   rcases List.mem_append.1 hd with h | h
   · exact hdk d h
   · rw [List.mem_singleton.1 h]; exact hk5
 · have : m = 0 := by omega
   subst this
   simp [h0, h6]
   refine cg_ex (pick_ok o _ 24 _ hr (by omega) (by omega)) ?_
   rintro _ H2 ⟨c, rfl, hc, hd2, hr2, -⟩
   have hv2 := OwnM.dr hr hv (by decide) hd2
   simp [h0, h6]
   refine c_split (fun hq => ?_) (fun hq => ?_) <;> simp at hq
   · simp [h0, h6]
     refine cg_ex (pick_ok o _ 9 _ hr2 (by omega) (by omega)) ?_
     rintro _ H3 ⟨q, rfl, hq9, hd3, hr3, -⟩
     have hv3 := OwnM.dr hr2 hv2 (by decide) hd3
     simp [h0, h6]
     have hlb := hd.len
     have hl2b := hd2.len
     have hl3b := hd3.len
     refine appG_one' (bytes := 32) (R := ds.map ddRow) rfl hv3.1 (by simp; omega) (fun v5 H5 g1 g2 g3 => ?_)
     have hv5 : OwnD H H5 v5 (ds ++ [⟨IntKind.i64.wrap ((q : Int) - 1), ⟨#[120]⟩, -1⟩]) := ⟨by simpa [ddRow] using g1, fun x hx => (g3 x hx).elim (hv3.2 x) (fun h => by omega)⟩
     have hr5 := (hr3.fr g2 (fun h => hr3.ne hv3.rows (by decide) h rfl) (fun x ob hx ho => by rw [hv3.1.esz hx ho]; decide))
     have hd5 : Dr o H H5 := ((hd.same hd2).same hd3).trans g2 (fun x hx => .inr (hv3.2 x hx))
     simp
     refine ⟨_, hv5, by simp; omega, fun d hd => ?_, hd5, hr5.mono (by omega)⟩
     rcases List.mem_append.1 hd with h | h
     · exact hdk d h
     · rw [List.mem_singleton.1 h]; show 1 <= 5; omega
   · simp [h0, h6]
     exact ⟨ds, hv2, by omega, hdk, hd.same hd2, hr2.mono (by omega)⟩
end Go.Proofs.YtgoeenodllmdpaaGreat.B

namespace Go.Proofs.YtgoeenodllmdpaaGreat.B
open Go.RowKit Go.Proofs
set_option linter.unusedVariables false
set_option linter.unusedSimpArgs false
variable {E : Env}
theorem MSt.frn {S : Nat -> Prop} {H0 H H' : Hp} {v : AV} {s : Sr} (h : MSt H0 H v s) (hf : Fr S H H') (hS : ∀ x ob, S x -> H.at x = some ob -> ob.esz = 2 \/ ob.esz = 6) : MSt H0 H' v s := by
 obtain ⟨a, ol, os, d, lr, sr, rfl, ha, hlv, hlr, hsv, hsr, hd, hdo, hol, hos, hl3, hs3, hoff⟩ := h
 have no : ∀ {esz ety : Nat} {v : AV} {R : List (List AV)}, esz ≠ 2 /\ esz ≠ 6 -> Own esz ety H v R -> ∀ x, v.of x -> ¬ S x := by
   intro esz ety v R hne ho x hx hs
   rcases ho with ⟨rfl, _⟩ | ⟨rfl, _⟩ | ⟨o', ob, rfl, a2, a3, a4, _⟩
   · exact hx.elim
   · exact hx.elim
   · have : o' = x := hx
     subst this
     rcases hS _ _ hs a2 with h | h
     · exact hne.1 (a4.symm.trans h)
     · exact hne.2 (a4.symm.trans h)
 refine ⟨a, ol, os, d, lr, sr, rfl, ha.fr hf (no (by omega) ha.1), hlv.fr hf (no (by omega) hlv), All2.mono (fun _ _ h => h.fr hf (fun x ob hs ho => by have := hS x ob hs ho; omega)) hlr, hsv.fr hf (no (by omega) hsv),
   All2.mono (fun _ _ h => h.fr hf (fun x ob hs ho => .inl (by have := hS x ob hs ho; omega)) (fun _ _ h => h)) hsr, hd.fr hf (no (by omega) hd.1), hdo, hol, hos, hl3, hs3, hoff⟩
theorem doAll_small : ∀ (ds : List Dd) {s : Sr}, Small s -> Small (doAll s ds)
 | [], s, h => h
 | d :: ds, s, h => by
   have : doAll s (d :: ds) = doAll ((doR s d).getD s) ds := rfl
   rw [this]
   refine doAll_small ds ?_
   cases hd : doR s d with
   | none => exact h
   | some x => exact doR_small hd
theorem pastR_small {s x : Sr} {ds : List Dd} (h : pastR s ds = some x) : Small x := by
 unfold pastR at h
 split at h
 · rename_i hc
   cases h
   simp only [Bool.and_eq_true] at hc
   exact doAll_small ds (storeOk_small hc.1)
 · cases h
end Go.Proofs.YtgoeenodllmdpaaGreat.B

namespace Go.Proofs.YtgoeenodllmdpaaGreat.B
open Go.RowKit Go.Proofs
set_option linter.unusedVariables false
set_option linter.unusedSimpArgs false
variable {E : Env}
theorem l71StoreM_ok (o N : Nat) (H : Hp) (hr : Rd H o N) (hN : N < 34359738368) :
   AC Tryz.prog E 147 [.pt o 0 0] H (fun v H' => ∃ s, MSt H H' v s /\ Small s /\ storeOk s = true /\ Val s /\ Dr o H H' /\ Rd H' o (N + 400)) := by
 refine AC_by fol (tC_le tab2_ok) h_spec_l71Store ?_
 have hol := hr.lt
 simp [c_spec_l71Store]
 refine cg_ex (pick_ok o N 5 _ (hr.le (HLe.self _ _)) (by omega) (by omega)) ?_
 rintro v H1 ⟨n, rfl, hn, hd1, hr1, hlen⟩
 have b0 := hd1.2 H.length ⟨[[.nils, .nils, .nils, .int .i64 0, .int .i64 0, .nils]], 6, 28, false⟩ (by omega) (by simp)
 have bl := hd1.2 (H.length + 1) ⟨[[.int .i64 0], [.int .i64 1], [.int .i64 1], [.int .i64 2], [.int .i64 5]], 1, 3, false⟩ (by omega) (by simp)
 have hD1 : Dr o H H1 := (Fr.app (Fr.refl _ H) _).same hd1
 have hn5 : n < 5 := by omega
 have hnI : (n : Int) < 5 := by omega
 have hrow : ∃ k : Int, (0 <= k /\ k <= 5) /\ ([[.int .i64 0], [.int .i64 1], [.int .i64 1], [.int .i64 2], [.int .i64 5]] : List (List AV))[n]? = some [.int .i64 k] := by
   have : n = 0 \/ n = 1 \/ n = 2 \/ n = 3 \/ n = 4 := by omega
   rcases this with rfl | rfl | rfl | rfl | rfl <;> exact ⟨_, by constructor <;> decide, rfl⟩
 obtain ⟨k, hk05, hk⟩ := hrow
 simp [bl, hk, hnI]
 refine cg_ex (StoreNew_ok k H1) ?_
 intro v2 H2 hret
 obtain ⟨s0, hs0⟩ : ∃ s0, newR k = some s0 := by
   unfold newR
   rw [if_pos hk05]
   exact ⟨_, rfl⟩
 have hso : storeOk s0 = true := by
   obtain ⟨a, b, c, u, v, w, hv⟩ := newR_V hs0
   exact hv.ok
 rw [hs0] at hret
 obtain ⟨xa, xb, xc, xk, xt, xd, rfl, o1, o2, o3, o4, o5, o6⟩ := hret.shape
 simp [o1, o2, o3, o4, o5, o6]
 have hr2 := hr1.le hret.1
 have hl2 := hret.1.1
 have hl1 := hD1.len
 have hB := HLe.self H2 [some ⟨[[xa, xb, xc, xk, xt, xd]], 6, 28, false⟩]
 refine cg_ex (l71Deeds_ok o _ 30 _ (hr2.le hB) (by omega) (by omega)) ?_
 rintro dv H3 ⟨ds, hds, hdl, hdk, hd3, hr3⟩
 have esz2 : ∀ x ob, x = o -> H2.at x = some ob -> ob.esz = 2 \/ ob.esz = 6 := by
   intro x ob hx ho
   obtain ⟨b, bs, p, h1, _⟩ := hr2
   rw [hx, h1] at ho
   cases ho
   exact .inl rfl
 have hmm : MSt H1 H2 (.ag [xa, xb, xc, xk, xt, xd]) s0 := by
   obtain ⟨_, w, hw, hm⟩ := hret
   cases hw
   exact hm
 have hm3 := hmm.frn ((Fr.app (Fr.refl (fun x => x = o) H2) [some ⟨[[xa, xb, xc, xk, xt, xd]], 6, 28, false⟩]).same hd3) esz2
 have hsm := newR_small hs0
 have c3 := hd3.2 H2.length _ (show ¬ H2.length = o by omega) (Hp.at_app_0.trans Hp.at_0)
 have b03 := hd3.2 H.length _ (show ¬ H.length = o by omega) (hB.2 _ _ (hret.1.2 _ _ b0))
 simp [c3]
 refine cg_ex (PastDo_ok _ dv s0 ds H3 hm3.st hsm.stB hds.rows (fun d hd => by have := hdk d hd; omega)) ?_
 intro v4 H4 hret4
 have hp : pastR s0 ds = some (doAll s0 ds) := by
   unfold pastR
   rw [if_pos (by rw [hso, Bool.true_and, decide_eq_true_iff]; omega)]
 rw [hp] at hret4
 obtain ⟨ya, yb, yc, yk, yt, yd, rfl, p1, p2, p3, p4, p5, p6⟩ := hret4.shape
 have c4 := hret4.1.2 _ _ c3
 have b04 := hret4.1.2 _ _ b03
 have u4 := Hp.at_lt c4
 have u04 := Hp.at_lt b04
 have hl1' := Hp.at_lt b0
 have m0 : H2.length ≠ H.length := by omega
 simp [p1, p2, p3, p4, p5, p6, c4, b04, Hp.at_set, Hp.at_set_ne, List.length_set, u4, u04, m0, m0.symm]
 obtain ⟨W, hW⟩ : ∃ W : Option Ob, W = some ⟨[[ya, yb, yc, yk, yt, yd]], 6, 28, false⟩ := ⟨_, rfl⟩
 rw [<- hW]
 have hF := ((Fr.refl (fun x => x = H2.length \/ x = H.length) H4).set (o := H2.length) (.inl (.inl rfl)) W).set (o := H.length) (.inl (.inr rfl)) W
 have e6 : ∀ x ob, (x = H2.length \/ x = H.length) -> H4.at x = some ob -> ob.esz = 2 \/ ob.esz = 6 := by
   intro x ob hx ho
   rcases hx with h | h
   · rw [h, c4] at ho; cases ho; exact .inr rfl
   · rw [h, b04] at ho; cases ho; exact .inr rfl
 have hm5 : MSt H3 H4 (.ag [ya, yb, yc, yk, yt, yd]) (doAll s0 ds) := by
   obtain ⟨_, w, hw, hm⟩ := hret4
   cases hw
   exact hm
 have hB1 := hB.1
 have hd31 := hd3.len
 refine ⟨doAll s0 ds, (hm5.frn hF e6).base (by omega), pastR_small hp, (by
   obtain ⟨a, b, c, u, v, w, hv⟩ := doAll_V ds (newR_V hs0)
   exact hv.ok), doAll_V ds (newR_V hs0), ((((hD1.le_fr hret.1).app _).same hd3).le_fr hret4.1).trans hF (fun x hx => .inr (by rcases hx with h | h <;> omega)), Rd.mono ((hr3.le hret4.1).fr hF (by omega) (fun x ob hx ho => by have := e6 x ob hx ho; omega)) (by omega)⟩
end Go.Proofs.YtgoeenodllmdpaaGreat.B

namespace Go.Proofs.YtgoeenodllmdpaaGreat.B
open Go.RowKit Go.Proofs
set_option linter.unusedVariables false
set_option linter.unusedSimpArgs false
variable {E : Env}
theorem addBs_l (d : Nat) : ∀ (gs : List (List ByteArray)) (b : Bool) (s : Sv), (addBs d b s gs).l.size <= s.l.size + gs.length
 | [], b, s => Nat.le_refl _
 | g :: gs, b, s => by
   have h := addBs_l d gs false (addB d b s g)
   have h2 : (addB d b s g).l.size = s.l.size + 1 := by
     simp only [addB, ByteArray.size_append]
     rfl
   simp only [addBs, List.length_cons]
   omega
theorem bfs_l : ∀ (n : Nat) (q : List Fk) (s : Sv), (∀ f ∈ q, f.1.length <= 24) -> (bfs n q s).l.size <= s.l.size + n * 24
 | 0, q, s, h => by simp [bfs]
 | n + 1, [], s, h => by simp [bfs]
 | n + 1, (ks, d) :: q, s, h => by
   have hk : ks.length <= 24 := h (ks, d) (List.mem_cons_self ..)
   have h1 := bfs_l n (q ++ subs d (brs d ks)) (addBs d true s (brs d ks)) (fun f hf => (List.mem_append.1 hf).elim (fun hf => h f (List.mem_cons_of_mem _ hf)) (subs_len hk f))
   have h2 := addBs_l d (brs d ks) true s
   have h3 := (brs_sum _ d ks (Nat.le_refl _)).2
   simp only [bfs]
   omega
theorem sieveO_l {ks : List ByteArray} {keep : Int} {x : Sv} (h : sieveO ks keep = some x) : x.l.size <= 12000 := by
 unfold sieveO at h
 split at h
 · rename_i hc
   cases h
   have := bfs_l 500 [(ks, 0)] ⟨⟨#[]⟩, ⟨#[]⟩, ⟨#[]⟩, [], keep⟩ (fun f hf => by
     simp at hf
     subst hf
     exact (keysOk_good hc.1).2)
   have e : (⟨#[]⟩ : ByteArray).size = 0 := rfl
   simp only [e] at this
   unfold sieveR
   omega
 · cases h
theorem storeOk_l0 {s : Sr} (h : storeOk s = true) (h3 : 0 < s.sv.length) : s.sv[0].l.size <= 12000 := by
 simp only [storeOk, Bool.and_eq_true, decide_eq_true_eq] at h
 have h0 := h.2.1.1
 simp only [levelOk, Bool.and_eq_true, decide_eq_true_eq] at h0
 have := sieveO_l h0.2
 rwa [getD_get _ h3] at this
theorem MSt.appT {H0 H H' : Hp} {a a' d : AV} {ol os : Nat} {s : Sr} {tp : List Ent} (h : MSt H0 H (.ag [a, .sl ol 0 3, .sl os 0 3, .int .i64 s.keep, .int .i64 s.time, d]) s) (hf : Fr a.of H H') (ha : Ents H' a' tp) :
   St H' (.ag [a', .sl ol 0 3, .sl os 0 3, .int .i64 s.keep, .int .i64 s.time, d]) { s with top := tp } := by
 obtain ⟨a2, ol2, os2, d2, lr, sr, hv, ha2, hlv, hlr, hsv, hsr, hd2, hdo2, hol, hos, hl3, hs3, hoff⟩ := h
 simp only [stAV, hl3, hs3, AV.ag.injEq, List.cons.injEq, AV.sl.injEq, and_true, true_and] at hv
 obtain ⟨rfl, rfl, rfl, rfl⟩ := hv
 have n4 : ∀ {e : Nat}, e ≠ 4 -> ∀ x ob, a.of x -> H.at x = some ob -> ob.esz ≠ e := fun he x ob hx ho => by rw [ha2.1.esz hx ho]; exact he.symm
 refine ⟨a', .sl ol 0 3, .sl os 0 3, d, lr, sr, rfl, ha, ?_, ?_, ?_, All2.mono (fun row sv h => ?_) hsr, Rows.frz hd2.ints hf (n4 (by simp))⟩
 · rw [<- hl3]
   exact Rows.frz hlv.rows hf (n4 (by simp))
 · have key : ∀ {lr : List (List AV)} {ls : List (List Ent)}, All2 (LvRow H) lr ls -> (∀ y, a.of y -> ∀ u, [u] ∈ lr -> ¬ u.of y) -> All2 (LvRow H') lr ls := by
     intro lr
     induction lr with
     | nil => intro ls h _; cases ls with
       | nil => trivial
       | cons => exact h.elim
     | cons r lr ih => intro ls h ho; cases ls with
       | nil => exact h.elim
       | cons l ls =>
         obtain ⟨⟨u, rfl, hu⟩, h2⟩ := h
         exact ⟨⟨u, rfl, Rows.fr hu hf (fun y hy hs => ho y hs u (List.mem_cons_self ..) hy)⟩, ih h2 (fun y hy w hw => ho y hy w (List.mem_cons_of_mem _ hw))⟩
   exact key hlr hoff.1
 · rw [<- hs3]
   exact Rows.frz hsv.rows hf (n4 (by simp))
 · obtain ⟨r, e1, e2, _⟩ := h
   exact ⟨r, e1, Rows.frz e2 hf (n4 (by simp)), fun _ _ h => h⟩
def BoxS (H : Hp) (L : Nat) (s : Sr) : Prop := ∃ a b c d, H.at L = some ⟨[[a, b, c, .int .i64 s.keep, .int .i64 s.time, d]], 6, 28, false⟩ /\ one a = true /\ one b = true /\ one c = true /\ one d = true /\ St H (.ag [a, b, c, .int .i64 s.keep, .int .i64 s.time, d]) s /\ StB s
structure Spl (s : Sr) : Prop where
 val : storeOk s = true -> Val s
 key : ∀ e ∈ s.top ++ s.lev.flatten, e.key.size <= 5
 sml : s.top.length <= 2000 /\ s.lev.length <= 3 /\ ∀ l ∈ s.lev, l.length <= 1000
theorem Small.sml {s : Sr} (h : Small s) : s.top.length <= 2000 /\ s.lev.length <= 3 /\ ∀ l ∈ s.lev, l.length <= 1000 := by
 obtain ⟨h1, h2, h3, h4, h5, h6, h7, h8, h9⟩ := h
 exact ⟨by have := h1.1; omega, by omega, fun l hl => (h2 l hl).1⟩
theorem runOk_key {r : List Ent} (h : runOk r = true) : ∀ e ∈ r, e.key.size <= 5 := by
 simp only [runOk, decide_eq_true_eq] at h
 intro e he
 obtain ⟨i, hi, rfl⟩ := List.getElem_of_mem he
 have := (h.1 i hi).1
 simp only [entOk, Bool.and_eq_true] at this
 exact keyOk_size this.1.1.1
theorem Val.key {s : Sr} (h : Val s) : ∀ e ∈ s.top ++ s.lev.flatten, e.key.size <= 5 := by
 obtain ⟨a, b, c, u, v, w, h⟩ := h
 rw [h.lev]
 intro e he
 simp only [List.flatten_cons, List.flatten_nil, List.append_nil, List.mem_append] at he
 rcases he with he | he | he | he
 · exact runOk_key h.top e he
 · exact runOk_key h.la.run e he
 · exact runOk_key h.lb.run e he
 · exact runOk_key h.lc.run e he
def SpJ (o N : Nat) (H : Hp) (L : Nat) (t : Tm) (H' : Hp) : Prop := t 2 = .pt H.length 0 0 /\ t 3 = .pt L 0 0 /\ H'.at H.length = some ⟨[[.nils, .nils, .nils, .int .i64 0, .int .i64 0, .nils]], 6, 28, false⟩ /\ (∃ s, BoxS H' L s /\ Spl s) /\ Dr o H H' /\ Rd H' o (N + 410)
theorem BoxS.of {H : Hp} {L : Nat} {a b c d : AV} {s : Sr} {R : List (List AV)} (hb : H.at L = some ⟨R, 6, 28, false⟩) (hs : St H (.ag [a, b, c, .int .i64 s.keep, .int .i64 s.time, d]) s) (hB : StB s) :
   BoxS (List.set H L (some ⟨[[a, b, c, .int .i64 s.keep, .int .i64 s.time, d]], 6, 28, false⟩)) L s := by
 have hs2 := hs.fr6 (Fr.one H L (some ⟨[[a, b, c, .int .i64 s.keep, .int .i64 s.time, d]], 6, 28, false⟩)) (fun y ob hy ho => by rw [hy, hb] at ho; cases ho; rfl)
 obtain ⟨a', b', c', d', e, n1, n2, n3, n4, _⟩ := hs.shape
 simp only [stAV, AV.ag.injEq, List.cons.injEq, and_true, true_and] at e
 obtain ⟨rfl, rfl, rfl, rfl⟩ := e
 exact ⟨a, b, c, d, Hp.at_set _ (Hp.at_lt hb), n1, n2, n3, n4, hs2, hB⟩
theorem SpJ.put {o N : Nat} {H K : Hp} {L : Nat} {t : Tm} {a b c d : AV} {s : Sr} {R : List (List AV)} (t2 : t 2 = .pt H.length 0 0) (t3 : t 3 = .pt L 0 0) (hb : K.at H.length = some ⟨[[.nils, .nils, .nils, .int .i64 0, .int .i64 0, .nils]], 6, 28, false⟩)
   (hc : K.at L = some ⟨R, 6, 28, false⟩) (hL : H.length < L) (ho : o < H.length) (hs : St K (.ag [a, b, c, .int .i64 s.keep, .int .i64 s.time, d]) s) (hB : StB s) (hV : Spl s) (hD : Dr o H K) {M : Nat} (hr : Rd K o M) (hM : M <= N + 410) :
   SpJ o N H L t (List.set K L (some ⟨[[a, b, c, .int .i64 s.keep, .int .i64 s.time, d]], 6, 28, false⟩)) := by
 have F := Fr.one K L (some ⟨[[a, b, c, .int .i64 s.keep, .int .i64 s.time, d]], 6, 28, false⟩)
 exact ⟨t2, t3, (Hp.at_set_ne (by omega)).trans hb, ⟨s, BoxS.of hc hs hB, hV⟩, hD.trans F (fun x hx => .inr (by omega)), Rd.mono (hr.fr F (by omega) (fun x ob hx ho => by rw [hx, hc] at ho; cases ho; simp)) hM⟩
theorem ok_head {s : Sr} (h : storeOk s = true) : s.lev.length = 3 /\ s.sv.length = 3 /\ (0 <= s.keep /\ s.keep <= 5) /\ (0 <= s.time /\ s.time <= 999) /\ timesR s.tms s.time = true /\ runOk s.top = true := by
 simp only [storeOk, headOk, Bool.and_eq_true, decide_eq_true_eq] at h
 obtain ⟨⟨⟨⟨⟨⟨h1, h2⟩, h3⟩, h4⟩, h5⟩, h6, h7⟩, h8⟩ := h
 exact ⟨h1, h2, h3, h4, h5, h6⟩
theorem spoil_tms {s : Sr} (h : storeOk { s with tms := s.tms ++ [s.time + 1] } = true) : Val { s with tms := s.tms ++ [s.time + 1] } := by
 have h5 := (ok_head h).2.2.2.2.1
 simp only [timesR, Bool.and_eq_true] at h5
 have := asc1_bnd _ _ _ h5.1 (s.time + 1) (by simp)
 omega
theorem spoil_sv {s : Sr} (h0 : storeOk s = true) (hl : 0 < s.lev.length) (hv : 0 < s.sv.length) (h : storeOk { s with sv := s.sv.set 0 { (s.sv[0]'hv) with l := (s.sv[0]'hv).l ++ ⟨#[97]⟩ } } = true) : False := by
 have lv : ∀ {q : Sr}, storeOk q = true -> levelOk q 0 = true := fun {q} hq => by
   simp only [storeOk, Bool.and_eq_true, decide_eq_true_eq] at hq
   exact hq.2.1.1
 have a1 := lv h0
 have a2 := lv h
 simp only [levelOk, Bool.and_eq_true, decide_eq_true_eq] at a1 a2
 have e := a1.2.symm.trans a2.2
 rw [getD_get default hv, getD_get default (by simpa using hv)] at e
 simp only [List.getElem_set_self, Option.some.injEq] at e
 have e2 := congrArg (fun q : Sv => q.l.size) e
 simp only [ByteArray.size_append] at e2
 have : (⟨#[97]⟩ : ByteArray).size = 1 := rfl
 omega
theorem spoil_top {s : Sr} (h : storeOk { s with top := s.top ++ [⟨⟨#[]⟩, 0, false, 0⟩] } = true) : False := by
 have h6 := (ok_head h).2.2.2.2.2
 simp only [runOk, decide_eq_true_eq] at h6
 have := (h6.1 s.top.length (by simp)).1
 simp [entOk] at this
theorem lit2 {z : Nat} (hz : z < 2) : ∃ k : Int, (k < 0 \/ 999 < k) /\ I64 k /\ ([[.int .i64 (-1)], [.int .i64 1000]] : List (List AV))[z]? = some [.int .i64 k] := by
 have : z = 0 \/ z = 1 := by omega
 rcases this with rfl | rfl
 · exact ⟨-1, .inl (by decide), ⟨by decide, by decide⟩, rfl⟩
 · exact ⟨1000, .inr (by decide), ⟨by decide, by decide⟩, rfl⟩
set_option maxHeartbeats 1600000 in
theorem l71Spoilt_ok (o N : Nat) (H : Hp) (hr : Rd H o N) (hN : N < 34359738368) :
   AC Tryz.prog E 69 [.pt o 0 0] H (fun v H' => ∃ s, St H' v s /\ StB s /\ Spl s /\ Dr o H H' /\ Rd H' o (N + 410)) := by
 refine AC_by fol (tC_le tab2_ok) h_spec_l71Spoilt ?_
 have hol := hr.lt
 obtain ⟨H1, hH1⟩ : ∃ H1 : Hp, H1 = H ++ [some ⟨[[.nils, .nils, .nils, .int .i64 0, .int .i64 0, .nils]], 6, 28, false⟩] := ⟨_, rfl⟩
 have hle1 : HLe H H1 := by rw [hH1]; exact HLe.self _ _
 have b1 : H1.at H.length = some ⟨[[.nils, .nils, .nils, .int .i64 0, .int .i64 0, .nils]], 6, 28, false⟩ := by rw [hH1]; simp
 have hD1 : Dr o H H1 := hle1.fr
 simp [c_spec_l71Spoilt, <- hH1]
 refine cg_ex (l71StoreM_ok o N H1 (hr.le hle1) hN) ?_
 rintro v H2 ⟨s, hm2, hsm, hok, hval, hd2, hr2⟩
 obtain ⟨xa, xl, xs, xd, rfl, xn1, xn2, xdi⟩ := hm2.shape
 have b2 := hd2.2 _ _ (show ¬ H.length = o by omega) b1
 obtain ⟨H3, hH3⟩ : ∃ H3 : Hp, H3 = H2 ++ [some ⟨[[xa, .sl xl 0 3, .sl xs 0 3, .int .i64 s.keep, .int .i64 s.time, xd]], 6, 28, false⟩] := ⟨_, rfl⟩
 have hle3 : HLe H2 H3 := by rw [hH3]; exact HLe.self _ _
 have c3 : H3.at H2.length = some ⟨[[xa, .sl xl 0 3, .sl xs 0 3, .int .i64 s.keep, .int .i64 s.time, xd]], 6, 28, false⟩ := by rw [hH3]; simp
 have b3 := hle3.2 _ _ b2
 have hr3 := hr2.le hle3
 have hm3 := (hm2.le hle3).base hle1.1
 have hD3 : Dr o H H3 := (hD1.same hd2).le_fr hle3
 simp [xn1, xn2, <- hH3]
 refine cg_ex (pick_ok o _ 14 _ hr3 (by omega) (by omega)) ?_
 rintro v H4 ⟨n, rfl, hn, hd4, hr4, hlen⟩
 have l21 : H.length < H2.length := Hp.at_lt b2
 have b4 := hd4.2 _ _ (show ¬ H.length = o by omega) b3
 have c4 := hd4.2 _ _ (show ¬ H2.length = o by omega) c3
 have e2 : ∀ x ob, x = o -> H3.at x = some ob -> ob.esz = 2 \/ ob.esz = 6 := by
   intro x ob hx ho
   obtain ⟨b, bs, p, h1, _⟩ := hr3
   rw [hx, h1] at ho
   cases ho
   exact .inl rfl
 have hm4 := hm3.frn hd4 e2
 have hD4 : Dr o H H4 := hD3.same hd4
 have u4 := Hp.at_lt b4
 have hS : ∀ y ob, y = H.length -> H4.at y = some ob -> ob.esz = 6 := fun y ob hy ho => by rw [hy, b4] at ho; cases ho; rfl
 simp
 refine c_split (fun hq => ?_) (fun hq => ?_) <;> simp at hq
 · simp [c4, b4, xn1, xn2, Hp.at_set, u4]
   have F := Fr.one H4 H.length (some ⟨[[xa, .sl xl 0 3, .sl xs 0 3, .int .i64 s.keep, .int .i64 s.time, xd]], 6, 28, false⟩)
   exact ⟨s, hm4.st.fr6 F hS, hsm.stB, ⟨fun _ => hval, hval.key, hsm.sml⟩, hD4.trans F (fun x hx => .inr (by omega)), Rd.mono (hr4.fr F (by omega) (fun x ob hx ho => by have := hS x ob hx ho; omega)) (by omega)⟩
 rw [W_skip]
 refine W_cut (tC_mono AC_mono) (SpJ o N H H2.length) ?_ ?_
 · simp
   refine cg_ex (pick_ok o _ 6 _ hr4 (by omega) (by omega)) ?_
   rintro v H5 ⟨q, rfl, hq6, hd5, hr5, hlen5⟩
   have b5 := hd5.2 _ _ (show ¬ H.length = o by omega) b4
   have c5 := hd5.2 _ _ (show ¬ H2.length = o by omega) c4
   have e4 : ∀ x ob, x = o -> H4.at x = some ob -> ob.esz = 2 \/ ob.esz = 6 := by
     intro x ob hx ho
     obtain ⟨b, bs, p, h1, _⟩ := hr4
     rw [hx, h1] at ho
     cases ho
     exact .inl rfl
   have hm5 := hm4.frn hd5 e4
   have hD5 : Dr o H H5 := hD4.same hd5
   have u5 := Hp.at_lt c5
   simp
   refine c_split (fun q0 => ?_) (fun q0 => ?_) <;> simp at q0
   · simp
     refine cg_ex (pick_ok o _ 2 _ (hr5.le (HLe.self _ _)) (by omega) (by omega)) ?_
     rintro v H6 ⟨z, rfl, hz, hd6, hr6, hlen6⟩
     have b6 := hd6.2 _ _ (show ¬ H.length = o by omega) ((HLe.self _ _).2 _ _ b5)
     have c6 := hd6.2 _ _ (show ¬ H2.length = o by omega) ((HLe.self _ _).2 _ _ c5)
     have l6 := hd6.2 _ _ (show ¬ H5.length = o by omega) (Hp.at_app_0.trans Hp.at_0)
     have e5 : ∀ x ob, x = o -> (H5 ++ [some ⟨[[.int .i64 (-1)], [.int .i64 1000]], 1, 3, false⟩] : Hp).at x = some ob -> ob.esz = 2 \/ ob.esz = 6 := by
       intro x ob hx ho
       obtain ⟨b, bs, p, h1, _⟩ := hr5.le (HLe.self H5 [some ⟨[[.int .i64 (-1)], [.int .i64 1000]], 1, 3, false⟩])
       rw [hx, h1] at ho
       cases ho
       exact .inl rfl
     have hm6 := (hm5.le (HLe.self _ _)).frn hd6 e5
     have hD6 : Dr o H H6 := (hD5.app _).same hd6
     have u6 := Hp.at_lt c6
     have hz2 : z < 2 := by omega
     have hzI : (z : Int) < 2 := by omega
     obtain ⟨k, hkb, hk64, hk⟩ := lit2 hz2
     obtain ⟨p1, p2, p3⟩ := hm6.parts
     simp [l6, hk, hzI, c6, u6]
     have hBs := hsm.stB
     exact SpJ.put (s := { s with time := k }) (by simp) (by simp) b6 c6 l21 hol (hm6.upd (tp := s.top) (ts := s.tms) k p1 p2 p3 (fun y h => h) (fun lr h _ => h)).st ⟨hBs.1, hBs.2.1, hBs.2.2.1, hBs.2.2.2.1, hBs.2.2.2.2.1, hBs.2.2.2.2.2.1, hk64, hBs.2.2.2.2.2.2.2.1, hBs.2.2.2.2.2.2.2.2⟩ ⟨fun h => by have := (ok_head h).2.2.2.1; simp only at this; omega, hval.key, hsm.sml⟩ hD6 hr6 (by omega)
   simp
   refine c_split (fun q1 => ?_) (fun q1 => ?_) <;> simp at q1
   · obtain ⟨p1, p2, p3⟩ := hm5.parts
     have ht := storeOk_time hok
     have hlt := (headI_parts (storeOk_ok hok).1).2.2.2.2.1
     simp [c5, ht]
     refine appG_one (bytes := 8) (R := s.tms.map intRow) p2.1 (by have := hsm.2.2.1; simp; omega) (fun v6 H6 g1 g2 g3 => ?_)
     have nd : ∀ {x : Nat} {ob : Ob}, H5.at x = some ob -> ob.ety ≠ 3 -> ¬ xd.of x := fun ho he hx => he (p2.1.ety hx ho)
     have b6 := g2.2 _ _ (nd b5 (by simp)) b5
     have c6 := g2.2 _ _ (nd c5 (by simp)) c5
     have u6 := Hp.at_lt c6
     have hl5 := hD5.len
     have g1' : OwnI H H6 v6 (s.tms ++ [s.time + 1]) := ⟨by simpa [intRow] using g1, fun y hy => (g3 y hy).elim (p2.2 y) (fun h => by omega)⟩
     have hm6 := hm5.app (ts := s.tms ++ [s.time + 1]) g2 g1' g3
     have hBs := hsm.stB
     simp [c6, u6, g1.rows.one, g1.rows.cells, g1.rows.cells1]
     refine SpJ.put (s := { s with tms := s.tms ++ [s.time + 1] }) (by simp) (by simp) b6 c6 l21 hol hm6.st ⟨hBs.1, hBs.2.1, hBs.2.2.1, hBs.2.2.2.1, by have := hsm.2.2.1; simp; omega, hBs.2.2.2.2.2.1, hBs.2.2.2.2.2.2.1, hBs.2.2.2.2.2.2.2.1, fun t ht => ?_⟩ ⟨spoil_tms, hval.key, hsm.sml⟩ (hD5.trans g2 (fun x hx => .inr (p2.2 x hx))) (hr5.fr2 g2 (fun x hx => by have := p2.2 x hx; omega)) (by omega)
     rcases List.mem_append.1 ht with h | h
     · exact hBs.2.2.2.2.2.2.2.2 t h
     · rw [List.mem_singleton.1 h]
       exact ⟨by omega, by omega⟩
   simp
   refine c_split (fun q2 => ?_) (fun q2 => ?_) <;> simp at q2
   · obtain ⟨a', b', c', d', lr, sr, e, f1, f2, f3, f4, f5, f6⟩ := hm5.st
     simp only [stAV, AV.ag.injEq, List.cons.injEq, and_true, true_and] at e
     obtain ⟨rfl, rfl, rfl, rfl⟩ := e
     have hlr3 : lr.length = 3 := by rw [f3.length]; exact hsm.2.2.2.2.2.2.2.1
     have hBs := hsm.stB
     simp [c5]
     refine cutG_from f2 1 rfl (by omega) (fun u g1 g2 => ?_)
     simp [c5, u5, g1.one, g1.cells, g1.cells1]
     exact SpJ.put (s := { s with lev := s.lev.drop 1 }) (by simp) (by simp) b5 c5 l21 hol ⟨xa, u, .sl xs 0 3, xd, lr.drop 1, sr, rfl, f1, g1, All2.drop f3 1, f4, f5, f6⟩ ⟨hBs.1, fun es he => hBs.2.1 es (List.mem_of_mem_drop he), by have := hBs.2.2.1; simp; omega, hBs.2.2.2⟩ ⟨fun h => by have := (ok_head h).1; have h3 := hsm.2.2.2.2.2.2.2.1; simp at this; omega, fun e he => hval.key e (by
       rcases List.mem_append.1 he with h | h
       · exact List.mem_append_left _ h
       · obtain ⟨l, h1, h2⟩ := List.mem_flatten.1 h
         exact List.mem_append_right _ (List.mem_flatten.2 ⟨l, List.mem_of_mem_drop h1, h2⟩)), hsm.sml.1, by have := hsm.sml.2.1; simp; omega, fun l hl => hsm.sml.2.2 l (List.mem_of_mem_drop hl)⟩ hD5 hr5 (by omega)
   simp
   refine c_split (fun q3 => ?_) (fun q3 => ?_) <;> simp at q3
   · obtain ⟨a2, ol2, os2, d2, lr, sr, hv, ha2, hlv, hlr, hsv, hsr, hd2', hdo2, hol2, hos2, hl3, hs3, hoff⟩ := hm5
     simp only [stAV, hl3, hs3, AV.ag.injEq, List.cons.injEq, AV.sl.injEq, and_true, true_and] at hv
     obtain ⟨rfl, rfl, rfl, rfl⟩ := hv
     have hsv' := hsv
     obtain ⟨e2, obs, j1, j2, j3, j4, j5, j6⟩ := hsv'.ob
     have hsr3 : sr.length = 3 := by omega
     obtain ⟨x0, hx0⟩ : ∃ x0, x0 = s.sv[0]'(by omega) := ⟨_, rfl⟩
     obtain ⟨r0, hr0, hr1, _⟩ := hsr.get 0 (by omega) (by omega)
     rw [<- hx0] at hr0 hr1
     have hx0l : x0.l.size <= 12000 := by rw [hx0]; exact storeOk_l0 hok (by omega)
     have hsz : x0.l.size + (⟨#[97]⟩ : ByteArray).size <= 9223372036854775807 := by
       have : (⟨#[97]⟩ : ByteArray).size = 1 := rfl
       omega
     have j7 : obs.rows[0]? = some [.str x0.l, .str x0.m, .str x0.f, r0, .int .i64 x0.k] := by
       have : (obs.rows.take sr.length)[0]? = sr[0]? := by rw [j6]
       rw [List.getElem?_take, if_pos (by omega)] at this
       rw [this, List.getElem?_eq_getElem (by omega), hr0]
     have u1 := Hp.at_lt j1
     simp [c5, j1, j2, j3, j7, hsz, u1]
     obtain ⟨K, hK⟩ : ∃ K : Hp, K = List.set H5 xs (some ⟨obs.rows.set 0 [.str (x0.l ++ ⟨#[97]⟩), .str x0.m, .str x0.f, r0, .int .i64 x0.k], 5, obs.ety, false⟩) := ⟨_, rfl⟩
     rw [<- hK]
     have F : Fr (fun y => y = xs) H5 K := by rw [hK]; exact Fr.one _ _ _
     have jK : K.at xs = some { obs with rows := obs.rows.set 0 [.str (x0.l ++ ⟨#[97]⟩), .str x0.m, .str x0.f, r0, .int .i64 x0.k] } := by rw [hK, Hp.at_set _ u1, <- j2, <- j3]
     have n5 : ∀ {e : Nat}, e ≠ 5 -> ∀ x ob, x = xs -> H5.at x = some ob -> ob.esz ≠ e := fun he x ob hx ho => by
       rw [hx, j1] at ho
       cases ho
       omega
     have ne6 : ∀ {x : Nat} {ob : Ob}, H5.at x = some ob -> ob.esz = 6 -> ¬ x = xs := fun ho he hx => by
       rw [hx, j1] at ho
       cases ho
       omega
     have hsvK := hsv.setRow j1 0 _ jK
     have hBs := hsm.stB
     refine ⟨by simp, by simp, F.2 _ _ (ne6 b5 rfl) b5, ⟨{ s with sv := s.sv.set 0 { x0 with l := x0.l ++ ⟨#[97]⟩ } }, ⟨xa, .sl xl 0 3, .sl xs 0 3, xd, F.2 _ _ (ne6 c5 rfl) c5, xn1, by simp, by simp, xn2, ?_, hBs.1, hBs.2.1, hBs.2.2.1, by simpa using hBs.2.2.2.1, hBs.2.2.2.2.1, fun y hy => ?_, hBs.2.2.2.2.2.2⟩, ⟨fun h => by rw [hx0] at h; exact (spoil_sv hok (by have := hsm.2.2.2.2.2.2.2.1; omega) (by omega) h).elim, hval.key, hsm.sml⟩⟩, hD5.trans F (fun x hx => .inr (by omega)), Rd.mono (hr5.fr2 F (fun x hx => by omega)) (by omega)⟩
     · refine ⟨xa, .sl xl 0 3, .sl xs 0 3, xd, lr, sr.set 0 [.str (x0.l ++ ⟨#[97]⟩), .str x0.m, .str x0.f, r0, .int .i64 x0.k], rfl, Rows.frz ha2.ents F (n5 (by simp)), ?_, All2.mono (fun _ _ h => h.fr F (n5 (by simp))) hlr, ?_, All2.set (All2.mono (fun row sv h => ?_) hsr) 0 ⟨r0, rfl, Rows.frz hr1 F (n5 (by simp)), fun _ _ h => h⟩, Rows.frz hd2'.ints F (n5 (by simp))⟩
       · rw [<- hl3]
         exact Rows.frz hlv.rows F (n5 (by simp))
       · rw [<- hs3]
         exact hsvK.rows
       · obtain ⟨r, e1, e2, _⟩ := h
         exact ⟨r, e1, Rows.frz e2 F (n5 (by simp)), fun _ _ h => h⟩
     · rcases List.mem_or_eq_of_mem_set hy with h | h
       · exact hBs.2.2.2.2.2.1 y h
       · rw [h]
         exact hBs.2.2.2.2.2.1 x0 (by rw [hx0]; exact List.getElem_mem _)
   simp
   refine c_split (fun q4 => ?_) (fun q4 => ?_) <;> simp at q4
   · obtain ⟨a', b', c', d', lr, sr, e, f1, f2, f3, f4, f5, f6⟩ := hm5.st
     simp only [stAV, AV.ag.injEq, List.cons.injEq, and_true, true_and] at e
     obtain ⟨rfl, rfl, rfl, rfl⟩ := e
     have hBs := hsm.stB
     simp [c5, u5]
     exact SpJ.put (s := { s with keep := 6 }) (by simp) (by simp) b5 c5 l21 hol ⟨xa, _, _, xd, lr, sr, rfl, f1, f2, f3, f4, f5, f6⟩ ⟨hBs.1, hBs.2.1, hBs.2.2.1, hBs.2.2.2.1, hBs.2.2.2.2.1, hBs.2.2.2.2.2.1, hBs.2.2.2.2.2.2.1, ⟨by simp, by simp⟩, hBs.2.2.2.2.2.2.2.2⟩ ⟨fun h => by have := (ok_head h).2.2.1; simp at this, hval.key, hsm.sml⟩ hD5 hr5 (by omega)
   · obtain ⟨p1, p2, p3⟩ := hm5.parts
     simp [c5]
     refine appG_one (bytes := 40) (R := s.top.map entRow) p1.1 (by have := hsm.1.1; simp; omega) (fun v6 H6 g1 g2 g3 => ?_)
     have nd : ∀ {x : Nat} {ob : Ob}, H5.at x = some ob -> ob.ety ≠ 99 -> ¬ xa.of x := fun ho he hx => he (p1.1.ety hx ho)
     have b6 := g2.2 _ _ (nd b5 (by simp)) b5
     have c6 := g2.2 _ _ (nd c5 (by simp)) c5
     have u6 := Hp.at_lt c6
     have g1' : Ents H6 v6 (s.top ++ [⟨⟨#[]⟩, 0, false, 0⟩]) := by
       have := g1.rows
       simpa [entRow, Ents] using this
     have hBs := hsm.stB
     simp [c6, u6, g1.rows.one, g1.rows.cells, g1.rows.cells1]
     refine SpJ.put (s := { s with top := s.top ++ [⟨⟨#[]⟩, 0, false, 0⟩] }) (by simp) (by simp) b6 c6 l21 hol (hm5.appT g2 g1') ⟨⟨by have := hsm.1.1; simp; omega, fun e he => ?_⟩, hBs.2⟩ ⟨fun h => (spoil_top h).elim, fun e he => by
       rcases List.mem_append.1 he with h | h
       · rcases List.mem_append.1 h with h | h
         · exact hval.key e (List.mem_append_left _ h)
         · rw [List.mem_singleton.1 h]
           exact Nat.zero_le _
       · exact hval.key e (List.mem_append_right _ h), by have := hsm.1.1; simp; omega, hsm.sml.2⟩ (hD5.trans g2 (fun x hx => .inr (p1.2 x hx))) (hr5.fr2 g2 (fun x hx => by have := p1.2 x hx; omega)) (by omega)
     rcases List.mem_append.1 he with h | h
     · exact hBs.1.2 e h
     · rw [List.mem_singleton.1 h]
       exact ⟨by show (0 : Nat) < _; omega, ⟨by simp, by simp⟩, ⟨by simp, by simp⟩⟩
 rintro t H5 ⟨t2, t3, b5, ⟨s', ⟨a', b', c', d', c5, n1, n2, n3, n4, hs5, hB5⟩, hV5⟩, hD5, hr5⟩
 have u5 := Hp.at_lt b5
 simp [t2, t3, c5, b5, n1, n2, n3, n4, Hp.at_set, u5]
 have F := Fr.one H5 H.length (some ⟨[[a', b', c', .int .i64 s'.keep, .int .i64 s'.time, d']], 6, 28, false⟩)
 have hS5 : ∀ y ob, y = H.length -> H5.at y = some ob -> ob.esz = 6 := fun y ob hy ho => by rw [hy, b5] at ho; cases ho; rfl
 exact ⟨s', hs5.fr6 F hS5, hB5, hV5, hD5.trans F (fun x hx => .inr (by omega)), Rd.mono (hr5.fr F (by omega) (fun x ob hx ho => by have := hS5 x ob hx ho; omega)) (by omega)⟩
end Go.Proofs.YtgoeenodllmdpaaGreat.B

namespace Go.Proofs.YtgoeenodllmdpaaGreat.B
open Go.RowKit Go.Proofs
set_option linter.unusedVariables false
set_option linter.unusedSimpArgs false
variable {E : Env}
theorem toList_inj' {x y : ByteArray} (h : x.toList = y.toList) : x = y := by
 have := toList_beq x y
 rw [h] at this
 simpa using this.symm
theorem ltRuns_ok (a b : AV) (xs ys : List Ent) (H : Hp) (ha : Ents H a xs) (hb : Ents H b ys) (hx : xs.length < 9223372036854775807) : AC Tryz.prog E 17 [a, b] H (fun v H' => v = .bool (decide (xs = ys)) /\ H' = H) := by
 refine AC_byp (CLe.refl _) h_laws_ltRuns (by simp) ?_
 have l1 := ha.len
 have l2 := hb.len
 simp [c_laws_ltRuns, l1, l2, ha.slc, hb.slc]
 refine c_split (fun hq => ?_) (fun hq => ?_) <;> simp at hq <;> simp
 · intro h
   subst h
   exact hq rfl
 · refine W_for (fun k t H' => ∃ i : Nat, i + k = xs.length /\ t 0 = a /\ t 1 = b /\ t 5 = .int .i64 i /\ (∀ j : Nat, j < i -> xs[j]? = ys[j]?) /\ HLe H H') xs.length ?_ AC_mono ?_
   · exact ⟨0, by simp⟩
   rintro k t H' ⟨i, hik, h0, h1, h5, hI, hle⟩
   simp [h0, h1, h5, l1, ha.slc]
   refine c_split (fun hq2 => ?_) (fun hq2 => ?_) <;> simp at hq2
   · have hw := wrapN (i := i) (by omega)
     obtain ⟨o1, i1, ob1, rfl, a1, a2, a3⟩ := (ha.le hle).get hq2
     obtain ⟨o2, i2, ob2, rfl, b1, b2, b3⟩ := (hb.le hle).get (j := i) (by omega)
     obtain ⟨m, hm⟩ : ∃ m, m = xs[i] := ⟨_, rfl⟩
     obtain ⟨n, hn⟩ : ∃ n, n = ys[i]'(by omega) := ⟨_, rfl⟩
     rw [<- hm] at a3
     rw [<- hn] at b3
     simp [h0, h1, h5, a1, a2, a3, b1, b2, b3, hq2, <- hq, entRow]
     refine c_split (fun hq3 => ?_) (fun hq3 => ?_) <;> simp at hq3 <;> simp [h0, h1, h5, hw, hle]
     · intro h
       subst h
       rw [<- hn] at hm
       subst hm
       simp at hq3
     · refine ⟨k - 1, by omega, i + 1, by omega, by omega, fun j hj => ?_⟩
       rcases Nat.lt_or_ge j i with h | h
       · exact hI j h
       · have : j = i := by omega
         subst this
         rw [List.getElem?_eq_getElem hq2, List.getElem?_eq_getElem (by omega), <- hm, <- hn]
         obtain ⟨m1, m2, m3, m4⟩ := m
         obtain ⟨n1, n2, n3, n4⟩ := n
         simp at hq3 ⊢
         exact ⟨toList_inj' hq3.1, hq3.2.1, hq3.2.2.1, hq3.2.2.2⟩
   · simp [hle]
     apply List.ext_getElem?
     intro j
     rcases Nat.lt_or_ge j i with h | h
     · exact hI j h
     · rw [List.getElem?_eq_none (by omega), List.getElem?_eq_none (by omega)]
end Go.Proofs.YtgoeenodllmdpaaGreat.B

namespace Go.Proofs.YtgoeenodllmdpaaGreat.B
open Go.RowKit Go.Proofs
set_option linter.unusedVariables false
set_option linter.unusedSimpArgs false
variable {E : Env}
end Go.Proofs.YtgoeenodllmdpaaGreat.B

namespace Go.Proofs.YtgoeenodllmdpaaGreat.B
open Go.RowKit
set_option linter.unusedVariables false
set_option linter.unusedSimpArgs false
end Go.Proofs.YtgoeenodllmdpaaGreat.B

namespace Go.Proofs.YtgoeenodllmdpaaGreat.B
open Go.RowKit Go.Proofs
set_option linter.unusedVariables false
set_option linter.unusedSimpArgs false
variable {E : Env}
theorem BoxS.mk' {K : Hp} {L : Nat} {a b c k t d : AV} {y : Sr} (hb : K.at L = some ⟨[[a, b, c, k, t, d]], 6, 28, false⟩) (hs : St K (.ag [a, b, c, k, t, d]) y) (hB : StB y) : BoxS K L y := by
 have hs0 := hs
 obtain ⟨a', b', c', d', e, n1, n2, n3, n4, _⟩ := hs.shape
 simp only [stAV, AV.ag.injEq, List.cons.injEq, and_true, true_and] at e
 obtain ⟨rfl, rfl, rfl, rfl, rfl, rfl⟩ := e
 exact ⟨a, b, c, d, hb, n1, n2, n3, n4, hs0, hB⟩
theorem St.frE {S : Nat -> Prop} {e : Nat} {H H' : Hp} {v : AV} {s : Sr} (h : St H v s) (hf : Fr S H H') (he : e ≠ 1 /\ e ≠ 4 /\ e ≠ 5) (hS : ∀ y ob, S y -> H.at y = some ob -> ob.esz = e) : St H' v s := by
 obtain ⟨a, b, c, d, lr, sr, e0, h1, h2, h3, h4, h5, h6⟩ := h
 have n : ∀ {k : Nat}, e ≠ k -> ∀ y ob, S y -> H.at y = some ob -> ob.esz ≠ k := fun hk y ob hy ho => by rw [hS y ob hy ho]; exact hk
 exact ⟨a, b, c, d, lr, sr, e0, Rows.frz h1 hf (n he.2.1), Rows.frz h2 hf (n he.1), All2.mono (fun _ _ ⟨u, k1, k2⟩ => ⟨u, k1, Rows.frz k2 hf (n he.2.1)⟩) h3, Rows.frz h4 hf (n he.2.2), All2.mono (fun _ _ ⟨u, k1, k2, k3⟩ => ⟨u, k1, Rows.frz k2 hf (n he.1), k3⟩) h5, Rows.frz h6 hf (n he.1)⟩
end Go.Proofs.YtgoeenodllmdpaaGreat.B

namespace Go.Proofs.YtgoeenodllmdpaaGreat.B
open Go.RowKit Go.Proofs
set_option linter.unusedVariables false
set_option linter.unusedSimpArgs false
variable {E : Env}
end Go.Proofs.YtgoeenodllmdpaaGreat.B

namespace Go.Proofs.YtgoeenodllmdpaaGreat.B
open Go.RowKit Go.Proofs
set_option linter.unusedVariables false
set_option linter.unusedSimpArgs false
variable {E : Env}
theorem Rd.e2 {K : Hp} {r M : Nat} (hr : Rd K r M) : ∀ x ob, x = r -> K.at x = some ob -> ob.esz = 2 := by
 intro x ob hx ho
 obtain ⟨b, bs, p, h1, _⟩ := hr
 rw [hx, h1] at ho
 cases ho
 rfl
end Go.Proofs.YtgoeenodllmdpaaGreat.B

namespace Go.Proofs.YtgoeenodllmdpaaGreat.B
open Go.RowKit Go.Proofs
set_option linter.unusedVariables false
set_option linter.unusedSimpArgs false
variable {E : Env}
def sNil : Sr := ⟨[], [], [], 0, 0, []⟩
theorem sNil_B : StB sNil := ⟨⟨by simp [sNil], by simp [sNil, Fits]⟩, by simp [sNil], by simp [sNil], by simp [sNil], by simp [sNil], by simp [sNil], by simp [sNil, I64], by simp [sNil, I64], by simp [sNil]⟩
theorem RetS.vl {H0 H : Hp} {u : AV} {o : Option Sr} (h : RetS H0 H u o) (hb : ∀ x, o = some x -> Small x) : HLe H0 H /\ StB (o.getD sNil) /\ ∃ a b c d, u = .tu [.ag [a, b, c, .int .i64 (o.getD sNil).keep, .int .i64 (o.getD sNil).time, d], .bool o.isSome] /\ one a = true /\ one b = true /\ one c = true /\ one d = true /\ St H (.ag [a, b, c, .int .i64 (o.getD sNil).keep, .int .i64 (o.getD sNil).time, d]) (o.getD sNil) := by
 obtain ⟨h1, h2⟩ := h
 cases o with
 | none => exact ⟨h1, sNil_B, .nils, .nils, .nils, .nils, h2, rfl, rfl, rfl, rfl, .nils, .nils, .nils, .nils, [], [], rfl, Rows.nil, Rows.nil, trivial, Rows.nil, trivial, Rows.nil⟩
 | some x =>
   obtain ⟨w, e, hm⟩ := h2
   obtain ⟨a, b, c, d, rfl, n1, n2, n3, n4, _⟩ := hm.st.shape
   exact ⟨h1, (hb x rfl).stB, a, b, c, d, e, n1, n2, n3, n4, hm.st⟩
theorem St.box {H K : Hp} {a b c d : AV} {s : Sr} (h : St H (.ag [a, b, c, .int .i64 s.keep, .int .i64 s.time, d]) s) (hK : K = H ++ [some ⟨[[a, b, c, .int .i64 s.keep, .int .i64 s.time, d]], 6, 28, false⟩]) :
   HLe H K /\ K.at H.length = some ⟨[[a, b, c, .int .i64 s.keep, .int .i64 s.time, d]], 6, 28, false⟩ /\ St K (.ag [a, b, c, .int .i64 s.keep, .int .i64 s.time, d]) s := by
 have hle : HLe H K := by rw [hK]; exact HLe.self _ _
 exact ⟨hle, by rw [hK]; simp, h.le hle⟩
end Go.Proofs.YtgoeenodllmdpaaGreat.B

namespace Go.Proofs.YtgoeenodllmdpaaGreat.B
open Go.RowKit Go.Proofs
set_option linter.unusedVariables false
set_option linter.unusedSimpArgs false
variable {E : Env}
end Go.Proofs.YtgoeenodllmdpaaGreat.B

namespace Go.Proofs.YtgoeenodllmdpaaGreat.B
open Go.RowKit Go.Proofs
set_option linter.unusedVariables false
set_option linter.unusedSimpArgs false
variable {E : Env}
theorem intoR_time {n : Nat} {s x : Sr} {r : List Ent} (h : intoR n s r = some x) : x.time = s.time := (intoR_tms h).2.2.2
theorem doR_time {s y : Sr} {d : Dd} (h : doR s d = some y) : ((d.kind = 1 \/ d.kind = 2) /\ y.time = s.time + 1) \/ (¬ (d.kind = 1 \/ d.kind = 2) /\ y.time = s.time) := by
 have add : ∀ {e : Ent}, addR s e = some y -> y.time = e.time := by
   intro e he
   unfold addR at he
   split at he
   · split at he
     · cases he
     · cases he
       rfl
   · cases he
 unfold doR at h
 by_cases h1 : d.kind = 1
 · rw [if_pos h1] at h
   exact .inl ⟨.inl h1, add h⟩
 rw [if_neg h1] at h
 by_cases h2 : d.kind = 2
 · rw [if_pos h2] at h
   exact .inl ⟨.inr h2, add h⟩
 rw [if_neg h2] at h
 refine .inr ⟨by simp [h1, h2], ?_⟩
 by_cases h3 : d.kind = 3
 · rw [if_pos h3] at h
   exact holdR_time h
 rw [if_neg h3] at h
 by_cases h4 : d.kind = 4
 · rw [if_pos h4] at h
   unfold freeR at h
   split at h
   · simp only at h
     split at h
     · cases h
     · cases h
       rfl
   · cases h
 rw [if_neg h4] at h
 by_cases h5 : d.kind = 5
 · rw [if_pos h5] at h
   unfold letR at h
   split at h
   · exact (intoR_time h).trans rfl
   · cases h
 rw [if_neg h5] at h
 by_cases h6 : d.kind = 6
 · rw [if_pos h6] at h
   unfold joinR at h
   split at h
   · split at h
     · cases h
     · rename_i x hx
       exact (intoR_time h).trans (setR_tms hx).2.2.2
   · cases h
 rw [if_neg h6] at h
 cases h
theorem wr1_eq {s y : Sr} {d : Dd} (h : doR s d = some y) : wr1 s d = if s.time < y.time then [if d.kind = 2 then ⟨d.key, 0, true, y.time⟩ else ⟨d.key, d.num, false, y.time⟩] else [] := by
 unfold wr1
 rw [h]
 simp only
 rcases doR_time h with ⟨hk, ht⟩ | ⟨hk, ht⟩
 · rcases hk with hk | hk
   · have : s.time < s.time + 1 := by omega
     simp [hk, ht, this]
   · have : s.time < s.time + 1 := by omega
     simp [hk, ht, this]
 · have h1 : ¬ d.kind = 1 := fun h => hk (.inl h)
   have h2 : ¬ d.kind = 2 := fun h => hk (.inr h)
   simp [h1, h2, ht]
def BoxM (K0 H : Hp) (L : Nat) (s : Sr) : Prop := ∃ a b c d, H.at L = some ⟨[[a, b, c, .int .i64 s.keep, .int .i64 s.time, d]], 6, 28, false⟩ /\ one a = true /\ one b = true /\ one c = true /\ one d = true /\ MSt K0 H (.ag [a, b, c, .int .i64 s.keep, .int .i64 s.time, d]) s /\ StB s
theorem BoxM.mk' {K0 K : Hp} {L : Nat} {a b c k t d : AV} {y : Sr} (hb : K.at L = some ⟨[[a, b, c, k, t, d]], 6, 28, false⟩) (hs : MSt K0 K (.ag [a, b, c, k, t, d]) y) (hB : StB y) : BoxM K0 K L y := by
 obtain ⟨a', b', c', d', e, n1, n2, n3, n4, _⟩ := hs.st.shape
 simp only [stAV, AV.ag.injEq, List.cons.injEq, and_true, true_and] at e
 obtain ⟨rfl, rfl, rfl, rfl, rfl, rfl⟩ := e
 exact ⟨a, b, c, d, hb, n1, n2, n3, n4, hs, hB⟩
theorem MSt.far4 {S : Nat -> Prop} {H0 H H' : Hp} {v : AV} {s : Sr} (h : MSt H0 H v s) (hf : Fr S H H') (hS : ∀ y, S y -> y < H0.length) (h4 : ∀ y ob, S y -> H.at y = some ob -> ob.esz = 4) : St H' v s := by
 obtain ⟨a, ol, os, d, lr, sr, rfl, ha, hlv, hlr, hsv, hsr, hd, hdo, hol, hos, hl3, hs3, hoff⟩ := h
 have n4 : ∀ {e : Nat}, e ≠ 4 -> ∀ x ob, S x -> H.at x = some ob -> ob.esz ≠ e := fun he x ob hx ho => by rw [h4 x ob hx ho]; exact he.symm
 refine ⟨a, _, _, d, lr, sr, rfl, ha.ents.fr hf (fun y hy hs => by have := ha.2 y hy; have := hS y hs; omega), Rows.frz hlv.rows hf (n4 (by simp)), ?_, Rows.frz hsv.rows hf (n4 (by simp)), All2.mono (fun row sv h => ?_) hsr, Rows.frz hd.ints hf (n4 (by simp))⟩
 · have key : ∀ {lr : List (List AV)} {ls : List (List Ent)}, All2 (LvRow H) lr ls -> (∀ u, [u] ∈ lr -> ∀ y, u.of y -> H0.length <= y) -> All2 (LvRow H') lr ls := by
     intro lr
     induction lr with
     | nil => intro ls h _; cases ls with
       | nil => trivial
       | cons => exact h.elim
     | cons r lr ih => intro ls h ho; cases ls with
       | nil => exact h.elim
       | cons l ls =>
         obtain ⟨⟨u, rfl, hu⟩, h2⟩ := h
         exact ⟨⟨u, rfl, Rows.fr hu hf (fun y hy hs => by have := ho u (List.mem_cons_self ..) y hy; have := hS y hs; omega)⟩, ih h2 (fun w hw => ho w (List.mem_cons_of_mem _ hw))⟩
   exact key hlr hoff.2
 · obtain ⟨r, e1, e2, _⟩ := h
   exact ⟨r, e1, Rows.frz e2 hf (n4 (by simp)), fun _ _ h => h⟩
theorem RetS.mst {H0 H : Hp} {w ok : AV} {o : Option Sr} (h : RetS H0 H (.tu [w, ok]) o) : ∀ x, o = some x -> MSt H0 H w x := by
 rintro x rfl
 obtain ⟨_, w', e, hm⟩ := h
 cases e
 exact hm
def PaI (H : Hp) (u : AV) (ds : List Dd) (s : Sr) (m : Nat) (t : Tm) (H' : Hp) : Prop := ∃ (i : Nat) (x : Sr) (v5 : AV) (out : List Ent), i + m = ds.length /\ t 1 = u /\ t 2 = .pt H.length 0 0 /\ t 5 = v5 /\ t 6 = .int .i64 i /\ HLe H H' /\ BoxS H' H.length x /\ OwnE H H' v5 out /\ x = doAll s (ds.take i) /\ out = wrAll s (ds.take i)
def PaJ (H H' : Hp) (u v5 : AV) (i : Nat) (r : Option Sr) (t : Tm) (H2 : Hp) : Prop := t 1 = u /\ t 2 = .pt H.length 0 0 /\ t 5 = v5 /\ t 6 = .int .i64 i /\ HLe H' H2 /\ ∃ L7, t 7 = .pt L7 0 0 /\ H'.length <= L7 /\ t 8 = .bool r.isSome /\ (∀ y, r = some y -> BoxM H' H2 L7 y)
set_option maxHeartbeats 1600000 in
theorem PastAll_ok (v u : AV) (s : Sr) (ds : List Dd) (H : Hp) (hs : St H v s) (hb : StB s) (hu : Dds H u ds) (hk : ∀ d ∈ ds, d.key.size < 4611686018427387904) :
   AC Tryz.prog E 18 [v, u] H (fun w H' => HLe H H' /\ OwnE H H' w (((pastI s ds).map (·.2)).getD [])) := by
 have hs0 := hs
 obtain ⟨a, b, c, d, rfl, n1, n2, n3, n4, hea, hed⟩ := hs.shape
 refine AC_by fol (tC_le tab2_ok) h_spec_PastAll ?_
 obtain ⟨H1, hH1⟩ : ∃ H1 : Hp, H1 = H ++ [some ⟨[[a, b, c, .int .i64 s.keep, .int .i64 s.time, d]], 6, 28, false⟩, some ⟨[], 4, 99, false⟩] := ⟨_, rfl⟩
 have hle1 : HLe H H1 := by rw [hH1]; exact HLe.self _ _
 have b0 : H1.at H.length = some ⟨[[a, b, c, .int .i64 s.keep, .int .i64 s.time, d]], 6, 28, false⟩ := by rw [hH1]; simp
 have b1 : H1.at (H.length + 1) = some ⟨[], 4, 99, false⟩ := by rw [hH1]; simp
 have hlit : OwnE H H1 (.sl (H.length + 1) 0 0) [] := ⟨Own.obj (R := []) b1 rfl, fun y hy => by simp at hy; omega⟩
 have hlen : lenV u = .int .i64 ds.length := by simpa using Rows.len hu
 have hslc : slC u := Rows.slc hu
 simp [-RgP_both, c_spec_PastAll, n1, n2, n3, n4, <- hH1, b0]
 refine cg_use (StoreOk_ok _ s H1 (hs0.le hle1) hb) ?_
 cases hso : storeOk s with
 | false =>
   simp [pastI, hso]
   exact ⟨hle1, hlit⟩
 | true =>
 simp [-RgP_both, hlen, hslc]
 refine c_split (fun hq => ?_) (fun hq => ?_) <;> simp at hq
 · have hp : pastI s ds = none := by simp [pastI, hso]; omega
   simp [hp]
   exact ⟨hle1, hlit⟩
 have hp : pastI s ds = some (doAll s ds, wrAll s ds) := by simp [pastI, hso]; omega
 simp [-RgP_both]
 refine W_for (fun m t H' => PaI H u ds s m t H') ds.length ?_ (tC_mono AC_mono) ?_
 · exact ⟨0, s, _, [], by omega, by simp, by simp, by simp, by simp, hle1, ⟨a, b, c, d, b0, n1, n2, n3, n4, hs0.le hle1, hb⟩, hlit, by simp [doAll], by simp [wrAll]⟩
 rintro m t H' ⟨i, x, v5, out, him, t1, t2, t5, t6, hle, hbx, hv5, hx, hout⟩
 have hu' := Rows.le hu hle
 simp [-RgP_both, t1, t2, t5, t6, hlen, hslc]
 refine c_split (fun hq => ?_) (fun hq => ?_) <;> simp at hq
 · have hi : i < ds.length := by omega
   have hw := wrapN (i := i) (by omega)
   obtain ⟨xa, xb, xc, xd, c0, m1, m2, m3, m4, hxs, hxb⟩ := hbx
   obtain ⟨o, i0, ob, rfl, a1, a2, a3⟩ := Dds.get hu' hi
   obtain ⟨dd, hdd⟩ : ∃ dd, dd = ds[i] := ⟨_, rfl⟩
   have hkd : dd.key.size < 4611686018427387904 := by rw [hdd]; exact hk _ (List.getElem_mem hi)
   rw [<- hdd] at a3
   have hxs' : doAll s (ds.take (i + 1)) = (doR x dd).getD x := by rw [doAll_step s ds hi, <- hx, <- hdd]
   have hws : wrAll s (ds.take (i + 1)) = out ++ wr1 x dd := by rw [wrAll_step s ds hi, <- hout, <- hx, <- hdd]
   have hol : out.length <= 1000 := by
     have := wrAll_len (ds.take i) s
     rw [<- hout, List.length_take] at this
     omega
   simp [-RgP_both, t1, t2, t5, t6, c0, a1, a2, a3, hi]
   refine RgP_then (tC_mono AC_mono) (PaJ H H' (.sl o i0 ds.length) v5 i (doR x dd)) ?_ ?_
   · rw [RgP_both]
     refine ⟨?_, ?_⟩
     · simp
       refine cg_ex (l13Do_ok _ x dd H' hxs hxb hkd) ?_
       rintro w H2 hret
       obtain ⟨ya, yb, yc, yk, yt, yd, rfl, o1, o2, o3, o4, o5, o6⟩ := hret.shape
       have hmm := hret.mst
       have hle2 := hret.1
       obtain ⟨K, hK⟩ : ∃ K : Hp, K = H2 ++ [some ⟨[[ya, yb, yc, yk, yt, yd]], 6, 28, false⟩] := ⟨_, rfl⟩
       have hleK : HLe H2 K := by rw [hK]; exact HLe.self _ _
       simp [o1, o2, o3, o4, o5, o6, Hp.at_app, Hp.at_lt (hle2.2 _ _ c0), Hp.at_lt (hle2.2 _ _ a1), hle2.2 _ _ c0, hle2.2 _ _ a1, a2, a3, hq, t2, <- hK]
       exact ⟨by simp [t1], by simp [t2], by simp [t5], by simp [t6], hle2.trans hleK, H2.length, by simp, hle2.1, by simp, fun z hz => BoxM.mk' (by rw [hK]; simp) ((hmm z hz).le hleK) (doR_small hz).stB⟩
     · obtain ⟨K, hK⟩ : ∃ K : Hp, K = H' ++ [some ⟨[[.nils, .nils, .nils, .int .i64 0, .int .i64 0, .nils]], 6, 28, false⟩] := ⟨_, rfl⟩
       have hleK : HLe H' K := by rw [hK]; exact HLe.self _ _
       have cK := hleK.2 _ _ c0
       have aK := hleK.2 _ _ a1
       have bK : K.at H'.length = some ⟨[[.nils, .nils, .nils, .int .i64 0, .int .i64 0, .nils]], 6, 28, false⟩ := by rw [hK]; simp
       simp [<- hK, cK, aK, a2, a3, hq, t2]
       refine cg_ex (l13Do_ok _ x dd K (hxs.le hleK) hxb hkd) ?_
       rintro w H2 hret
       obtain ⟨ya, yb, yc, yk, yt, yd, rfl, o1, o2, o3, o4, o5, o6⟩ := hret.shape
       have hmm := hret.mst
       have hle2 := hret.1
       have b2 := hle2.2 _ _ bK
       have u2 := Hp.at_lt b2
       simp [o1, o2, o3, o4, o5, o6, b2, u2, Hp.at_set]
       have F := Fr.one H2 H'.length (some ⟨[[ya, yb, yc, yk, yt, yd]], 6, 28, false⟩)
       exact ⟨by simp [t1], by simp [t2], by simp [t5], by simp [t6], (hleK.trans hle2).set (Nat.le_refl _) _, H'.length, by simp, Nat.le_refl _, by simp, fun z hz => BoxM.mk' (Hp.at_set _ u2) (((hmm z hz).fr F (fun q ob hq ho => by rw [hq, b2] at ho; cases ho; rfl)).base hleK.1) (doR_small hz).stB⟩
   rintro t H2 ⟨t1, t2, t5, t6, hle2, L7, t7, hL7, t8, hby⟩
   have c2 := hle2.2 _ _ c0
   have a12 := hle2.2 _ _ a1
   have u2 := Hp.at_lt c2
   have hleH := hle.trans hle2
   cases hd : doR x dd with
   | none =>
     rw [hd] at t8 hxs'
     simp [t1, t2, t5, t6, t7, t8, hw]
     exact ⟨m - 1, by omega, i + 1, x, v5, out, by omega, by simp [t1], by simp [t2], by simp [t5], by simp, hleH, BoxS.mk' c2 (hxs.le hle2) hxb, hv5.le hle2, hxs'.symm, by rw [hws]; simp [wr1, hd]⟩
   | some y =>
     rw [hd] at t8 hxs'
     obtain ⟨ya, yb, yc, yd, d7, p1, p2, p3, p4, hym, hyb⟩ := hby y hd
     have hys := hym.st
     have hw1 := wr1_eq hd
     by_cases ht : x.time < y.time
     · rw [if_pos ht] at hw1
       obtain ⟨G, hG⟩ : ∃ G : Hp, G = H2 ++ [some ⟨[[.str ⟨#[]⟩, .int .i64 0, .bool false, .int .i64 0]], 4, 99, false⟩] := ⟨_, rfl⟩
       have hleG : HLe H2 G := by rw [hG]; exact HLe.self _ _
       have bG : G.at H2.length = some ⟨[[.str ⟨#[]⟩, .int .i64 0, .bool false, .int .i64 0]], 4, 99, false⟩ := by rw [hG]; simp
       have dG := hleG.2 _ _ d7
       have cG := hleG.2 _ _ c2
       have aG := hleG.2 _ _ a12
       have uG := Hp.at_lt bG
       have neL : H2.length ≠ L7 := by have := Hp.at_lt d7; omega
       have neo : H2.length ≠ o := by have := Hp.at_lt a12; omega
       by_cases hk2 : dd.kind = 2
       · rw [if_pos hk2] at hw1
         have hE : wr1 x dd = [⟨dd.key, 0, true, y.time⟩] := hw1
         obtain ⟨R, hR⟩ : ∃ R : Hp, R = List.set G H2.length (some ⟨[entRow ⟨dd.key, 0, true, y.time⟩], 4, 99, false⟩) := ⟨_, rfl⟩
         have bR : R.at H2.length = some ⟨[entRow ⟨dd.key, 0, true, y.time⟩], 4, 99, false⟩ := by rw [hR]; exact Hp.at_set _ uG
         have hleR : HLe H2 R := by rw [hR]; exact hleG.set (Nat.le_refl _) _
         have cR := hleR.2 _ _ c2
         have dR := hleR.2 _ _ d7
         have aR := hleR.2 _ _ a12
         simp only [entRow] at hR bR
         simp [t1, t2, t5, t6, t7, t8, hw, d7, c2, ht, a12, a2, a3, hq, hk2, <- hG, bG, dG, cG, aG, uG, Hp.at_set, Hp.at_set_ne, neL, neo, <- hR, bR, aR, dR]
         refine appG_add (y := ⟨dd.key, 0, true, y.time⟩) (row := entRow) (bytes := 40) (H0 := H) (hv5.le (hle2.trans hleR)) (hleH.trans hleR) (by omega) rfl (fun v6 H6 g1 g2 g3 g4 => ?_)
         have nd : ∀ {z : Nat} {ob : Ob}, R.at z = some ob -> ob.esz = 6 -> ¬ v5.of z := fun ho he hz => by
           have := (hv5.le (hle2.trans hleR)).1.esz hz ho
           omega
         have c6 := g3.2 _ _ (nd cR rfl) cR
         have d6 := g3.2 _ _ (nd dR rfl) dR
         have u6 := Hp.at_lt c6
         have hS6 : ∀ q ob, q = H.length -> H6.at q = some ob -> ob.esz = 6 := fun q ob hq ho => by rw [hq, c6] at ho; cases ho; rfl
         have F := Fr.one H6 H.length (some ⟨[[ya, yb, yc, .int .i64 y.keep, .int .i64 y.time, yd]], 6, 28, false⟩)
         have hys6 := (hym.le hleR).far4 g3 (fun z hz => hv5.1.lt hz) (fun z ob hz ho => (hv5.le (hle2.trans hleR)).1.esz hz ho)
         simp [t1, t2, t5, t6, t7, t8, hw, d6, c6, u6, p1, p2, p3, p4]
         exact ⟨m - 1, by omega, i + 1, y, v6, _, by omega, by simp [t1], by simp [t2], by simp, by simp, g1.fr_le F (fun q hq => by omega), BoxS.mk' (Hp.at_set _ u6) (hys6.frE F (e := 6) (by simp) hS6) hyb, g2.fr6 F hS6, hxs'.symm, by rw [hws, hE]⟩
       · rw [if_neg hk2] at hw1
         have hE : wr1 x dd = [⟨dd.key, dd.num, false, y.time⟩] := hw1
         obtain ⟨R, hR⟩ : ∃ R : Hp, R = List.set G H2.length (some ⟨[entRow ⟨dd.key, dd.num, false, y.time⟩], 4, 99, false⟩) := ⟨_, rfl⟩
         have bR : R.at H2.length = some ⟨[entRow ⟨dd.key, dd.num, false, y.time⟩], 4, 99, false⟩ := by rw [hR]; exact Hp.at_set _ uG
         have hleR : HLe H2 R := by rw [hR]; exact hleG.set (Nat.le_refl _) _
         have cR := hleR.2 _ _ c2
         have dR := hleR.2 _ _ d7
         have aR := hleR.2 _ _ a12
         simp only [entRow] at hR bR
         simp [t1, t2, t5, t6, t7, t8, hw, d7, c2, ht, a12, a2, a3, hq, hk2, <- hG, bG, dG, cG, aG, uG, Hp.at_set, Hp.at_set_ne, neL, neo, <- hR, bR, aR, dR]
         refine appG_add (y := ⟨dd.key, dd.num, false, y.time⟩) (row := entRow) (bytes := 40) (H0 := H) (hv5.le (hle2.trans hleR)) (hleH.trans hleR) (by omega) rfl (fun v6 H6 g1 g2 g3 g4 => ?_)
         have nd : ∀ {z : Nat} {ob : Ob}, R.at z = some ob -> ob.esz = 6 -> ¬ v5.of z := fun ho he hz => by
           have := (hv5.le (hle2.trans hleR)).1.esz hz ho
           omega
         have c6 := g3.2 _ _ (nd cR rfl) cR
         have d6 := g3.2 _ _ (nd dR rfl) dR
         have u6 := Hp.at_lt c6
         have hS6 : ∀ q ob, q = H.length -> H6.at q = some ob -> ob.esz = 6 := fun q ob hq ho => by rw [hq, c6] at ho; cases ho; rfl
         have F := Fr.one H6 H.length (some ⟨[[ya, yb, yc, .int .i64 y.keep, .int .i64 y.time, yd]], 6, 28, false⟩)
         have hys6 := (hym.le hleR).far4 g3 (fun z hz => hv5.1.lt hz) (fun z ob hz ho => (hv5.le (hle2.trans hleR)).1.esz hz ho)
         simp [t1, t2, t5, t6, t7, t8, hw, d6, c6, u6, p1, p2, p3, p4]
         exact ⟨m - 1, by omega, i + 1, y, v6, _, by omega, by simp [t1], by simp [t2], by simp, by simp, g1.fr_le F (fun q hq => by omega), BoxS.mk' (Hp.at_set _ u6) (hys6.frE F (e := 6) (by simp) hS6) hyb, g2.fr6 F hS6, hxs'.symm, by rw [hws, hE]⟩
     · rw [if_neg ht] at hw1
       have F := Fr.one H2 H.length (some ⟨[[ya, yb, yc, .int .i64 y.keep, .int .i64 y.time, yd]], 6, 28, false⟩)
       have hS2 : ∀ q ob, q = H.length -> H2.at q = some ob -> ob.esz = 6 := fun q ob hq ho => by rw [hq, c2] at ho; cases ho; rfl
       simp [t1, t2, t5, t6, t7, t8, hw, d7, c2, ht, p1, p2, p3, p4, u2]
       exact ⟨m - 1, by omega, i + 1, y, v5, out, by omega, by simp [t1], by simp [t2], by simp [t5], by simp, hleH.set (Nat.le_refl _) _, BoxS.mk' (Hp.at_set _ u2) (hys.frE F (e := 6) (by simp) hS2) hyb, (hv5.le hle2).fr6 F hS2, hxs'.symm, by rw [hws, hw1]; simp⟩
 · have hie : i = ds.length := by omega
   subst hie
   rw [List.take_of_length_le (Nat.le_refl _)] at hx hout
   simp [t5, hp, <- hout]
   exact ⟨hle, hv5⟩
end Go.Proofs.YtgoeenodllmdpaaGreat.B

namespace Go.Proofs.YtgoeenodllmdpaaGreat.B
open Go.RowKit Go.Proofs
set_option linter.unusedVariables false
set_option linter.unusedSimpArgs false
variable {E : Env}
theorem wrAll_key : ∀ (ds : List Dd) (s : Sr), ∀ e ∈ wrAll s ds, ∃ d ∈ ds, e.key = d.key
 | [], s, e, h => by cases h
 | d :: ds, s, e, h => by
   have e2 : wrAll s (d :: ds) = wr1 s d ++ wrAll ((doR s d).getD s) ds := rfl
   rw [e2] at h
   rcases List.mem_append.1 h with h | h
   · refine ⟨d, by simp, ?_⟩
     unfold wr1 at h
     cases hd : doR s d with
     | none => rw [hd] at h; cases h
     | some x =>
       rw [hd] at h
       simp only at h
       split at h
       · rw [List.mem_singleton.1 h]
       · split at h
         · rw [List.mem_singleton.1 h]
         · cases h
   · obtain ⟨d', h1, h2⟩ := wrAll_key ds _ e h
     exact ⟨d', List.mem_cons_of_mem _ h1, h2⟩
theorem pastI_key {s : Sr} {ds : List Dd} {B : Nat} (h : ∀ d ∈ ds, d.key.size <= B) : ∀ e ∈ ((pastI s ds).map (·.2)).getD [], e.key.size <= B := by
 intro e he
 unfold pastI at he
 split at he
 · obtain ⟨d, h1, h2⟩ := wrAll_key ds s e (by simpa using he)
   rw [h2]
   exact h d h1
 · simp at he
theorem pastI_len {s : Sr} {ds : List Dd} : (((pastI s ds).map (·.2)).getD []).length <= ds.length := by
 unfold pastI
 split
 · simpa using wrAll_len ds s
 · simp
theorem newR_spl {k : Int} {s : Sr} (h : newR k = some s) : Spl s /\ Small s := ⟨⟨fun _ => newR_V h, (newR_V h).key, (newR_small h).sml⟩, newR_small h⟩
set_option maxHeartbeats 1600000 in
theorem l71All_ok (o N : Nat) (H : Hp) (hr : Rd H o N) (hN : N < 34359738368) :
   AC Tryz.prog E 121 [.pt o 0 0] H (fun v H' => ∃ es, OwnE H H' v es /\ es.length <= 31 /\ (∀ e ∈ es, e.key.size <= 5) /\ Dr o H H' /\ Rd H' o (N + 400)) := by
 refine AC_by fol (tC_le tab2_ok) h_spec_l71All ?_
 have hol := hr.lt
 simp [c_spec_l71All]
 refine cg_ex (StoreNew_ok 1 H) ?_
 intro v H1 hret
 obtain ⟨s0, hs0⟩ : ∃ s0, newR 1 = some s0 := ⟨_, rfl⟩
 obtain ⟨hsp, hsm⟩ := newR_spl hs0
 rw [hs0] at hret
 obtain ⟨hle1, hB, xa, xb, xc, xd, rfl, n1, n2, n3, n4, hs1⟩ := hret.vl (fun x hx => by cases hx; exact hsm)
 simp only [Option.getD_some] at hB hs1 ⊢
 obtain ⟨H2, hH2⟩ : ∃ H2 : Hp, H2 = H1 ++ [some ⟨[[xa, xb, xc, .int .i64 s0.keep, .int .i64 s0.time, xd]], 6, 28, false⟩] := ⟨_, rfl⟩
 obtain ⟨hle2, b2, hs2⟩ := St.box hs1 hH2
 have hr2 := hr.le (hle1.trans hle2)
 simp [n1, n2, n3, n4, <- hH2, b2]
 refine cg_ex (l71Deeds_ok o _ 30 H2 hr2 (by omega) (by omega)) ?_
 rintro dv H3 ⟨ds, hds, hdl, hdk, hd3, hr3⟩
 have b3 := hd3.2 _ _ (show ¬ H1.length = o by have := hle1.1; omega) b2
 have hs3 := hs2.frE hd3 (e := 2) (by simp) hr2.e2
 simp [b3]
 refine cg_ex (PastAll_ok _ dv s0 ds H3 hs3 hB hds.rows (fun d hd => by have := hdk d hd; omega)) ?_
 rintro v H4 ⟨hle4, hv4⟩
 have hlen := pastI_len (s := s0) (ds := ds)
 have hd : Dr o H H4 := (((hle1.trans hle2).fr (S := fun x => x = o)).same hd3).le_fr hle4
 simp
 exact ⟨_, hv4.base (by have := hle1.1; have := hle2.1; have := hd3.len; omega), by omega, pastI_key hdk, hd, Rd.mono (hr3.le hle4) (by omega)⟩
theorem DrawPastGet_ok (c : AV) (bs : List Int) (H : Hp) (hc : Bytes H c bs) (hn : bs.length < 4611686018427387904) :
   AC Tryz.prog E 49 [c] H (fun v H' => ∃ l k n, v = .tu [l, .str k, n] /\ HLe H H' /\ k.size <= 5) := by
 refine AC_by fol (tC_le tab2_ok) h_spec_DrawPastGet ?_
 simp [c_spec_DrawPastGet]
 refine cg_ex (l6Open_ok c bs H hc hn) ?_
 rintro v H1 ⟨r, rfl, ho, hle1, hr1⟩
 have hol := hr1.lt
 simp
 refine cg_ex (l71All_ok r 0 H1 hr1 (by omega)) ?_
 rintro l H2 ⟨es, hes, hel, hek, hd2, hr2⟩
 have hle2 := hle1.fr_le hd2 (fun x hx => by omega)
 have hlen := hes.len
 simp [hlen, hes.slc]
 obtain ⟨G, hG⟩ : ∃ G : Hp, G = H2 ++ [some ⟨[], 1, 9, false⟩] := ⟨_, rfl⟩
 have hleG : HLe H2 G := by rw [hG]; exact HLe.self _ _
 have hlit : OwnS H2 G (.sl H2.length 0 0) [] := by rw [hG]; exact OwnM.lit0 (HLe.refl _)
 rw [<- hG]
 refine W_for (fun m t H' => ∃ (i : Nat) (out : List ByteArray) (w : AV), i + m = es.length /\ t 5 = .pt r 0 0 /\ t 6 = l /\ t 7 = w /\ t 8 = .int .i64 i /\ HLe H2 H' /\ OwnS H2 H' w out /\ out.length <= i /\ ∀ k ∈ out, k.size <= 5) es.length ?_ (tC_mono AC_mono) ?_
 · exact ⟨0, [], _, by omega, by simp, by simp, by simp, by simp, hleG, hlit, Nat.le_refl _, (fun _ h => by cases h)⟩
 rintro m t H' ⟨i, out, w, him, t5, t6, t7, t8, hle, hw, hol2, hok⟩
 simp [t5, t6, t7, t8, hlen, hes.slc]
 refine c_split (fun hq => ?_) (fun hq => ?_) <;> simp at hq
 · have hi : i < es.length := by omega
   have hw2 := wrapN (i := i) (by omega)
   obtain ⟨o1, i1, ob1, rfl, x1, x2, x3⟩ := (hes.le hle).ents.get hi
   obtain ⟨e, he⟩ : ∃ e, e = es[i] := ⟨_, rfl⟩
   rw [<- he] at x3
   simp [t5, t6, t7, t8, x1, x2, x3, hi]
   refine appG_add (y := e.key) (row := strRow) (bytes := 16) (H0 := H2) hw hle (by omega) rfl (fun v2 H4 g1 g2 g3 g4 => ?_)
   simp [t5, t6, t7, t8, hw2]
   refine ⟨m - 1, by omega, i + 1, by omega, by omega, g1, out ++ [e.key], g2, by rw [List.length_append, List.length_singleton]; omega, fun k hk => ?_⟩
   rcases List.mem_append.1 hk with h | h
   · exact hok k h
   · rw [List.mem_singleton.1 h, he]
     exact hek _ (List.getElem_mem hi)
 · simp [t5, t6, t7]
   have hr3 := hr2.le hle
   have hw3 : IntKind.i64.wrap ((es.length : Int) + 2) = (es.length : Int) + 2 := wrap64 (by omega) (by omega)
   refine cg_ex (l71Near_ok r _ w out H' hr3 hw.rows (by omega) hok (by omega)) ?_
   rintro v1 H4 ⟨k, rfl, hk, hd4, hr4⟩
   simp [t5, t6, t7, hlen, hes.slc, hw3]
   refine cg_ex (pick_ok r _ _ H4 hr4 (by omega) (by omega)) ?_
   rintro v5 H5 ⟨z, rfl, hz, hd5, hr5, hlen5⟩
   simp [t6]
   have h1 := hle2.trans hle
   exact ⟨l, k, ⟨rfl, rfl⟩, (h1.fr_le hd4 (fun x hx => by omega)).fr_le hd5 (fun x hx => by omega), hk⟩
def DrawnA (H H' : Hp) (v : AV) : Prop := ∃ w dv s ds, v = .tu [w, dv] /\ HLe H H' /\ St H' w s /\ StB s /\ Spl s /\ Dds H' dv ds /\ ds.length <= 41 /\ ∀ d ∈ ds, d.key.size <= 5
theorem cG_then {C : CallP} (hm : CMono C) {q : Bool} {a b : CC} {K : Tm -> Hp -> Prop} {Q : Ex -> Tm -> Hp -> Prop} {t : Tm} {H : Hp} (I : Tm -> Hp -> Prop) (h1 : cG (.bool q) C a b (thenX I Q) t H) (h2 : ∀ t H, I t H -> K t H) : cG (.bool q) C a b (thenX K Q) t H := by
 have key : ∀ (e : Ex) (t : Tm) (H : Hp), thenX I Q e t H -> thenX K Q e t H := by
   intro e t H h
   cases e with
   | normal => exact h2 _ _ h
   | exit id => exact h
   | ret => exact h
 exact ⟨fun e => W_mono hm a _ _ t H key (h1.1 e), fun e => W_mono hm b _ _ t H key (h1.2 e)⟩
def DpJ (r : Nat) (H : Hp) (L : Nat) (t : Tm) (H' : Hp) : Prop := t 2 = .pt H.length 0 0 /\ t 4 = .pt r 0 0 /\ t 5 = .pt L 0 0 /\ H'.at H.length = some ⟨[[.nils, .nils, .nils, .int .i64 0, .int .i64 0, .nils]], 6, 28, false⟩ /\ (∃ s, BoxS H' L s /\ Spl s) /\ HLe H H' /\ Rd H' r 1000
set_option maxHeartbeats 1600000 in
theorem DrawPastAll_ok (c : AV) (bs : List Int) (H : Hp) (hc : Bytes H c bs) (hn : bs.length < 4611686018427387904) :
   AC Tryz.prog E 15 [c] H (fun v H' => DrawnA H H' v) := by
 refine AC_by fol (tC_le tab2_ok) h_spec_DrawPastAll ?_
 obtain ⟨H1, hH1⟩ : ∃ H1 : Hp, H1 = H ++ [some ⟨[[.nils, .nils, .nils, .int .i64 0, .int .i64 0, .nils]], 6, 28, false⟩] := ⟨_, rfl⟩
 have hle1 : HLe H H1 := by rw [hH1]; exact HLe.self _ _
 have b1 : H1.at H.length = some ⟨[[.nils, .nils, .nils, .int .i64 0, .int .i64 0, .nils]], 6, 28, false⟩ := by rw [hH1]; simp
 simp [c_spec_DrawPastAll, <- hH1]
 refine cg_ex (l6Open_ok c bs H1 ⟨hc.1.le hle1, hc.2⟩ hn) ?_
 rintro v H2 ⟨r, rfl, ho, hle2, hr2⟩
 have hol := hr2.lt
 have lH : H.length < H1.length := Hp.at_lt b1
 have b2 := hle2.2 _ _ b1
 simp
 obtain ⟨G, hG⟩ : ∃ G : Hp, G = H2 ++ [some ⟨[[.int .i64 0], [.int .i64 1], [.int .i64 2]], 1, 3, false⟩] := ⟨_, rfl⟩
 have hleG : HLe H2 G := by rw [hG]; exact HLe.self _ _
 have aG : G.at H2.length = some ⟨[[.int .i64 0], [.int .i64 1], [.int .i64 2]], 1, 3, false⟩ := by rw [hG]; simp
 have bG := hleG.2 _ _ b2
 rw [<- hG]
 refine cg_ex (pick_ok r 0 3 G (hr2.le hleG) (by omega) (by omega)) ?_
 rintro v H3 ⟨n, rfl, hn3, hd3, hr3, hlen3⟩
 have b3 := hd3.2 _ _ (show ¬ H.length = r by omega) bG
 have a3 := hd3.2 _ _ (show ¬ H2.length = r by omega) aG
 have hle3 : HLe H H3 := ((hle1.trans hle2).trans hleG).fr_le hd3 (fun x hx => by omega)
 have hn' : n < 3 := by omega
 have hnI : (n : Int) < 3 := by omega
 obtain ⟨q, hq5, hq⟩ : ∃ q : Int, (0 <= q /\ q <= 5) /\ ([[.int .i64 0], [.int .i64 1], [.int .i64 2]] : List (List AV))[n]? = some [.int .i64 q] := by
   have : n = 0 \/ n = 1 \/ n = 2 := by omega
   rcases this with rfl | rfl | rfl <;> exact ⟨_, by constructor <;> decide, rfl⟩
 simp [a3, hq, hnI]
 refine cg_ex (StoreNew_ok q H3) ?_
 intro v H4 hret
 obtain ⟨s0, hs0⟩ : ∃ s0, newR q = some s0 := by
   unfold newR
   rw [if_pos hq5]
   exact ⟨_, rfl⟩
 obtain ⟨hsp, hsm⟩ := newR_spl hs0
 rw [hs0] at hret
 obtain ⟨hle4, hB, xa, xb, xc, xd, rfl, n1, n2, n3, n4, hs4⟩ := hret.vl (fun x hx => by cases hx; exact hsm)
 simp only [Option.getD_some] at hB hs4 ⊢
 obtain ⟨H5, hH5⟩ : ∃ H5 : Hp, H5 = H4 ++ [some ⟨[[xa, xb, xc, .int .i64 s0.keep, .int .i64 s0.time, xd]], 6, 28, false⟩] := ⟨_, rfl⟩
 obtain ⟨hle5, c5, hs5⟩ := St.box hs4 hH5
 have h35 := hle4.trans hle5
 have b5 := h35.2 _ _ b3
 have hr5 := hr3.le h35
 simp [n1, n2, n3, n4, <- hH5]
 have l4 : r < H4.length := by have := hle4.1; have := hd3.len; have := hleG.1; omega
 have l45 := Hp.at_lt c5
 refine cg_ex (pick_ok r _ 8 H5 hr5 (by omega) (by omega)) ?_
 rintro v H6 ⟨y, rfl, hy, hd6, hr6, hlen6⟩
 have b6 := hd6.2 _ _ (show ¬ H.length = r by omega) b5
 have c6 := hd6.2 _ _ (show ¬ H4.length = r by omega) c5
 have hs6 := hs5.frE hd6 (e := 2) (by simp) hr5.e2
 have hle6 : HLe H H6 := (hle3.trans h35).fr_le hd6 (fun x hx => by omega)
 simp
 refine cG_then (tC_mono AC_mono) (DpJ r H H4.length) ?_ ?_
 · refine c_split (fun q0 => ?_) (fun q0 => ?_) <;> simp at q0 <;> simp
   · refine cg_ex (l71Spoilt_ok r _ H6 hr6 (by omega)) ?_
     rintro w H7 ⟨s, hs7, hB7, hsp7, hd7, hr7⟩
     obtain ⟨ya, yb, yc, yd, hw, m1, m2, m3, m4, _⟩ := hs7.shape
     have hw' := hw
     subst hw'
     have b7 := hd7.2 _ _ (show ¬ H.length = r by omega) b6
     have c7 := hd7.2 _ _ (show ¬ H4.length = r by omega) c6
     have u7 := Hp.at_lt c7
     have hle7 := hle6.fr_le hd7 (fun x hx => by omega)
     simp [m1, m2, m3, m4, c7, u7]
     have F := Fr.one H7 H4.length (some ⟨[[ya, yb, yc, .int .i64 s.keep, .int .i64 s.time, yd]], 6, 28, false⟩)
     exact ⟨by simp, by simp, by simp, F.2 _ _ (by omega) b7, ⟨s, BoxS.of c7 hs7 hB7, hsp7⟩, hle7.set (by have := hle3.1; have := hle4.1; omega) _, Rd.mono (hr7.fr F (by omega) (fun x ob hx ho => by rw [hx, c7] at ho; cases ho; simp)) (by omega)⟩
   · exact ⟨by simp, by simp, by simp, b6, ⟨s0, ⟨xa, xb, xc, xd, c6, n1, n2, n3, n4, hs6, hB⟩, hsp⟩, hle6, Rd.mono hr6 (by omega)⟩
 rintro t K ⟨t2, t4, t5, bK, ⟨s, ⟨za, zb, zc, zd, cK, p1, p2, p3, p4, hsK, hBK⟩, hspK⟩, hleK, hrK⟩
 simp [t2, t4, t5, cK]
 refine cg_ex (l71Deeds_ok r _ 36 K hrK (by omega) (by omega)) ?_
 rintro dv K2 ⟨ds, hds, hdl, hdk, hd2, hr2'⟩
 have bK2 := hd2.2 _ _ (show ¬ H.length = r by omega) bK
 have cK2 := hd2.2 _ _ (show ¬ H4.length = r by omega) cK
 have hsK2 := hsK.frE hd2 (e := 2) (by simp) hrK.e2
 have hleK2 := hleK.fr_le hd2 (fun x hx => by omega)
 have uK2 := Hp.at_lt bK2
 simp [t2, t4, t5, cK2, bK2, uK2, p1, p2, p3, p4, Hp.at_set]
 have F := Fr.one K2 H.length (some ⟨[[za, zb, zc, .int .i64 s.keep, .int .i64 s.time, zd]], 6, 28, false⟩)
 have hS : ∀ y ob, y = H.length -> K2.at y = some ob -> ob.esz = 6 := fun y ob hy ho => by
   rw [hy, bK2] at ho
   cases ho
   rfl
 exact ⟨_, dv, s, ds, rfl, hleK2.fr_le F (fun x hx => by omega), hsK2.frE F (e := 6) (by simp) hS, hBK, hspK, Rows.frz hds.rows F (fun y ob hy ho => by rw [hS y ob hy ho]; simp), by omega, hdk⟩
end Go.Proofs.YtgoeenodllmdpaaGreat.B

namespace Go.Proofs.YtgoeenodllmdpaaGreat.B
open Go.RowKit Go.Proofs
set_option linter.unusedVariables false
set_option linter.unusedSimpArgs false
variable {E : Env}
theorem RetF.vl {H0 H : Hp} {u : AV} {o : Option Sr} (h : RetF H0 H u o) (hb : ∀ x, o = some x -> Small x) : HLe H0 H /\ StB (o.getD sNil) /\ ∃ a b c d, u = .tu [.ag [a, b, c, .int .i64 (o.getD sNil).keep, .int .i64 (o.getD sNil).time, d], .bool o.isSome] /\ one a = true /\ one b = true /\ one c = true /\ one d = true /\ St H (.ag [a, b, c, .int .i64 (o.getD sNil).keep, .int .i64 (o.getD sNil).time, d]) (o.getD sNil) := by
 obtain ⟨h1, h2⟩ := h
 cases o with
 | none => exact ⟨h1, sNil_B, .nils, .nils, .nils, .nils, h2, rfl, rfl, rfl, rfl, .nils, .nils, .nils, .nils, [], [], rfl, Rows.nil, Rows.nil, trivial, Rows.nil, trivial, Rows.nil⟩
 | some x =>
   obtain ⟨w, e, hm⟩ := h2
   obtain ⟨a, b, c, d, rfl, n1, n2, n3, n4, _⟩ := hm.st.shape
   exact ⟨h1, (hb x rfl).stB, a, b, c, d, e, n1, n2, n3, n4, hm.st⟩
theorem ltRuns_same {v v' : AV} {es : List Ent} {H : Hp} (hs : Ents H v es) (hs' : Ents H v' es) (hb : es.length < 4611686018427387904) : AC Tryz.prog E 17 [v, v'] H (fun u H' => u = .bool true /\ H' = H) :=
 (ltRuns_ok v v' es es H hs hs' (by omega)).mono (fun u H' h => ⟨by rw [h.1]; simp, h.2⟩)
def TmJ (k : ByteArray) (g : AV) (L : Nat) (H : Hp) (ts : List Int) (t : Tm) (K : Hp) : Prop := ∃ v, t 8 = .str k /\ t 10 = g /\ t 11 = .pt L 0 0 /\ t 13 = v /\ HLe H K /\ Ints K v ts
set_option maxHeartbeats 3200000 in
theorem lawPastGetTop_ok (c c2 : AV) (bs bs2 : List Int) (H : Hp) (hc : Bytes H c bs) (hn : bs.length < 4611686018427387904) (hc2 : Bytes H c2 bs2) (hn2 : bs2.length < 4611686018427387904) :
   AC Tryz.prog E 10 [c, c2] H (fun v H' => v = .bool true) := by
 refine AC_by fol (tC_le tabJ_ok) h_laws_FnPastGetTop ?_
 have l1 := hc.len
 have l2 := hc2.len
 simp [-RgP_both, c_laws_FnPastGetTop, l1, l2, hc.1.slc, hc2.1.slc]
 by_cases q1 : 1048576 < bs.length
 · have q1I : (1048576 : Int) < bs.length := by omega
   simp [-RgP_both, q1, q1I]
 by_cases q2 : 1048576 < bs2.length
 · have q1I : ¬ (1048576 : Int) < bs.length := by omega
   have q2I : (1048576 : Int) < bs2.length := by omega
   simp [-RgP_both, q1, q1I, q2, q2I, l2, hc2.1.slc]
 have q1I : ¬ (1048576 : Int) < bs.length := by omega
 have q2I : ¬ (1048576 : Int) < bs2.length := by omega
 simp [-RgP_both, q1, q1I, q2, q2I, l2, hc2.1.slc]
 refine cg_ex (DrawPastAll_ok c bs H hc hn) ?_
 rintro v H1 ⟨w, dv, s, ds, rfl, hle1, hs, hsb, hsp, hds, hdl, hdk⟩
 have hkk : ∀ d ∈ ds, d.key.size < 4611686018427387904 := fun d hd => by have := hdk d hd; omega
 obtain ⟨xa, xb, xc, xd, rfl, n1, n2, n3, n4, _⟩ := hs.shape
 obtain ⟨H2, hH2⟩ : ∃ H2 : Hp, H2 = H1 ++ [some ⟨[[xa, xb, xc, .int .i64 s.keep, .int .i64 s.time, xd]], 6, 28, false⟩] := ⟨_, rfl⟩
 obtain ⟨hle2, b2, hs2⟩ := St.box hs hH2
 simp [-RgP_both, n1, n2, n3, n4, <- hH2]
 refine cg_ex (DrawPastGet_ok c2 bs2 H2 ⟨hc2.1.le (hle1.trans hle2), hc2.2⟩ hn2) ?_
 rintro v H3 ⟨l, k, n, rfl, hle3, hk⟩
 have b3 := hle3.2 _ _ b2
 have hs3 := hs2.le hle3
 have hds3 : Dds H3 dv ds := Rows.le hds (hle2.trans hle3)
 obtain ⟨R, hR⟩ : ∃ R, R = ((pastI s ds).map (·.2)).getD [] := ⟨_, rfl⟩
 have hRl : R.length <= 41 := by
   have := pastI_len (s := s) (ds := ds)
   rw [hR]
   omega
 simp [-RgP_both, b3]
 refine cg_ex (implPastAll_ok _ dv s ds H3 hs3 hsb hds3 hkk) ?_
 rw [<- hR]
 rintro g H4 ⟨hle4, hg⟩
 have b4 := hle4.2 _ _ b3
 have hs4 := hs3.le hle4
 have hds4 : Dds H4 dv ds := Rows.le hds3 hle4
 simp [-RgP_both, b4]
 refine cg_ex (PastAll_ok _ dv s ds H4 hs4 hsb hds4 hkk) ?_
 rw [<- hR]
 rintro v5 H5 ⟨hle5, hv5⟩
 have b5 := hle5.2 _ _ b4
 have hs5 := hs4.le hle5
 have hds5 : Dds H5 dv ds := Rows.le hds4 hle5
 have hg5 := hg.le hle5
 simp [-RgP_both]
 refine cg_use (ltRuns_same hg5.ents hv5.ents (by omega)) ?_
 simp [-RgP_both, b5]
 refine cg_use (StoreOk_ok _ s H5 hs5 hsb) ?_
 by_cases hgood : storeOk s = true /\ s.time <= 0
 rotate_left
 · have fin : AC Tryz.prog E 18 [.ag [xa, xb, xc, .int .i64 s.keep, .int .i64 s.time, xd], dv] H5 (fun w H' => HLe H5 H' /\ OwnE H5 H' w R) := by
     rw [hR]
     exact PastAll_ok _ dv s ds H5 hs5 hsb hds5 hkk
   cases hso : storeOk s with
   | false =>
     simp [-RgP_both, b5]
     refine cg_ex fin ?_
     rintro v6 H6 ⟨hle6, hv6⟩
     simp [-RgP_both]
     refine cg_use (ltRuns_same (hg5.le hle6).ents hv6.ents (by omega)) ?_
     simp [-RgP_both]
   | true =>
     have ht : 0 < s.time := by
       by_cases h : 0 < s.time
       · exact h
       · exact absurd ⟨hso, by omega⟩ hgood
     simp [-RgP_both, b5, ht]
     refine cg_ex fin ?_
     rintro v6 H6 ⟨hle6, hv6⟩
     simp [-RgP_both]
     refine cg_use (ltRuns_same (hg5.le hle6).ents hv6.ents (by omega)) ?_
     simp [-RgP_both]
 obtain ⟨hso, ht⟩ := hgood
 have htn : ¬ 0 < s.time := by omega
 simp [-RgP_both, hso, b5, htn]
 refine cg_ex (implPastDo_ok _ dv s ds H5 hs5 hsb hds5 hkk) ?_
 intro v H6 hret
 obtain ⟨hle6, hB6, ya, yb, yc, yd, rfl, m1, m2, m3, m4, hx6⟩ := hret.vl (fun x hx => pastR_small hx)
 obtain ⟨x, hx⟩ : ∃ x, x = (pastR s ds).getD sNil := ⟨_, rfl⟩
 rw [<- hx] at hB6 hx6 ⊢
 obtain ⟨H7, hH7⟩ : ∃ H7 : Hp, H7 = H6 ++ [some ⟨[[ya, yb, yc, .int .i64 x.keep, .int .i64 x.time, yd]], 6, 28, false⟩] := ⟨_, rfl⟩
 obtain ⟨hle7, d7, hx7⟩ := St.box hx6 hH7
 have hg7 := hg5.le (hle6.trans hle7)
 simp [-RgP_both, m1, m2, m3, m4, <- hH7]
 cases ho : pastR s ds with
 | none =>
   have hR0 : R = [] := by
     rw [hR]
     have := pastI_fst s ds
     rw [ho] at this
     cases hp : pastI s ds with
     | none => rfl
     | some q => rw [hp] at this; cases this
   have hgl := hg7.len
   rw [hR0] at hgl
   simp [-RgP_both, hgl, hg7.slc]
 | some x' =>
   have hxx : x = x' := by rw [hx, ho]; rfl
   have hp : x = doAll s ds /\ R = wrAll s ds := by
     have h1 : x' = doAll s ds := by
       unfold pastR at ho
       split at ho
       · exact (Option.some.inj ho).symm
       · cases ho
     have h2 := pastI_fst s ds
     rw [ho] at h2
     refine ⟨hxx.trans h1, ?_⟩
     rw [hR]
     unfold pastI at h2 ⊢
     split
     · rfl
     · rename_i hno
       rw [if_neg hno] at h2
       cases h2
   have hH := Hist.all ds (Hist.start (hsp.val hso) ht)
   rw [List.nil_append, <- hp.1, <- hp.2] at hH
   simp [-RgP_both, d7]
   have hyd : Ints H7 yd x.tms := by
     obtain ⟨a1, a2, a3, a4, e, _, _, _, _, _, hd⟩ := hx7.shape
     simp only [AV.ag.injEq, List.cons.injEq, and_true, true_and] at e
     obtain ⟨rfl, rfl, rfl, rfl⟩ := e
     exact hd
   have htl : x.tms.length <= 3 := by
     obtain ⟨a, b, c, u, v, w, hv⟩ := hH.val
     have := hv.tms
     simp only [timesR, Bool.and_eq_true, decide_eq_true_eq] at this
     exact this.2
   refine RgP_then (tC_mono AC_mono) (TmJ k g H6.length H7 (x.tms ++ [x.time])) ?_ ?_
   · have l67 := Hp.at_lt d7
     -- the empty slice first
     obtain ⟨G1, hG1⟩ : ∃ G : Hp, G = H7 ++ [some ⟨[], 1, 3, false⟩] := ⟨_, rfl⟩
     have hleG1 : HLe H7 G1 := by rw [hG1]; exact HLe.self _ _
     have hlit1 : OwnI H7 G1 (.sl H7.length 0 0) [] := by rw [hG1]; exact OwnM.lit0 (HLe.refl _)
     have dG1 := hleG1.2 _ _ d7
     rw [RgP_both]
     refine ⟨?_, ?_⟩
     · simp [-RgP_both, <- hG1, dG1]
       rw [RgP_both]
       refine ⟨?_, ?_⟩
       · simp
         refine appG_cat (bytes := 8) hlit1 (Ints.le hyd hleG1) hleG1 (by simp; omega) (fun v1 K1 g1 g2 g3 g4 => ?_)
         rw [List.nil_append] at g2
         have dK1 := g1.2 _ _ d7
         have dK2 := (HLe.self K1 [some ⟨[[.int .i64 x.time]], 1, 3, false⟩]).2 _ _ dK1
         simp [dK1, dK2]
         refine appG_add (y := x.time) (row := intRow) (bytes := 8) (H0 := H7) g2 g1 (by omega) rfl (fun v2 K2 k1 k2 k3 k4 => ?_)
         simp
         exact ⟨v2, by simp, by simp, by simp, by simp, k1, k2.ints⟩
       · obtain ⟨G2, hG2⟩ : ∃ G : Hp, G = G1 ++ [some ⟨[[.int .i64 x.time]], 1, 3, false⟩] := ⟨_, rfl⟩
         have hleG2 : HLe G1 G2 := by rw [hG2]; exact HLe.self _ _
         have dG2 := hleG2.2 _ _ dG1
         have tG2 : G2.at G1.length = some ⟨[[.int .i64 x.time]], 1, 3, false⟩ := by rw [hG2]; simp
         simp [<- hG2, dG2]
         have hleT := hleG1.trans hleG2
         refine appG_cat (bytes := 8) (hlit1.le hleG2) (Ints.le hyd hleT) hleT (by simp; omega) (fun v1 K1 g1 g2 g3 g4 => ?_)
         rw [List.nil_append] at g2
         have dK1 := g1.2 _ _ d7
         have lG1 : H7.length < G1.length := by rw [hG1]; simp
         have tK1 := g3.2 _ _ (show ¬ (AV.sl H7.length 0 0).of G1.length by simp; omega) tG2
         have hyt : Ints K1 (.sl G1.length 0 1) [x.time] := Rows.whole tK1
         simp [dK1]
         refine appG_cat (bytes := 8) g2 hyt g1 (by simp; omega) (fun v2 K2 k1 k2 k3 k4 => ?_)
         simp
         exact ⟨v2, by simp, by simp, by simp, by simp, k1, k2.ints⟩
     · obtain ⟨G2, hG2⟩ : ∃ G : Hp, G = H7 ++ [some ⟨[[.int .i64 x.time]], 1, 3, false⟩] := ⟨_, rfl⟩
       have hleG2 : HLe H7 G2 := by rw [hG2]; exact HLe.self _ _
       have dG2 := hleG2.2 _ _ d7
       have tG2 : G2.at H7.length = some ⟨[[.int .i64 x.time]], 1, 3, false⟩ := by rw [hG2]; simp
       obtain ⟨G3, hG3⟩ : ∃ G : Hp, G = G2 ++ [some ⟨[], 1, 3, false⟩] := ⟨_, rfl⟩
       have hleG3 : HLe G2 G3 := by rw [hG3]; exact HLe.self _ _
       have dG3 := hleG3.2 _ _ dG2
       have tG3 := hleG3.2 _ _ tG2
       have hleT := hleG2.trans hleG3
       have hlit3 : OwnI H7 G3 (.sl G2.length 0 0) [] := by rw [hG3]; exact OwnM.lit0 hleG2
       simp [<- hG2, dG2]
       simp [<- hG3, dG3]
       refine appG_cat (bytes := 8) hlit3 (Ints.le hyd hleT) hleT (by simp; omega) (fun v1 K1 g1 g2 g3 g4 => ?_)
       rw [List.nil_append] at g2
       have dK1 := g1.2 _ _ d7
       have lG2 : H7.length < G2.length := by rw [hG2]; simp
       have tK1 := g3.2 _ _ (show ¬ (AV.sl G2.length 0 0).of H7.length by simp; omega) tG3
       have hyt : Ints K1 (.sl H7.length 0 1) [x.time] := Rows.whole tK1
       simp [dK1]
       refine appG_cat (bytes := 8) g2 hyt g1 (by simp; omega) (fun v2 K2 k1 k2 k3 k4 => ?_)
       simp
       exact ⟨v2, by simp, by simp, by simp, by simp, k1, k2.ints⟩
   · rintro t K ⟨v, t8, t10, t11, t13, hleK, hv⟩
     have hgK := hg7.le hleK
     have dK := hleK.2 _ _ d7
     have hxK := hx7.le hleK
     have hvl := hv.len
     have hts : (x.tms ++ [x.time]).length <= 4 := by simp; omega
     obtain ⟨ts, hts2⟩ : ∃ ts, ts = x.tms ++ [x.time] := ⟨_, rfl⟩
     have hkn : ∀ z ∈ ts, knownR x z = true := by
       intro z hz
       rw [hts2] at hz
       rcases List.mem_append.1 hz with h | h
       · exact known_iff.2 (.inl h)
       · exact known_iff.2 (.inr (List.mem_singleton.1 h))
     rw [<- hts2] at hv hvl hts
     show W _ _ _ _ _
     simp [t8, t10, t11, t13]
     refine W_for (fun m t K' => ∃ i : Nat, i + m = ts.length /\ t 8 = .str k /\ t 10 = g /\ t 11 = .pt H6.length 0 0 /\ t 13 = v /\ t 14 = .int .i64 i /\ K' = K) ts.length ?_ (tC_mono AC_mono) ?_
     · exact ⟨0, by simp, by simp [t8], by simp [t10], by simp [t11], by simp [t13], by simp, rfl⟩
     clear t8 t10 t11 t13
     rintro m t K' ⟨i, him, t8, t10, t11, t13, t14, rfl⟩
     simp [t8, t10, t11, t13, t14, hvl, hv.slc]
     refine c_split (fun hq => ?_) (fun hq => ?_) <;> simp at hq
     · have hi : i < ts.length := by omega
       have hw := wrapN (i := i) (by omega)
       obtain ⟨o1, i1, ob1, rfl, z1, z2, z3⟩ := hv.get hi
       have hgot := hH.got (k := k) (hkn _ (List.getElem_mem hi))
       simp [t8, t10, t11, t13, t14, dK, z1, z2, z3, hi]
       refine cg_use (implStoreGet_ok _ x k ts[i] K' hxK hB6 (by omega)) ?_
       simp [t8, t10, t11, t13, t14, z1, z2, z3, hi]
       refine cg_use (PastGet_ok g R k ts[i] K' hgK.ents (by omega)) ?_
       rw [<- hgot]
       simp [t8, t10, t11, t13, t14, hw]
       exact ⟨m - 1, by omega, i + 1, by omega, by omega⟩
     · simp
end Go.Proofs.YtgoeenodllmdpaaGreat.B
