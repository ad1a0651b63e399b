/- A part of the proof: The program's kept parts of a sieve. The program's sieve is valid: its bits are few, its parts' texts are keys. The program's kept parts of a valid sieve, as a whole. Whether a sieve may have keys between two. A sieve that has a key between two meets them, in plain Lean. Strings that are sorted in place: memory. A contract of the library at this program. slices.Sort of strings, out of its contract in the library. slices.Compact of strings. slices.Compact of strings. The program's KeysSort. What is listed of a store, in plain Lean. The program's StoreList. The laws' ltPast: two stores, listed at some times. Stores that are drawn, and times of theirs. The law FnStoreHold. The law FnStoreFree. There is no condition. -/
import Derived.Sort.Row
import Derived.Sort.Grow
import Derived.Sort.EncStr
import Derived.Shelf.SortM.Plain
import Derived.Shelf.SortM.SortNone
import Derived.Ground.SlgmProg
import Derived.Ground.NamesProg
import Derived.Test.YtgoeenodllmdpaaGreatProg
import Derived.Test.YtgoeenodllmdpaaGreatM0
import Derived.Test.YtgoeenodllmdpaaGreatM1
import Derived.Test.YtgoeenodllmdpaaGreatM2
import Derived.Test.YtgoeenodllmdpaaGreatM3
import Derived.Test.YtgoeenodllmdpaaGreatM4
namespace Go.Proofs.YtgoeenodllmdpaaGreat.B
open Go.RowKit Go.Proofs
set_option linter.unusedVariables false
set_option linter.unusedSimpArgs false
variable {E : Env}
def partRow (keep : Int) (z : ByteArray × Nat) : List AV := [.str (cutK keep z), .bool (wholeK z.1 z.2 keep)]
def KeepP (H H' : Hp) : Prop := H.length <= H'.length /\ ∀ y ob, H.at y = some ob -> ob.ety ≠ 216 -> H'.at y = some ob
theorem KeepP.trans {a b c : Hp} (h : KeepP a b) (k : KeepP b c) : KeepP a c := ⟨Nat.le_trans h.1 k.1, fun y ob ho he => k.2 y ob (h.2 y ob ho he) he⟩
theorem HLe.keepP {a b : Hp} (h : HLe a b) : KeepP a b := ⟨h.1, fun y ob ho _ => h.2 y ob ho⟩
theorem g_more {ks g : List ByteArray} {d : Nat} (hs : SP d ks) (hg : g ∈ brs d ks) (hm : many g = true) : ∀ y ∈ g, d < y.size /\ letter y d ≠ 45 /\ letter y d = letter (g.headD ⟨#[]⟩) d := by
 have h2 := SP.of_brs ks.length d (Nat.le_refl _) hs g hg
 have hlen : 2 <= g.length := by
   have : 1 < g.length := by simpa [many] using hm
   omega
 intro y hy
 have hsz := h2.size hlen y hy
 have hne : letter y d ≠ 45 := fun e => by
   have := (letter_ok (h2.ok y hy) d).1 e
   omega
 refine ⟨by omega, hne, ?_⟩
 obtain ⟨ks', _, rfl⟩ := brs_sub ks.length d ks (Nat.le_refl _) g hg
 match hk : grp d ks', hy with
 | a :: r, hy =>
   refine grp_same (d := d) (ks := ks') (by rw [hk]; exact hy) (by rw [hk]; simp)
theorem cG_mid {C : CallP} (hm : CMono C) {q : Bool} {a b : CC} {K : Tm -> Hp -> Prop} {Q : Ex -> Tm -> Hp -> Prop} {t : Tm} {H : Hp} (I : Tm -> Hp -> Prop) (h1 : cG (.bool q) C a b (thenX I Q) t H) (h2 : ∀ t H, I t H -> K t H) : cG (.bool q) C a b (thenX K Q) t H := by
 have key : ∀ (e : Ex) (t : Tm) (H : Hp), thenX I Q e t H -> thenX K Q e t H := by
   intro e t H h
   cases e with
   | normal => exact h2 _ _ h
   | exit id => exact h
   | ret => exact h
 exact ⟨fun e => W_mono hm a _ _ t H key (h1.1 e), fun e => W_mono hm b _ _ t H key (h1.2 e)⟩
theorem Svt.cut1 {ks : List ByteArray} {keep : Int} {F : List Fk} {L : List Br} {s : Sv} (h : Svt ks keep F L s) {p : Nat} (hp : p < L.length) : s.l.extract p (p + 1) = lit1 (L[p].ltr) := by
 apply ba_ext
 rw [ba_toList, h.en.l, show p + 1 - p = 1 by omega, List.drop_eq_getElem_cons (by simpa using hp), List.getElem_map]
 rfl
theorem flat_take {β : Type} {f : List ByteArray -> List β} : ∀ {gs : List (List ByteArray)} {i : Nat} (hi : i < gs.length), (∀ g ∈ gs, (f g).length = g.length) -> ((gs.take i).map f).flatten.length + gs[i].length <= gs.flatten.length
 | g :: gs, 0, _, _ => by simp
 | g :: gs, i + 1, hi, hf => by
   have ih := flat_take (f := f) (gs := gs) (i := i) (by simpa using hi) (fun x hx => hf x (List.mem_cons_of_mem _ hx))
   have h1 := hf g (by simp)
   simp only [List.take_succ_cons, List.map_cons, List.flatten_cons, List.length_append, List.getElem_cons_succ]
   omega
theorem flat_succ {β : Type} {f : List ByteArray -> List β} {gs : List (List ByteArray)} {i : Nat} (hi : i < gs.length) : ((gs.take (i + 1)).map f).flatten = ((gs.take i).map f).flatten ++ f gs[i] := by
 rw [List.take_succ_eq_append_getElem hi, List.map_append, List.flatten_append]
 simp
def PtK (p q : Nat) (way nx : ByteArray) (w : AV) (H H' : Hp) (t : Tm) (K : Hp) : Prop := t 2 = .str way /\ t 3 = w /\ t 4 = .pt H.length 0 0 /\ t 12 = .int .i64 p /\ t 11 = .int .i64 q /\ t 13 = .str nx /\ K = H'
def PtJ (keep : Int) (n d a q : Nat) (gs : List (List ByteArray)) (way : ByteArray) (out : List (ByteArray × Nat)) (s : Sv) (r : AV) (H0 H : Hp) (m : Nat) (t : Tm) (H' : Hp) : Prop := ∃ (i p : Nat) (w : AV), i + m = gs.length /\ p = a + i /\ t 2 = .str way /\ t 3 = w /\ t 4 = .pt H.length 0 0 /\ t 12 = .int .i64 p /\ t 11 = .int .i64 q /\ HLe H0 H' /\ KeepP H H' /\
 OwnM 2 216 (partRow keep) H0 H' w (out ++ ((gs.take i).map (sgm n d)).flatten) /\ H'.at H.length = some ⟨[[.str s.l, .str s.m, .str s.f, r, .int .i64 s.k]], 5, 66, false⟩
theorem leafs_len {n d : Nat} {ks : List ByteArray} (hs : SP d ks) (hg : Good (ks, d)) (hn : 7 <= n + d) : (leafs n ks d).length = ks.length := by
 have := congrArg List.length (leafs_fst n hs hg hn)
 rwa [List.length_map] at this
set_option maxHeartbeats 3200000 in
theorem parts_ok (s : Sv) (r : AV) (ks : List ByteArray) (keep : Int) (F : List Fk) (L : List Br) (H0 : Hp) (h : Svt ks keep F L s) (hke : ks ≠ []) (hr : Strs H0 r s.r) :
   ∀ (n j d : Nat) (ks' : List ByteArray) (way : ByteArray) (v : AV) (out : List (ByteArray × Nat)) (H : Hp), F[j]? = some (ks', d) -> 7 <= n + d -> way.size = d -> (∀ x ∈ ks', x.extract 0 d = way) -> HLe H0 H -> OwnM 2 216 (partRow keep) H0 H v out -> out.length + ks'.length <= 1000000 ->
   AC Tryz.prog E 236 [svAV s r, .int .i64 j, .str way, v] H (fun u H' => ∃ w, u = .tu [w, .bool true] /\ HLe H0 H' /\ KeepP H H' /\ OwnM 2 216 (partRow keep) H0 H' w (out ++ leafs n ks' d))
 | 0, j, d, ks', way, v, out, H, hj, hn, _, _, _, _, _ => by
   obtain ⟨hjl, hje⟩ := List.getElem?_eq_some_iff.1 hj
   have hgd := h.tr.good F[j] (List.getElem_mem hjl)
   rw [hje] at hgd
   have := hgd.deep
   simp only at this
   omega
 | n + 1, j, d, ks', way, v, out, H, hj, hn, hws, hway, hle0, hv, hlen => by
   have ih := parts_ok s r ks keep F L H0 h hke hr n
   obtain ⟨hjl, hje⟩ := List.getElem?_eq_some_iff.1 hj
   have hgd := h.tr.good F[j] (List.getElem_mem hjl)
   have hsp := h.tr.sp F[j] (List.getElem_mem hjl)
   rw [hje] at hgd hsp
   have hd5 : d <= 5 := hgd.deep
   have hr1 := Rows.one hr
   have hll := h.len
   have hjb : j < 1099511627776 := by
     have e := congrArg List.length h.tr.f
     rw [List.length_cons, List.length_map] at e
     have := List.length_filter_le Br.many L
     omega
   refine AC_by fol (tC_le tabJ_ok) h_impl_Sieve_parts ?_
   obtain ⟨H1, hH1, hle1, b0⟩ := svBox s r H
   have hwI : ¬ ((5 : Int) < way.size) := by omega
   simp [c_impl_Sieve_parts, svAV, hr1, <- hH1, hwI, b0]
   have cB := branches_ok (E := E) s r (L.map (·.fst)) j H1 hr1 h.bf (by rw [List.length_map]; omega) hjb
   simp only [svAV] at cB
   refine cg_use cB ?_
   obtain ⟨a, p1, p2, p3, p4, p5⟩ := h.tr.span hke hjl
   have p6 : ∀ (i : Nat) (hi : i < (brs d ks').length) (hl : a + i < L.length), (L[a + i]).g = (brs d ks')[i] /\ (L[a + i]).d = d := by
     intro i hi hl
     have := p5 i (by rw [hje]; exact hi) hl
     simp only [hje] at this
     exact this
   clear p5
   simp only [hje] at p2 p3 p4
   have hflat := brs_flat ks'.length (Nat.le_refl _) hsp
   have hleafs := leafs_succ n ks' d
   have hsf : ∀ g ∈ brs d ks', (sgm n d g).map Prod.fst = g := fun g hg => sgm_fst hsp hgd (by omega) hg
   obtain ⟨gs, hgs⟩ : ∃ gs, gs = brs d ks' := ⟨_, rfl⟩
   have hgm : ∀ g ∈ gs, g ∈ brs d ks' := by rw [hgs]; exact fun g h => h
   simp only [<- hgs] at p2 p3 p4 p6 hflat hleafs hsf
   obtain ⟨q, hqa⟩ : ∃ q : Nat, q = a + gs.length := ⟨_, rfl⟩
   have hspan : spanI (L.map (·.fst)) j = .tu [.int .i64 a, .int .i64 q] := by
     unfold spanI nullsN
     rw [p1]
     simp only
     rw [p4, show a + 1 + (gs.length - 1) = q by omega]
   rw [hspan]
   simp
   refine W_for (PtJ keep n d a q gs way out s r H0 H) gs.length ?_ (tC_mono AC_mono) ?_
   · exact ⟨0, a, v, by omega, by omega, by simp, by simp, by simp, by simp, by simp, hle0.trans hle1, hle1.keepP, by simpa using hv.le hle1, b0⟩
   rintro m t H' ⟨i, p, w, him, hp, t2, t3, t4, t12, t11, hle, hkp, hw, b0'⟩
   simp [t2, t3, t4, t12, t11]
   refine c_split (fun hq => ?_) (fun hq => ?_) <;> simp at hq
   · have hi : i < gs.length := by omega
     have hpq : p < q := by omega
     have hpL : p < L.length := by omega
     have hls := h.ls
     obtain ⟨z1, z2⟩ := p6 i hi (by omega)
     simp only [<- hp] at z1 z2
     have hlt := h.lt hpL
     obtain ⟨x, hx⟩ : ∃ x, x = gs[i].headD ⟨#[]⟩ := ⟨_, rfl⟩
     have hltr : L[p].ltr = letter x d := by
       unfold Br.ltr
       rw [z1, z2, hx]
     rw [hltr] at hlt
     have hw2 := wrapN (i := p) (by omega)
     have hbm := h.bm.bt (i := p) (by rw [List.length_map]; omega)
     rw [List.getElem_map] at hbm
     have hms : s.m.size = L.length := by rw [h.bm.size, List.length_map]
     have hmany : L[p].many = many gs[i] := by unfold Br.many; rw [z1]
     have hgi := hgm _ (List.getElem_mem hi)
     have hu8 : decide (((letter x d).toNat : Int) = 45) = decide (letter x d = 45) := u8_eq (letter x d) 45
     simp [t2, t3, t4, t12, t11, b0', hlt, hls, hpL, hu8]
     obtain ⟨nx, hnx⟩ : ∃ nx, nx = if letter x d = 45 then way else way ++ lit1 (letter x d) := ⟨_, rfl⟩
     have hl1 : (lit1 (letter x d)).size = 1 := rfl
     have hnxs : nx.size <= 6 := by
       rw [hnx]
       split
       · omega
       · rw [ByteArray.size_append]
         omega
     have hcut := h.cut1 hpL
     rw [hltr] at hcut
     refine cG_mid (tC_mono AC_mono) (PtK p q way nx w H H') ?_ ?_
     · refine c_split (fun hq0 => ?_) (fun hq0 => ?_) <;> simp at hq0
       · rw [if_neg hq0] at hnx
         have hwp : IntKind.i64.wrap ((p : Int) + 1) = ((p + 1 : Nat) : Int) := hw2
         simp [t2, t3, t4, t12, t11, b0', hls, hwp]
         refine ⟨⟨by omega, by omega⟩, by omega, by simp [t2], by simp [t3], by simp [t4], by simp [t12], by simp [t11], ?_, rfl⟩
         simp [hnx, hcut]
       · rw [if_pos hq0] at hnx
         simp
         exact ⟨by simp [t2], by simp [t3], by simp [t4], by simp [t12], by simp [t11], by simp [hnx], rfl⟩
     clear t2 t3 t4 t12 t11
     rintro t K ⟨t2, t3, t4, t12, t11, t13, rfl⟩
     show W _ _ _ _ _
     cases hm : many gs[i] with
     | false =>
       rw [hm] at hmany
       rw [hmany] at hbm
       simp only [Bool.false_eq_true, if_false] at hbm
       have hrs := h.rs hpL hmany
       have hrst : L[p].rst keep = restK x (d + 1) keep := by unfold Br.rst; rw [z1, z2, hx]
       rw [hrst] at hrs
       have hgl : gs[i].length <= 1 := by simpa [many] using hm
       have hgne : gs[i] ≠ [] := brs_ne ks'.length d ks' (Nat.le_refl _) _ hgi
       have hg1 : gs[i] = [x] := by
         match hgg : gs[i], hgl, hgne with
         | [y], _, _ =>
           rw [hgg] at hx
           rw [hx]
           rfl
       have hxk : x ∈ ks' := by
         rw [<- hflat]
         exact List.mem_flatten.2 ⟨gs[i], List.getElem_mem hi, by rw [hg1]; simp⟩
       have htx : nx ++ restK x (d + 1) keep = cutK keep (x, d) := by
         rw [hnx]
         exact leaf_text (hsp.ok x hxk) h.kp.1 (hway x hxk) hws
       have hxs : (restK x (d + 1) keep).size < 1000 := by
         unfold restK
         rw [ByteArray.size_extract]
         have := h.kp
         omega
       have cC := complete_ok (E := E) s r (L.map Br.many) p K (hr.le hle) h.bm (by rw [List.length_map]; omega) (by rw [List.length_map]; omega) (by rw [List.length_map]; exact hls) _ hrs _ hlt
       have cR := rest_ok (E := E) s r (L.map Br.many) p K (hr.le hle) h.bm (by rw [List.length_map]; omega) (by rw [List.length_map]; omega) _ hrs
       simp only [svAV] at cC cR
       have hwk : (decide (letter x d = 45) || decide (((restK x (d + 1) keep).size : Int) < s.k)) = wholeK x d keep := by rw [h.en.k]; rfl
       rw [hwk] at cC
       have hft := flat_take (f := sgm n d) hi (fun g hg => by
         have := congrArg List.length (hsf g hg)
         rwa [List.length_map] at this)
       rw [hflat] at hft
       simp [t2, t3, t4, t12, t11, t13, b0', hbm, hms, hpL]
       refine cg_use cR ?_
       have hsz9 : nx.size + (restK x (d + 1) keep).size <= 9223372036854775807 := by omega
       simp [t2, t3, t4, t12, t11, t13, b0', hsz9, htx]
       refine cg_use cC ?_
       simp
       refine appG_add (y := (x, d)) (row := partRow keep) (bytes := 24) (H0 := H0) hw hle (by rw [List.length_append]; omega) rfl (fun v2 K2 g1 g2 g3 g4 => ?_)
       simp [t2, t3, t4, t12, t11, hw2]
       have hkpK : KeepP K K2 := ⟨g3.1, fun y ob ho he => g3.2 y ob (fun hy => he (hw.1.ety hy ho)) ho⟩
       have hkp2 : KeepP H K2 := hkp.trans hkpK
       refine ⟨m - 1, by omega, i + 1, p + 1, v2, by omega, by omega, by simp [t2], by simp, by simp [t4], by simp, by simp [t11], g1, hkp2, ?_, hkpK.2 _ _ b0' (by simp)⟩
       · have e : sgm n d gs[i] = [(x, d)] := by
           unfold sgm
           rw [hm, <- hx]
           rfl
         rw [flat_succ hi, e, <- List.append_assoc]
         exact g2
     | true =>
       rw [hm] at hmany
       rw [hmany, if_pos rfl] at hbm
       have cN := node_ok (E := E) s r (L.map Br.many) p K hr1 h.bm (by rw [List.length_map]; omega) (by rw [List.length_map]; omega)
       simp only [svAV] at cN
       simp [t2, t3, t4, t12, t11, t13, b0', hbm, hms, hpL]
       refine cg_use cN ?_
       have hkd := h.kid hpL hmany
       obtain ⟨j2, hj2⟩ : ∃ j2, j2 = ((L.map Br.many).take (p + 1)).countP id := ⟨_, rfl⟩
       rw [<- hj2] at hkd cN ⊢
       have hkk : L[p].kid = (gs[i], d + 1) := by unfold Br.kid; rw [z1, z2]
       rw [hkk] at hkd
       obtain ⟨hj2l, hj2e⟩ := List.getElem?_eq_some_iff.1 hkd
       have hj2b : j2 < 1099511627776 := by
         have e := congrArg List.length h.tr.f
         rw [List.length_cons, List.length_map] at e
         have := List.length_filter_le Br.many L
         omega
       obtain ⟨a2, s1, s2, s3, s4, s5⟩ := h.tr.span hke hj2l
       have s6 := s5 0 s3 (by omega)
       have hlater : p < a2 := by
         refine h.tr.later hpL (show a2 < L.length by omega) ?_
         have : (L[a2 + 0]'(by omega)).d = F[j2].2 := s6.2
         simp only [Nat.add_zero] at this
         rw [this, hj2e, z2]
       have hspan2 : ∃ e2 : Int, spanI (L.map (·.fst)) j2 = .tu [.int .i64 a2, .int .i64 e2] := by
         unfold spanI
         rw [s1]
         exact ⟨_, rfl⟩
       obtain ⟨e2, hspan2⟩ := hspan2
       have cB2 := branches_ok (E := E) s r (L.map (·.fst)) j2 K hr1 h.bf (by rw [List.length_map]; omega) hj2b
       simp only [svAV] at cB2
       rw [hspan2] at cB2
       have hgmo := g_more hsp hgi hm
       have hne45 : letter x d ≠ 45 := by
         match hgg : gs[i], hm, hgmo with
         | y :: g', _, hgmo =>
           have := hgmo y (by simp)
           rw [hx, hgg]
           exact this.2.1
       have hnle : ¬ a2 <= p := by omega
       simp [t2, t3, t4, t12, t11, t13, b0']
       refine cg_use cB2 ?_
       simp [t2, t3, t4, t12, t11, t13, b0', hnle, hlt, hls, hpL, hu8, hne45]
       refine cg_use cN ?_
       have hnx2 : nx = way ++ lit1 (letter x d) := by rw [hnx, if_neg hne45]
       have hft := flat_take (f := sgm n d) hi (fun g hg => by
         have := congrArg List.length (hsf g hg)
         rwa [List.length_map] at this)
       rw [hflat] at hft
       have cP := ih j2 (d + 1) gs[i] nx w _ K hkd (by omega) (by rw [hnx2, ByteArray.size_append]; omega) (fun y hy => by
         obtain ⟨m1, m2, m3⟩ := hgmo y hy
         have hyk : y ∈ ks' := by
           rw [<- hflat]
           exact List.mem_flatten.2 ⟨gs[i], List.getElem_mem hi, hy⟩
         rw [<- way_more m1, hway y hyk, hnx2, m3, hx]) hle hw (by rw [List.length_append]; omega)
       simp only [svAV] at cP
       simp [t2, t3, t4, t12, t11, t13, b0']
       refine cg_ex cP ?_
       rintro v2 K2 ⟨w2, rfl, g1, g2, g3⟩
       simp [t2, t3, t4, t12, t11, t13, hw2]
       refine ⟨m - 1, by omega, i + 1, p + 1, w2, by omega, by omega, by simp [t2], by simp, by simp [t4], by simp, by simp [t11], g1, hkp.trans g2, ?_, g2.2 _ _ b0' (by simp)⟩
       have e : sgm n d gs[i] = leafs n gs[i] (d + 1) := by
         unfold sgm
         rw [if_pos hm]
       rw [flat_succ hi, e, <- List.append_assoc]
       exact g3
   · have hieq : i = gs.length := by omega
     rw [hieq, List.take_length, <- hleafs] at hw
     simp [t2, t3, t4, t12, t11]
     exact ⟨hle, hkp, hw⟩
end Go.Proofs.YtgoeenodllmdpaaGreat.B

namespace Go.Proofs.YtgoeenodllmdpaaGreat.B
open Go.RowKit Go.Proofs
set_option linter.unusedVariables false
set_option linter.unusedSimpArgs false
variable {E : Env}
def nu (q : List Fk) : Nat := (q.map fun f => f.1.length * (7 - f.2)).sum
theorem nu_subs (d : Nat) (gs : List (List ByteArray)) : nu (subs d gs) <= (gs.map List.length).sum * (6 - d) := by
 induction gs with
 | nil => simp [subs, nu]
 | cons g gs ih =>
   have e : nu (subs d (g :: gs)) = (if many g = true then g.length * (7 - (d + 1)) else 0) + nu (subs d gs) := by
     unfold subs nu
     rw [List.filter_cons]
     split <;> simp
   have h7 : 7 - (d + 1) = 6 - d := by omega
   rw [e, h7]
   simp only [List.map_cons, List.sum_cons]
   rw [Nat.add_mul]
   split <;> omega
theorem allF_few : ∀ (n : Nat) (q : List Fk), (∀ f ∈ q, Good f) -> ((allF n q).flatMap recF).length <= nu q
 | 0, q, _ => by simp [allF]
 | n + 1, [], _ => by simp [allF]
 | n + 1, (ks, d) :: q, hq => by
   have hf := hq (ks, d) (by simp)
   have hd : d <= 5 := hf.deep
   have ih := allF_few n (q ++ kids (ks, d)) (fun f h => by
     rcases List.mem_append.1 h with h | h
     · exact hq f (List.mem_cons_of_mem _ h)
     · exact hf.subs f h)
   have h1 := nu_subs d (brs d ks)
   obtain ⟨h2, h3⟩ := brs_sum ks.length d ks (Nat.le_refl _)
   rw [h2] at h1
   have e1 : nu (q ++ kids (ks, d)) = nu q + nu (subs d (brs d ks)) := by simp [nu, kids]
   have e2 : nu ((ks, d) :: q) = ks.length * (7 - d) + nu q := by simp [nu]
   have e3 : 7 - d = (6 - d) + 1 := by omega
   have e4 : (recF (ks, d)).length = (brs d ks).length := recs_len _ _ _
   rw [e2, e3, Nat.mul_add, allF, List.flatMap_cons, List.length_append, e4]
   rw [e1] at ih
   omega
theorem BitsOk_ok (s : ByteArray) (b : List Bool) (H : Hp) (hb : BitsIs s b) (hs : b.length <= 400) :
   AC Tryz.prog E 235 [.str s] H (fun v H' => v = .bool true /\ H' = H) := by
 refine AC_byp (CLe.refl (AC Tryz.prog E)) h_impl_BitsOk (by simp) ?_
 have hsz := hb.size
 simp [c_impl_BitsOk, hsz]
 refine W_for (fun k t H' => ∃ i : Nat, i + k = b.length /\ t 0 = .str s /\ t 5 = .int .i64 b.length /\ t 6 = .int .i64 i /\ HLe H H') b.length ?_ AC_mono ?_
 · exact ⟨0, by simp, by simp, by simp [hsz], by simp, HLe.refl _⟩
 rintro k t H' ⟨i, hik, h0, h5, h6, hle⟩
 simp [h0, h5, h6]
 refine c_split (fun hq => ?_) (fun hq => ?_) <;> simp at hq
 · have hi : i < b.length := by omega
   have hw := wrapN (i := i) (by omega)
   have hbt := hb.bt hi
   cases hbi : b[i] with
   | false =>
     rw [hbi] at hbt
     simp at hbt
     simp [h0, h5, h6, hbt, hsz, hi, hw]
     exact ⟨k - 1, by omega, i + 1, by omega, by omega, hle⟩
   | true =>
     rw [hbi] at hbt
     simp at hbt
     simp [h0, h5, h6, hbt, hsz, hi, hw]
     exact ⟨k - 1, by omega, i + 1, by omega, by omega, hle⟩
 · have hI : (b.length : Int) <= 400 := by omega
   simp [h0, hsz, hI, hs, hle]
def Parts (keep : Int) (H : Hp) (v : AV) (zs : List (ByteArray × Nat)) : Prop := Rows 2 H v (zs.map (partRow keep))
theorem Parts.get {keep : Int} {H : Hp} {v : AV} {zs : List (ByteArray × Nat)} (h : Parts keep H v zs) {j : Nat} (hj : j < zs.length) : ∃ o i ob, v = .sl o i zs.length /\ H.at o = some ob /\ ob.esz = 2 /\ ob.rows[i + j]? = some [.str (cutK keep zs[j]), .bool (wholeK zs[j].1 zs[j].2 keep)] := by
 obtain ⟨o, i, ob, h1, h2, h3, h4⟩ := Rows.get h (j := j) (by simpa using hj)
 exact ⟨o, i, ob, by simpa using h1, h2, h3, by simpa [partRow] using h4⟩
theorem texts_ok (keep : Int) (a : AV) (zs : List (ByteArray × Nat)) (H : Hp) (ha : Parts keep H a zs) (hn : zs.length < 1000000) :
   AC Tryz.prog E 237 [a] H (fun v H' => HLe H H' /\ OwnS H H' v (zs.map (cutK keep))) := by
 refine AC_by fol (tC_le tabJ_ok) h_impl_texts ?_
 have l1 : lenV a = .int .i64 zs.length := by simpa using Rows.len ha
 have hsl : slC a := Rows.slc ha
 simp [c_impl_texts, l1, hsl]
 refine W_for (fun m t H' => ∃ (i : Nat) (w : AV), i + m = zs.length /\ t 3 = w /\ t 6 = a /\ t 7 = .int .i64 zs.length /\ t 8 = .int .i64 i /\ HLe H H' /\ OwnS H H' w ((zs.take i).map (cutK keep))) zs.length ?_ (tC_mono AC_mono) ?_
 · exact ⟨0, .nils, by simp, by simp, by simp, by simp, by simp, HLe.refl _, OwnM.nils⟩
 rintro m t H' ⟨i, w, him, t3, t6, t7, t8, hle, hw⟩
 simp [t3, t6, t7, t8]
 refine c_split (fun hq => ?_) (fun hq => ?_) <;> simp at hq
 · have hi : i < zs.length := by omega
   have hw2 := wrapN (i := i) (by omega)
   obtain ⟨o1, i1, ob1, rfl, x1, x2, x3⟩ := Parts.get ha hi
   have x1' := hle.2 _ _ x1
   obtain ⟨G, hG⟩ : ∃ G : Hp, G = H' ++ [some ⟨[[.str (cutK keep zs[i]), .bool (wholeK zs[i].1 zs[i].2 keep)]], 2, 216, false⟩] := ⟨_, rfl⟩
   have hleG : HLe H' G := by rw [hG]; exact HLe.self _ _
   have bG : G.at H'.length = some ⟨[[.str (cutK keep zs[i]), .bool (wholeK zs[i].1 zs[i].2 keep)]], 2, 216, false⟩ := by rw [hG]; simp
   have hlt := Hp.at_lt x1'
   have x1G : (H' ++ [some ⟨[[.str ⟨#[]⟩, .bool false]], 2, 216, false⟩] : Hp).at o1 = some ob1 := (HLe.self _ _).2 _ _ x1'
   simp [t3, t6, t7, t8, x1', x1G, x2, x3, hi]
   have hGl : H'.length + 1 = G.length := by rw [hG]; simp
   rw [<- app2, <- hG, hGl]
   refine appG_add (y := cutK keep zs[i]) (row := strRow) (bytes := 16) (H0 := H) (hw.le hleG) (hle.trans hleG) (by rw [List.length_map, List.length_take]; omega) rfl (fun v2 K2 g1 g2 g3 g4 => ?_)
   simp [t3, t6, t7, t8, hw2]
   refine ⟨m - 1, by omega, i + 1, by omega, by omega, g1, ?_⟩
   rw [List.take_succ_eq_append_getElem (by simpa using hi), List.getElem_map, <- List.map_take]
   exact g2
 · have : i = zs.length := by omega
   subst this
   simp [t3]
   exact ⟨hle, by simpa using hw⟩
theorem keysOk_of {ks : List ByteArray} (h1 : ks.Pairwise (fun a b => sless a b = true)) (h2 : ∀ k ∈ ks, keyOk k = true) (h3 : ks.length <= 24) : keysOk ks = true := by
 simp only [keysOk, decide_eq_true_eq]
 refine ⟨fun i hi => ⟨h2 _ (List.getElem_mem hi), fun h0 => ?_⟩, h3⟩
 exact List.pairwise_iff_getElem.1 h1 (i - 1) i (by omega) hi (by omega)
theorem heads_ok' {ks : List ByteArray} {keep : Int} (h : keysOk ks = true) : keysOk (headsR ks keep) = true /\ (headsR ks keep).length = ks.length := by
 have hs := SP.of_keys h
 have hf := leafs_fst 7 hs (keysOk_good h).1 (by omega)
 have hlen : (headsR ks keep).length = ks.length := by
   unfold headsR
   have := congrArg List.length hf
   rw [List.length_map] at this ⊢
   exact this
 refine ⟨keysOk_of (heads_pw h) (fun k hk => ?_) (by rw [hlen]; exact (keysOk_good h).2), hlen⟩
 unfold headsR at hk
 obtain ⟨z, hz, rfl⟩ := List.mem_map.1 hk
 exact keyOk_cut (hs.ok z.1 (by rw [<- hf]; exact List.mem_map_of_mem hz))
theorem sieveR_few {ks : List ByteArray} {keep : Int} (h : keysOk ks = true) : (sieveR ks keep).l.size <= 400 := by
 obtain ⟨hg, hl⟩ := keysOk_good h
 have h1 := allF_few 500 [(ks, 0)] (fun f hf => by rw [List.mem_singleton.1 hf]; exact hg)
 have h2 : nu [(ks, 0)] = ks.length * 7 := by simp [nu]
 have e : Enc [] keep ⟨⟨#[]⟩, ⟨#[]⟩, ⟨#[]⟩, [], keep⟩ := ⟨rfl, rfl, rfl, rfl, rfl⟩
 have he := (Enc.bfs 500 [(ks, 0)] e).l
 rw [List.nil_append] at he
 have := congrArg List.length he
 rw [List.length_map] at this
 have h3 : (sieveR ks keep).l.data.toList.length = (sieveR ks keep).l.size := Array.length_toList
 unfold sieveR at h3 ⊢
 omega
end Go.Proofs.YtgoeenodllmdpaaGreat.B

namespace Go.Proofs.YtgoeenodllmdpaaGreat.B
open Go.RowKit Go.Proofs
set_option linter.unusedVariables false
set_option linter.unusedSimpArgs false
variable {E : Env}
theorem parts0_ok (ks : List ByteArray) (keep : Int) (r : AV) (F : List Fk) (L : List Br) (H0 H : Hp) (h : Svt ks keep F L (sieveR ks keep)) (hk : keysOk ks = true) (hle : HLe H0 H) (hr : Strs H0 r (sieveR ks keep).r) :
   AC Tryz.prog E 236 [svAV (sieveR ks keep) r, .int .i64 0, .str ⟨#[]⟩, .nils] H (fun u H' => ∃ w, u = .tu [w, .bool true] /\ HLe H0 H' /\ KeepP H H' /\ OwnM 2 216 (partRow keep) H0 H' w (leafs 7 ks 0)) := by
 by_cases hke : ks = []
 · have hL := h.tr.z hke
   have hl7 : leafs 7 ks 0 = [] := by rw [hke, leafs, brs]; rfl
   rw [hl7]
   refine AC_by fol (tC_le tabJ_ok) h_impl_Sieve_parts ?_
   obtain ⟨H1, hH1, hle1, b0⟩ := svBox (sieveR ks keep) r H
   have hr1 := Rows.one hr
   have e0 : (⟨#[]⟩ : ByteArray).size = 0 := rfl
   simp [c_impl_Sieve_parts, svAV, hr1, <- hH1, b0, e0]
   have e1 : spanI (L.map (·.fst)) 0 = .tu [.int .i64 0, .int .i64 0] := by
     rw [hL]
     rfl
   have cB := branches_ok (E := E) (sieveR ks keep) r (L.map (·.fst)) 0 H1 hr1 h.bf (by rw [hL]; simp) (by omega)
   simp only [svAV] at cB
   rw [e1] at cB
   refine cg_use cB ?_
   simp
   refine W_for (fun m t H' => t 3 = .nils /\ t 11 = .int .i64 0 /\ t 12 = .int .i64 0 /\ H' = H1) 0 ?_ (tC_mono AC_mono) ?_
   · exact ⟨by simp, by simp, by simp, rfl⟩
   rintro m t H' ⟨t3, t11, t12, rfl⟩
   simp [t3, t11, t12]
   exact ⟨hle.trans hle1, hle1.keepP, OwnM.nils⟩
 · have := parts_ok (E := E) (sieveR ks keep) r ks keep F L H0 h hke hr 7 0 0 ks ⟨#[]⟩ .nils [] H (by rw [h.tr.f]; rfl) (by omega) rfl (fun x _ => by
     apply ba_ext
     rw [ba_toList]
     rfl) hle OwnM.nils (by have := (keysOk_good hk).2; simp; omega)
   simpa using this
def HdJ (s : Sv) (w : AV) (H H2 : Hp) (t : Tm) (K : Hp) : Prop := t 1 = .pt H.length 0 0 /\ t 5 = w /\ t 6 = .bool true /\ ∃ L7 r2, t 7 = .pt L7 0 0 /\ K.at L7 = some ⟨[[.str s.l, .str s.m, .str s.f, r2, .int .i64 s.k]], 5, 66, false⟩ /\ Strs K r2 s.r /\ HLe H2 K /\ s.r.length <= 12000
theorem Parts.le {keep : Int} {H H' : Hp} {v : AV} {zs : List (ByteArray × Nat)} (h : Parts keep H v zs) (hle : HLe H H') : Parts keep H' v zs := Rows.le h hle
set_option maxHeartbeats 3200000 in
theorem heads_ok (ks : List ByteArray) (keep : Int) (r : AV) (H : Hp) (hk : keysOk ks = true) (hkp : 0 <= keep /\ keep <= 5) (hr : Strs H r (sieveR ks keep).r) :
   AC Tryz.prog E 187 [svAV (sieveR ks keep) r] H (fun u H' => ∃ w, u = .tu [w, .bool true] /\ HLe H H' /\ Parts keep H' w (leafs 7 ks 0)) := by
 obtain ⟨F, L, hsv⟩ := Svt.of hk hkp
 have hfew := sieveR_few (keep := keep) hk
 have hls := hsv.ls
 have hso := sieve_heads (keep := keep) hk
 obtain ⟨hhk, hhl⟩ := heads_ok' (keep := keep) hk
 have hks := (keysOk_good hk).2
 have hsk : (sieveR ks keep).k = keep := hsv.en.k
 have hms : (sieveR ks keep).m.size = L.length := by rw [hsv.bm.size, List.length_map]
 have hfs : (sieveR ks keep).f.size = L.length := by rw [hsv.bf.size, List.length_map]
 have hrl : (sieveR ks keep).r.length = (sieveR ks keep).m.data.toList.count 48 := by
   have h1 := (bits_count hsv.bm L.length).2
   have h2 : (sieveR ks keep).m.extract 0 L.length = (sieveR ks keep).m := by rw [<- hms]; exact ba_whole _
   rw [h2, List.take_of_length_le (by simp), List.countP_map] at h1
   rw [h1, hsv.en.r, List.length_map, List.countP_eq_length_filter]
   rfl
 have hsvo : sieveO (headsR ks keep) keep = some (sieveR ks keep) := by
   unfold sieveO
   rw [if_pos ⟨hhk, hkp⟩, hso]
 obtain ⟨s, hs⟩ : ∃ s, s = sieveR ks keep := ⟨_, rfl⟩
 have cP : ∀ K : Hp, HLe H K -> AC Tryz.prog E 236 [svAV s r, .int .i64 0, .str ⟨#[]⟩, .nils] K (fun u H' => ∃ w, u = .tu [w, .bool true] /\ HLe H H' /\ KeepP K H' /\ OwnM 2 216 (partRow keep) H H' w (leafs 7 ks 0)) := fun K hK => by
   rw [hs]
   exact parts0_ok ks keep r F L H K hsv hk hK hr
 rw [<- hs] at hsv hr hfew hls hsk hms hfs hrl hsvo ⊢
 clear hso
 clear hs
 subst hsk
 refine AC_by fol (tC_le tabJ_ok) h_impl_Sieve_heads ?_
 obtain ⟨H1, hH1, hle1, b0⟩ := svBox s r H
 have hr1 := Rows.one hr
 have hk5 : decide (0 <= s.k /\ s.k <= 5) = true := decide_eq_true hkp
 have hrlen := Strs.len hr
 simp [-RgP_both, c_impl_Sieve_heads, svAV, hr1, <- hH1, b0, hls]
 refine cg_use (BitsOk_ok s.m _ H1 hsv.bm (by rw [List.length_map]; omega)) ?_
 simp [-RgP_both, b0]
 refine cg_use (BitsOk_ok s.f _ H1 hsv.bf (by rw [List.length_map]; omega)) ?_
 simp [-RgP_both, b0, hms, hfs]
 refine cg_use (isKeep_ok s.k H1) ?_
 rw [hk5]
 simp [-RgP_both, b0, hrlen, Strs.slc hr]
 refine cg_use (Count_ok s.m 48 H1) ?_
 rw [<- hrl]
 simp [-RgP_both, b0]
 have cP1 := cP H1 hle1
 simp only [svAV] at cP1
 refine cg_ex cP1 ?_
 rintro u H2 ⟨w, rfl, hle2, hkp2, hw⟩
 have b2 := hkp2.2 _ _ b0 (by simp)
 simp [-RgP_both, b2]
 have hwp : Parts s.k H2 w (leafs 7 ks 0) := hw.rows
 have hzl : (leafs 7 ks 0).length < 1000000 := by
   have : (headsR ks s.k).length = (leafs 7 ks 0).length := by unfold headsR; rw [List.length_map]
   omega
 have hhs : ∀ k ∈ headsR ks s.k, k.size < 4611686018427387904 := fun k hk => by
   have := keyOk_size ((SP.of_keys hhk).ok k hk)
   omega
 refine RgP_then (tC_mono AC_mono) (HdJ s w H H2) ?_ ?_
 · obtain ⟨G, hG⟩ : ∃ G : Hp, G = H2 ++ [some ⟨[[.str ⟨#[]⟩, .str ⟨#[]⟩, .str ⟨#[]⟩, .nils, .int .i64 0]], 5, 66, false⟩] := ⟨_, rfl⟩
   have hleG : HLe H2 G := by rw [hG]; exact HLe.self _ _
   have bG := hleG.2 _ _ b2
   have cG : G.at H2.length = some ⟨[[.str ⟨#[]⟩, .str ⟨#[]⟩, .str ⟨#[]⟩, .nils, .int .i64 0]], 5, 66, false⟩ := by rw [hG]; simp
   rw [RgP_both]
   refine ⟨?_, ?_⟩
   · simp [-RgP_both]
     refine cg_ex (texts_ok s.k w _ H2 hwp hzl) ?_
     rintro v3 H3 ⟨hle3, hv3⟩
     have b3 := hle3.2 _ _ b2
     simp [-RgP_both, b3]
     rw [RgP_both]
     refine ⟨?_, ?_⟩
     · simp
       refine cg_ex (implSieveOf_ok v3 (headsR ks s.k) s.k H3 hv3.rows hhs (by omega)) ?_
       rintro v4 H4 ⟨hle4, hret⟩
       rw [hsvo] at hret
       obtain ⟨r2, rfl, hr2, hr2l⟩ := hret
       have b4 := hle4.2 _ _ b3
       have b4' := (HLe.self H4 [some ⟨[[.str ⟨#[]⟩, .str ⟨#[]⟩, .str ⟨#[]⟩, .nils, .int .i64 0]], 5, 66, false⟩]).2 _ _ b4
       simp [svAV, b4, b4', Rows.one hr2.rows]
       exact ⟨by simp, by simp, by simp, H4.length, r2, by simp, by simp, (hr2.le (HLe.self _ _)).rows, (hle3.trans hle4).app _, hr2l⟩
     · obtain ⟨G3, hG3⟩ : ∃ G : Hp, G = H3 ++ [some ⟨[[.str ⟨#[]⟩, .str ⟨#[]⟩, .str ⟨#[]⟩, .nils, .int .i64 0]], 5, 66, false⟩] := ⟨_, rfl⟩
       have hleG3 : HLe H3 G3 := by rw [hG3]; exact HLe.self _ _
       have bG3 := hleG3.2 _ _ b3
       have cG3 : G3.at H3.length = some ⟨[[.str ⟨#[]⟩, .str ⟨#[]⟩, .str ⟨#[]⟩, .nils, .int .i64 0]], 5, 66, false⟩ := by rw [hG3]; simp
       simp [<- hG3, bG3]
       refine cg_ex (implSieveOf_ok v3 (headsR ks s.k) s.k G3 (hv3.le hleG3).rows hhs (by omega)) ?_
       rintro v4 H4 ⟨hle4, hret⟩
       rw [hsvo] at hret
       obtain ⟨r2, rfl, hr2, hr2l⟩ := hret
       have b4 := hle4.2 _ _ bG3
       have c4 := hle4.2 _ _ cG3
       have u4 := Hp.at_lt c4
       have hl3 := hle3.1
       simp [svAV, b4, c4, u4, Rows.one hr2.rows, Hp.at_set]
       have hr5 := hr2.frE (Fr.one H4 H3.length (some ⟨[[.str s.l, .str s.m, .str s.f, r2, .int .i64 s.k]], 5, 66, false⟩)) (fun y ob hy ho => by rw [hy, c4] at ho; cases ho; simp)
       exact ⟨by simp, by simp, by simp, H3.length, r2, by simp, Hp.at_set _ u4, hr5.rows, ((hle3.trans hleG3).trans hle4).set hl3 _, hr2l⟩
   · simp [-RgP_both, <- hG, bG]
     refine cg_ex (texts_ok s.k w _ G (hwp.le hleG) hzl) ?_
     rintro v3 H3 ⟨hle3, hv3⟩
     have b3 := hle3.2 _ _ bG
     have c3 := hle3.2 _ _ cG
     simp [b3]
     refine cg_ex (implSieveOf_ok v3 (headsR ks s.k) s.k H3 hv3.rows hhs (by omega)) ?_
     rintro v4 H4 ⟨hle4, hret⟩
     rw [hsvo] at hret
     obtain ⟨r2, rfl, hr2, hr2l⟩ := hret
     have b4 := hle4.2 _ _ b3
     have c4 := hle4.2 _ _ c3
     have u4 := Hp.at_lt c4
     simp [svAV, b4, c4, u4, Rows.one hr2.rows, Hp.at_set]
     have hr5 := hr2.frE (Fr.one H4 H2.length (some ⟨[[.str s.l, .str s.m, .str s.f, r2, .int .i64 s.k]], 5, 66, false⟩)) (fun y ob hy ho => by rw [hy, c4] at ho; cases ho; simp)
     exact ⟨by simp, by simp, by simp, H2.length, r2, by simp, Hp.at_set _ u4, hr5.rows, ((hleG.trans hle3).trans hle4).set (Nat.le_refl _) _, hr2l⟩
 · rintro t K ⟨t1, t5, t6, L7, r2, t7, hat, hr2, hleK, hr2l⟩
   have bK := hleK.2 _ _ b2
   show W _ _ _ _ _
   have cS := same_ok (E := E) r2 r s s K hr2 (hr.le (hle2.trans hleK)) (by omega)
   simp only [svAV] at cS
   simp [t1, t5, t6, t7, hat, bK]
   refine cg_use cS ?_
   simp [t5]
   exact ⟨hle2.trans hleK, hwp.le hleK⟩
end Go.Proofs.YtgoeenodllmdpaaGreat.B

namespace Go.Proofs.YtgoeenodllmdpaaGreat.B
open Go.RowKit Go.Proofs
set_option linter.unusedVariables false
set_option linter.unusedSimpArgs false
variable {E : Env}
def mayK (keep : Int) (fr : ByteArray) (z : ByteArray × Nat) : Bool := !sless (cutK keep z) fr || (!wholeK z.1 z.2 keep && begins fr (cutK keep z))
def seekP (keep : Int) (fr : ByteArray) (zs : List (ByteArray × Nat)) : Option ByteArray := (zs.find? (mayK keep fr)).map (cutK keep)
def meetsR (ks : List ByteArray) (keep : Int) (fr to : ByteArray) : Bool := keyOk fr && keyOk to && !sless to fr && (match seekP keep fr (leafs 7 ks 0) with
 | some h => !sless to h
 | none => false)
theorem find_drop {α : Type} {p : α -> Bool} {l : List α} {i : Nat} (hi : i < l.length) : (l.drop i).find? p = if p l[i] = true then some l[i] else (l.drop (i + 1)).find? p := by
 rw [List.drop_eq_getElem_cons hi, List.find?_cons]
 cases p l[i] <;> rfl
theorem SieveSeek_ok (ks : List ByteArray) (keep : Int) (r : AV) (fr : ByteArray) (H : Hp) (hk : keysOk ks = true) (hkp : 0 <= keep /\ keep <= 5) (hr : Strs H r (sieveR ks keep).r) (hf : keyOk fr = true) :
   AC Tryz.prog E 166 [svAV (sieveR ks keep) r, .str fr] H (fun u H' => u = .tu [.str ((seekP keep fr (leafs 7 ks 0)).getD ⟨#[]⟩), .bool (seekP keep fr (leafs 7 ks 0)).isSome] /\ H' = H) := by
 refine AC_byp (tC_le tabJ_ok) h_impl_SieveSeek (by simp) ?_
 obtain ⟨H1, hH1, hle1, b0⟩ := svBox (sieveR ks keep) r H
 have hr1 := Rows.one hr
 have hfs := keyOk_size hf
 have hkey : ∀ {C : CallP} {d : Option Nat} {ag} {p : Plan} {t : Tm} {H : Hp} {K : Tm -> Hp -> Prop}, _ := @fun C d ag p t H K => tabJ_key C d ag p t H K fr (by omega)
 simp [c_impl_SieveSeek, svAV, hr1, <- hH1, b0]
 have cH := heads_ok (E := E) ks keep r H1 hk hkp (hr.le hle1)
 simp only [svAV] at cH
 refine cg_ex cH ?_
 rintro u H2 ⟨w, rfl, hle2, hw⟩
 have hlen : lenV w = .int .i64 (leafs 7 ks 0).length := by simpa using Rows.len hw
 have hsl : slC w := Rows.slc hw
 obtain ⟨zs, hzs⟩ : ∃ zs, zs = leafs 7 ks 0 := ⟨_, rfl⟩
 have hzk : ∀ z ∈ zs, keyOk z.1 = true := fun z hz => by
   have hs := SP.of_keys hk
   have hfst := leafs_fst 7 hs (keysOk_good hk).1 (by omega)
   exact hs.ok z.1 (by rw [<- hfst, <- hzs]; exact List.mem_map_of_mem hz)
 have hzl : zs.length < 1000000 := by
   have hs := SP.of_keys hk
   have := leafs_len (n := 7) hs (keysOk_good hk).1 (by omega)
   have := (keysOk_good hk).2
   rw [hzs]
   omega
 rw [<- hzs] at hw hlen ⊢
 simp [hkey, hf, hlen, hsl]
 refine W_for (fun m t H' => ∃ i : Nat, i + m = zs.length /\ t 1 = .str fr /\ t 22 = w /\ t 23 = .int .i64 zs.length /\ t 24 = .int .i64 i /\ (zs.drop i).find? (mayK keep fr) = zs.find? (mayK keep fr) /\ HLe H2 H') zs.length ?_ (tC_mono AC_mono) ?_
 · exact ⟨0, by simp, by simp, by simp, by simp, by simp, by simp, HLe.refl _⟩
 rintro m t H' ⟨i, him, t1, t22, t23, t24, hP, hle⟩
 have hleH := (hle1.trans hle2).trans hle
 simp [t1, t22, t23, t24]
 refine c_split (fun hq => ?_) (fun hq => ?_) <;> simp at hq
 · have hi : i < zs.length := by omega
   have hw2 := wrapN (i := i) (by omega)
   obtain ⟨o1, i1, ob1, rfl, x1, x2, x3⟩ := Parts.get hw hi
   have x1' := hle.2 _ _ x1
   have hkz := hzk _ (List.getElem_mem hi)
   rw [find_drop hi] at hP
   obtain ⟨z, hz⟩ : ∃ z, z = zs[i] := ⟨_, rfl⟩
   rw [<- hz] at x3 hP hkz
   have hcs : (cutK keep z).size <= 5 := keyOk_size (keyOk_cut hkz)
   have x1G : (H' ++ [some ⟨[[.str ⟨#[]⟩, .bool false]], 2, 216, false⟩] : Hp).at o1 = some ob1 := (HLe.self _ _).2 _ _ x1'
   obtain ⟨G, hG⟩ : ∃ G : Hp, G = H' ++ [some ⟨[[.str (cutK keep z), .bool (wholeK z.1 z.2 keep)]], 2, 216, false⟩] := ⟨_, rfl⟩
   have hleG : HLe H' G := by rw [hG]; exact HLe.self _ _
   have bG : G.at H'.length = some ⟨[[.str (cutK keep z), .bool (wholeK z.1 z.2 keep)]], 2, 216, false⟩ := by rw [hG]; simp
   simp [t1, t22, t23, t24, x1', x1G, x2, x3, hi]
   simp only [<- hG]
   have fin : mayK keep fr z = true -> seekP keep fr zs = some (cutK keep z) := fun hm => by
     rw [hm, if_pos rfl] at hP
     unfold seekP
     rw [<- hP]
     rfl
   have go : mayK keep fr z = false -> (zs.drop (i + 1)).find? (mayK keep fr) = zs.find? (mayK keep fr) := fun hm => by
     rw [hm] at hP
     simpa using hP
   cases hsl2 : sless (cutK keep z) fr with
   | false =>
     have hm : mayK keep fr z = true := by simp [mayK, hsl2]
     rw [fin hm]
     simp [bG]
     exact hleH.trans hleG
   | true =>
     cases hwh : wholeK z.1 z.2 keep with
     | true =>
       have hm : mayK keep fr z = false := by simp [mayK, hsl2, hwh]
       rw [hwh] at bG
       simp [t1, t22, t23, t24, bG, hw2]
       exact ⟨m - 1, by omega, i + 1, by omega, by omega, go hm, hle.trans hleG⟩
     | false =>
       rw [hwh] at bG
       simp [t1, t22, t23, t24, bG]
       refine cg_use (KeyBegins_ok fr (cutK keep z) G (by omega) (by omega)) ?_
       cases hbg : begins fr (cutK keep z) with
       | true =>
         have hm : mayK keep fr z = true := by simp [mayK, hbg, hwh]
         rw [fin hm]
         simp [bG]
         exact hleH.trans hleG
       | false =>
         have hm : mayK keep fr z = false := by simp [mayK, hsl2, hbg]
         simp [t1, t22, t23, t24, bG, hw2]
         exact ⟨m - 1, by omega, i + 1, by omega, by omega, go hm, hle.trans hleG⟩
 · have : i = zs.length := by omega
   subst this
   rw [List.drop_length] at hP
   unfold seekP
   rw [<- hP]
   simp [hleH]
theorem SieveMeets_ok (ks : List ByteArray) (keep : Int) (r : AV) (fr to : ByteArray) (H : Hp) (hk : keysOk ks = true) (hkp : 0 <= keep /\ keep <= 5) (hr : Strs H r (sieveR ks keep).r) (hfs : fr.size < 4611686018427387904) (hts : to.size < 4611686018427387904) :
   AC Tryz.prog E 83 [svAV (sieveR ks keep) r, .str fr, .str to] H (fun u H' => u = .bool (meetsR ks keep fr to) /\ H' = H) := by
 refine AC_byp (tC_le tabJ_ok) h_impl_SieveMeets (by simp) ?_
 obtain ⟨H1, hH1, hle1, b0⟩ := svBox (sieveR ks keep) r H
 have hr1 := Rows.one hr
 have hkeyF : ∀ {C : CallP} {d : Option Nat} {ag} {p : Plan} {t : Tm} {H : Hp} {K : Tm -> Hp -> Prop}, _ := @fun C d ag p t H K => tabJ_key C d ag p t H K fr hfs
 have hkeyT : ∀ {C : CallP} {d : Option Nat} {ag} {p : Plan} {t : Tm} {H : Hp} {K : Tm -> Hp -> Prop}, _ := @fun C d ag p t H K => tabJ_key C d ag p t H K to hts
 simp [c_impl_SieveMeets, svAV, hr1, <- hH1, hkeyF]
 unfold meetsR
 cases hf : keyOk fr with
 | false => simp [hle1]
 | true =>
   simp [hkeyT]
   cases ht : keyOk to with
   | false => simp [hle1]
   | true =>
     simp
     cases hl : sless to fr with
     | true => simp [hle1]
     | false =>
       simp [b0]
       have cS := SieveSeek_ok (E := E) ks keep r fr H1 hk hkp (hr.le hle1) hf
       simp only [svAV] at cS
       refine cg_use cS ?_
       cases hsk : seekP keep fr (leafs 7 ks 0) with
       | none => simp [hle1]
       | some h => simp [hle1]
end Go.Proofs.YtgoeenodllmdpaaGreat.B

namespace Go.Proofs.YtgoeenodllmdpaaGreat.B
open Go.RowKit Go.Proofs
set_option linter.unusedVariables false
set_option linter.unusedSimpArgs false
theorem less_begins : ∀ (t f s : List UInt8), Op.bytesLess t f = true -> Op.bytesLess (t ++ s) f = false -> ∃ g, f = t ++ g
 | [], f, s, _, _ => ⟨f, rfl⟩
 | a :: t, [], s, h, _ => by simp [Op.bytesLess] at h
 | a :: t, b :: f, s, h, k => by
   rw [List.cons_append] at k
   simp only [Op.bytesLess, Bool.or_eq_true, Bool.and_eq_true, Bool.or_eq_false_iff, Bool.and_eq_false_iff, decide_eq_true_eq, decide_eq_false_iff_not, beq_iff_eq] at h k
   rcases h with h | ⟨rfl, h⟩
   · exact absurd h k.1
   · rcases k.2 with k2 | k2
     · simp at k2
     · obtain ⟨g, rfl⟩ := less_begins t f s h k2
       exact ⟨g, rfl⟩
theorem begins_of {t f x : ByteArray} {n : Nat} (ht : t = x.extract 0 n) (h1 : sless t f = true) (h2 : sless x f = false) : begins f t = true := by
 unfold sless at h1 h2
 rw [toList_ba, toList_ba] at h1 h2
 have hx : x.data.toList = t.data.toList ++ x.data.toList.drop n := by
   rw [ht, ba_toList]
   simp
 rw [hx] at h2
 obtain ⟨g, hg⟩ := less_begins _ _ _ h1 h2
 have hfl := ba_len f
 have htl := ba_len t
 have hl := congrArg List.length hg
 rw [List.length_append] at hl
 unfold begins
 rw [decide_eq_true_eq]
 refine ⟨by omega, ?_⟩
 apply ba_ext
 rw [ba_toList, hg]
 simp only [List.drop_zero, Nat.sub_zero]
 rw [<- htl, List.take_left]
theorem whole_cut {keep : Int} {z : ByteArray × Nat} (hk : keyOk z.1 = true) (h0 : 0 <= keep) (hw : wholeK z.1 z.2 keep = true) : cutK keep z = z.1 := by
 have hsz : z.1.size <= z.2 + 1 + keep.toNat := by
   simp only [wholeK, Bool.or_eq_true, decide_eq_true_eq] at hw
   rcases hw with h | h
   · have := (letter_ok hk z.2).1 h
     omega
   · unfold restK at h
     rw [ByteArray.size_extract, ByteArray.size_extract] at h
     omega
 unfold cutK
 apply ba_ext
 rw [ba_toList]
 simp only [List.drop_zero, Nat.sub_zero]
 rw [List.take_of_length_le (by rw [ba_len]; exact hsz)]
theorem cut_le {keep : Int} {z : ByteArray × Nat} : sless z.1 (cutK keep z) = false := by
 cases h : sless z.1 (cutK keep z) with
 | false => rfl
 | true =>
   unfold sless at h
   rw [toList_ba, toList_ba] at h
   have e : (cutK keep z).data.toList = z.1.data.toList.take (z.2 + 1 + keep.toNat) := by
     unfold cutK
     rw [ba_toList]
     simp
   rw [e] at h
   have h2 := bLess_app (z.1.data.toList.take (z.2 + 1 + keep.toNat)) (z.1.data.toList.drop (z.2 + 1 + keep.toNat)) []
   rw [List.take_append_drop, List.append_nil] at h2
   rw [h2] at h
   cases hd : z.1.data.toList.drop (z.2 + 1 + keep.toNat) with
   | nil => rw [hd] at h; simp [Op.bytesLess] at h
   | cons a l => rw [hd] at h; simp [Op.bytesLess] at h
theorem not_less_trans {a b c : ByteArray} (h1 : sless b a = false) (h2 : sless c b = false) : sless c a = false := by
 cases h : sless c a with
 | false => rfl
 | true =>
   rcases sless_total a b with h3 | h3 | h3
   · have := sless_trans h h3
     rw [h2] at this
     cases this
   · rw [<- h3, h] at h2
     cases h2
   · rw [h1] at h3
     cases h3
theorem meets_sound {ks : List ByteArray} {keep : Int} {fr to x : ByteArray} (hk : keysOk ks = true) (h0 : 0 <= keep) (hf : keyOk fr = true) (ht : keyOk to = true) (hx : x ∈ ks) (h1 : sless x fr = false) (h2 : sless to x = false) : meetsR ks keep fr to = true := by
 have hs := SP.of_keys hk
 have hfst := leafs_fst 7 hs (keysOk_good hk).1 (by omega)
 rw [<- hfst] at hx
 obtain ⟨z, hz, rfl⟩ := List.mem_map.1 hx
 have hkz : keyOk z.1 = true := hs.ok z.1 (by rw [<- hfst]; exact hx)
 have hmay : mayK keep fr z = true := by
   unfold mayK
   cases hl : sless (cutK keep z) fr with
   | false => rfl
   | true =>
     cases hw : wholeK z.1 z.2 keep with
     | true =>
       rw [whole_cut hkz h0 hw, h1] at hl
       cases hl
     | false =>
       have := begins_of (t := cutK keep z) (n := z.2 + 1 + keep.toNat) rfl hl h1
       simp [this]
 have htf : sless to fr = false := not_less_trans h1 h2
 unfold meetsR
 rw [hf, ht, htf]
 cases hfd : (leafs 7 ks 0).find? (mayK keep fr) with
 | none =>
   have := List.find?_eq_none.1 hfd z hz
   exact absurd hmay this
 | some y =>
   have hsk : seekP keep fr (leafs 7 ks 0) = some (cutK keep y) := by unfold seekP; rw [hfd]; rfl
   rw [hsk]
   obtain ⟨hy, cs, bs, hab, hno⟩ := List.find?_eq_some_iff_append.1 hfd
   have hle : sless (cutK keep z) (cutK keep y) = false := by
     have hzz : z = y \/ z ∈ bs := by
       rw [hab] at hz
       rcases List.mem_append.1 hz with h | h
       · have := hno z h
         rw [hmay] at this
         cases this
       · exact List.mem_cons.1 h
     rcases hzz with rfl | hzb
     · exact sless_irrefl _
     · have hpw := heads_pw (keep := keep) hk
       unfold headsR at hpw
       rw [hab, List.map_append, List.map_cons] at hpw
       have h3 := (List.pairwise_cons.1 (List.pairwise_append.1 hpw).2.1).1 (cutK keep z) (List.mem_map_of_mem hzb)
       exact sless_asymm h3
   have h4 : sless to (cutK keep y) = false := not_less_trans (not_less_trans hle cut_le) h2
   simp [h4]
end Go.Proofs.YtgoeenodllmdpaaGreat.B

namespace Go.Proofs.YtgoeenodllmdpaaGreat.B
open Go.RowKit Go.Proofs
set_option linter.unusedVariables false
set_option linter.unusedSimpArgs false
variable {E : Env}
def strL (s : ByteArray) : List UInt8 := s.data.toList
theorem strL_mk (s : ByteArray) : (⟨(strL s).toArray⟩ : ByteArray) = s := by
 obtain ⟨⟨l⟩⟩ := s
 rfl
theorem encStr_eq (s : ByteArray) : encStr (strL s) = Value.string s := by
 show Value.string ⟨(strL s).toArray⟩ = _
 rw [strL_mk]
theorem HR.puts {φ : Phi} {H : Hp} {w : World} (h : HR E φ H w) {o : Nat} {p : Pl} (hp : φ o = some p) {rest : List (List AV)} {ety : Nat} (ys : List ByteArray) :
   ∀ (k : Nat) (xs : List ByteArray), H[o]? = some (some ⟨xs.map strRow ++ rest, 1, ety, false⟩) -> xs.length = ys.length -> k <= ys.length -> Sort.Holds encStr w p.b 0 (xs.map strL).toArray ->
     Below E.B0 w (Sort.putRow encStr w p.b 0 ((ys.take k ++ xs.drop k).map strL).toArray) /\ HR E φ (H.set o (some ⟨(ys.take k ++ xs.drop k).map strRow ++ rest, 1, ety, false⟩)) (Sort.putRow encStr w p.b 0 ((ys.take k ++ xs.drop k).map strL).toArray)
 | 0, xs, ho, hl, hk, hH => by
   have e : Sort.putRow encStr w p.b 0 ((ys.take 0 ++ xs.drop 0).map strL).toArray = w := by
     simp only [List.take_zero, List.drop_zero, List.nil_append]
     exact Sort.putRow_self _ _ _ _ _ hH
   rw [e]
   refine ⟨Below.refl _ _, ?_⟩
   simp only [List.take_zero, List.drop_zero, List.nil_append]
   have e2 : H.set o (some ⟨xs.map strRow ++ rest, 1, ety, false⟩) = H := Hp.set_self (by rw [Hp.at, ho]; rfl)
   rw [e2]
   exact h
 | k + 1, xs, ho, hl, hk, hH => by
   obtain ⟨hb, ih⟩ := HR.puts h hp ys k xs ho hl (by omega) hH
   have hol : o < H.length := (List.getElem?_eq_some_iff.1 ho).1
   have hky : k < ys.length := by omega
   have hkx : k < xs.length := by omega
   have e1 : ys.take k ++ xs.drop k = ys.take k ++ xs[k] :: xs.drop (k + 1) := by rw [List.drop_eq_getElem_cons hkx]
   have e2 : ys.take (k + 1) ++ xs.drop (k + 1) = ys.take k ++ ys[k] :: xs.drop (k + 1) := by
     rw [List.take_succ_eq_append_getElem hky, List.append_assoc]
     rfl
   have lt : (ys.take k).length = k := by rw [List.length_take]; omega
   rw [e1] at hb ih
   rw [e2]
   have hro := (ih.obj o _ (List.getElem?_set_self hol) p hp)
   have hpe : p.esz = 1 := hro.esz
   obtain ⟨_, _, cells, ee, fr, _, hrw, _⟩ := hro
   have hbase : p.base = 0 := (hrw rfl).2.2.2.1
   obtain ⟨_, _, hbel, hH2⟩ := ih.set1 (List.getElem?_set_self hol) rfl hp (i := k) (row := strRow xs[k]) (by
     simp only [List.map_append, List.map_cons, List.append_assoc]
     rw [List.getElem?_append_right (by rw [List.length_map]; omega), List.length_map, lt, Nat.sub_self]
     rfl) (f := 0) (by simp [strRow]) (a := .str ys[k]) (v := .string ys[k]) rfl rfl
   have eset : Sort.putRow encStr w p.b 0 ((ys.take k ++ ys[k] :: xs.drop (k + 1)).map strL).toArray = (Sort.putRow encStr w p.b 0 ((ys.take k ++ xs[k] :: xs.drop (k + 1)).map strL).toArray).setCell ⟨p.b, p.base + k * p.esz + 0, none⟩ (.string ys[k]) := by
     rw [hbase, hpe, <- encStr_eq, show 0 + k * 1 + 0 = 0 + k by omega, Sort.putRow_set _ _ _ _ _ _ _ (by simp; omega)]
     congr 1
     simp only [List.map_append, List.map_cons]
     rw [List.setIfInBounds_toArray, List.set_append_right _ _ (by rw [List.length_map]; omega), List.length_map, lt, Nat.sub_self, List.set_cons_zero]
   rw [eset]
   refine ⟨hb.trans hbel, ?_⟩
   have er : (List.map strRow (ys.take k ++ xs[k] :: xs.drop (k + 1)) ++ rest).set k ((strRow xs[k]).set 0 (.str ys[k])) = List.map strRow (ys.take k ++ ys[k] :: xs.drop (k + 1)) ++ rest := by
     simp only [List.map_append, List.map_cons, List.append_assoc, List.cons_append]
     rw [List.set_append_right _ _ (by rw [List.length_map]; omega), List.length_map, lt, Nat.sub_self, List.set_cons_zero]
     rfl
   simp only [er, List.set_set] at hH2
   exact hH2
theorem below_grown (w : World) (os : Array Obj) : Below w.heap.size w (Sort.grow w os) := by
 refine ⟨rfl, rfl, rfl, ?_, fun i hi => ?_⟩
 · show w.heap.size <= (w.heap ++ os).size
   rw [Array.size_append]
   omega
 · show (w.heap ++ os)[i]? = w.heap[i]?
   rw [Array.getElem?_append_left hi]
theorem HR.ahead {φ : Phi} {H : Hp} {w : World} (h : HR E φ H w) (n : Nat) : HR E φ H (Sort.ahead w n) /\ Below E.B0 w (Sort.ahead w n) :=
 ⟨h.keep ⟨rfl, rfl, rfl, Nat.le_refl _, fun _ _ => rfl⟩ (fun _ _ _ _ _ => rfl), ⟨rfl, rfl, rfl, Nat.le_refl _, fun _ _ => rfl⟩⟩
theorem HR.grew {φ : Phi} {H : Hp} {w w' : World} (h : HR E φ H w) (hb : Below w.heap.size w w') : HR E φ H w' /\ Below E.B0 w w' := by
 have hb' := hb.mono h.base
 exact ⟨h.keep hb' (fun o ob p ho hp => hb.block p.b (h.blk o p hp)), hb'⟩
theorem bLess_lt : ∀ x y : List UInt8, Op.bytesLess x y = true ↔ x < y
 | [], [] => by simp [Op.bytesLess]
 | [], b :: y => by simp [Op.bytesLess]
 | a :: x, [] => by simp [Op.bytesLess]
 | a :: x, b :: y => by
   rw [List.cons_lt_cons_iff, <- bLess_lt x y]
   simp [Op.bytesLess]
def SortOf (xs ys : List ByteArray) : Prop := ys.Perm xs /\ ys.Pairwise (fun a b => sless b a = false)
theorem sort_of (xs : List ByteArray) : ∃ ys : List ByteArray, (xs.map strL).mergeSort (fun x y => decide (x <= y)) = ys.map strL /\ SortOf xs ys := by
 refine ⟨((xs.map strL).mergeSort (fun x y => decide (x <= y))).map (fun l => ⟨l.toArray⟩), ?_, ?_, ?_⟩
 · rw [List.map_map]
   conv => lhs; rw [<- List.map_id ((xs.map strL).mergeSort _)]
   rfl
 · have h := (List.mergeSort_perm (xs.map strL) (fun x y => decide (x <= y))).map (fun l => (⟨l.toArray⟩ : ByteArray))
   refine h.trans ?_
   rw [List.map_map]
   have : (xs.map ((fun l => (⟨l.toArray⟩ : ByteArray)) ∘ strL)) = xs := by
     conv => rhs; rw [<- List.map_id xs]
     exact List.map_congr_left (fun s _ => strL_mk s)
   rw [this]
 · rw [List.pairwise_map]
   have h := List.pairwise_mergeSort (le := fun x y : List UInt8 => decide (x <= y)) (fun a b c h1 h2 => by simp only [decide_eq_true_eq] at *; exact List.le_trans h1 h2) (fun a b => by simp only [Bool.or_eq_true, decide_eq_true_eq]; exact List.le_total a b) (xs.map strL)
   refine h.imp (fun {a b} hab => ?_)
   have hab : a <= b := of_decide_eq_true hab
   cases hl : sless (⟨b.toArray⟩ : ByteArray) ⟨a.toArray⟩ with
   | false => rfl
   | true =>
     unfold sless at hl
     rw [toList_ba, toList_ba] at hl
     have : b < a := (bLess_lt _ _).1 hl
     exact absurd this hab
end Go.Proofs.YtgoeenodllmdpaaGreat.B

namespace Go.Proofs
open Go.Shelf
def Tryz.laysSort_ren : Go.Shelf.Ren := ⟨fun | 6 => 86 | 8 => 169 | 9 => 168 | 19 => 223 | 20 => 224 | 21 => 214 | 22 => 215 | 23 => 216 | 24 => 217 | 25 => 218 | 26 => 219 | 27 => 220 | 28 => 221 | 29 => 222 | 36 => 252 | 31 => 253 | 32 => 254 | 37 => 255 | 38 => 256 | 39 => 257 | 41 => 266 | n => n, fun | 27 => 55 | 29 => 9 | 3 => 3 | 32 => 179 | 26 => 55 | 0 => 0 | 44 => 225 | 46 => 227 | 4 => 4 | 36 => 219 | 35 => 218 | 41 => 60 | 5 => 5 | 9 => 9 | 53 => 245 | 57 => 249 | 63 => 255 | 64 => 187 | n => n, fun | n => n⟩
theorem Tryz.laysSort : Go.Proofs.SlLaysM.n6 Tryz.prog Tryz.laysSort_ren := {
 mixed := by kernel_rfl
 f6 := ⟨Tryz.f86.name, by decide, Tryz.func86.trans (congrArg some (by kernel_rfl))⟩
 f8 := Tryz.func169.trans (congrArg some (by kernel_rfl))
 f9 := ⟨Tryz.f168.name, by decide, Tryz.func168.trans (congrArg some (by kernel_rfl))⟩
 f19 := Tryz.func223.trans (congrArg some (by kernel_rfl))
 f20 := Tryz.func224.trans (congrArg some (by kernel_rfl))
 f21 := ⟨Tryz.f214.name, by decide, Tryz.func214.trans (congrArg some (by kernel_rfl))⟩
 f22 := ⟨Tryz.f215.name, by decide, Tryz.func215.trans (congrArg some (by kernel_rfl))⟩
 f23 := ⟨Tryz.f216.name, by decide, Tryz.func216.trans (congrArg some (by kernel_rfl))⟩
 f24 := ⟨Tryz.f217.name, by decide, Tryz.func217.trans (congrArg some (by kernel_rfl))⟩
 f25 := ⟨Tryz.f218.name, by decide, Tryz.func218.trans (congrArg some (by kernel_rfl))⟩
 f26 := ⟨Tryz.f219.name, by decide, Tryz.func219.trans (congrArg some (by kernel_rfl))⟩
 f27 := ⟨Tryz.f220.name, by decide, Tryz.func220.trans (congrArg some (by kernel_rfl))⟩
 f28 := ⟨Tryz.f221.name, by decide, Tryz.func221.trans (congrArg some (by kernel_rfl))⟩
 f29 := ⟨Tryz.f222.name, by decide, Tryz.func222.trans (congrArg some (by kernel_rfl))⟩
 f31 := Tryz.func253.trans (congrArg some (by kernel_rfl))
 f32 := Tryz.func254.trans (congrArg some (by kernel_rfl))
 f36 := ⟨Tryz.f252.name, by decide, Tryz.func252.trans (congrArg some (by kernel_rfl))⟩
 f37 := ⟨Tryz.f255.name, by decide, Tryz.func255.trans (congrArg some (by kernel_rfl))⟩
 f38 := ⟨Tryz.f256.name, by decide, Tryz.func256.trans (congrArg some (by kernel_rfl))⟩
 f39 := ⟨Tryz.f257.name, by decide, Tryz.func257.trans (congrArg some (by kernel_rfl))⟩
 f41 := ⟨Tryz.f266.name, by decide, Tryz.func266.trans (congrArg some (by kernel_rfl))⟩
 t0 := Tryz.underlying0
 a0 := Tryz.isAgg0
 z0 := Tryz.sizeOf0
 v0 := Tryz.zeroValue0
 t3 := Tryz.underlying3
 a3 := Tryz.isAgg3
 z3 := Tryz.sizeOf3
 v3 := Tryz.zeroValue3
 t4 := Tryz.underlying4
 a4 := Tryz.isAgg4
 z4 := Tryz.sizeOf4
 v4 := Tryz.zeroValue4
 t5 := Tryz.underlying5
 a5 := Tryz.isAgg5
 z5 := Tryz.sizeOf5
 v5 := Tryz.zeroValue5
 t9 := Tryz.underlying9
 a9 := Tryz.isAgg9
 z9 := Tryz.sizeOf9
 v9 := Tryz.zeroValue9
 t26 := Tryz.underlying55
 a26 := Tryz.isAgg55
 z26 := Tryz.sizeOf55
 v26 := Tryz.zeroValue55
 t27 := Tryz.underlying55
 a27 := Tryz.isAgg55
 z27 := Tryz.sizeOf55
 v27 := Tryz.zeroValue55
 t29 := Tryz.underlying9
 a29 := Tryz.isAgg9
 z29 := Tryz.sizeOf9
 v29 := Tryz.zeroValue9
 t32 := Tryz.underlying179
 a32 := Tryz.isAgg179
 z32 := Tryz.sizeOf179
 v32 := Tryz.zeroValue179
 t35 := Tryz.underlying218
 a35 := Tryz.isAgg218
 z35 := Tryz.sizeOf218
 v35 := Tryz.zeroValue218
 t36 := Tryz.underlying219
 a36 := Tryz.isAgg219
 z36 := Tryz.sizeOf219
 v36 := Tryz.zeroValue219
 t41 := Tryz.underlying60
 a41 := Tryz.isAgg60
 z41 := Tryz.sizeOf60
 v41 := Tryz.zeroValue60
 t44 := Tryz.underlying225
 a44 := Tryz.isAgg225
 z44 := Tryz.sizeOf225
 v44 := Tryz.zeroValue225
 t46 := Tryz.underlying227
 a46 := Tryz.isAgg227
 z46 := Tryz.sizeOf227
 v46 := Tryz.zeroValue227
 t53 := Tryz.underlying245
 a53 := Tryz.isAgg245
 z53 := Tryz.sizeOf245
 v53 := Tryz.zeroValue245
 t57 := Tryz.underlying249
 a57 := Tryz.isAgg249
 z57 := Tryz.sizeOf249
 v57 := Tryz.zeroValue249
 t63 := Tryz.underlying255
 a63 := Tryz.isAgg255
 z63 := Tryz.sizeOf255
 v63 := Tryz.zeroValue255
 t64 := Tryz.underlying187
 a64 := Tryz.isAgg187
 z64 := Tryz.sizeOf187
 v64 := Tryz.zeroValue187 }
end Go.Proofs

namespace Go.Proofs.YtgoeenodllmdpaaGreat.B
open Go.RowKit Go.Proofs
set_option linter.unusedVariables false
set_option linter.unusedSimpArgs false
variable {E : Env}
theorem SortS_ok (v : AV) (xs : List ByteArray) (H : Hp) (h : Own 1 9 H v (xs.map strRow)) (hn : xs.length < 4611686018427387904) :
   AC Tryz.prog E 86 [v] H (fun u H' => u = .tu [] /\ ∃ ys, SortOf xs ys /\ Own 1 9 H' v (ys.map strRow) /\ Fr v.of H H') := by
 refine ⟨⟨_, _, Tryz.func86, by kernel_rfl, rfl⟩, fun φ w vals hv hH => ?_⟩
 obtain ⟨u, vs, rfl, h1, h2⟩ := hv
 have h2 : vs = [] := h2
 subst h2
 have none_case : ∀ (a : Option Addr) (c : Nat), u = .slice a 0 c -> xs = [] -> Calls Tryz.prog 86 [u].toArray w (fun
   | .returned u, w' => ∃ φ' H' v', PLe φ φ' /\ HR E φ' H' w' /\ Below E.B0 w w' /\ VR φ' v' u /\ (v' = .tu [] /\ ∃ ys, SortOf xs ys /\ Own 1 9 H' v (ys.map strRow) /\ Fr v.of H H')
   | _, _ => False) := by
   rintro a c rfl rfl
   refine Calls.mono (AnyM.slices_Sort_string_none Tryz.laysSort a c w) ?_
   rintro e w' ⟨rfl, rfl⟩
   exact ⟨φ, H, .tu [], fun _ _ h => h, hH, Below.refl _ _, ⟨[], rfl, rfl⟩, rfl, [], ⟨.refl _, .nil⟩, h, Fr.refl _ _⟩
 rcases h with ⟨rfl, hR⟩ | ⟨rfl, hR⟩ | ⟨o, ob, rfl, ho, hro, hes, het, hle, htk⟩
 · have h1 : u = .slice none 0 0 := h1
   exact none_case _ _ h1 (by simpa using hR)
 · obtain ⟨a, h1⟩ := h1
   exact none_case _ _ h1 (by simpa using hR)
 obtain ⟨p, a, c, hp, h1, hnc, hc⟩ := h1
 rw [List.length_map] at h1 hnc hle htk
 by_cases hz : xs.length = 0
 · rw [hz] at h1
   exact none_case _ _ h1 (List.length_eq_zero_iff.1 hz)
 have hob : ob = ⟨xs.map strRow ++ ob.rows.drop xs.length, 1, 9, false⟩ := by
   obtain ⟨r, e1, e2, e3⟩ := ob
   subst hes het hro
   simp only at htk ⊢
   congr 1
   rw [<- htk, List.take_append_drop]
 have ho' := Hp.at_some ho
 rw [hob] at ho'
 obtain ⟨q1, q2, cells, ee, fr, hblk, hrw, hrows⟩ := hH.obj _ _ ho' p hp
 obtain ⟨rfl, rfl, hpsz, hbase, hB⟩ := hrw rfl
 have hpe : p.esz = 1 := q2
 obtain ⟨rfl, _⟩ : a = ⟨p.b, p.base + 0 * p.esz, none⟩ /\ _ := by
   rcases hc with hc | hc
   · omega
   · exact hc
 rw [hbase] at h1
 simp only [Nat.zero_mul, Nat.add_zero] at h1
 subst h1
 have hHolds : Sort.Holds encStr w p.b 0 (xs.map strL).toArray := by
   intro j hj
   simp only [List.size_toArray, List.length_map] at hj
   have hr : (xs.map strRow ++ ob.rows.drop xs.length)[j]? = some (strRow xs[j]) := by
     rw [List.getElem?_append_left (by simpa using hj), List.getElem?_map, List.getElem?_eq_getElem hj]
     rfl
   obtain ⟨_, g⟩ := hrows j _ hr
   obtain ⟨_, x, hx, hX⟩ := g 0 (.str xs[j]) rfl
   have hX : x = .string xs[j] := hX
   subst hX
   rw [hbase] at hx
   simp only [Nat.zero_add, Nat.mul_one, Nat.add_zero] at hx
   refine ⟨?_, by simp [World.frozen?, hblk]⟩
   rw [getElem!_pos (xs.map strL).toArray j (by simpa using hj)]
   simp only [List.getElem_toArray, List.getElem_map]
   rw [encStr_eq, Nat.zero_add]
   simp [World.cell?, hblk, hx]
 have hcall := AnyM.slices_Sort_string Tryz.laysSort p.b 0 c (xs.map strL) w hHolds (hH.blk o p hp) (by simpa using hn)
 rw [List.length_map] at hcall
 refine Calls.mono hcall ?_
 rintro e w' ⟨rfl, n, os, rfl⟩
 obtain ⟨ys, hys, hso⟩ := sort_of xs
 rw [hys]
 have hl : xs.length = ys.length := hso.1.length_eq.symm
 obtain ⟨hA, hbA⟩ := hH.ahead n
 obtain ⟨hbP, hP⟩ := HR.puts hA hp ys ys.length xs ho' hl (Nat.le_refl _) (Sort.holds_ahead _ w n _ _ _ hHolds)
 rw [List.take_length, <- hl, List.drop_length, List.append_nil] at hbP hP
 obtain ⟨hG, hbG⟩ := hP.grew (below_grown _ os)
 refine ⟨φ, _, .tu [], fun _ _ h => h, hG, (hbA.trans hbP).trans hbG, ⟨[], rfl, rfl⟩, rfl, ys, hso, ?_, ?_⟩
 · refine .inr (.inr ⟨o, ⟨ys.map strRow ++ ob.rows.drop xs.length, 1, 9, false⟩, by simp [hl], Hp.at_set _ (Hp.at_lt ho), rfl, rfl, rfl, by simp, by simp⟩)
 · exact (Fr.refl _ H).set (.inl rfl) _
end Go.Proofs.YtgoeenodllmdpaaGreat.B

namespace Go.Proofs.YtgoeenodllmdpaaGreat.B
open Go.RowKit Go.Proofs
set_option linter.unusedVariables false
set_option linter.unusedSimpArgs false
variable {E : Env}
def cpL : Option ByteArray -> List ByteArray -> List ByteArray
 | _, [] => []
 | p, x :: r => if p = some x then cpL p r else x :: cpL (some x) r
theorem cpL_snoc (z x : ByteArray) : ∀ (l : List ByteArray) (p : Option ByteArray), cpL p (l ++ [z, x]) = cpL p (l ++ [z]) ++ if x = z then [] else [x]
 | [], p => by
   by_cases h : p = some z <;> by_cases h2 : z = x
   · simp [cpL, h, h2]
   · simp [cpL, h, h2, Ne.symm h2]
   · simp [cpL, h, h2]
   · simp [cpL, h, h2, Ne.symm h2]
 | y :: l, p => by
   simp only [List.cons_append, cpL]
   by_cases h : p = some y
   · rw [if_pos h, if_pos h, cpL_snoc z x l p]
   · rw [if_neg h, if_neg h, cpL_snoc z x l (some y), List.cons_append]
theorem cpL_mem : ∀ (l : List ByteArray) (p : Option ByteArray) (x : ByteArray), x ∈ cpL p l \/ p = some x ↔ x ∈ l \/ p = some x
 | [], p, x => by simp [cpL]
 | y :: l, p, x => by
   rw [cpL]
   by_cases h : p = some y
   · rw [if_pos h, cpL_mem l p x]
     constructor
     · rintro (h1 | h1)
       · exact .inl (List.mem_cons_of_mem _ h1)
       · exact .inr h1
     · rintro (h1 | h1)
       · rcases List.mem_cons.1 h1 with rfl | h1
         · exact .inr h
         · exact .inl h1
       · exact .inr h1
   · rw [if_neg h]
     have ih := cpL_mem l (some y) x
     simp only [List.mem_cons]
     constructor
     · rintro ((h1 | h1) | h1)
       · exact .inl (.inl h1)
       · rcases ih.1 (.inl h1) with h2 | h2
         · exact .inl (.inr h2)
         · exact .inl (.inl (Option.some.inj h2).symm)
       · exact .inr h1
     · rintro ((h1 | h1) | h1)
       · exact .inl (.inl h1)
       · rcases ih.2 (.inl h1) with h2 | h2
         · exact .inl (.inr h2)
         · exact .inl (.inl (Option.some.inj h2).symm)
       · exact .inr h1
theorem cpL_strict : ∀ (l : List ByteArray) (p : Option ByteArray), l.Pairwise (fun a b => sless b a = false) -> (∀ q, p = some q -> ∀ x ∈ l, sless x q = false) -> (cpL p l).Pairwise (fun a b => sless a b = true) /\ ∀ q, p = some q -> ∀ x ∈ cpL p l, sless q x = true
 | [], p, _, _ => ⟨.nil, fun q _ x hx => by cases hx⟩
 | y :: l, p, h, hp => by
   obtain ⟨h1, h2⟩ := List.pairwise_cons.1 h
   rw [cpL]
   by_cases hy : p = some y
   · rw [if_pos hy]
     exact cpL_strict l p h2 (fun q hq x hx => hp q hq x (List.mem_cons_of_mem _ hx))
   · rw [if_neg hy]
     obtain ⟨i1, i2⟩ := cpL_strict l (some y) h2 (fun q hq x hx => by
       obtain rfl := Option.some.inj hq
       exact h1 x hx)
     have hlt : ∀ q, p = some q -> sless q y = true := fun q hq => by
       have := hp q hq y (by simp)
       rcases sless_total q y with h3 | h3 | h3
       · exact h3
       · rw [h3] at hq
         exact absurd hq hy
       · rw [this] at h3
         cases h3
     refine ⟨List.pairwise_cons.2 ⟨fun x hx => i2 y rfl x hx, i1⟩, fun q hq x hx => ?_⟩
     rcases List.mem_cons.1 hx with rfl | hx
     · exact hlt q hq
     · exact sless_trans (hlt q hq) (i2 y rfl x hx)
def OS (H : Hp) (o n : Nat) (l : List ByteArray) : Prop := Own 1 9 H (.sl o 0 n) (l.map strRow)
theorem OS.get {H : Hp} {o n : Nat} {l : List ByteArray} (h : OS H o n l) {i : Nat} {x : ByteArray} (hi : l[i]? = some x) : ∃ ob, H.at o = some ob /\ ob.ro = false /\ ob.esz = 1 /\ i < n /\ ob.rows[i]? = some [.str x] := by
 obtain ⟨e, ob, q1, q2, q3, q4, q5, q6⟩ := Own.ob h
 rw [List.length_map] at e q5 q6
 have hl : i < l.length := (List.getElem?_eq_some_iff.1 hi).1
 refine ⟨ob, q1, q2, q3, by omega, ?_⟩
 have : (ob.rows.take l.length)[i]? = (l.map strRow)[i]? := by rw [q6]
 rw [List.getElem?_take, if_pos hl, List.getElem?_map, hi] at this
 exact this
theorem OS.set {H H' : Hp} {o n : Nat} {l : List ByteArray} (h : OS H o n l) {ob : Ob} (ho : H.at o = some ob) (i : Nat) (x : ByteArray) (h' : H'.at o = some { ob with rows := ob.rows.set i [.str x] }) : OS H' o n (l.set i x) := by
 have := Own.setRow h ho i [.str x] h'
 unfold OS
 rw [List.map_set]
 exact this
theorem OS.clr {o n : Nat} : ∀ (k : Nat) {H H' : Hp} {l : List ByteArray} {i : Nat} {ob : Ob}, OS H o n l -> H.at o = some ob -> H'.at o = some { ob with rows := clrR ob.rows i k (.str ⟨#[]⟩) } -> ∃ l', OS H' o n l' /\ l'.length = l.length /\ l'.take i = l.take i
 | 0, H, H', l, i, ob, h, ho, h' => by
   have hlen : l.length <= ob.rows.length := by
     obtain ⟨e, ob', q1, q2, q3, q4, q5, q6⟩ := Own.ob h
     rw [ho] at q1
     cases q1
     simpa using q5
   have := h.set ho ob.rows.length ⟨#[]⟩ (h'.trans (by rw [List.set_eq_of_length_le (Nat.le_refl _)]; rfl))
   rw [List.set_eq_of_length_le hlen] at this
   exact ⟨l, this, rfl, rfl⟩
 | k + 1, H, H', l, i, ob, h, ho, h' => by
   have h1 := Hp.at_set (some { ob with rows := ob.rows.set i [.str ⟨#[]⟩] }) (Hp.at_lt ho)
   obtain ⟨l', e1, e2, e3⟩ := OS.clr k (i := i + 1) (h.set ho i ⟨#[]⟩ h1) h1 h'
   refine ⟨l', e1, by simpa using e2, ?_⟩
   have := congrArg (List.take i) e3
   rw [List.take_take, List.take_take, Nat.min_eq_left (by omega), List.take_set_of_le (Nat.le_refl _)] at this
   exact this
end Go.Proofs.YtgoeenodllmdpaaGreat.B

namespace Go.Proofs.YtgoeenodllmdpaaGreat.B
open Go.RowKit Go.Proofs
set_option linter.unusedVariables false
set_option linter.unusedSimpArgs false
variable {E : Env}
def CpI (xs : List ByteArray) (i n o : Nat) (H' : Hp) (m : Nat) (t : Tm) (K : Hp) : Prop := ∃ (pre : List ByteArray) (z : ByteArray) (mid tl : List ByteArray) (kl p q : Nat), xs = pre ++ z :: tl /\ tl.length = m /\ kl = (cpL none (pre ++ [z])).length /\ kl + mid.length = pre.length /\ p = pre.length /\ i + q = p + 1 /\ 1 <= q /\ t 0 = .sl o 0 n /\ t 3 = .int .i64 kl /\ t 4 = .sl o i (n - i) /\ t 5 = .int .i64 q /\ Fr (fun y => y = o) H' K /\ OS K o n (cpL none (pre ++ [z]) ++ (mid ++ z :: tl))
set_option maxHeartbeats 1600000 in
theorem CompactS_ok (v : AV) (xs : List ByteArray) (H0 H : Hp) (hv : OwnS H0 H v xs) (hn : xs.length < 1099511627776) :
   AC Tryz.prog E 87 [v] H (fun u H' => Fr v.of H H' /\ OwnS H0 H' u (cpL none xs) /\ ∀ y, u.of y -> v.of y) := by
 refine AC_by fol (tC_le tabJ_ok) h_slices_Compact_Sstring_string ?_
 have l1 := hv.len
 simp [c_slices_Compact_Sstring_string, l1, hv.slc]
 by_cases h2 : xs.length < 2
 · have h2I : (xs.length : Int) < 2 := by omega
   have e : cpL none xs = xs := by
     match xs, h2 with
     | [], _ => rfl
     | [x], _ => rfl
   simp [h2I, e]
   exact ⟨Fr.refl _ _, hv⟩
 have h2I : ¬ (xs.length : Int) < 2 := by omega
 obtain ⟨o, rfl⟩ := hv.1.sl (by rw [List.length_map]; omega)
 rw [List.length_map] at hv ⊢
 have hlo : H0.length <= o := hv.2 o rfl
 obtain ⟨n, hn0⟩ : ∃ n, n = xs.length := ⟨_, rfl⟩
 rw [<- hn0] at hv h2 h2I hn ⊢
 have hO0 : OS H o n xs := hv.1
 simp [h2I]
 refine W_for (fun m t H' => ∃ i : Nat, 1 <= i /\ i + m = n /\ t 0 = .sl o 0 n /\ t 3 = .int .i64 i /\ H' = H /\ cpL none (xs.take i) = xs.take i) (n - 1) ?_ (tC_mono AC_mono) ?_
 · refine ⟨1, Nat.le_refl _, by omega, by simp, by simp, rfl, ?_⟩
   cases xs with
   | nil => rfl
   | cons x r => rfl
 rintro m t H' ⟨i, hi1, him, t0, t3, rfl, hP⟩
 simp [t0, t3]
 refine c_split (fun hq => ?_) (fun hq => ?_) <;> simp at hq
 · obtain ⟨j, rfl⟩ : ∃ j, i = j + 1 := ⟨i - 1, by omega⟩
   obtain ⟨i, hij⟩ : ∃ i, i = j + 1 := ⟨_, rfl⟩
   rw [<- hij] at hi1 him t3 hq hP
   have hil : i < xs.length := by omega
   have hjl : j < xs.length := by omega
   have hw1 : IntKind.i64.wrap ((i : Int) - 1) = (j : Int) := by
     rw [wrap64 (by omega) (by omega)]
     omega
   have hw := wrapN (i := i) (by omega)
   obtain ⟨ob, q1, q2, q3, q4, q5⟩ := hO0.get (List.getElem?_eq_getElem hil)
   obtain ⟨ob', r1, r2, r3, r4, r5⟩ := hO0.get (List.getElem?_eq_getElem hjl)
   rw [q1] at r1
   cases r1
   have u1 := Hp.at_lt q1
   have ej : xs.take i = xs.take j ++ [xs[j]] := by rw [hij, List.take_succ_eq_append_getElem hjl]
   have ei : xs.take (i + 1) = xs.take j ++ [xs[j], xs[i]] := by rw [List.take_succ_eq_append_getElem hil, ej, List.append_assoc]; rfl
   simp [t0, t3, hw1, q1, q3, q4, q5, r4, r5]
   by_cases he : xs[i] = xs[j]
   · simp [he, t0, t3]
     refine cutG_sl (l := i) q1 q3 (by
       obtain ⟨_, ob2, z1, _, _, _, z5, _⟩ := Own.ob hO0
       rw [q1] at z1
       cases z1
       rw [List.length_map] at z5
       omega) (by omega) ?_
     simp [t0, t3]
     clear hw hw1 r4 r5
     refine W_for (CpI xs i n o H') (n - (i + 1)) ?_ (tC_mono AC_mono) ?_
     · have hk : cpL none (xs.take (i + 1)) = xs.take i := by rw [ei, cpL_snoc, if_pos he, List.append_nil, <- ej, hP]
       have e2 : xs.take i ++ [xs[i]] = xs.take (i + 1) := (List.take_succ_eq_append_getElem hil).symm
       have e3 : xs = xs.take i ++ xs[i] :: xs.drop (i + 1) := by rw [<- List.drop_eq_getElem_cons hil, List.take_append_drop]
       refine ⟨xs.take i, xs[i], [], xs.drop (i + 1), i, i, 1, e3, by rw [List.length_drop]; omega, by rw [e2, hk, List.length_take]; omega, by rw [List.length_take, List.length_nil]; omega, by rw [List.length_take]; omega, by omega, Nat.le_refl _, by simp [t0], by simp [t3], by simp, by simp, Fr.refl _ _, ?_⟩
       rw [e2, hk, List.nil_append, <- e3]
       exact hO0
     rintro m t K ⟨pre, z, mid, tl, kl, p, q, hxs, hm, hkl, hlen, hp, hiq, hq1, t0, t3, t4, t5, hF, hO⟩
     have hnl : n = p + 1 + tl.length := by rw [hn0, hxs, List.length_append, List.length_cons, hp]; omega
     obtain ⟨qm, rfl⟩ : ∃ qm, q = qm + 1 := ⟨q - 1, by omega⟩
     obtain ⟨q, hqq⟩ : ∃ q, q = qm + 1 := ⟨_, rfl⟩
     rw [<- hqq] at hiq hq1 t5
     have hni : ((n - i : Nat) : Int) = ((n - i : Nat) : Int) := rfl
     obtain ⟨nl, hnl2⟩ : ∃ nl, nl = n - i := ⟨_, rfl⟩
     rw [<- hnl2] at t4
     simp [t0, t3, t4, t5]
     refine c_split (fun hq => ?_) (fun hq => ?_) <;> simp at hq
     · obtain ⟨x, tl, rfl⟩ : ∃ x X', tl = x :: X' := List.exists_cons_of_length_pos (by omega)
       simp only [List.length_cons] at hm hnl
       have hw1 : IntKind.i64.wrap ((q : Int) - 1) = (qm : Int) := by
         rw [wrap64 (by omega) (by omega)]
         omega
       have hw := wrapN (i := q) (by omega)
       have hw3 := wrapN (i := kl) (by omega)
       have g1 : (cpL none (pre ++ [z]) ++ (mid ++ z :: x :: tl))[i + q]? = some x := by
         rw [show cpL none (pre ++ [z]) ++ (mid ++ z :: x :: tl) = (cpL none (pre ++ [z]) ++ (mid ++ [z])) ++ x :: tl by simp]
         exact get_mid _ _ _ (by rw [List.length_append, List.length_append, List.length_singleton, <- hkl]; omega)
       have g2 : (cpL none (pre ++ [z]) ++ (mid ++ z :: x :: tl))[i + qm]? = some z := by
         rw [show cpL none (pre ++ [z]) ++ (mid ++ z :: x :: tl) = (cpL none (pre ++ [z]) ++ mid) ++ z :: x :: tl by simp]
         exact get_mid _ _ _ (by rw [List.length_append, <- hkl]; omega)
       obtain ⟨y, mid2, hmz⟩ : ∃ y X', mid ++ [z] = y :: X' := List.exists_cons_of_length_pos (by simp)
       have hml : mid2.length = mid.length := by
         have := congrArg List.length hmz
         simp at this
         omega
       have hall : cpL none (pre ++ [z]) ++ (mid ++ z :: x :: tl) = cpL none (pre ++ [z]) ++ y :: (mid2 ++ x :: tl) := by
         rw [show mid ++ z :: x :: tl = (mid ++ [z]) ++ x :: tl by simp, hmz, List.cons_append]
       have g3 : (cpL none (pre ++ [z]) ++ (mid ++ z :: x :: tl))[kl]? = some y := by
         rw [hall]
         exact get_mid _ _ _ hkl
       obtain ⟨ob, a1, a2, a3, a4, a5⟩ := hO.get g1
       obtain ⟨ob2, b1, b2, b3, b4, b5⟩ := hO.get g2
       rw [a1] at b1
       cases b1
       obtain ⟨ob2, b1, _, _, c4, c5⟩ := hO.get g3
       rw [a1] at b1
       cases b1
       have u1 := Hp.at_lt a1
       have qn : q < nl := by omega
       have qn2 : qm < nl := by omega
       have hc2 := cpL_snoc z x pre none
       have exs : xs = (pre ++ [z]) ++ x :: tl := by rw [hxs]; simp
       simp [t0, t3, t4, t5, hw1, a1, a3, qn, qn2, a5, b5]
       by_cases hxz : x = z
       · rw [if_pos hxz, List.append_nil] at hc2
         simp [hxz, t0, t3, t4, t5, hw]
         refine ⟨m - 1, by omega, pre ++ [z], x, mid ++ [z], tl, kl, p + 1, q + 1, exs, by omega, ?_, by simp; omega, by simp [hp], by omega, by omega, by simp [t0], by simp [t3], by simp [t4, hnl2], by simp, hF, ?_⟩
         · rw [List.append_assoc, List.singleton_append, hc2, hkl]
         · rw [List.append_assoc, List.singleton_append, hc2]
           simpa using hO
       · rw [if_neg hxz] at hc2
         simp [hxz, t0, t3, t4, t5, hw, hw3, a1, a2, a3, a5, c4, c5, qn, u1]
         have hs := hO.set (H' := List.set K o (some { ob with rows := ob.rows.set kl [.str x] })) a1 kl x (Hp.at_set _ u1)
         rw [hall, set_mid _ _ _ _ hkl, a3, a2] at hs
         refine ⟨m - 1, by omega, pre ++ [z], x, mid2, tl, kl + 1, p + 1, q + 1, exs, by omega, ?_, by simp; omega, by simp [hp], by omega, by omega, by simp [t0], by simp [t3], by simp [t4, hnl2], by simp, hF.set (.inl rfl) _, ?_⟩
         · rw [List.append_assoc, List.singleton_append, hc2, List.length_append, List.length_singleton, hkl]
         · rw [List.append_assoc, List.singleton_append, hc2, List.append_assoc]
           simpa using hs
     · have : tl = [] := List.length_eq_zero_iff.1 (by omega)
       subst this
       obtain ⟨e1, ob, a1, a2, a3, a4, a5, a6⟩ := Own.ob hO
       rw [List.length_map] at e1 a5
       rw [<- e1] at a5
       have u1 := Hp.at_lt a1
       simp [t0, t3]
       refine cutG_sl (l := kl) a1 a3 (by omega) (by omega) ?_
       obtain ⟨l', z1, z2, z3⟩ := OS.clr (n - kl) (H' := List.set K o (some { ob with rows := clrR ob.rows kl (n - kl) (.str ⟨#[]⟩) })) (i := kl) hO a1 (Hp.at_set _ u1)
       have z4 : l'.take kl = cpL none (pre ++ [z]) := by rw [z3, hkl, List.take_left]
       have z5 : (l'.map strRow).take kl = (cpL none xs).map strRow := by
         rw [<- List.map_take, z4, hxs]
       have z6 : (l'.map strRow).length = n := by
         obtain ⟨e, _⟩ := Own.ob z1
         exact e.symm
       have b1 : kl + (n - kl) <= ob.rows.length := by omega
       simp [t0, t3, a1, a2, a3, b1]
       rw [a2, a3] at z1
       refine cutG_upto (rows := l'.map strRow) (Own.rows z1) kl rfl (by omega) (fun u g1 g2 g3 => ?_)
       have g4 := g3 _ z1
       rw [z5] at g4
       simp
       exact ⟨hF.set (.inl rfl) _ |>.mono (fun y hy => .inl hy.symm), ⟨g4, fun y hy => by have : o = y := g2 y hy; omega⟩, fun y hy => g2 y hy⟩
   · simp [he, t0, t3, hw]
     refine ⟨m - 1, by omega, i + 1, by omega, by omega, by simp, ?_⟩
     rw [ei, cpL_snoc, if_neg he, <- ej, hP, ej, List.append_assoc]
     rfl
 · have : i = n := by omega
   subst this
   rw [hn0, List.take_length] at hP
   simp [t0, hP]
   exact ⟨Fr.refl _ _, hn0 ▸ hv⟩
end Go.Proofs.YtgoeenodllmdpaaGreat.B

namespace Go.Proofs.YtgoeenodllmdpaaGreat.B
open Go.RowKit Go.Proofs
set_option linter.unusedVariables false
set_option linter.unusedSimpArgs false
variable {E : Env}
theorem cpL_len : ∀ (l : List ByteArray) (p : Option ByteArray), (cpL p l).length <= l.length
 | [], p => Nat.le_refl _
 | y :: l, p => by
   rw [cpL]
   split
   · have := cpL_len l p
     rw [List.length_cons]
     omega
   · have := cpL_len l (some y)
     rw [List.length_cons, List.length_cons]
     omega
structure KeysOf (ks zs : List ByteArray) : Prop where
 asc : zs.Pairwise (fun a b => sless a b = true)
 mem : ∀ k, k ∈ zs ↔ k ∈ ks /\ keyOk k = true
 len : zs.length <= ks.length
theorem KeysOf.of {ks ys : List ByteArray} (h : SortOf (ks.filter keyOk) ys) : KeysOf ks (cpL none ys) := by
 refine ⟨(cpL_strict ys none h.2 (fun q hq => by cases hq)).1, fun k => ?_, ?_⟩
 · have := cpL_mem ys none k
   simp only [reduceCtorEq, or_false] at this
   rw [this, h.1.mem_iff, List.mem_filter]
 · have h1 := cpL_len ys none
   have h2 := h.1.length_eq
   have h3 := List.length_filter_le keyOk ks
   omega
theorem KeysSort_ok (v : AV) (ks : List ByteArray) (H : Hp) (hv : Strs H v ks) (hn : ks.length < 1099511627776) (hks : ∀ k ∈ ks, k.size < 4611686018427387904) :
   AC Tryz.prog E 84 [v] H (fun u H' => HLe H H' /\ ∃ zs, OwnS H H' u zs /\ KeysOf ks zs) := by
 refine AC_by fol (tC_le tabJ_ok) h_impl_KeysSort ?_
 have l1 := hv.len
 simp [c_impl_KeysSort, l1, hv.slc]
 refine W_for (fun m t H' => ∃ i u, i + m = ks.length /\ t 6 = v /\ t 3 = u /\ t 7 = .int .i64 ks.length /\ t 8 = .int .i64 (i : Nat) /\ HLe H H' /\ OwnS H H' u ((ks.take i).filter keyOk)) ks.length ?_ (tC_mono AC_mono) ?_
 · exact ⟨0, .nils, by omega, by simp, by simp, by simp, by simp, HLe.refl _, OwnM.nils⟩
 rintro m t H' ⟨i, u, him, t6, t3, t7, t8, hle, hu⟩
 simp [t6, t3, t7, t8, l1, hv.slc]
 refine c_split (fun hq => ?_) (fun hq => ?_) <;> simp at hq
 · have hw := wrapN (i := i) (by omega)
   obtain ⟨o, i0, ob, rfl, a1, a2, a3⟩ := hv.get hq
   have a1' := hle.2 _ _ a1
   have hkey : ∀ {C : CallP} {d : Option Nat} {ag} {p : Plan} {t : Tm} {H : Hp} {K : Tm -> Hp -> Prop}, _ := @fun C d ag p t H K => tabJ_key C d ag p t H K ks[i] (hks _ (List.getElem_mem hq))
   have es : (ks.take (i + 1)).filter keyOk = (ks.take i).filter keyOk ++ if keyOk ks[i] = true then [ks[i]] else [] := by
     rw [List.take_succ_eq_append_getElem hq, List.filter_append]
     congr 1
     by_cases h : keyOk ks[i] = true <;> simp [h]
   simp [t6, t3, t7, t8, a1', a2, a3, hq, hkey]
   have hfl := List.length_filter_le keyOk (ks.take i)
   rw [List.length_take] at hfl
   cases hk : keyOk ks[i] with
   | false =>
     rw [hk] at es
     simp [t6, t3, t7, t8, hw]
     exact ⟨m - 1, by omega, i + 1, by omega, by omega, hle, by rw [es]; simpa using hu⟩
   | true =>
     rw [hk] at es
     simp [t6, t3, t7, t8]
     refine appG_add (y := ks[i]) (row := strRow) (bytes := 16) (H0 := H) hu hle (by omega) rfl (fun v2 K2 g1 g2 g3 g4 => ?_)
     simp [t6, t3, t7, t8, hw]
     exact ⟨m - 1, by omega, i + 1, by omega, by omega, g1, by rw [es]; exact g2⟩
 · have : i = ks.length := by omega
   subst this
   rw [List.take_length] at hu
   have hfl := List.length_filter_le keyOk ks
   simp [t3]
   refine cg_ex (SortS_ok u _ H' hu.1 (by omega)) ?_
   rintro _ K ⟨rfl, ys, hys, hoy, hF⟩
   have hl := hys.1.length_eq
   have hK := hle.fr_le hF hu.2
   simp [t3]
   refine cg_ex (CompactS_ok u ys H K ⟨hoy, hu.2⟩ (by omega)) ?_
   rintro w G ⟨hF2, hw, hsub⟩
   have hG := hK.fr_le hF2 hu.2
   have hcl := cpL_len ys none
   simp
   refine appG_cat (row := strRow) (xs := []) (H0 := H) OwnM.nils hw.rows hG (by simp; omega) (fun v H2 g1 g2 g3 g4 => ?_)
   simp
   exact ⟨g1, _, g2, KeysOf.of hys⟩
end Go.Proofs.YtgoeenodllmdpaaGreat.B

namespace Go.Proofs.YtgoeenodllmdpaaGreat.B
open Go.RowKit Go.Proofs
set_option linter.unusedVariables false
set_option linter.unusedSimpArgs false
def btwK (fr to k : ByteArray) : Bool := !sless k fr && !sless to k
def pickL (s : Sr) (fr to : ByteArray) (t : Int) (k : ByteArray) : Option Ent := match getR s k t with
 | some e => if e.gone = false /\ btwK fr to k = true then some e else none
 | none => none
structure Listed (L : List Ent) (fr to : ByteArray) (t : Int) (out : List Ent) : Prop where
 asc : out.Pairwise (fun a b => sless a.key b.key = true)
 mem : ∀ e, e ∈ out ↔ Best L e.key t e /\ e.gone = false /\ btwK fr to e.key = true
theorem asc_ext : ∀ {a b : List Ent}, a.Pairwise (fun a b => sless a.key b.key = true) -> b.Pairwise (fun a b => sless a.key b.key = true) -> (∀ e, e ∈ a ↔ e ∈ b) -> a = b
 | [], [], _, _, _ => rfl
 | [], y :: b, _, _, h => absurd ((h y).2 (by simp)) (by simp)
 | x :: a, [], _, _, h => absurd ((h x).1 (by simp)) (by simp)
 | x :: a, y :: b, h1, h2, h => by
   obtain ⟨p1, p2⟩ := List.pairwise_cons.1 h1
   obtain ⟨q1, q2⟩ := List.pairwise_cons.1 h2
   have hxy : x = y := by
     rcases List.mem_cons.1 ((h x).1 (by simp)) with e | e
     · exact e
     · rcases List.mem_cons.1 ((h y).2 (by simp)) with e2 | e2
       · exact e2.symm
       · have a1 := q1 x e
         have a2 := p1 y e2
         have := sless_trans a1 a2
         rw [sless_irrefl] at this
         cases this
   subst hxy
   have hx : ∀ {l : List Ent}, (∀ z ∈ l, sless x.key z.key = true) -> x ∉ l := fun hl hm => by
     have := hl x hm
     rw [sless_irrefl] at this
     cases this
   rw [asc_ext p2 q2 (fun e => by
     have h3 := h e
     rw [List.mem_cons, List.mem_cons] at h3
     constructor
     · intro he
       rcases h3.1 (.inr he) with e4 | e4
       · subst e4
         exact absurd he (hx p1)
       · exact e4
     · intro he
       rcases h3.2 (.inr he) with e4 | e4
       · subst e4
         exact absurd he (hx q1)
       · exact e4)]
theorem Listed.ext {L L' : List Ent} {fr to fr' to' : ByteArray} {t t' : Int} {a b : List Ent} (ha : Listed L fr to t a) (hb : Listed L' fr' to' t' b) (h : ∀ e : Ent, e.gone = false -> (Best L e.key t e /\ btwK fr to e.key = true ↔ Best L' e.key t' e /\ btwK fr' to' e.key = true)) : a = b := by
 refine asc_ext ha.asc hb.asc (fun e => ?_)
 rw [ha.mem, hb.mem]
 constructor
 · rintro ⟨h1, h2, h3⟩
   obtain ⟨h4, h5⟩ := (h e h2).1 ⟨h1, h3⟩
   exact ⟨h4, h2, h5⟩
 · rintro ⟨h1, h2, h3⟩
   obtain ⟨h4, h5⟩ := (h e h2).2 ⟨h1, h3⟩
   exact ⟨h4, h2, h5⟩
structure Cov (s : Sr) (fr to : ByteArray) (i : Nat) (ks : List ByteArray) : Prop where
 top : ∀ e ∈ s.top, e.key ∈ ks
 lev : ∀ (j : Nat) (h : j < s.lev.length), j < i -> ∀ e ∈ s.lev[j], btwK fr to e.key = true -> e.key ∈ ks
 ok : ∀ k ∈ ks, keyOk k = true
 len : ks.length <= 100000 * (i + 1)
theorem keys_ent {r : List Ent} (h : ∀ e ∈ r, entOk e = true) : ∀ k ∈ keysR r, keyOk k = true := by
 intro k hk
 obtain ⟨e, he, rfl⟩ := keys1_mem none r k hk
 have := h e he
 simp only [entOk, Bool.and_eq_true] at this
 exact this.1.1.1
theorem Cov.zero {s : Sr} {fr to : ByteArray} (hs : Val s) (hn : s.top.length <= 100000) : Cov s fr to 0 (keysR s.top) :=
 ⟨fun e he => keysR_mem he, fun j h hj => by omega, keys_ent (fun e he => hs.ent e (List.mem_append_left _ he)), by have := keysR_len s.top; omega⟩
theorem Cov.add {s : Sr} {fr to : ByteArray} {i : Nat} {ks : List ByteArray} (h : Cov s fr to i ks) (hs : Val s) (hi : i < s.lev.length) (hn : s.lev[i].length <= 100000) : Cov s fr to (i + 1) (ks ++ keysR s.lev[i]) := by
 refine ⟨fun e he => List.mem_append_left _ (h.top e he), fun j hj hji e he hb => ?_, fun k hk => ?_, ?_⟩
 · rcases Nat.lt_or_ge j i with h1 | h1
   · exact List.mem_append_left _ (h.lev j hj h1 e he hb)
   · have : j = i := by omega
     subst this
     exact List.mem_append_right _ (keysR_mem he)
 · rcases List.mem_append.1 hk with h1 | h1
   · exact h.ok k h1
   · exact keys_ent (fun e he => hs.ent e (List.mem_append_right _ (List.mem_flatten.2 ⟨_, List.getElem_mem hi, he⟩))) k h1
 · have := keysR_len s.lev[i]
   have := h.len
   rw [List.length_append]
   omega
theorem Cov.skip {s : Sr} {fr to : ByteArray} {i : Nat} {ks : List ByteArray} (h : Cov s fr to i ks) (hi : i < s.lev.length) (hn : ∀ e ∈ s.lev[i], btwK fr to e.key = true -> False) : Cov s fr to (i + 1) ks := by
 refine ⟨h.top, fun j hj hji e he hb => ?_, h.ok, by have := h.len; omega⟩
 rcases Nat.lt_or_ge j i with h1 | h1
 · exact h.lev j hj h1 e he hb
 · have : j = i := by omega
   subst this
   exact (hn e he hb).elim
theorem listed_of {s : Sr} {fr to : ByteArray} {t : Int} {ks zs : List ByteArray} (hs : Val s) (hc : Cov s fr to s.lev.length ks) (hz : KeysOf ks zs) : Listed (entsR s) fr to t (zs.filterMap (pickL s fr to t)) := by
 have hp : ∀ {k : ByteArray} {e : Ent}, pickL s fr to t k = some e ↔ Best (entsR s) k t e /\ e.gone = false /\ btwK fr to k = true := by
   intro k e
   unfold pickL
   constructor
   · intro h
     split at h
     · rename_i e' he
       split at h
       · rename_i hc
         obtain rfl := Option.some.inj h
         exact ⟨hs.best.1 he, hc⟩
       · cases h
     · cases h
   · rintro ⟨h1, h2⟩
     rw [hs.best.2 h1]
     simp [h2]
 have hkey : ∀ {k : ByteArray} {e : Ent}, pickL s fr to t k = some e -> e.key = k := fun h => (hp.1 h).1.key
 refine ⟨?_, fun e => ?_⟩
 · rw [List.pairwise_filterMap]
   refine hz.asc.imp (fun {a b} hab x hx y hy => ?_)
   rw [hkey hx, hkey hy]
   exact hab
 · rw [List.mem_filterMap]
   constructor
   · rintro ⟨k, hk, he⟩
     have := hkey he
     subst this
     exact hp.1 he
   · rintro ⟨h1, h2, h3⟩
     refine ⟨e.key, (hz.mem _).2 ?_, hp.2 ⟨h1, h2, h3⟩⟩
     have hin : e.key ∈ ks := by
       rcases List.mem_append.1 h1.mem with h4 | h4
       · exact hc.top e h4
       · obtain ⟨l, hl, he⟩ := List.mem_flatten.1 h4
         obtain ⟨j, hj, rfl⟩ := List.getElem_of_mem hl
         exact hc.lev j hj hj e he h3
     exact ⟨hin, hc.ok _ hin⟩
def ListOf (s : Sr) (fr to : ByteArray) (t : Int) (out : List Ent) : Prop :=
 if storeOk s = true /\ keyOk fr = true /\ keyOk to = true /\ knownR s t = true then Listed (entsR s) fr to t out else out = []
end Go.Proofs.YtgoeenodllmdpaaGreat.B

namespace Go.Proofs.YtgoeenodllmdpaaGreat.B
open Go.RowKit Go.Proofs
set_option linter.unusedVariables false
set_option linter.unusedSimpArgs false
variable {E : Env}
def GaI (s : Sr) (fr to : ByteArray) (time : Int) (a b c d : AV) (H H1 : Hp) (m : Nat) (t : Tm) (K : Hp) : Prop := ∃ (i : Nat) (ks : List ByteArray) (u : AV), i + m = 3 /\ t 1 = .str fr /\ t 2 = .str to /\ t 3 = .int .i64 time /\ t 4 = .pt H.length 0 0 /\ t 9 = u /\ t 40 = b /\ t 41 = .int .i64 3 /\ t 42 = .int .i64 i /\ HLe H1 K /\ OwnS H1 K u ks /\ Cov s fr to i ks
def LiI (s : Sr) (fr to : ByteArray) (time : Int) (H H1 H2 : Hp) (zs : List ByteArray) (w : AV) (m : Nat) (t : Tm) (K : Hp) : Prop := ∃ (i : Nat) (u : AV), i + m = zs.length /\ t 1 = .str fr /\ t 2 = .str to /\ t 3 = .int .i64 time /\ t 4 = .pt H.length 0 0 /\ t 12 = u /\ t 61 = w /\ t 62 = .int .i64 zs.length /\ t 63 = .int .i64 i /\ HLe H2 K /\ OwnE H2 K u ((zs.take i).filterMap (pickL s fr to time))
set_option maxHeartbeats 1600000 in
theorem StoreList_ok (v : AV) (s : Sr) (fr to : ByteArray) (time : Int) (H : Hp) (hs : St H v s) (hb : StB s) (hv : storeOk s = true -> Val s) (hfs : fr.size < 4611686018427387904) (hts : to.size < 4611686018427387904) :
   AC Tryz.prog E 22 [v, .str fr, .str to, .int .i64 time] H (fun u H' => HLe H H' /\ ∃ out, OwnE H H' u out /\ ListOf s fr to time out /\ out.length <= 400000) := by
 have hs0 := hs
 obtain ⟨a, b, c, d, lr, sr, rfl, ha, hb1, hlr, hc, hsr, hd⟩ := hs
 refine AC_by fol (tC_le tabJ_ok) h_impl_StoreList ?_
 obtain ⟨H1, hH1⟩ : ∃ H1 : Hp, H1 = H ++ [some ⟨[[a, b, c, .int .i64 s.keep, .int .i64 s.time, d]], 6, 28, false⟩] := ⟨_, rfl⟩
 have hle1 : HLe H H1 := by rw [hH1]; exact HLe.self _ _
 have b0 : H1.at H.length = some ⟨[[a, b, c, .int .i64 s.keep, .int .i64 s.time, d]], 6, 28, false⟩ := by rw [hH1]; simp
 simp [c_impl_StoreList, stAV, Rows.one ha, hb1.one, hc.one, Rows.one hd, <- hH1, b0]
 have hkeyF : ∀ {C : CallP} {d : Option Nat} {ag} {p : Plan} {t : Tm} {H : Hp} {K : Tm -> Hp -> Prop}, _ := @fun C d ag p t H K => tabJ_key C d ag p t H K fr hfs
 have hkeyT : ∀ {C : CallP} {d : Option Nat} {ag} {p : Plan} {t : Tm} {H : Hp} {K : Tm -> Hp -> Prop}, _ := @fun C d ag p t H K => tabJ_key C d ag p t H K to hts
 have non : (¬ (storeOk s = true /\ keyOk fr = true /\ keyOk to = true /\ knownR s time = true)) -> HLe H H1 /\ ∃ out, OwnE H H1 .nils out /\ ListOf s fr to time out /\ out.length <= 400000 := fun h => ⟨hle1, [], OwnM.nils, by unfold ListOf; rw [if_neg h], Nat.zero_le _⟩
 have cok := implStoreOk_ok (E := E) _ s H1 (hs0.le hle1) hb
 have ckn := known_ok (E := E) _ s time H1 (hs0.le hle1) hb
 simp only [stAV] at cok ckn
 refine cg_use cok ?_
 cases ho : storeOk s with
 | false =>
   simp
   exact non (fun h => by rw [ho] at h; cases h.1)
 | true =>
   simp [hkeyF]
   cases hf : keyOk fr with
   | false =>
     simp
     exact non (fun h => by rw [hf] at h; cases h.2.1)
   | true =>
     simp [hkeyT]
     cases ht : keyOk to with
     | false =>
       simp
       exact non (fun h => by rw [ht] at h; cases h.2.2.1)
     | true =>
       simp [b0]
       refine cg_use ckn ?_
       cases hk : knownR s time with
       | false =>
         simp
         exact non (fun h => by rw [hk] at h; cases h.2.2.2)
       | true =>
         have hval := hv ho
         have hsm := storeOk_small ho
         have e3 : s.lev.length = 3 := hsm.2.2.2.2.2.2.2.1
         have s3 : s.sv.length = 3 := hsm.2.2.2.2.2.2.2.2
         have ll := hlr.length
         have ls := hsr.length
         have l1 := hb1.len
         rw [ll, e3] at l1
         have tn : s.top.length <= 1000 := hsm.1.1
         simp [b0]
         refine cg_ex (keysOf_ok a s.top H1 (ha.le hle1) (by omega)) ?_
         rintro u0 H2 ⟨hle2, hu0⟩
         have b2 := hle2.2 _ _ b0
         simp [b2, l1, hb1.slc]
         refine W_for (GaI s fr to time a b c d H H1) 3 ?_ (tC_mono AC_mono) ?_
         · exact ⟨0, keysR s.top, u0, by omega, by simp, by simp, by simp, by simp, by simp, by simp, by simp, by simp, hle2, hu0, Cov.zero hval (by omega)⟩
         rintro m t K ⟨i, ks, u, him, t1, t2, t3, t4, t9, t40, t41, t42, hle, hu, hcov⟩
         have hleH := hle1.trans hle
         have bK := hle.2 _ _ b0
         have hkl := hcov.len
         simp [t1, t2, t3, t4, t9, t40, t41, t42]
         refine c_split (fun hq => ?_) (fun hq => ?_) <;> simp at hq
         · have hi3 : i < 3 := by omega
           have hil : i < s.lev.length := by omega
           have his : i < s.sv.length := by omega
           have hw := wrapN (i := i) (by omega)
           obtain ⟨o1, i1, ob1, rfl, x1, x2, x3⟩ := hb1.get (j := i) (by omega)
           obtain ⟨y, hy, hye⟩ := hlr.get i (by omega) hil
           rw [hy] at x3
           obtain ⟨o2, i2, ob2, rfl, y1, y2, y3⟩ := hc.get (j := i) (by omega)
           obtain ⟨r, hr, hrs, _⟩ := hsr.get i (by omega) his
           rw [hr] at y3
           have x1' := hleH.2 _ _ x1
           have y1' := hleH.2 _ _ y1
           have q1 : i < lr.length := by omega
           have q2 : i < sr.length := by omega
           have hso := storeOk_level ho hi3 hil his
           obtain ⟨v1, v2, v3, v4⟩ := sieveO_some hso
           have hln : s.lev[i].length <= 1000 := (hsm.2.1 _ (List.getElem_mem hil)).1
           simp [t1, t2, t3, t4, t9, t40, t41, t42, bK, x1', x2, x3, y1', y2, y3, q1, q2]
           have cM := SieveMeets_ok (E := E) (keysR s.lev[i]) s.keep r fr to K v1 ⟨v2, v3⟩ (by rw [<- v4]; exact hrs.le hleH) hfs hts
           rw [<- v4] at cM
           simp only [svAV] at cM
           refine cg_use cM ?_
           cases hm : meetsR (keysR s.lev[i]) s.keep fr to with
           | false =>
             simp [t1, t2, t3, t4, t9, t40, t41, t42, hw]
             refine ⟨m - 1, by omega, i + 1, ks, u, by omega, by simp [t1], by simp [t2], by simp [t3], by simp [t4], by simp [t9], by simp [t40], by simp [t41], by simp, hle, hu, hcov.skip hil (fun e he hbt => ?_)⟩
             simp only [btwK, Bool.and_eq_true, Bool.not_eq_true'] at hbt
             have := meets_sound (keep := s.keep) v1 v2 hf ht (keysR_mem he) hbt.1 hbt.2
             rw [hm] at this
             cases this
           | true =>
             simp [t1, t2, t3, t4, t9, t40, t41, t42]
             refine cg_ex (keysOf_ok y s.lev[i] K (hye.le hleH) (by omega)) ?_
             rintro w K2 ⟨hleK, hw2⟩
             have hkk := keysR_len s.lev[i]
             simp [t1, t2, t3, t4, t9, t40, t41, t42]
             refine appG_cat (row := strRow) (bytes := 16) (H0 := H1) (hu.le hleK) hw2.rows (hle.trans hleK) (by omega) (fun v2 K3 g1 g2 g3 g4 => ?_)
             simp [t1, t2, t3, t4, t9, t40, t41, t42, hw]
             exact ⟨m - 1, by omega, i + 1, ks ++ keysR s.lev[i], v2, by omega, by simp [t1], by simp [t2], by simp [t3], by simp [t4], by simp, by simp [t40], by simp [t41], by simp, g1, g2, hcov.add hval hil (by omega)⟩
         · have : i = 3 := by omega
           subst this
           simp [t1, t2, t3, t4, t9]
           refine cg_ex (KeysSort_ok u ks K hu.rows (by omega) (fun k hk => by have := keyOk_size (hcov.ok k hk); omega)) ?_
           rintro w K2 ⟨hleK, zs, hzs, hkz⟩
           have hzl := hkz.len
           have lz := hzs.len
           rw [<- e3] at hcov
           have hL := listed_of (fr := fr) (to := to) (t := time) hval hcov hkz
           have hle12 := hle.trans hleK
           have bK2 := hleK.2 _ _ bK
           simp [t1, t2, t3, t4, lz, hzs.slc]
           refine W_for (LiI s fr to time H H1 K2 zs w) zs.length ?_ (tC_mono AC_mono) ?_
           · exact ⟨0, .nils, by omega, by simp [t1], by simp [t2], by simp [t3], by simp [t4], by simp, by simp, by simp, by simp, HLe.refl _, OwnM.nils⟩
           clear t1 t2 t3 t4 t9 t40 t41 t42
           rintro m t K3 ⟨i, y, him, t1, t2, t3, t4, t12, t61, t62, t63, hle3, hy⟩
           simp [t1, t2, t3, t4, t12, t61, t62, t63]
           refine c_split (fun hq => ?_) (fun hq => ?_) <;> simp at hq
           · have hw := wrapN (i := i) (by omega)
             obtain ⟨o1, i1, ob1, rfl, x1, x2, x3⟩ := (OwnS.strs hzs).get hq
             have x1' := hle3.2 _ _ x1
             have b3 := hle3.2 _ _ bK2
             have hkz2 : keyOk zs[i] = true := ((hkz.mem _).1 (List.getElem_mem hq)).2
             simp [t1, t2, t3, t4, t12, t61, t62, t63, hq, x1', x2, x3, b3]
             have cF := find_ok (E := E) _ s zs[i] time K3 (hs0.le ((hle1.trans hle12).trans hle3)) hb ho hkz2
             simp only [stAV] at cF
             refine cg_use cF ?_
             have ez : (zs.take (i + 1)).filterMap (pickL s fr to time) = (zs.take i).filterMap (pickL s fr to time) ++ (pickL s fr to time zs[i]).toList := by
               rw [List.take_succ_eq_append_getElem hq, List.filterMap_append]
               congr 1
             cases hg : getR s zs[i] time with
             | none =>
               have hp : pickL s fr to time zs[i] = none := by unfold pickL; rw [hg]
               rw [hp] at ez
               obtain ⟨G, hG⟩ : ∃ G : Hp, G = K3 ++ [some ⟨[[.str ⟨#[]⟩, .int .i64 0, .bool false, .int .i64 0]], 4, 99, false⟩] := ⟨_, rfl⟩
               have hleG : HLe K3 G := by rw [hG]; exact HLe.self _ _
               simp [entAV, entRow]
               simp only [<- hG]
               simp [t1, t2, t3, t4, t12, t61, t62, t63, hw]
               exact ⟨m - 1, by omega, i + 1, y, by omega, by simp [t1], by simp [t2], by simp [t3], by simp [t4], by simp [t12], by simp [t61], by simp [t62], by simp, hle3.trans hleG, by rw [ez]; simpa using hy.le hleG⟩
             | some e =>
               have hek := (hval.best.1 hg).key
               obtain ⟨ek, ev, eg, et⟩ := e
               have hek : ek = zs[i] := hek
               obtain ⟨G, hG⟩ : ∃ G : Hp, G = K3 ++ [some ⟨[[.str ek, .int .i64 ev, .bool eg, .int .i64 et]], 4, 99, false⟩] := ⟨_, rfl⟩
               have hleG : HLe K3 G := by rw [hG]; exact HLe.self _ _
               have bG : G.at K3.length = some ⟨[[.str ek, .int .i64 ev, .bool eg, .int .i64 et]], 4, 99, false⟩ := by rw [hG]; simp
               have hyl := List.length_filterMap_le (pickL s fr to time) (zs.take i)
               rw [List.length_take] at hyl
               simp [entAV, entRow]
               simp only [<- hG]
               have hpn : ¬ (eg = false /\ btwK fr to zs[i] = true) -> (zs.take (i + 1)).filterMap (pickL s fr to time) = (zs.take i).filterMap (pickL s fr to time) := fun h => by
                 have hp : pickL s fr to time zs[i] = none := by unfold pickL; rw [hg]; simp only; rw [if_neg h]
                 rw [ez, hp]
                 simp
               cases heg : eg with
               | true =>
                 simp [t1, t2, t3, t4, t12, t61, t62, t63, hw]
                 exact ⟨m - 1, by omega, i + 1, y, by omega, by simp [t1], by simp [t2], by simp [t3], by simp [t4], by simp [t12], by simp [t61], by simp [t62], by simp, hle3.trans hleG, by rw [hpn (by simp [heg])]; exact hy.le hleG⟩
               | false =>
                 cases hl1 : sless zs[i] fr with
                 | true =>
                   simp [t1, t2, t3, t4, t12, t61, t62, t63, hw, hl1]
                   exact ⟨m - 1, by omega, i + 1, y, by omega, by simp [t1], by simp [t2], by simp [t3], by simp [t4], by simp [t12], by simp [t61], by simp [t62], by simp, hle3.trans hleG, by rw [hpn (by simp [btwK, hl1])]; exact hy.le hleG⟩
                 | false =>
                   cases hl2 : sless to zs[i] with
                   | true =>
                     simp [t1, t2, t3, t4, t12, t61, t62, t63, hw, hl1, hl2]
                     exact ⟨m - 1, by omega, i + 1, y, by omega, by simp [t1], by simp [t2], by simp [t3], by simp [t4], by simp [t12], by simp [t61], by simp [t62], by simp, hle3.trans hleG, by rw [hpn (by simp [btwK, hl1, hl2])]; exact hy.le hleG⟩
                   | false =>
                     subst heg
                     have hp : pickL s fr to time zs[i] = some ⟨ek, ev, false, et⟩ := by unfold pickL; rw [hg]; simp [btwK, hl1, hl2]
                     rw [hp] at ez
                     simp [t1, t2, t3, t4, t12, t61, t62, t63, hw, hl1, hl2, bG]
                     refine appG_add (y := ⟨ek, ev, false, et⟩) (row := entRow) (bytes := 40) (H0 := K2) (hy.le hleG) (hle3.trans hleG) (by omega) rfl (fun v2 K4 g1 g2 g3 g4 => ?_)
                     simp [t1, t2, t3, t4, t12, t61, t62, t63, hw]
                     exact ⟨m - 1, by omega, i + 1, v2, by omega, by simp [t1], by simp [t2], by simp [t3], by simp [t4], by simp, by simp [t61], by simp [t62], by simp, g1, by rw [ez]; exact g2⟩
           · have : i = zs.length := by omega
             subst this
             rw [List.take_length] at hy
             simp [t12]
             exact ⟨(hle1.trans hle12).trans hle3, _, hy.base (by have := (hle1.trans hle12).1; omega), by unfold ListOf; rw [if_pos ⟨ho, hf, ht, hk⟩]; exact hL, by have := List.length_filterMap_le (pickL s fr to time) zs; have := hcov.len; omega⟩
end Go.Proofs.YtgoeenodllmdpaaGreat.B

namespace Go.Proofs.YtgoeenodllmdpaaGreat.B
open Go.RowKit Go.Proofs
set_option linter.unusedVariables false
set_option linter.unusedSimpArgs false
variable {E : Env}
def SameAt (s x : Sr) (t t' : Int) : Prop := ∀ fr to a b, ListOf s fr to t a -> ListOf x fr to t' b -> a = b
theorem SameAt.of {s x : Sr} {t t' : Int} (hs : Val s) (hx : Val x) (hk : knownR s t = knownR x t') (h : knownR s t = true -> ∀ (k : ByteArray) (f : Ent), f.gone = false -> (Best (entsR s) k t f ↔ Best (entsR x) k t' f)) : SameAt s x t t' := by
 intro fr to a b ha hb
 unfold ListOf at ha hb
 rw [hs.ok, hk] at ha
 rw [hx.ok] at hb
 split at ha
 · rename_i hc
   rw [if_pos hc] at hb
   refine ha.ext hb (fun e he => ?_)
   rw [h (hk.trans hc.2.2.2) e.key e he]
 · rename_i hc
   rw [if_neg hc] at hb
   rw [ha, hb]
def LoI (a b c d a' b' c' d' : AV) (s x : Sr) (v : AV) (n : Nat) (H : Hp) (m : Nat) (t : Tm) (K : Hp) : Prop := ∃ i : Nat, i + m = n /\ t 2 = v /\ t 3 = .pt H.length 0 0 /\ t 4 = .pt (H.length + 1) 0 0 /\ t 7 = .int .i64 i /\ HLe H K /\
 K.at H.length = some ⟨[[a, b, c, .int .i64 s.keep, .int .i64 s.time, d]], 6, 28, false⟩ /\ K.at (H.length + 1) = some ⟨[[a', b', c', .int .i64 x.keep, .int .i64 x.time, d']], 6, 28, false⟩
set_option maxHeartbeats 800000 in
theorem ltPast_ok (v v' w : AV) (s x : Sr) (ts : List Int) (H : Hp) (hs : St H v s) (hx : St H v' x) (hb : StB s) (hb' : StB x) (hv : storeOk s = true -> Val s) (hv' : storeOk x = true -> Val x) (hw : Ints H w ts) (hn : ts.length < 1099511627776) (hsame : ∀ t ∈ ts, SameAt s x t t) :
   AC Tryz.prog E 30 [v, v', w] H (fun u H' => u = .bool true /\ HLe H H') := by
 refine AC_by fol (tC_le tabJ_ok) h_laws_ltPast ?_
 have hs0 := hs
 have hx0 := hx
 obtain ⟨a, b, c, d, rfl, n1, n2, n3, n4, _⟩ := hs.shape
 obtain ⟨a', b', c', d', rfl, m1, m2, m3, m4, _⟩ := hx.shape
 obtain ⟨H1, hH1⟩ : ∃ H1 : Hp, H1 = H ++ [some ⟨[[a, b, c, .int .i64 s.keep, .int .i64 s.time, d]], 6, 28, false⟩, some ⟨[[a', b', c', .int .i64 x.keep, .int .i64 x.time, d']], 6, 28, false⟩] := ⟨_, rfl⟩
 have hle1 : HLe H H1 := by rw [hH1]; exact HLe.self _ _
 have b0 : H1.at H.length = some ⟨[[a, b, c, .int .i64 s.keep, .int .i64 s.time, d]], 6, 28, false⟩ := by rw [hH1]; simp
 have b1 : H1.at (H.length + 1) = some ⟨[[a', b', c', .int .i64 x.keep, .int .i64 x.time, d']], 6, 28, false⟩ := by rw [hH1]; simp
 have l1 := hw.len
 have e0 : (⟨#[]⟩ : ByteArray).size < 4611686018427387904 := by decide
 have e5 : (⟨#[100, 100, 100, 100, 100]⟩ : ByteArray).size < 4611686018427387904 := by decide
 simp [c_laws_ltPast, n1, n2, n3, n4, m1, m2, m3, m4, <- hH1]
 refine W_for (LoI a b c d a' b' c' d' s x w ts.length H) ts.length ?_ (tC_mono AC_mono) ?_
 · exact ⟨0, by omega, by simp, by simp, by simp, by simp, hle1, b0, b1⟩
 rintro m t K ⟨i, him, t2, t3, t4, t7, hle, c0, c1⟩
 simp [t2, t3, t4, t7, l1, hw.slc]
 refine c_split (fun hq => ?_) (fun hq => ?_) <;> simp at hq
 · have hwi := wrapN (i := i) (by omega)
   obtain ⟨o, i0, ob, rfl, y1, y2, y3⟩ := hw.get hq
   have y1K := hle.2 _ _ y1
   simp [t2, t3, t4, t7, c0, c1, y1K, y2, y3, hq]
   refine cg_ex (StoreList_ok _ s _ _ ts[i] K (hs0.le hle) hb hv e0 e5) ?_
   rintro u K2 ⟨hle2, out, hu, hL, hl⟩
   have y12 := hle2.2 _ _ y1K
   have c12 := hle2.2 _ _ c1
   simp [t2, t3, t4, t7, c12, y12, y2, y3, hq]
   refine cg_ex (StoreList_ok _ x _ _ ts[i] K2 (hx0.le (hle.trans hle2)) hb' hv' e0 e5) ?_
   rintro u2 K3 ⟨hle3, out2, hu2, hL2, hl2⟩
   have heq := hsame ts[i] (List.getElem_mem hq) _ _ _ _ hL hL2
   subst heq
   simp
   refine cg_use (ltRuns_ok _ _ out out K3 (Rows.le hu.rows hle3) hu2.rows (by omega)) ?_
   simp [t2, t3, t4, t7, hwi]
   exact ⟨m - 1, by omega, i + 1, by omega, by simp [t2], by simp [t3], by simp [t4], by simp, (hle.trans hle2).trans hle3, hle3.2 _ _ (hle2.2 _ _ c0), hle3.2 _ _ c12⟩
 · simp
   exact hle
end Go.Proofs.YtgoeenodllmdpaaGreat.B

namespace Go.Proofs.YtgoeenodllmdpaaGreat.B
open Go.RowKit Go.Proofs
set_option linter.unusedVariables false
set_option linter.unusedSimpArgs false
variable {E : Env}
theorem St.ints {H : Hp} {a b c d : AV} {k t : Int} {s : Sr} (h : St H (.ag [a, b, c, .int .i64 k, .int .i64 t, d]) s) : Ints H d s.tms := by
 obtain ⟨a1, b1, c1, d1, lr, sr, e, _, _, _, _, _, hd⟩ := h
 simp only [stAV, AV.ag.injEq, List.cons.injEq, and_true, true_and] at e
 obtain ⟨rfl, rfl, rfl, _, _, rfl⟩ := e
 exact hd
theorem W_forJ {C : CallP} {id : Nat} {c : CC} {K : Tm -> Hp -> Prop} {Q : Ex -> Tm -> Hp -> Prop} {t : Tm} {H : Hp} (I : Nat -> Tm -> Hp -> Prop) (k : Nat) (J : Tm -> Hp -> Prop) (h0 : I k t H) (hm : CMono C)
   (hs : ∀ k t H, I k t H -> W C c (thenX (fun t' H' => ∃ k', k' < k /\ I k' t' H') (inB id (thenX J Q))) t H) (hJ : ∀ t H, J t H -> K t H) : W C (.block id (.loop c)) (thenX K Q) t H := by
 refine W_mono hm _ _ _ t H (fun e t' H' h => ?_) (W_for (Q := thenX J Q) I k h0 hm hs)
 cases e with
 | normal => exact hJ _ _ h
 | exit id => exact h
 | ret => exact h
theorem St.put6 {H K : Hp} {o : Nat} {a b c d : AV} {s : Sr} {R : List (List AV)} (hle : HLe H K) (ho : H.length <= o) (hb : K.at o = some ⟨R, 6, 28, false⟩) (hs : St K (.ag [a, b, c, .int .i64 s.keep, .int .i64 s.time, d]) s) (X : Option Ob) :
   HLe H (List.set K o X) /\ St (List.set K o X) (.ag [a, b, c, .int .i64 s.keep, .int .i64 s.time, d]) s := by
 have F := Fr.one K o X
 refine ⟨hle.fr_le F (fun x hx => by omega), hs.frE F (e := 6) (by simp) (fun y ob hy hob => ?_)⟩
 rw [hy, hb] at hob
 cases hob
 rfl
def DrawnT (H H' : Hp) (v : AV) : Prop := ∃ w s n, v = .tu [w, .int .i64 n] /\ HLe H H' /\ St H' w s /\ StB s /\ Spl s
def zbox (K : Hp) (o : Nat) : Prop := K.at o = some ⟨[[.nils, .nils, .nils, .int .i64 0, .int .i64 0, .nils]], 6, 28, false⟩
def FrI (H : Hp) (r L : Nat) (m : Nat) (t : Tm) (K : Hp) : Prop := ∃ (i : Nat) (s : Sr), i + m = 6 /\ t 2 = .pt H.length 0 0 /\ t 4 = .pt r 0 0 /\ t 5 = .pt L 0 0 /\ t 6 = .int .i64 i /\ HLe H K /\ zbox K H.length /\ BoxS K L s /\ Spl s /\ Rd K r (411 * (i + 1))
def FrJ (H : Hp) (r L : Nat) (t : Tm) (K : Hp) : Prop := ∃ s : Sr, t 2 = .pt H.length 0 0 /\ t 4 = .pt r 0 0 /\ t 5 = .pt L 0 0 /\ HLe H K /\ zbox K H.length /\ BoxS K L s /\ Spl s /\ Rd K r 4000
theorem BoxS.dr {K K2 : Hp} {r L N : Nat} {s : Sr} (h : BoxS K L s) (hd : Dr r K K2) (hr : Rd K r N) (hne : L ≠ r) : BoxS K2 L s := by
 obtain ⟨a, b, c, d, h1, n1, n2, n3, n4, hs, hB⟩ := h
 exact ⟨a, b, c, d, hd.2 _ _ hne h1, n1, n2, n3, n4, hs.frE hd (e := 2) (by simp) hr.e2, hB⟩
set_option maxHeartbeats 1600000 in
theorem DrawStoreFree_ok (c : AV) (bs : List Int) (H : Hp) (hc : Bytes H c bs) (hn : bs.length < 4611686018427387904) :
   AC Tryz.prog E 63 [c] H (fun v H' => DrawnT H H' v) := by
 refine AC_by fol (tC_le tab2_ok) h_spec_DrawStoreFree ?_
 obtain ⟨H1, hH1⟩ : ∃ H1 : Hp, H1 = H ++ [some ⟨[[.nils, .nils, .nils, .int .i64 0, .int .i64 0, .nils]], 6, 28, false⟩] := ⟨_, rfl⟩
 have hle1 : HLe H H1 := by rw [hH1]; exact HLe.self _ _
 have b1 : H1.at H.length = some ⟨[[.nils, .nils, .nils, .int .i64 0, .int .i64 0, .nils]], 6, 28, false⟩ := by rw [hH1]; simp
 simp [c_spec_DrawStoreFree, <- hH1]
 refine cg_ex (l6Open_ok c bs H1 ⟨hc.1.le hle1, hc.2⟩ hn) ?_
 rintro v H2 ⟨r, rfl, ho, hle2, hr2⟩
 have lH : H.length < H1.length := Hp.at_lt b1
 have b2 := hle2.2 _ _ b1
 have rl := hr2.lt
 simp
 refine cg_ex (l71Spoilt_ok r 0 H2 hr2 (by omega)) ?_
 rintro w H3 ⟨s, hs, hsb, hsp, hd3, hr3⟩
 obtain ⟨xa, xb, xc, xd, rfl, n1, n2, n3, n4, _⟩ := hs.shape
 have b3 := hd3.2 _ _ (show ¬ H.length = r by omega) b2
 have hle3 : HLe H H3 := (hle1.trans hle2).fr_le hd3 (fun x hx => by omega)
 have l3 := hd3.len
 have l12 := hle2.1
 obtain ⟨H4, hH4⟩ : ∃ H4 : Hp, H4 = H3 ++ [some ⟨[[xa, xb, xc, .int .i64 s.keep, .int .i64 s.time, xd]], 6, 28, false⟩] := ⟨_, rfl⟩
 obtain ⟨hle4, c4, hs4⟩ := hs.box hH4
 simp [n1, n2, n3, n4, <- hH4]
 obtain ⟨L, hL⟩ : ∃ L, L = H3.length := ⟨_, rfl⟩
 rw [<- hL] at c4 ⊢
 refine W_forJ (FrI H r L) 6 (FrJ H r L) ?_ (tC_mono AC_mono) ?_ ?_
 · exact ⟨0, s, by omega, by simp, by simp, by simp, by simp, hle3.trans hle4, hle4.2 _ _ b3, ⟨xa, xb, xc, xd, c4, n1, n2, n3, n4, hs4, hsb⟩, hsp, Rd.mono (hr3.le hle4) (by omega)⟩
 · rintro m t K ⟨i, s, him, t2, t4, t5, t6, hle, hz, hbox, hsp, hr⟩
   have hbox0 := hbox
   obtain ⟨a, b, c, d, hb, m1, m2, m3, m4, hs, hB⟩ := hbox
   have hd := hs.ints
   have ld := hd.len
   have hHL : H.length < L := by have := Hp.at_lt b3; omega
   have hLr : L ≠ r := by omega
   have hLl := Hp.at_lt hb
   by_cases hi : i < 6
   · have hiI : (i : Int) < 6 := by omega
     by_cases hl : s.tms.length = 0
     · have hlI : (s.tms.length : Int) = 0 := by omega
       simp [t2, t4, t5, t6, hb, hi, hiI, ld, hd.slc, hl, hlI]
       refine cg_ex (pick_ok r _ 10 K hr (by omega) (by omega)) ?_
       rintro v K2 ⟨n, rfl, hn, hd2, hr2, _⟩
       have hbox2 := hbox0.dr hd2 hr hLr
       have hz2 : zbox K2 H.length := hd2.2 _ _ (by omega) hz
       have hle2 := hle.fr_le hd2 (fun x hx => by omega)
       simp [t2, t4, t5, t6]
       refine c_split (fun hq => ?_) (fun hq => ?_) <;> simp at hq
       · simp [t2, t4, t5, t6]
         refine cg_ex (l71Spoilt_ok r _ K2 hr2 (by omega)) ?_
         rintro w K3 ⟨s', hs', hsb', hsp', hd3, hr3⟩
         obtain ⟨ya, yb, yc, yd, rfl, p1, p2, p3, p4, _⟩ := hs'.shape
         obtain ⟨a2, b2', c2, d2, hb2, _⟩ := hbox2
         have hb3 := hd3.2 _ _ hLr hb2
         have hz3 : zbox K3 H.length := hd3.2 _ _ (by omega) hz2
         have u3 := Hp.at_lt hb3
         have hle3 := hle2.fr_le hd3 (fun x hx => by omega)
         have hw := wrapN (i := i) (by omega)
         simp [t2, t4, t5, t6, p1, p2, p3, p4, hb3, u3, hw]
         have F := Fr.one K3 L (some ⟨[[ya, yb, yc, .int .i64 s'.keep, .int .i64 s'.time, yd]], 6, 28, false⟩)
         exact ⟨m - 1, by omega, i + 1, s', by omega, by simp [t2], by simp [t4], by simp [t5], by simp, hle3.set (by omega) _, F.2 _ _ (by omega) hz3, BoxS.of hb3 hs' hsb', hsp', Rd.mono (hr3.fr F (by omega) (fun x ob hx ho => by rw [hx, hb3] at ho; cases ho; simp)) (by omega)⟩
       · simp
         exact ⟨s, by simp [t2], by simp [t4], by simp [t5], hle2, hz2, hbox2, hsp, Rd.mono hr2 (by omega)⟩
     · have hlI : ¬ (s.tms.length : Int) = 0 := by omega
       simp [t2, t4, t5, t6, hb, hi, hiI, ld, hd.slc, hl, hlI]
       exact ⟨s, t2, t4, t5, hle, hz, hbox0, hsp, Rd.mono hr (by omega)⟩
   · have hiI : ¬ (i : Int) < 6 := by omega
     simp [t2, t4, t5, t6, hb, hi, hiI]
     exact ⟨s, t2, t4, t5, hle, hz, hbox0, hsp, Rd.mono hr (by omega)⟩
 · rintro t K ⟨s, t2, t4, t5, hle, hz, hbox, hsp, hr⟩
   have hbox0 := hbox
   obtain ⟨a, b, c, d, hb, m1, m2, m3, m4, hs, hB⟩ := hbox
   have hd := hs.ints
   have ld := hd.len
   have hHL : H.length < L := by have := Hp.at_lt b3; omega
   have hLr : L ≠ r := by omega
   have hnl : s.tms.length < 1099511627776 := hB.2.2.2.2.1
   have fin : ∀ {G : Hp} {n : Int} {a b c d : AV}, HLe H G -> zbox G H.length -> one a = true -> one b = true -> one c = true -> one d = true -> St G (.ag [a, b, c, .int .i64 s.keep, .int .i64 s.time, d]) s -> DrawnT H (List.set G H.length (some ⟨[[a, b, c, .int .i64 s.keep, .int .i64 s.time, d]], 6, 28, false⟩)) (.tu [.ag [a, b, c, .int .i64 s.keep, .int .i64 s.time, d], .int .i64 n]) := by
     intro G n a b c d h1 h2 q1 q2 q3 q4 h3
     obtain ⟨z1, z2⟩ := h3.put6 h1 (Nat.le_refl _) h2 (some ⟨[[a, b, c, .int .i64 s.keep, .int .i64 s.time, d]], 6, 28, false⟩)
     exact ⟨_, s, n, rfl, z1, z2, hB, hsp⟩
   have last : ∀ {t : Tm} {K : Hp}, t 2 = .pt H.length 0 0 -> t 4 = .pt r 0 0 -> t 5 = .pt L 0 0 -> HLe H K -> zbox K H.length -> BoxS K L s -> Rd K r 4100 -> True := fun _ _ _ _ _ _ _ => trivial
   by_cases hl : 0 < s.tms.length
   · have hlI : (0 : Int) < s.tms.length := by omega
     simp [t2, t4, t5, hb, ld, hd.slc, hl, hlI]
     refine cg_ex (pick_ok r _ 6 K hr (by omega) (by omega)) ?_
     rintro v K2 ⟨n, rfl, hn, hd2, hr2, _⟩
     obtain ⟨a2, b2', c2, d2, hb2, m1', m2', m3', m4', hs2, _⟩ := hbox0.dr hd2 hr hLr
     have hz2 : zbox K2 H.length := hd2.2 _ _ (by omega) hz
     have hle2 := hle.fr_le hd2 (fun x hx => by omega)
     have hdd := hs2.ints
     have ldd := hdd.len
     simp [t2, t4, t5]
     refine c_split (fun hq => ?_) (fun hq => ?_) <;> simp at hq
     · simp [t2, t4, t5, hb2, ldd, hdd.slc]
       refine cg_ex (pick_ok r _ _ K2 hr2 (by omega) (by omega)) ?_
       rintro v K3 ⟨j, rfl, hj, hd3, hr3, _⟩
       have hb3 := hd3.2 _ _ hLr hb2
       have hz3 : zbox K3 H.length := hd3.2 _ _ (by omega) hz2
       have hle3 := hle2.fr_le hd3 (fun x hx => by omega)
       have hs3 := hs2.frE hd3 (e := 2) (by simp) hr2.e2
       have hj' : j < s.tms.length := by omega
       obtain ⟨o1, i1, ob1, hsl, x1, x2, x3⟩ := hs3.ints.get hj'
       have hz3' := hz3
       unfold zbox at hz3'
       have u3 := Hp.at_lt hz3'
       subst hsl
       have hne : o1 ≠ H.length := fun e => by
         rw [e, hz3'] at x1
         cases x1
         simp at x2
       obtain ⟨G, hG⟩ : ∃ G : Hp, G = List.set K3 H.length (some ⟨[[a2, b2', c2, .int .i64 s.keep, .int .i64 s.time, .sl o1 i1 s.tms.length]], 6, 28, false⟩) := ⟨_, rfl⟩
       have F : Fr (fun x => x = H.length) K3 G := by rw [hG]; exact Fr.one _ _ _
       have x1G := F.2 _ _ hne x1
       have hbG := F.2 _ _ (show ¬ L = H.length by omega) hb3
       have hfin := fin (n := s.tms[j]) hle3 hz3 m1' m2' m3' m4' hs3
       rw [<- hG] at hfin
       simp [t2, t4, t5, hb3, hz3', u3, x1, x2, x3, hj', m1', m2', m3', m4']
       simp only [<- hG]
       have hzG : G.at H.length = some ⟨[[a2, b2', c2, .int .i64 s.keep, .int .i64 s.time, .sl o1 i1 s.tms.length]], 6, 28, false⟩ := by rw [hG]; exact Hp.at_set _ u3
       simp [hbG, x1G, x2, x3, hj', hzG]
       exact hfin
     · have hz2' := hz2
       unfold zbox at hz2'
       simp [t2, t4, t5, hb2, hz2']
       refine cg_ex (pick_ok r _ 20 K2 hr2 (by omega) (by omega)) ?_
       rintro v K3 ⟨j, rfl, hj, hd3, hr3, _⟩
       have hb3 := hd3.2 _ _ hLr hb2
       have hz3 : zbox K3 H.length := hd3.2 _ _ (by omega) hz2
       have hle3 := hle2.fr_le hd3 (fun x hx => by omega)
       have hs3 := hs2.frE hd3 (e := 2) (by simp) hr2.e2
       have hz3' := hz3
       unfold zbox at hz3'
       have u3 := Hp.at_lt hz3'
       simp [t2, t4, t5, hb3, hz3', u3, m1', m2', m3', m4', Hp.at_set]
       exact fin hle3 hz3 m1' m2' m3' m4' hs3
   · have hlI : ¬ (0 : Int) < s.tms.length := by omega
     simp [t2, t4, t5, hb, ld, hd.slc, hl, hlI]
     refine cg_ex (pick_ok r _ 20 K hr (by omega) (by omega)) ?_
     rintro v K3 ⟨j, rfl, hj, hd3, hr3, _⟩
     have hb3 := hd3.2 _ _ hLr hb
     have hz3 : zbox K3 H.length := hd3.2 _ _ (by omega) hz
     have hle3 := hle.fr_le hd3 (fun x hx => by omega)
     have hs3 := hs.frE hd3 (e := 2) (by simp) hr.e2
     have hz3' := hz3
     unfold zbox at hz3'
     have u3 := Hp.at_lt hz3'
     simp [t2, t4, t5, hb3, hz3', u3, m1, m2, m3, m4, Hp.at_set]
     exact fin hle3 hz3 m1 m2 m3 m4 hs3
end Go.Proofs.YtgoeenodllmdpaaGreat.B

namespace Go.Proofs.YtgoeenodllmdpaaGreat.B
open Go.RowKit Go.Proofs
set_option linter.unusedVariables false
set_option linter.unusedSimpArgs false
variable {E : Env}
theorem SameAt.ents {s x : Sr} {t : Int} (hs : Val s) (hx : Val x) (h1 : knownR s t = true) (h2 : knownR x t = true) (h : entsR s = entsR x) : SameAt s x t t :=
 SameAt.of hs hx (h1.trans h2.symm) (fun _ k f _ => by rw [h])
end Go.Proofs.YtgoeenodllmdpaaGreat.B

namespace Go.Proofs.YtgoeenodllmdpaaGreat.B
open Go.RowKit Go.Proofs
set_option linter.unusedVariables false
set_option linter.unusedSimpArgs false
variable {E : Env}
theorem filter_one {n : Int} : ∀ {l : List Int}, l.Pairwise (· < ·) -> n ∈ l -> (l.filter (fun y => !decide (y = n))).length + 1 = l.length
 | [], _, h => by cases h
 | x :: l, hp, h => by
   obtain ⟨h1, h2⟩ := List.pairwise_cons.1 hp
   by_cases hx : x = n
   · have hn : l.filter (fun y => !decide (y = n)) = l := by
       rw [List.filter_eq_self]
       intro y hy
       have := h1 y hy
       have hne : y ≠ n := by omega
       simp [hne]
     rw [List.filter_cons_of_neg (by simp [hx]), hn, List.length_cons]
   · have hm : n ∈ l := by
       rcases List.mem_cons.1 h with h3 | h3
       · exact absurd h3.symm hx
       · exact h3
     have := filter_one h2 hm
     rw [List.filter_cons_of_pos (by simp [hx]), List.length_cons, List.length_cons]
     omega
theorem free_again {s x : Sr} {n : Int} (hs : Val s) (hx : freeR s n = some x) : Val x /\ x.time = s.time /\ freeR x n = none /\ x.tms.length + 1 = s.tms.length /\ (∀ t ∈ x.tms, SameAt x s t t) /\ SameAt x s s.time s.time := by
 obtain ⟨a, b, c, u, v, w, h⟩ := hs
 obtain ⟨h1, h2, h3, h4, h5, h6⟩ := free_V h hx
 have hv : Val x := ⟨a, b, c, u, v, w, h1⟩
 have hs : Val s := ⟨a, b, c, u, v, w, h⟩
 have he : entsR x = entsR s := by unfold entsR; rw [h2, h3]
 refine ⟨hv, h4, ?_, ?_, fun t ht => ?_, ?_⟩
 · unfold freeR
   rw [if_pos hv.ok]
   have : x.tms.filter (fun y => !decide (y = n)) = x.tms := by rw [h6, List.filter_filter]; simp
   simp [this]
 · rw [h6]
   refine filter_one ?_ ?_
   · have := h.tms
     simp only [timesR, Bool.and_eq_true] at this
     exact ((asc1_iff _ _ _).1 this.1).2
   · by_cases hm : n ∈ s.tms
     · exact hm
     · unfold freeR at hx
       rw [if_pos hs.ok] at hx
       have : s.tms.filter (fun y => !decide (y = n)) = s.tms := by
         rw [List.filter_eq_self]
         intro y hy
         have hne : y ≠ n := fun e => hm (e ▸ hy)
         simp [hne]
       simp [this] at hx
 · have hts : t ∈ s.tms := by rw [h6] at ht; exact (List.mem_filter.1 ht).1
   exact SameAt.ents hv hs (known_iff.2 (.inl ht)) (known_iff.2 (.inl hts)) he
 · exact SameAt.ents hv hs (known_iff.2 (.inr h4.symm)) (known_now s) he
theorem Val.tml {s : Sr} (h : Val s) : s.tms.length <= 3 := by
 obtain ⟨a, b, c, u, v, w, hv⟩ := h
 have := hv.tms
 simp only [timesR, Bool.and_eq_true, decide_eq_true_eq] at this
 exact this.2
set_option maxHeartbeats 1600000 in
theorem lawStoreFree_ok (c : AV) (bs : List Int) (H : Hp) (hc : Bytes H c bs) (hn : bs.length < 4611686018427387904) :
   AC Tryz.prog E 14 [c] H (fun v H' => v = .bool true) := by
 refine AC_by fol (tC_le tabJ_ok) h_laws_FnStoreFree ?_
 have l1 := hc.len
 simp [c_laws_FnStoreFree, l1, hc.1.slc]
 by_cases q1 : 1048576 < bs.length
 · have q1I : (1048576 : Int) < bs.length := by omega
   simp [q1, q1I]
 have q1I : ¬ (1048576 : Int) < bs.length := by omega
 simp [q1, q1I]
 refine cg_ex (DrawStoreFree_ok c bs H hc hn) ?_
 rintro v H1 ⟨w, s, n, rfl, hle1, hs, hsb, hsp⟩
 obtain ⟨xa, xb, xc, xd, rfl, n1, n2, n3, n4, _⟩ := hs.shape
 obtain ⟨H2, hH2⟩ : ∃ H2 : Hp, H2 = H1 ++ [some ⟨[[xa, xb, xc, .int .i64 s.keep, .int .i64 s.time, xd]], 6, 28, false⟩] := ⟨_, rfl⟩
 obtain ⟨hle2, b2, hs2⟩ := St.box hs hH2
 simp [n1, n2, n3, n4, <- hH2, b2]
 have hsm : ∀ x, freeR s n = some x -> Small x := fun x hx => free_small hx
 refine cg_ex (StoreFree_ok _ s n H2 hs2 hsb) ?_
 intro v H4 hret
 obtain ⟨hle4, hob, ya, yb, yc, yd, rfl, m1, m2, m3, m4, hy⟩ := hret.vl hsm
 obtain ⟨x, hx⟩ : ∃ x, x = (freeR s n).getD sNil := ⟨_, rfl⟩
 rw [<- hx] at hob hy ⊢
 obtain ⟨H5, hH5⟩ : ∃ H5 : Hp, H5 = H4 ++ [some ⟨[[ya, yb, yc, .int .i64 x.keep, .int .i64 x.time, yd]], 6, 28, false⟩] := ⟨_, rfl⟩
 obtain ⟨hle5, c5, hy5⟩ := St.box hy hH5
 have b5 := hle5.2 _ _ (hle4.2 _ _ b2)
 have hs5 := hs2.le (hle4.trans hle5)
 simp [m1, m2, m3, m4, <- hH5, b5]
 refine cg_ex (implFree_ok _ s n H5 hs5 hsb) ?_
 intro v H6 hret6
 obtain ⟨hle6, _, za, zb, zc, zd, rfl, p1, p2, p3, p4, hz⟩ := hret6.ret.vl hsm
 rw [<- hx] at hz ⊢
 obtain ⟨H7, hH7⟩ : ∃ H7 : Hp, H7 = H6 ++ [some ⟨[[za, zb, zc, .int .i64 x.keep, .int .i64 x.time, zd]], 6, 28, false⟩] := ⟨_, rfl⟩
 obtain ⟨hle7, d7, hz7⟩ := St.box hz hH7
 have h57 := hle6.trans hle7
 have b7 := h57.2 _ _ b5
 have c7 := h57.2 _ _ c5
 have hy7 := hy5.le h57
 have hs7 := hs5.le h57
 simp [p1, p2, p3, p4, <- hH7, d7, c7]
 refine cg_use (ltStore_same hz7 hy7 hob) ?_
 cases ho : freeR s n with
 | none =>
   simp [d7, c7]
   refine cg_use (ltStore_same hz7 hy7 hob) ?_
   simp
 | some x' =>
   have hxx : x = x' := by rw [hx, ho]; rfl
   rw [<- hxx] at ho
   have hval := hsp.val (by
     unfold freeR at ho
     split at ho
     · assumption
     · cases ho)
   obtain ⟨hv, ht, ha, hlen, hsame, hnow⟩ := free_again hval ho
   simp [d7]
   refine cg_ex (implFree_ok _ x n H7 hz7 hob) ?_
   intro v H8 hret8
   rw [ha] at hret8
   obtain ⟨hle8, _, wa, wb, wc, wd, rfl, r1, r2, r3, r4, hw⟩ := hret8.ret.vl (fun y hy => by cases hy)
   simp only [Option.getD_none, Option.isSome_none] at hw ⊢
   obtain ⟨H9, hH9⟩ : ∃ H9 : Hp, H9 = H8 ++ [some ⟨[[wa, wb, wc, .int .i64 sNil.keep, .int .i64 sNil.time, wd]], 6, 28, false⟩] := ⟨_, rfl⟩
   obtain ⟨hle9, e9, hw9⟩ := St.box hw hH9
   have h79 := hle8.trans hle9
   have d9 := h79.2 _ _ d7
   have b9 := h79.2 _ _ b7
   have hz9 := hz7.le h79
   have hs9 := hs7.le h79
   have i1 := hz9.ints.len
   have i2 := hs9.ints.len
   have tl := hv.tml
   have hw1 : IntKind.i64.wrap ((s.tms.length : Int) - 1) = (x.tms.length : Int) := by
     rw [wrap64 (by omega) (by omega)]
     omega
   simp [r1, r2, r3, r4, <- hH9, d9]
   refine cg_use (implStoreOk_ok _ x H9 hz9 hob) ?_
   simp [hv.ok, b9, d9, i1, i2, hz9.ints.slc, hs9.ints.slc, hw1]
   refine cg_ex (ltPast_ok _ _ _ x s x.tms H9 hz9 hs9 hob hsb (fun _ => hv) (fun _ => hval) hz9.ints (by omega) hsame) ?_
   rintro v H10 ⟨rfl, hle10⟩
   have d10 := hle10.2 _ _ d9
   have b10 := hle10.2 _ _ b9
   obtain ⟨G, hG⟩ : ∃ G : Hp, G = H10 ++ [some ⟨[[.int .i64 s.time]], 1, 3, false⟩] := ⟨_, rfl⟩
   have hleG : HLe H10 G := by rw [hG]; exact HLe.self _ _
   have tG : G.at H10.length = some ⟨[[.int .i64 s.time]], 1, 3, false⟩ := by rw [hG]; simp
   have hyt : Ints G (.sl H10.length 0 1) [s.time] := Rows.whole tG
   simp [d10, b10, <- hG]
   refine cg_ex (ltPast_ok _ _ _ x s [s.time] G (hz9.le (hle10.trans hleG)) (hs9.le (hle10.trans hleG)) hob hsb (fun _ => hv) (fun _ => hval) hyt (by simp) (fun t ht => by rw [List.mem_singleton.1 ht]; exact hnow)) ?_
   rintro v H11 ⟨rfl, hle11⟩
   simp
end Go.Proofs.YtgoeenodllmdpaaGreat.B
