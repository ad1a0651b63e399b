/- A part of the proof: The program's copy of a store. The program puts a run into a level. Deeds of the program are those of the reference, in plain Lean. The program pushes runs down. The program writes an entry; times are held, and let go. The program holds times, and lets them go. The program's deeds, as function values. The program's store functions: a change of a copy. The reference's stores: deeds are done. The program's store functions. The reference's stores: the past. The program's deeds and its past. The program's past. The program's past, alone and with what is written; a new store. The reference's draws: deeds. The reference's stores: a new one. The reference's draws: stores. The reference's draws: stores. What is found of a key at a time, in plain Lean: trimming leaves it. A run that is let into a level leaves what is found, in plain Lean. Stores that are as they must be; what deeds leave of what is found, in plain Lean. Stores that are drawn, and spoilt; runs and stores are compared. Stores that are spoilt. Stores are compared. Stores are compared, whole. What changes nothing may be left out, in plain Lean. Deeds that change something. A store and deeds are drawn. The way through a sieve, in plain Lean: what branches lead where. A contract of the library at this program. The program's sieve: its bits, its branches. The program's sieve: where a branch leads, what is kept. The program's sieve: whether it lets a key. The program finds a key in a store. What is got of a store, in plain Lean: the newest entry of its key. Stores, keys and values that are drawn. The law FnStorePutOther. What is found of a store that deeds have made is what they put last, in plain Lean. The forks of keys of which only the beginnings are kept, in plain Lean. The kept parts of a sieve, in plain Lean: where branches lead lies behind them; their texts. There is no condition. -/
import Derived.Shelf.Strings.Count
import Derived.Shelf.Lays
import Derived.Ground.NamesProg
import Derived.Test.YtgoeenodllmdpaaGreatProg
import Derived.Test.YtgoeenodllmdpaaGreatM0
import Derived.Test.YtgoeenodllmdpaaGreatM1
import Derived.Test.YtgoeenodllmdpaaGreatM2
import Derived.Test.YtgoeenodllmdpaaGreatM3
namespace Go.Proofs.YtgoeenodllmdpaaGreat.B
open Go.RowKit Go.Proofs
set_option linter.unusedVariables false
set_option linter.unusedSimpArgs false
variable {E : Env}
def LvO (B : Nat) (H : Hp) (row : List AV) (es : List Ent) : Prop := ∃ u, row = [u] /\ Own 4 99 H u (es.map entRow) /\ ∀ y, u.of y -> B <= y
def SvO (B : Nat) (H : Hp) (row : List AV) (s : Sv) : Prop := ∃ r, row = [.str s.l, .str s.m, .str s.f, r, .int .i64 s.k] /\ Own 1 9 H r (s.r.map strRow) /\ ∀ y, r.of y -> B <= y
def rowOf (row : List AV) (y : Nat) : Prop := ∃ u, u ∈ row /\ u.of y
def RowOff (a b : List AV) : Prop := ∀ y, rowOf a y -> ¬ rowOf b y
def SepS (a : AV) (lr sr : List (List AV)) : Prop := OffT a lr /\ lr.Pairwise RowOff /\ sr.Pairwise RowOff
theorem pw_add {R : List (List AV)} {row : List AV} {n : Nat} (h : R.Pairwise RowOff) (hl : ∀ a ∈ R, ∀ y, rowOf a y -> y < n) (hn : ∀ y, rowOf row y -> n <= y) : (R ++ [row]).Pairwise RowOff :=
 List.pairwise_append.2 ⟨h, List.pairwise_singleton _ _, fun a ha b hb y hy hy2 => by
   rw [List.mem_singleton.1 hb] at hy2
   have := hl a ha y hy
   have := hn y hy2
   omega⟩
theorem All2.mem1 {α β : Type} {P : α -> β -> Prop} : ∀ {xs : List α} {ys : List β}, All2 P xs ys -> ∀ x ∈ xs, ∃ y, P x y
 | [], [], _, x, hx => by cases hx
 | a :: xs, b :: ys, h, x, hx => by
   rcases List.mem_cons.1 hx with rfl | hx
   · exact ⟨b, h.1⟩
   · exact All2.mem1 h.2 x hx
structure CpS (H H' : Hp) (L3 i j : Nat) (v1 lv sv v2 : AV) (lr sr : List (List AV)) (s : Sr) : Prop where
 bx : H'.at L3 = some ⟨[[v1, lv, sv, .int .i64 s.keep, .int .i64 s.time, v2]], 6, 28, false⟩
 o1 : OwnE H H' v1 s.top
 o2 : OwnI H H' v2 s.tms
 ol : Own 1 23 H' lv lr
 rl : All2 (LvO H.length H') lr (s.lev.take i)
 nl : ∀ x, lv.of x -> H.length <= x
 os : Own 5 66 H' sv sr
 rs : All2 (SvO H.length H') sr (s.sv.take j)
 ns : ∀ x, sv.of x -> H.length <= x
 n3 : H.length <= L3
 le : HLe H H'
 sep : SepS v1 lr sr
theorem Own.frE {esz ety : Nat} {S : Nat -> Prop} {H H' : Hp} {v : AV} {R : List (List AV)} (h : Own esz ety H v R) (hf : Fr S H H') (hS : ∀ y ob, S y -> H.at y = some ob -> ob.ety ≠ ety) : Own esz ety H' v R := by
 refine h.fr hf (fun y hy hs => ?_)
 rcases h with ⟨rfl, _⟩ | ⟨rfl, _⟩ | ⟨o', ob', rfl, a1, a2, a3, a4, _⟩
 · exact hy.elim
 · exact hy.elim
 · have : o' = y := hy
   subst this
   exact hS _ _ hs a1 a4
theorem OwnM.frE {α : Type} {esz ety : Nat} {row : α -> List AV} {S : Nat -> Prop} {H0 H H' : Hp} {v : AV} {xs : List α} (h : OwnM esz ety row H0 H v xs) (hf : Fr S H H') (hS : ∀ y ob, S y -> H.at y = some ob -> ob.ety ≠ ety) : OwnM esz ety row H0 H' v xs := ⟨h.1.frE hf hS, h.2⟩
section
variable {H H' H2 : Hp} {L3 i j : Nat} {v1 lv sv v2 : AV} {lr sr : List (List AV)} {s : Sr}
theorem CpS.hle (h : CpS H H' L3 i j v1 lv sv v2 lr sr s) (hle : HLe H' H2) : CpS H H2 L3 i j v1 lv sv v2 lr sr s := by
 obtain ⟨h1, h2, h3, h4, h5, h6, h7, h8, h9, h10, h11, h12⟩ := h
 exact ⟨hle.2 _ _ h1, h2.le hle, h3.le hle, h4.le hle, All2.mono (fun _ _ ⟨u, k1, k2, k3⟩ => ⟨u, k1, k2.le hle, k3⟩) h5, h6, h7.le hle, All2.mono (fun _ _ ⟨u, k1, k2, k3⟩ => ⟨u, k1, k2.le hle, k3⟩) h8, h9, h10, h11.trans hle, h12⟩
theorem CpS.lrl (h : CpS H H' L3 i j v1 lv sv v2 lr sr s) : ∀ a ∈ lr, ∀ y, rowOf a y -> y < H'.length := by
 intro a ha y hy
 obtain ⟨es, u, rfl, hu, _⟩ := All2.mem1 h.rl a ha
 obtain ⟨w, hw, hy⟩ := hy
 cases List.mem_singleton.1 hw
 exact hu.lt hy
theorem CpS.srl (h : CpS H H' L3 i j v1 lv sv v2 lr sr s) : ∀ a ∈ sr, ∀ y, rowOf a y -> y < H'.length := by
 intro a ha y hy
 obtain ⟨x, r, rfl, hr, _⟩ := All2.mem1 h.rs a ha
 obtain ⟨w, hw, hy⟩ := hy
 simp only [List.mem_cons, List.mem_nil_iff, or_false] at hw
 rcases hw with rfl | rfl | rfl | rfl | rfl
 · exact hy.elim
 · exact hy.elim
 · exact hy.elim
 · exact hr.lt hy
 · exact hy.elim
theorem CpS.addL {u lv' : AV} (h : CpS H H' L3 i j v1 lv sv v2 lr sr s) (hi : i < s.lev.length) (hu : OwnE H H' u s.lev[i]) {K : Nat} (hK : ∀ y, u.of y -> K <= y) (hv1 : ∀ y, v1.of y -> y < K) (hlk : ∀ a ∈ lr, ∀ y, rowOf a y -> y < K) (g1 : Own 1 23 H2 lv' (lr ++ [[u]])) (g2 : Fr lv.of H' H2) (g3 : ∀ y, lv'.of y -> lv.of y \/ H'.length <= y) :
   CpS H (List.set H2 L3 (some ⟨[[v1, lv', sv, .int .i64 s.keep, .int .i64 s.time, v2]], 6, 28, false⟩)) L3 (i + 1) j v1 lv' sv v2 (lr ++ [[u]]) sr s := by
 obtain ⟨h1, h2, h3, h4, h5, h6, h7, h8, h9, h10, h11, h12⟩ := h
 have hlv : ∀ y ob, lv.of y -> H'.at y = some ob -> ob.ety = 23 := fun y ob hy ho => h4.ety hy ho
 have nb : ¬ lv.of L3 := fun hy => by have := hlv _ _ hy h1; simp at this
 have b2 := g2.2 _ _ nb h1
 have ub := Hp.at_lt b2
 have F : Fr (fun y => y = L3 \/ lv.of y) H' (List.set H2 L3 (some ⟨[[v1, lv', sv, .int .i64 s.keep, .int .i64 s.time, v2]], 6, 28, false⟩)) := (g2.mono (fun y hy => .inl (.inr hy))).set (.inl (.inl rfl)) _
 have hS : ∀ y ob, (y = L3 \/ lv.of y) -> H'.at y = some ob -> ob.ety = 28 \/ ob.ety = 23 := by
   rintro y ob (h | h) ho
   · subst h
     rw [h1] at ho
     cases ho
     exact .inl rfl
   · exact .inr (hlv y ob h ho)
 have hne : ∀ e, e ≠ 28 -> e ≠ 23 -> ∀ y ob, (y = L3 \/ lv.of y) -> H'.at y = some ob -> ob.ety ≠ e := fun e e1 e2 y ob hy ho => by
   rcases hS y ob hy ho with h | h
   · rw [h]
     exact e1.symm
   · rw [h]
     exact e2.symm
 refine ⟨Hp.at_set _ ub, h2.frE F (hne _ (by simp) (by simp)), h3.frE F (hne _ (by simp) (by simp)), g1.fr (Fr.one _ _ _) (fun y hy e => ?_), ?_, fun y hy => ?_, h7.frE F (hne _ (by simp) (by simp)), All2.mono (fun _ _ ⟨u, k1, k2, k3⟩ => ⟨u, k1, k2.frE F (hne _ (by simp) (by simp)), k3⟩) h8, h9, h10, h11.fr_le F (fun y hy => ?_), ⟨h12.1.add (fun y hy hy2 => by have := hK y hy2; have := hv1 y hy; omega), pw_add h12.2.1 hlk (fun y hy => by
   obtain ⟨w, hw, hy⟩ := hy
   cases List.mem_singleton.1 hw
   exact hK y hy), h12.2.2⟩⟩
 · subst e
   exact absurd (g1.ety hy b2) (by simp)
 · rw [List.take_succ_eq_append_getElem hi]
   exact All2.append (All2.mono (fun _ _ ⟨u, k1, k2, k3⟩ => ⟨u, k1, k2.frE F (hne _ (by simp) (by simp)), k3⟩) h5) ⟨⟨u, rfl, hu.1.frE F (hne _ (by simp) (by simp)), hu.2⟩, trivial⟩
 · rcases g3 y hy with h | h
   · exact h6 y h
   · have := h11.1
     omega
 · rcases hy with h | h
   · omega
   · exact h6 y h
theorem CpS.addS {r sv' : AV} (h : CpS H H' L3 i j v1 lv sv v2 lr sr s) (hj : j < s.sv.length) (hr : OwnS H H' r s.sv[j].r) {K : Nat} (hK : ∀ y, r.of y -> K <= y) (hsk : ∀ a ∈ sr, ∀ y, rowOf a y -> y < K) (g1 : Own 5 66 H2 sv' (sr ++ [[.str s.sv[j].l, .str s.sv[j].m, .str s.sv[j].f, r, .int .i64 s.sv[j].k]])) (g2 : Fr sv.of H' H2) (g3 : ∀ y, sv'.of y -> sv.of y \/ H'.length <= y) :
   CpS H (List.set H2 L3 (some ⟨[[v1, lv, sv', .int .i64 s.keep, .int .i64 s.time, v2]], 6, 28, false⟩)) L3 i (j + 1) v1 lv sv' v2 lr (sr ++ [[.str s.sv[j].l, .str s.sv[j].m, .str s.sv[j].f, r, .int .i64 s.sv[j].k]]) s := by
 obtain ⟨h1, h2, h3, h4, h5, h6, h7, h8, h9, h10, h11, h12⟩ := h
 have hlv : ∀ y ob, sv.of y -> H'.at y = some ob -> ob.ety = 66 := fun y ob hy ho => h7.ety hy ho
 have nb : ¬ sv.of L3 := fun hy => by have := hlv _ _ hy h1; simp at this
 have b2 := g2.2 _ _ nb h1
 have ub := Hp.at_lt b2
 have F : Fr (fun y => y = L3 \/ sv.of y) H' (List.set H2 L3 (some ⟨[[v1, lv, sv', .int .i64 s.keep, .int .i64 s.time, v2]], 6, 28, false⟩)) := (g2.mono (fun y hy => .inl (.inr hy))).set (.inl (.inl rfl)) _
 have hS : ∀ y ob, (y = L3 \/ sv.of y) -> H'.at y = some ob -> ob.ety = 28 \/ ob.ety = 66 := by
   rintro y ob (h | h) ho
   · subst h
     rw [h1] at ho
     cases ho
     exact .inl rfl
   · exact .inr (hlv y ob h ho)
 have hne : ∀ e, e ≠ 28 -> e ≠ 66 -> ∀ y ob, (y = L3 \/ sv.of y) -> H'.at y = some ob -> ob.ety ≠ e := fun e e1 e2 y ob hy ho => by
   rcases hS y ob hy ho with h | h
   · rw [h]
     exact e1.symm
   · rw [h]
     exact e2.symm
 refine ⟨Hp.at_set _ ub, h2.frE F (hne _ (by simp) (by simp)), h3.frE F (hne _ (by simp) (by simp)), h4.frE F (hne _ (by simp) (by simp)), All2.mono (fun _ _ ⟨u, k1, k2, k3⟩ => ⟨u, k1, k2.frE F (hne _ (by simp) (by simp)), k3⟩) h5, h6, g1.fr (Fr.one _ _ _) (fun y hy e => ?_), ?_, fun y hy => ?_, h10, h11.fr_le F (fun y hy => ?_), ⟨h12.1, h12.2.1, pw_add h12.2.2 hsk (fun y hy => by
   obtain ⟨w, hw, hy⟩ := hy
   simp only [List.mem_cons, List.mem_nil_iff, or_false] at hw
   rcases hw with rfl | rfl | rfl | rfl | rfl
   · exact hy.elim
   · exact hy.elim
   · exact hy.elim
   · exact hK y hy
   · exact hy.elim)⟩⟩
 · subst e
   exact absurd (g1.ety hy b2) (by simp)
 · rw [List.take_succ_eq_append_getElem hj]
   exact All2.append (All2.mono (fun _ _ ⟨u, k1, k2, k3⟩ => ⟨u, k1, k2.frE F (hne _ (by simp) (by simp)), k3⟩) h8) ⟨⟨r, rfl, hr.1.frE F (hne _ (by simp) (by simp)), hr.2⟩, trivial⟩
 · rcases g3 y hy with h | h
   · exact h9 y h
   · have := h11.1
     omega
 · rcases hy with h | h
   · omega
   · exact h9 y h
def RoOwn (own : Bool) (esz ety : Nat) (H : Hp) (v : AV) (R : List (List AV)) : Prop := if own = true then Own esz ety H v R else Rows esz H v R
theorem RoOwn.rows {own : Bool} {esz ety : Nat} {H : Hp} {v : AV} {R : List (List AV)} (h : RoOwn own esz ety H v R) : Rows esz H v R := by
 cases own
 · exact h
 · exact Own.rows h
theorem RoOwn.one {own : Bool} {esz ety : Nat} {H : Hp} {v : AV} {R : List (List AV)} (h : RoOwn own esz ety H v R) : one v = true := h.rows.one
theorem RoOwn.fr {own : Bool} {S : Nat -> Prop} {esz ety : Nat} {H H' : Hp} {v : AV} {R : List (List AV)} (h : RoOwn own esz ety H v R) (hf : Fr S H H') (hs : ∀ o, v.of o -> ¬ S o) : RoOwn own esz ety H' v R := by
 cases own
 · exact Rows.fr h hf hs
 · exact Own.fr h hf hs
def FarP (own : Bool) (P : AV -> List (List AV) -> List (List AV) -> Prop) (B : Nat) (H : Hp) (v : AV) (s : Sr) : Prop := ∃ a b c d lr sr, v = stAV a b c s d /\ RoOwn own 4 99 H a (s.top.map entRow) /\ RoOwn own 1 23 H b lr /\ All2 (fun row es => ∃ u, row = [u] /\ RoOwn own 4 99 H u (es.map entRow) /\ ∀ y, u.of y -> B <= y) lr s.lev /\ RoOwn own 5 66 H c sr /\
 All2 (fun row s => ∃ r, row = [.str s.l, .str s.m, .str s.f, r, .int .i64 s.k] /\ RoOwn own 1 9 H r (s.r.map strRow) /\ ∀ y, r.of y -> B <= y) sr s.sv /\ RoOwn own 1 3 H d (s.tms.map intRow) /\ (∀ y, a.of y \/ b.of y \/ c.of y \/ d.of y -> B <= y) /\ P a lr sr
abbrev FarS := FarP true SepS
theorem FarP.fr {own : Bool} {S : Nat -> Prop} {P : AV -> List (List AV) -> List (List AV) -> Prop} {B : Nat} {H H' : Hp} {v : AV} {s : Sr} (h : FarP own P B H v s) (hf : Fr S H H') (hS : ∀ y, S y -> y < B \/ ∀ ob, H.at y = some ob -> ob.esz = 6) : FarP own P B H' v s := by
 have key : ∀ {esz ety : Nat} {w : AV} {R : List (List AV)}, RoOwn own esz ety H w R -> esz ≠ 6 -> (∀ y, w.of y -> B <= y) -> RoOwn own esz ety H' w R := by
   intro esz ety w R hr he hw
   refine hr.fr hf (fun y hy hs => ?_)
   rcases hr.rows with ⟨rfl, _⟩ | ⟨rfl, _⟩ | ⟨o, i, ob, rfl, h2, h3, h4⟩
   · exact hy.elim
   · exact hy.elim
   · have : o = y := hy
     subst this
     rcases hS o hs with h | h
     · have := hw o rfl
       omega
     · exact he (by rw [<- h3]; exact h _ h2)
 obtain ⟨a, b, c, d, lr, sr, e, h1, h2, h3, h4, h5, h6, h7, h8⟩ := h
 exact ⟨a, b, c, d, lr, sr, e, key h1 (by simp) (fun y hy => h7 y (.inl hy)), key h2 (by simp) (fun y hy => h7 y (.inr (.inl hy))), All2.mono (fun _ _ ⟨u, k1, k2, k3⟩ => ⟨u, k1, key k2 (by simp) k3, k3⟩) h3,
   key h4 (by simp) (fun y hy => h7 y (.inr (.inr (.inl hy)))), All2.mono (fun _ _ ⟨u, k1, k2, k3⟩ => ⟨u, k1, key k2 (by simp) k3, k3⟩) h5, key h6 (by simp) (fun y hy => h7 y (.inr (.inr (.inr hy)))), h7, h8⟩
theorem FarP.base {own : Bool} {B B' : Nat} {H : Hp} {v : AV} {s : Sr} {P : AV -> List (List AV) -> List (List AV) -> Prop} (h : FarP own P B H v s) (hb : B' <= B) : FarP own P B' H v s := by
 obtain ⟨a, b, c, d, lr, sr, e, h1, h2, h3, h4, h5, h6, h7, h8⟩ := h
 exact ⟨a, b, c, d, lr, sr, e, h1, h2, All2.mono (fun _ _ ⟨u, k1, k2, k3⟩ => ⟨u, k1, k2, fun y hy => Nat.le_trans hb (k3 y hy)⟩) h3, h4, All2.mono (fun _ _ ⟨u, k1, k2, k3⟩ => ⟨u, k1, k2, fun y hy => Nat.le_trans hb (k3 y hy)⟩) h5, h6, fun y hy => Nat.le_trans hb (h7 y hy), h8⟩
theorem FarP.st {own : Bool} {B : Nat} {H : Hp} {v : AV} {s : Sr} {P : AV -> List (List AV) -> List (List AV) -> Prop} (h : FarP own P B H v s) : St H v s := by
 obtain ⟨a, b, c, d, lr, sr, e, h1, h2, h3, h4, h5, h6, h7, h8⟩ := h
 exact ⟨a, b, c, d, lr, sr, e, h1.rows, h2.rows, All2.mono (fun _ _ ⟨u, k1, k2, k3⟩ => ⟨u, k1, k2.rows⟩) h3, h4.rows, All2.mono (fun _ _ ⟨u, k1, k2, k3⟩ => ⟨u, k1, k2.rows, fun _ _ h => h⟩) h5, h6.rows⟩
theorem CpS.fin (h : CpS H H' L3 3 3 v1 lv sv v2 lr sr s) (hl : s.lev.length = 3) (hs : s.sv.length = 3) : MSt H H' (.ag [v1, lv, sv, .int .i64 s.keep, .int .i64 s.time, v2]) s /\ FarS H.length H' (.ag [v1, lv, sv, .int .i64 s.keep, .int .i64 s.time, v2]) s := by
 obtain ⟨h1, h2, h3, h4, h5, h6, h7, h8, h9, h10, h11, h12⟩ := h
 rw [List.take_of_length_le (by omega)] at h5 h8
 have ll := h5.length
 have ls := h8.length
 obtain ⟨ol, rfl⟩ := h4.sl (by omega)
 obtain ⟨os, rfl⟩ := h7.sl (by omega)
 rw [ll] at h4
 rw [ls] at h7
 obtain ⟨e1, obl, b1, -, -, b2, -⟩ := h4.ob
 have hno : ¬ v2.of ol := fun hx => by
   have := h3.1.ety hx b1
   rw [b2] at this
   simp at this
 refine ⟨⟨v1, ol, os, v2, lr, sr, by rw [stAV, ll, ls], h2, h4, All2.mono (fun _ _ ⟨u, k1, k2, k3⟩ => ⟨u, k1, k2.rows⟩) h5, h7, ?_, h3, hno, h6 ol rfl, h9 os rfl, hl, hs, h12.1, fun u hu y hy => by
   obtain ⟨es, w, e, hw, hwb⟩ := All2.mem1 h5 _ hu
   cases e
   exact hwb y hy⟩, v1, _, _, v2, lr, sr, rfl, h2.1, by rw [ll]; exact h4, All2.mono (fun _ _ ⟨u, k1, k2, k3⟩ => ⟨u, k1, k2, k3⟩) h5, by rw [ls]; exact h7, All2.mono (fun _ _ ⟨u, k1, k2, k3⟩ => ⟨u, k1, k2, k3⟩) h8, h3.1, fun y hy => ?_, h12⟩
 rotate_left
 · rcases hy with h | h | h | h
   · exact h2.2 y h
   · exact h6 y h
   · exact h9 y h
   · exact h3.2 y h
 refine All2.mono (fun row x hr => ?_) h8
 obtain ⟨r, k1, k2, k3⟩ := hr
 refine ⟨r, k1, k2.rows, fun y hx hh => ?_⟩
 rcases hh with hh | hh
 · subst hh
   have := k2.ety hx b1
   rw [b2] at this
   simp at this
 · rcases h3.1 with ⟨rfl, _⟩ | ⟨rfl, _⟩ | ⟨o', ob', rfl, a1, a2, a3, a4, _⟩
   · exact hh.elim
   · exact hh.elim
   · have : o' = y := hh
     subst this
     have := k2.ety hx a1
     rw [a4] at this
     simp at this
end
theorem LvRow.own {H : Hp} {row : List AV} {es : List Ent} {B : Nat} (h : LvO B H row es) : LvRow H row es := by
 obtain ⟨u, h1, h2, h3⟩ := h
 exact ⟨u, h1, h2.rows⟩
set_option maxHeartbeats 1600000 in
theorem clone_ok (v : AV) (s : Sr) (H : Hp) (hs : St H v s) (hb : StB s) (hl3 : s.lev.length = 3) (hs3 : s.sv.length = 3) :
   AC Tryz.prog E 150 [v] H (fun u H' => HLe H H' /\ MSt H H' u s /\ FarS H.length H' u s) := by
 obtain ⟨a, b, c, d, lr, sr, rfl, ha, hb1, hlr, hc, hsr, hd⟩ := hs
 obtain ⟨hB1, hB2, hB3, hB4, hB5, hB6, hB7, hB8, hB9⟩ := hb
 refine AC_by fol (tC_le tabJ_ok) h_impl_Store_clone ?_
 have ll := hlr.length
 have ls := hsr.length
 obtain ⟨H1, hH1⟩ : ∃ H1 : Hp, H1 = H ++ [some ⟨[[a, b, c, .int .i64 s.keep, .int .i64 s.time, d]], 6, 28, false⟩, some ⟨[[.nils, .nils, .nils, .int .i64 0, .int .i64 0, .nils]], 6, 28, false⟩] := ⟨_, rfl⟩
 have hle1 : HLe H H1 := by rw [hH1]; exact HLe.self _ _
 have b0 : H1.at H.length = some ⟨[[a, b, c, .int .i64 s.keep, .int .i64 s.time, d]], 6, 28, false⟩ := by rw [hH1]; simp
 have b1 : H1.at (H.length + 1) = some ⟨[[.nils, .nils, .nils, .int .i64 0, .int .i64 0, .nils]], 6, 28, false⟩ := by rw [hH1]; simp
 have hl1 : H1.length = H.length + 2 := by rw [hH1]; simp
 have l1 := hb1.len
 rw [ll, hl3] at l1
 simp [-RgP_both, c_impl_Store_clone, stAV, Rows.one ha, Rows.one hb1, Rows.one hc, Rows.one hd, <- hH1, b0]
 refine RgP_then (tC_mono AC_mono) (fun t H2 => t 1 = .pt H.length 0 0 /\ t 2 = .pt (H.length + 1) 0 0 /\ ∃ L3 v1 v2, t 3 = .pt L3 0 0 /\ H.length + 2 <= L3 /\ HLe H1 H2 /\ CpS H H2 L3 0 0 v1 .nils .nils v2 [] [] s) ?_ ?_
 · have fill : ∀ {H2 : Hp} {L3 : Nat} {v1 v2 : AV}, H2.at L3 = some ⟨[[v1, .nils, .nils, .int .i64 s.keep, .int .i64 s.time, v2]], 6, 28, false⟩ -> OwnE H H2 v1 s.top -> OwnI H H2 v2 s.tms -> H.length <= L3 -> HLe H H2 -> CpS H H2 L3 0 0 v1 .nils .nils v2 [] [] s :=
     fun h1 h2 h3 h4 h5 => ⟨h1, h2, h3, Own.nils, trivial, fun x hx => hx.elim, Own.nils, trivial, fun x hx => hx.elim, h4, h5, OffT.nil _, List.Pairwise.nil, List.Pairwise.nil⟩
   rw [RgP_both]
   refine ⟨?_, ?_⟩
   · simp
     refine cg_ex (cloneRun_ok a s.top H1 (ha.le hle1) hB1.1) ?_
     rintro v1 H2 ⟨hle2, hv1⟩
     have b2 := hle2.2 _ _ b0
     have hv1' := hv1.base hle1.1
     simp [b2]
     refine ⟨?_, ?_⟩
     · refine cg_ex (cloneInts_ok d s.tms H2 (hd.le (hle1.trans hle2)) hB5) ?_
       rintro v2 H3 ⟨hle3, hv2⟩
       have b3 := hle3.2 _ _ b2
       have hv2' := hv2.base (Nat.le_trans hle1.1 hle2.1)
       have u3 := Hp.at_lt b3
       simp [b3, Rows.cells hv1.1.rows, Rows.cells1 hv1.1.rows, Rows.cells hv2.1.rows, Rows.cells1 hv2.1.rows, Rows.one hv1.1.rows, Rows.one hv2.1.rows, Hp.at_app, u3]
       refine ⟨by have := hle2.1; have := hle3.1; omega, (hle2.trans hle3).app _, v1, v2, ?_⟩
       exact fill (by simp) (hv1'.le (hle3.app _)) (hv2'.le (HLe.self _ _)) (by have := hle1.1; have := hle2.1; have := hle3.1; omega) (((hle1.trans hle2).trans hle3).app _)
     · obtain ⟨G, hG⟩ : ∃ G : Hp, G = H2 ++ [some ⟨[[.nils, .nils, .nils, .int .i64 0, .int .i64 0, .nils]], 6, 28, false⟩] := ⟨_, rfl⟩
       have hleG : HLe H2 G := by rw [hG]; exact HLe.self _ _
       have bG : G.at H2.length = some ⟨[[.nils, .nils, .nils, .int .i64 0, .int .i64 0, .nils]], 6, 28, false⟩ := by rw [hG]; simp
       have bbG := hleG.2 _ _ b2
       simp [<- hG, bbG]
       refine cg_ex (cloneInts_ok d s.tms G (hd.le ((hle1.trans hle2).trans hleG)) hB5) ?_
       rintro v2 H3 ⟨hle3, hv2⟩
       have b3 := hle3.2 _ _ bG
       have bb3 := hle3.2 _ _ bbG
       have hv2' := hv2.base (Nat.le_trans (Nat.le_trans hle1.1 hle2.1) hleG.1)
       have u3 := Hp.at_lt b3
       simp [b3, bb3, u3, Rows.cells hv1.1.rows, Rows.cells1 hv1.1.rows, Rows.cells hv2.1.rows, Rows.cells1 hv2.1.rows, Rows.one hv1.1.rows, Rows.one hv2.1.rows]
       have ge := Nat.le_trans hle1.1 hle2.1
       refine ⟨by have := hle2.1; omega, ((hle2.trans hleG).trans hle3).set (by have := hle2.1; omega) _, v1, v2, ?_⟩
       have F := Fr.one H3 H2.length (some ⟨[[v1, .nils, .nils, .int .i64 s.keep, .int .i64 s.time, v2]], 6, 28, false⟩)
       have hne : ∀ e, e ≠ 28 -> ∀ y ob, y = H2.length -> H3.at y = some ob -> ob.ety ≠ e := fun e he y ob hy ho => by
         rw [hy, b3] at ho
         cases ho
         exact he.symm
       exact fill (Hp.at_set _ u3) ((hv1'.le (hleG.trans hle3)).frE F (hne _ (by simp))) (hv2'.frE F (hne _ (by simp))) (by omega) ((((hle1.trans hle2).trans hleG).trans hle3).set (by omega) _)
   · obtain ⟨G, hG⟩ : ∃ G : Hp, G = H1 ++ [some ⟨[[.nils, .nils, .nils, .int .i64 0, .int .i64 0, .nils]], 6, 28, false⟩] := ⟨_, rfl⟩
     have hleG : HLe H1 G := by rw [hG]; exact HLe.self _ _
     have bG : G.at H1.length = some ⟨[[.nils, .nils, .nils, .int .i64 0, .int .i64 0, .nils]], 6, 28, false⟩ := by rw [hG]; simp
     have bbG := hleG.2 _ _ b0
     simp [<- hG, bbG]
     refine cg_ex (cloneRun_ok a s.top G (ha.le (hle1.trans hleG)) hB1.1) ?_
     rintro v1 H2 ⟨hle2, hv1⟩
     have bG2 := hle2.2 _ _ bG
     have bb2 := hle2.2 _ _ bbG
     have hv1' := hv1.base (Nat.le_trans hle1.1 hleG.1)
     simp [bb2]
     refine cg_ex (cloneInts_ok d s.tms H2 (hd.le ((hle1.trans hleG).trans hle2)) hB5) ?_
     rintro v2 H3 ⟨hle3, hv2⟩
     have b3 := hle3.2 _ _ bG2
     have bb3 := hle3.2 _ _ bb2
     have hv2' := hv2.base (Nat.le_trans (Nat.le_trans hle1.1 hleG.1) hle2.1)
     have u3 := Hp.at_lt b3
     simp [b3, bb3, u3, Rows.cells hv1.1.rows, Rows.cells1 hv1.1.rows, Rows.cells hv2.1.rows, Rows.cells1 hv2.1.rows, Rows.one hv1.1.rows, Rows.one hv2.1.rows]
     refine ⟨by omega, ((hleG.trans hle2).trans hle3).set (Nat.le_refl _) _, v1, v2, ?_⟩
     have F := Fr.one H3 H1.length (some ⟨[[v1, .nils, .nils, .int .i64 s.keep, .int .i64 s.time, v2]], 6, 28, false⟩)
     have hne : ∀ e, e ≠ 28 -> ∀ y ob, y = H1.length -> H3.at y = some ob -> ob.ety ≠ e := fun e he y ob hy ho => by
       rw [hy, b3] at ho
       cases ho
       exact he.symm
     exact fill (Hp.at_set _ u3) ((hv1'.le hle3).frE F (hne _ (by simp))) (hv2'.frE F (hne _ (by simp))) (by omega) ((((hle1.trans hleG).trans hle2).trans hle3).set (by omega) _)
 rintro t H2 ⟨t1, t2, L3, v1, v2, t3, hL3, hle2, hC⟩
 have b02 := hle2.2 _ _ b0
 have b12 := hle2.2 _ _ b1
 simp [t1, t2, t3, b02, l1, hb1.slc]
 refine W_for (fun m t H' => ∃ i lv sv lr' sr', i + m = 3 /\ t 1 = .pt H.length 0 0 /\ t 2 = .pt (H.length + 1) 0 0 /\ t 3 = .pt L3 0 0 /\ t 18 = b /\ t 19 = .int .i64 3 /\ t 20 = .int .i64 (i : Nat) /\ H'.at H.length = some ⟨[[a, b, c, .int .i64 s.keep, .int .i64 s.time, d]], 6, 28, false⟩ /\ H'.at (H.length + 1) = some ⟨[[.nils, .nils, .nils, .int .i64 0, .int .i64 0, .nils]], 6, 28, false⟩ /\ CpS H H' L3 i i v1 lv sv v2 lr' sr' s) 3 ?_ (tC_mono AC_mono) ?_
 · exact ⟨0, .nils, .nils, [], [], by simp, by simp [t1], by simp [t2], by simp [t3], by simp, by simp, by simp, b02, b12, hC⟩
 clear t1 t2 t3 hC b02 b12 hle2
 rintro m t H' ⟨i, lv, sv, lr', sr', him, t1, t2, t3, t18, t19, t20, b02, b12, hC⟩
 have n1 : L3 ≠ H.length := by omega
 have n2 : L3 ≠ H.length + 1 := by omega
 simp [t1, t2, t3, t18, t19, t20]
 refine c_split (fun hq => ?_) (fun hq => ?_) <;> simp at hq
 · have hi3 : i < 3 := by omega
   have hil : i < s.lev.length := by omega
   have his : i < s.sv.length := by omega
   have hiI : (i : Int) < 3 := by omega
   have hw := wrapN (i := i) (by omega)
   obtain ⟨o1, i1, ob1, rfl, c1, c2, c3⟩ := hb1.get (j := i) (by omega)
   obtain ⟨u, hu, hue⟩ := hlr.get i (by omega) hil
   rw [hu] at c3
   obtain ⟨o2, i2, ob2, rfl, e1, e2, e3⟩ := hc.get (j := i) (by omega)
   obtain ⟨r, hr, hrs, _⟩ := hsr.get i (by omega) his
   rw [hr] at e3
   have d1 := hC.le.2 _ _ c1
   have hes := hB2 _ (List.getElem_mem hil)
   have hxs := hB6 _ (List.getElem_mem his)
   have hi1 : i < lr.length := by omega
   have hi1I : (i : Int) < lr.length := by omega
   have hi2 : i < sr.length := by omega
   have hi2I : (i : Int) < sr.length := by omega
   have cb := hC.bx
   simp [t1, t2, t3, t18, t19, t20, d1, c2, c3, hi1, hi1I, cb]
   refine cg_ex (cloneRun_ok u s.lev[i] H' (hue.le hC.le) hes.1) ?_
   rintro u2 H3 ⟨hle3, hu2⟩
   have hC3 := hC.hle hle3
   have cb3 := hC3.bx
   have ub3 := Hp.at_lt cb3
   simp [t1, t2, t3, t18, t19, t20, cb3, Hp.at_app, ub3, Rows.cells hu2.1.rows, Rows.cells1 hu2.1.rows, Rows.one hu2.1.rows]
   refine appG_one (bytes := 24) (R := lr') hC3.ol (by have := hC3.rl.length; simp at this; omega) (fun lv4 H4 g1 g2 g3 => ?_)
   have hC4 := hC3.addL hil (hu2.base hC.le.1) (K := H'.length) (fun y hy => hu2.2 y hy) (fun y hy => hC.o1.1.lt hy) hC.lrl g1 g2 g3
   have nbx : ∀ {y : Nat} {ob : Ob}, H3.at y = some ob -> ob.ety = 28 -> ¬ lv.of y := fun ho he hy => by
     have := hC3.ol.ety hy ho
     rw [he] at this
     simp at this
   have cb4 := g2.2 _ _ (nbx cb3 rfl) cb3
   have u4 := Hp.at_lt cb4
   have b04 := g2.2 _ _ (nbx (hle3.2 _ _ b02) rfl) (hle3.2 _ _ b02)
   have b14 := g2.2 _ _ (nbx (hle3.2 _ _ b12) rfl) (hle3.2 _ _ b12)
   obtain ⟨K4, hK4⟩ : ∃ K4 : Hp, K4 = List.set H4 L3 (some ⟨[[v1, lv4, sv, .int .i64 s.keep, .int .i64 s.time, v2]], 6, 28, false⟩) := ⟨_, rfl⟩
   have b0K := (Hp.at_set_ne (x := some ⟨[[v1, lv4, sv, .int .i64 s.keep, .int .i64 s.time, v2]], 6, 28, false⟩) n1).trans b04
   have b1K := (Hp.at_set_ne (x := some ⟨[[v1, lv4, sv, .int .i64 s.keep, .int .i64 s.time, v2]], 6, 28, false⟩) n2).trans b14
   rw [<- hK4] at b0K b1K
   rw [<- hK4] at hC4
   have cbK := hC4.bx
   have f1 := hC4.le.2 _ _ e1
   simp [t1, t2, t3, t18, t19, t20, cb4, u4, Rows.cells g1.rows, Rows.cells1 g1.rows, <- hK4, b0K, cbK, f1, e2, e3, hi2, hi2I]
   have hsk := Sclone_ok (E := E) r s.sv[i] K4 (hrs.le hC4.le) hxs
   simp only [svAV] at hsk
   refine cg_ex hsk ?_
   rintro w H5 ⟨hle5, r2, rfl, hr2⟩
   have hC5 := hC4.hle hle5
   have cb5 := hC5.bx
   have ub5 := Hp.at_lt cb5
   simp [t1, t2, t3, t18, t19, t20, cb5, Hp.at_app, ub5, Rows.one hr2.1.rows]
   refine appG_one (bytes := 80) (R := sr') hC5.os (by have := hC5.rs.length; simp at this; omega) (fun sv6 H6 p1 p2 p3 => ?_)
   have hC6 := hC5.addS his (hr2.base hC4.le.1) (K := K4.length) (fun y hy => hr2.2 y hy) hC4.srl p1 p2 p3
   have nbx2 : ∀ {y : Nat} {ob : Ob}, H5.at y = some ob -> ob.ety = 28 -> ¬ sv.of y := fun ho he hy => by
     have := hC5.os.ety hy ho
     rw [he] at this
     simp at this
   have cb6 := p2.2 _ _ (nbx2 cb5 rfl) cb5
   have u6 := Hp.at_lt cb6
   have b06 := p2.2 _ _ (nbx2 (hle5.2 _ _ b0K) rfl) (hle5.2 _ _ b0K)
   have b16 := p2.2 _ _ (nbx2 (hle5.2 _ _ b1K) rfl) (hle5.2 _ _ b1K)
   simp [t1, t2, t3, t18, t19, t20, cb6, u6, Rows.cells p1.rows, Rows.cells1 p1.rows, hw]
   exact ⟨m - 1, by omega, i + 1, by omega, by omega, by rw [Hp.at_set_ne n1]; exact b06, by rw [Hp.at_set_ne n2]; exact b16, lv4, sv6, _, _, hC6⟩
 · have : i = 3 := by omega
   subst this
   have c0 := hC.bx
   have u1 := Hp.at_lt b12
   simp [t1, t2, t3, c0, b12, u1, Hp.at_set, Rows.one hC.o1.1.rows, Rows.one hC.ol.rows, Rows.one hC.os.rows, Rows.one hC.o2.1.rows]
   have hfin := hC.fin hl3 hs3
   exact ⟨hC.le.set (by omega) _, hfin.1.fr (Fr.one _ _ _) (fun x ob hx ho => by rw [hx, b12] at ho; cases ho; rfl), hfin.2.fr (Fr.one _ _ _) (fun x hx => .inr (fun ob ho => by rw [hx, b12] at ho; cases ho; rfl))⟩
end Go.Proofs.YtgoeenodllmdpaaGreat.B

namespace Go.Proofs.YtgoeenodllmdpaaGreat.B
open Go.RowKit Go.Proofs
set_option linter.unusedVariables false
set_option linter.unusedSimpArgs false
variable {E : Env}
def PSt (H0 H : Hp) (o : Nat) (s : Sr) : Prop := H0.length <= o /\ ∃ a ol os d, H.at o = some ⟨[[a, .sl ol 0 3, .sl os 0 3, .int .i64 s.keep, .int .i64 s.time, d]], 6, 28, false⟩ /\ MSt H0 H (.ag [a, .sl ol 0 3, .sl os 0 3, .int .i64 s.keep, .int .i64 s.time, d]) s
def K4 (H H' : Hp) : Prop := H.length <= H'.length /\ ∀ y ob, H.at y = some ob -> ob.esz = 4 -> H'.at y = some ob
theorem K4.trans {a b c : Hp} (h : K4 a b) (k : K4 b c) : K4 a c := ⟨Nat.le_trans h.1 k.1, fun y ob ho he => k.2 y ob (h.2 y ob ho he) he⟩
theorem Fr.k4 {S : Nat -> Prop} {a b : Hp} (h : Fr S a b) (hS : ∀ y ob, S y -> a.at y = some ob -> ob.esz ≠ 4) : K4 a b := ⟨h.1, fun y ob ho he => h.2 y ob (fun hs => hS y ob hs ho he) ho⟩
end Go.Proofs.YtgoeenodllmdpaaGreat.B

namespace Go.Proofs.YtgoeenodllmdpaaGreat.B
open Go.RowKit
set_option linter.unusedVariables false
set_option linter.unusedSimpArgs false
theorem runOk_nil : runOk [] = true := by decide
theorem runOk_one {e : Ent} (h : entOk e = true) : runOk [e] = true := runOk_of (List.pairwise_singleton _ _) (fun x hx => by rw [List.mem_singleton.1 hx]; exact h) (by simp)
def lowB (p : Option Int) (t : Int) : Bool := match p with
 | none => true
 | some q => decide (q < t)
theorem lowB_iff (p : Option Int) (t : Int) : lowB p t = true ↔ ∀ q, p = some q -> q < t := by
 cases p with
 | none => simp [lowB]
 | some q => simp [lowB]
theorem asc1_cons (now : Int) (p : Option Int) (t : Int) (ts : List Int) : asc1 now p (t :: ts) = (decide (0 <= t) && decide (t <= now) && lowB p t && asc1 now (some t) ts) := by cases p <;> rfl
theorem asc1_iff (now : Int) : ∀ (ts : List Int) (p : Option Int), asc1 now p ts = true ↔ (∀ t ∈ ts, 0 <= t /\ t <= now /\ ∀ q, p = some q -> q < t) /\ ts.Pairwise (· < ·)
 | [], p => by simp [asc1]
 | t :: ts, p => by
   rw [asc1_cons, Bool.and_eq_true, Bool.and_eq_true, Bool.and_eq_true, asc1_iff now ts, List.pairwise_cons]
   simp only [decide_eq_true_eq]
   rw [lowB_iff]
   constructor
   · rintro ⟨⟨⟨h1, h2⟩, h3⟩, h4, h5⟩
     refine ⟨fun x hx => ?_, fun x hx => (h4 x hx).2.2 t rfl, h5⟩
     rcases List.mem_cons.1 hx with rfl | hx
     · exact ⟨h1, h2, h3⟩
     · obtain ⟨g1, g2, g3⟩ := h4 x hx
       exact ⟨g1, g2, fun q hq => by have := h3 q hq; have := g3 t rfl; omega⟩
   · rintro ⟨h1, h2, h3⟩
     obtain ⟨g1, g2, g3⟩ := h1 t (by simp)
     exact ⟨⟨⟨g1, g2⟩, g3⟩, fun x hx => ⟨(h1 x (by simp [hx])).1, (h1 x (by simp [hx])).2.1, fun q hq => by injection hq with hq; rw [<- hq]; exact h2 x hx⟩, h3⟩
theorem holdI_eq {s : Sr} (h : storeOk s = true) : holdI s = holdR s := by
 have ht := (headI_parts (storeOk_ok h).1).2.2.2.2.2
 have hn := (headI_parts (storeOk_ok h).1).2.2.2.2.1
 have ht' := ht
 simp only [timesR, Bool.and_eq_true, decide_eq_true_eq] at ht'
 obtain ⟨h1, h2⟩ := ht'
 rw [asc1_iff] at h1
 obtain ⟨h3, h4⟩ := h1
 have hin : s.time ∈ s.tms ↔ s.tms.getLast? = some s.time := by
   constructor
   · intro hm
     obtain ⟨i, hi, he⟩ := List.mem_iff_getElem.1 hm
     rw [List.getLast?_eq_getElem?, List.getElem?_eq_getElem (by omega)]
     rcases Nat.lt_or_ge i (s.tms.length - 1) with hlt | hge
     · have := List.pairwise_iff_getElem.1 h4 i (s.tms.length - 1) hi (by omega) hlt
       have := (h3 _ (List.getElem_mem (show s.tms.length - 1 < s.tms.length by omega))).2.1
       omega
     · have : s.tms.length - 1 = i := by omega
       simp only [this, he]
   · intro hm
     exact List.mem_of_getLast? hm
 unfold holdI holdR
 rw [if_pos h]
 by_cases hm : s.time ∈ s.tms
 · rw [if_pos hm, if_pos (hin.1 hm)]
   simp only
   rw [if_pos ht]
 · rw [if_neg hm, if_neg (fun e => hm (hin.2 e))]
   simp only
   have hlt : ∀ t ∈ s.tms, t < s.time := fun t hx => by
     have := (h3 t hx).2.1
     have : t ≠ s.time := fun e => hm (by rw [<- e]; exact hx)
     omega
   have hasc : asc1 s.time none (s.tms ++ [s.time]) = true := by
     rw [asc1_iff]
     refine ⟨fun t hx => ?_, List.pairwise_append.2 ⟨h4, List.pairwise_singleton _ _, fun x hx y hy => by rw [List.mem_singleton.1 hy]; exact hlt x hx⟩⟩
     rcases List.mem_append.1 hx with hx | hx
     · exact ⟨(h3 t hx).1, (h3 t hx).2.1, fun q hq => by cases hq⟩
     · rw [List.mem_singleton.1 hx]
       exact ⟨hn.1, Int.le_refl _, fun q hq => by cases hq⟩
   have e : timesR (s.tms ++ [s.time]) s.time = decide (s.tms.length + 1 <= 3) := by
     unfold timesR
     rw [hasc]
     simp
   rw [e]
   simp only [decide_eq_true_eq]
theorem freeI_eq {s : Sr} {t : Int} (h : storeOk s = true) : freeI s t = freeR s t := by
 unfold freeI freeR
 rw [if_pos h]
 simp only
 have hle : (s.tms.filter fun x => !decide (x = t)).length <= s.tms.length := List.length_filter_le _ _
 by_cases he : (s.tms.filter fun x => !decide (x = t)).length = s.tms.length
 · rw [if_neg (by omega), if_pos he]
 · rw [if_pos (by omega), if_neg he]
end Go.Proofs.YtgoeenodllmdpaaGreat.B

namespace Go.Proofs.YtgoeenodllmdpaaGreat.B
open Go.RowKit Go.Proofs
set_option linter.unusedVariables false
set_option linter.unusedSimpArgs false
variable {E : Env}
def att (n : Nat) (s : Sr) (es : List Ent) : Option Sr := (joinI es (s.lev.getD (2 - n) [])).bind fun a => setR s (2 - n) (trimI a s.tms (decide (n = 0)))
theorem pushI_s (n : Nat) (s : Sr) (es : List Ent) : pushI (n + 1) s es = match att (n + 1) s es with
   | some x => some x
   | none => match pushI n s (s.lev.getD (2 - (n + 1)) []) with
     | none => none
     | some x => setR x (2 - (n + 1)) (trimI es x.tms false) := by
 have e : 2 - (n + 1) = 1 - n := by omega
 rw [pushI, att, e]
 simp only [show decide (n + 1 = 0) = false from decide_eq_false (by omega)]
 all_goals
   generalize ((joinI es (s.lev.getD (1 - n) [])).bind fun a => setR s (1 - n) (trimI a s.tms false)) = X
   cases X with
   | some x => rfl
   | none =>
     generalize pushI n s (s.lev.getD (1 - n) []) = Y
     cases Y <;> rfl
def OpR (H0 H : Hp) (o : Nat) (u : AV) (H' : Hp) (r : Option Sr) : Prop := HLe H0 H' /\ K4 H H' /\ match r with
 | some x => u = .bool true /\ PSt H0 H' o x
 | none => u = .bool false
end Go.Proofs.YtgoeenodllmdpaaGreat.B

namespace Go.Proofs.YtgoeenodllmdpaaGreat.B
open Go.RowKit Go.Proofs
set_option linter.unusedVariables false
set_option linter.unusedSimpArgs false
variable {E : Env}
theorem PSt.fr4 {H : Hp} {o : Nat} {r : List (List AV)} (x : Option Ob) (hb : H.at o = some ⟨r, 6, 28, false⟩) : K4 H (List.set H o x) := (Fr.one H o x).k4 (fun y ob hy hob => by rw [hy, hb] at hob; cases hob; simp)
end Go.Proofs.YtgoeenodllmdpaaGreat.B

namespace Go.Proofs.YtgoeenodllmdpaaGreat.B
open Go.RowKit Go.Proofs
set_option linter.unusedVariables false
set_option linter.unusedSimpArgs false
variable {E : Env}
theorem eqI_any (ts : List Int) (x : Int) : ts.any (fun y => decide (x = y)) = decide (x ∈ ts) := by
 rw [Bool.eq_iff_iff, List.any_eq_true, decide_eq_true_iff]
 constructor
 · rintro ⟨y, hy, h⟩
   rw [decide_eq_true_iff] at h
   rw [h]
   exact hy
 · intro h
   exact ⟨x, h, by simp⟩
theorem IndexI_ok (a : AV) (ts : List Int) (x : Int) (H : Hp) (ha : Ints H a ts) (hn : ts.length < 1099511627776) :
   AC Tryz.prog E 213 [a, .int .i64 x] H (fun v H' => v = .int .i64 (idxV (fun y => decide (x = y)) ts) /\ H' = H) := by
 refine AC_byp (tC_le tabJ_ok) h_slices_Index_Sint_int (by simp) ?_
 have l1 := ha.len
 simp [c_slices_Index_Sint_int, l1, ha.slc]
 refine W_for (fun m t H' => ∃ i, i + m = ts.length /\ t 0 = a /\ t 1 = .int .i64 x /\ t 7 = .int .i64 ts.length /\ t 8 = .int .i64 (i : Nat) /\ H' = H /\ ∀ y ∈ ts.take i, decide (x = y) = false) ts.length ?_ (tC_mono AC_mono) ?_
 · exact ⟨0, by simp⟩
 rintro m t H' ⟨i, him, h0, h1, h7, h8, rfl, hI⟩
 simp [h0, h1, h7, h8]
 refine c_split (fun hq => ?_) (fun hq => ?_) <;> simp at hq
 · have hw := wrapN (i := i) (by omega)
   obtain ⟨o, i0, ob, rfl, a1, a2, a3⟩ := ha.get hq
   by_cases hx : x = ts[i]
   · obtain ⟨e1, e2⟩ := findIdx_first (p := fun y => decide (x = y)) hq (by simp [hx]) hI
     simp [h0, h1, h7, h8, hq, a1, a2, a3, hw, eq_true hx]
     simp only [idxV, e1, e2]
     simp
   · simp [h0, h1, h7, h8, hq, a1, a2, a3, hw, hx]
     exact ⟨m - 1, by omega, i + 1, by omega, by omega, fun y hy => by simpa using take_snoc hq (by simp [hx]) hI y hy⟩
 · have : i = ts.length := by omega
   subst this
   rw [List.take_length] at hI
   have : ts.any (fun y => decide (x = y)) = false := by
     rw [List.any_eq_false]
     intro x hx
     rw [hI x hx]
     simp
   simp only [idxV, this]
   simp
theorem ContainsI_ok (a : AV) (ts : List Int) (x : Int) (H : Hp) (ha : Ints H a ts) (hn : ts.length < 1099511627776) :
   AC Tryz.prog E 165 [a, .int .i64 x] H (fun v H' => v = .bool (decide (x ∈ ts)) /\ H' = H) := by
 refine AC_byp (tC_le tabJ_ok) h_slices_Contains_Sint_int (by simp) ?_
 simp [c_slices_Contains_Sint_int]
 refine cg_use (IndexI_ok a ts x H ha hn) ?_
 have := idxV_pos (fun y => decide (x = y)) ts
 rw [eqI_any, decide_eq_true_iff] at this
 simp [this]
theorem PSt.of {H0 H : Hp} {o : Nat} {r : List (List AV)} {a d : AV} {ol os : Nat} {s : Sr} (ho : H0.length <= o) (hb : H.at o = some ⟨r, 6, 28, false⟩) (hm : MSt H0 H (.ag [a, .sl ol 0 3, .sl os 0 3, .int .i64 s.keep, .int .i64 s.time, d]) s) :
   PSt H0 (List.set H o (some ⟨[[a, .sl ol 0 3, .sl os 0 3, .int .i64 s.keep, .int .i64 s.time, d]], 6, 28, false⟩)) o s :=
 ⟨ho, a, ol, os, d, Hp.at_set _ (Hp.at_lt hb), hm.fr (Fr.one H o _) (fun y ob hy hob => by rw [hy, hb] at hob; cases hob; rfl)⟩
theorem cutG_sl {esz o i n l : Nat} {H : Hp} {ob : Ob} {C : CallP} {d : Option Nat} {p : Plan} {t : Tm} {K : Tm -> Hp -> Prop} (ho : H.at o = some ob) (he : ob.esz = esz) (hb : i + n <= ob.rows.length) (hl : l <= n)
   (hk : RgP C p (updO t d (.sl o (i + l) (n - l))) H K) : cutG (.sl o i n) (some (.int .i64 l)) none esz C d p t H K := by
 unfold cutG
 simp only [stepA, Od.ev, Option.map_some, Option.map_none, optI, ho, he, Option.bind_some, if_true]
 rw [show intA (AV.int IntKind.i64 (l : Int)) = some (l : Int) from rfl]
 simp only [Option.bind_some]
 rw [if_pos ⟨by omega, by omega, by omega⟩]
 show RgP C p (updO t d (.sl o (i + (l : Int).toNat) ((n : Int).toNat - (l : Int).toNat))) H K
 simpa only [Int.toNat_natCast] using hk
theorem filter_take1 {p : Int -> Bool} {ts : List Int} {j : Nat} (h : j < ts.length) (hp : p ts[j] = true) (h0 : j = ts.findIdx p) : (ts.take (j + 1)).filter (fun x => !p x) = ts.take j := by
 rw [List.take_succ_eq_append_getElem h, List.filter_append]
 have e : (ts.take j).filter (fun x => !p x) = ts.take j := by
   rw [List.filter_eq_self]
   intro x hx
   obtain ⟨i, hi, rfl⟩ := List.mem_take_iff_getElem.1 hx
   have := List.not_of_lt_findIdx (p := p) (xs := ts) (i := i) (by omega)
   simpa using this
 rw [e]
 simp [hp]
def OI (H : Hp) (o n : Nat) (l : List Int) : Prop := Own 1 3 H (.sl o 0 n) (l.map intRow)
def kep (p : Int -> Bool) (l : List Int) : List Int := l.filter fun x => !p x
theorem OI.get {H : Hp} {o n : Nat} {l : List Int} (h : OI H o n l) {i : Nat} {x : Int} (hi : l[i]? = some x) : ∃ ob, H.at o = some ob /\ ob.ro = false /\ ob.esz = 1 /\ i < n /\ ob.rows[i]? = some [.int .i64 x] := by
 obtain ⟨e, ob, q1, q2, q3, q4, q5, q6⟩ := Own.ob h
 rw [List.length_map] at e q5 q6
 have hl : i < l.length := (List.getElem?_eq_some_iff.1 hi).1
 refine ⟨ob, q1, q2, q3, by omega, ?_⟩
 have : (ob.rows.take l.length)[i]? = (l.map intRow)[i]? := by rw [q6]
 rw [List.getElem?_take, if_pos hl, List.getElem?_map, hi] at this
 exact this
theorem OI.set {H H' : Hp} {o n : Nat} {l : List Int} (h : OI H o n l) {ob : Ob} (ho : H.at o = some ob) (i : Nat) (x : Int) (h' : H'.at o = some { ob with rows := ob.rows.set i [.int .i64 x] }) : OI H' o n (l.set i x) := by
 have := Own.setRow h ho i [.int .i64 x] h'
 unfold OI
 rw [List.map_set]
 exact this
theorem OI.clr {o n : Nat} : ∀ (k : Nat) {H H' : Hp} {l : List Int} {i : Nat} {ob : Ob}, OI H o n l -> H.at o = some ob -> H'.at o = some { ob with rows := clrR ob.rows i k (.int .i64 0) } -> ∃ l', OI H' o n l' /\ l'.length = l.length /\ l'.take i = l.take i
 | 0, H, H', l, i, ob, h, ho, h' => by
   have hlen : l.length <= ob.rows.length := by
     obtain ⟨e, ob', q1, q2, q3, q4, q5, q6⟩ := Own.ob h
     rw [ho] at q1
     cases q1
     simpa using q5
   have := h.set ho ob.rows.length 0 (h'.trans (by rw [List.set_eq_of_length_le (Nat.le_refl _)]; rfl))
   rw [List.set_eq_of_length_le hlen] at this
   exact ⟨l, this, rfl, rfl⟩
 | k + 1, H, H', l, i, ob, h, ho, h' => by
   have h1 := Hp.at_set (some { ob with rows := ob.rows.set i [.int .i64 0] }) (Hp.at_lt ho)
   obtain ⟨l', e1, e2, e3⟩ := OI.clr k (i := i + 1) (h.set ho i 0 h1) h1 h'
   refine ⟨l', e1, by simpa using e2, ?_⟩
   have := congrArg (List.take i) e3
   rw [List.take_take, List.take_take, Nat.min_eq_left (by omega), List.take_set_of_le (Nat.le_refl _)] at this
   exact this
theorem DeleteI_ok (d : AV) (ts : List Int) (g : Nat) (caps : List AV) (p : Int -> Bool) (H0 H : Hp) (hd : OwnI H0 H d ts) (hn : ts.length <= 1000) (hp : ∀ x ∈ ts, ∀ H', Fr d.of H H' -> AC Tryz.prog E g (.int .i64 x :: caps) H' (fun v H2 => v = .bool (p x) /\ H2 = H')) (hg : ∀ x, tabJ g (.int .i64 x :: caps) = none) :
   AC Tryz.prog E 145 [d, .fn g caps] H (fun v H' => Fr d.of H H' /\ OwnI H0 H' v (ts.filter fun x => !p x) /\ ∀ y, v.of y -> d.of y) := by
 refine AC_by fol (tC_le tabJ_ok) h_slices_DeleteFunc_Sint_int ?_
 simp [c_slices_DeleteFunc_Sint_int]
 refine cg_use (IndexInt_ok d ts g caps p H hd.ints (by omega) (fun x hx H' hle => hp x hx H' hle.fr) hg) ?_
 by_cases hany : ts.any p = true
 · have hi : idxV p ts = (ts.findIdx p : Nat) := by rw [idxV, if_pos hany]
   obtain ⟨j0, hj0⟩ : ∃ j0, j0 = ts.findIdx p := ⟨_, rfl⟩
   rw [hi, <- hj0]
   have hne : ¬ (j0 : Int) = -1 := by omega
   have hjl : j0 < ts.length := by rw [hj0]; exact List.findIdx_lt_length_of_exists (by simpa using hany)
   have hpj : p ts[j0] = true := by subst hj0; exact List.findIdx_getElem
   have hw0 := wrapN (i := j0) (by omega)
   obtain ⟨o, rfl⟩ := hd.1.sl (by rw [List.length_map]; omega)
   rw [List.length_map] at hd hp ⊢
   have hlo : H0.length <= o := hd.2 o rfl
   obtain ⟨n, hn0⟩ : ∃ n, n = ts.length := ⟨_, rfl⟩
   rw [<- hn0] at hd hp ⊢
   simp [hne, hw0]
   refine W_for (fun m t H' => ∃ (pre tl mid : List Int), ts = pre ++ tl /\ tl.length = m /\ (kep p pre).length + mid.length = pre.length /\ 0 < mid.length /\ t 0 = .sl o 0 n /\ t 1 = .fn g caps /\ t 5 = .int .i64 ((kep p pre).length : Nat) /\ t 6 = .int .i64 (pre.length : Nat) /\ Fr (fun y => y = o) H H' /\ OI H' o n (kep p pre ++ (mid ++ tl))) (n - (j0 + 1)) ?_ (tC_mono AC_mono) ?_
   · have e1 : kep p (ts.take (j0 + 1)) = ts.take j0 := filter_take1 hjl hpj hj0
     have e2 : ts.take j0 ++ ([ts[j0]] ++ ts.drop (j0 + 1)) = ts := by
       have := List.drop_eq_getElem_cons hjl
       rw [List.singleton_append, <- this, List.take_append_drop]
     have l1 : (ts.take j0).length = j0 := by rw [List.length_take]; omega
     have l2 : (ts.take (j0 + 1)).length = j0 + 1 := by rw [List.length_take]; omega
     refine ⟨ts.take (j0 + 1), ts.drop (j0 + 1), [ts[j0]], (List.take_append_drop _ _).symm, by rw [List.length_drop]; omega, ?_⟩
     rw [e1, e2, l1, l2]
     simp
     exact ⟨Fr.refl _ _, hd.1⟩
   rintro m t H' ⟨pre, tl, mid, hts, hm, hlen, hmid, h0, h1, h5, h6, hF, hO⟩
   have hnl : n = pre.length + tl.length := by rw [hn0, hts, List.length_append]
   simp [h0, h1, h5, h6]
   refine c_split (fun hq => ?_) (fun hq => ?_) <;> simp at hq
   · obtain ⟨x, tl, rfl⟩ : ∃ x X', tl = x :: X' := List.exists_cons_of_length_pos (by omega)
     have hxm : x ∈ ts := by rw [hts]; simp
     have hw := wrapN (i := pre.length) (by omega)
     have hw5 := wrapN (i := (kep p pre).length) (by omega)
     obtain ⟨y, mid, rfl⟩ : ∃ y X', mid = y :: X' := List.exists_cons_of_length_pos (by omega)
     have g1 : (kep p pre ++ (y :: mid ++ x :: tl))[pre.length]? = some x := by
       rw [show kep p pre ++ (y :: mid ++ x :: tl) = (kep p pre ++ y :: mid) ++ x :: tl by simp]
       exact get_mid _ _ _ (by rw [List.length_append]; omega)
     have g2 : (kep p pre ++ (y :: mid ++ x :: tl))[(kep p pre).length]? = some y := get_mid (kep p pre) y (mid ++ x :: tl) rfl
     obtain ⟨ob, q1, q2, q3, q4, q5⟩ := hO.get g1
     obtain ⟨ob2, r1, r2, r3, r4, r5⟩ := hO.get g2
     rw [q1] at r1
     cases r1
     obtain ⟨kl, hkl⟩ : ∃ kl, kl = (kep p pre).length := ⟨_, rfl⟩
     obtain ⟨pl, hpl⟩ : ∃ pl, pl = pre.length := ⟨_, rfl⟩
     rw [<- hkl] at hlen h5 hw5 r4 r5
     rw [<- hpl] at hlen h6 hw q4 q5 hq hnl
     have u1 := Hp.at_lt q1
     simp [h0, h1, h5, h6, q1, q3, q4, q5, hq]
     refine cg_use (hp x hxm H' (hF.mono (fun z hz => .inl hz.symm))) ?_ (hg _)
     have hts2 : ts = (pre ++ [x]) ++ tl := by rw [hts]; simp
     simp only [List.length_cons] at hm hlen
     cases hpx : p x with
     | true =>
       have hk2 : kep p (pre ++ [x]) = kep p pre := by simp [kep, hpx]
       simp [h0, h1, h5, h6, hw]
       refine ⟨m - 1, by omega, pre ++ [x], tl, by simpa using hts2, by omega, y :: mid ++ [x], ?_⟩
       rw [hk2, <- hkl]
       exact ⟨by simp; omega, by simp, rfl, by simp; omega, hF, by simpa using hO⟩
     | false =>
       have hk2 : kep p (pre ++ [x]) = kep p pre ++ [x] := by simp [kep, hpx]
       simp [h0, h1, h5, h6, hw, hw5, q1, q2, q3, r4, r5, u1]
       refine ⟨m - 1, by omega, pre ++ [x], tl, by simpa using hts2, by omega, mid ++ [x], ?_⟩
       rw [hk2]
       have hs := hO.set (H' := List.set H' o (some { ob with rows := ob.rows.set kl [.int .i64 x] })) q1 kl x (Hp.at_set _ u1)
       rw [show kep p pre ++ (y :: mid ++ x :: tl) = kep p pre ++ y :: (mid ++ x :: tl) by simp, set_mid _ _ _ _ hkl, q3, q2] at hs
       exact ⟨by simp; omega, by simp, by simp; omega, by simp; omega, hF.set (.inl rfl) _, by simpa using hs⟩
   · have : tl = [] := List.length_eq_zero_iff.1 (by omega)
     subst this
     obtain ⟨e1, ob, q1, q2, q3, q4, q5, q6⟩ := Own.ob hO
     rw [List.length_map] at e1 q5
     simp only [List.append_nil, List.length_append, List.length_nil, Nat.add_zero] at e1 q5 hts hnl
     obtain ⟨kl, hkl⟩ : ∃ kl, kl = (kep p pre).length := ⟨_, rfl⟩
     rw [<- hkl] at hlen h5 e1
     have u1 := Hp.at_lt q1
     simp [h0, h5]
     refine cutG_sl (l := kl) q1 q3 (by omega) (by omega) ?_
     obtain ⟨l', z1, z2, z3⟩ := OI.clr (n - kl) (H' := List.set H' o (some { ob with rows := clrR ob.rows kl (n - kl) (.int .i64 0) })) (i := kl) hO q1 (Hp.at_set _ u1)
     rw [List.append_nil] at z2 z3
     have z4 : l'.take kl = kep p pre := by rw [z3, hkl]; simp
     have z5 : (l'.map intRow).take kl = (ts.filter fun x => !p x).map intRow := by
       rw [<- List.map_take, z4, hts]
       rfl
     have z6 : (l'.map intRow).length = n := by
       obtain ⟨e, _⟩ := Own.ob z1
       exact e.symm
     have b1 : kl + (n - kl) <= ob.rows.length := by omega
     simp [h0, h5, q1, q2, q3, b1]
     rw [q2, q3] at z1
     refine cutG_upto (rows := l'.map intRow) (Own.rows z1) kl rfl (by omega) (fun u g1 g2 g3 => ?_)
     have g4 := g3 _ z1
     rw [z5] at g4
     simp
     exact ⟨hF.set (.inl rfl) _ |>.mono (fun y hy => .inl hy.symm), ⟨g4, fun y hy => by have : o = y := g2 y hy; omega⟩, fun y hy => g2 y hy⟩
 · have hi : idxV p ts = -1 := by rw [idxV, if_neg hany]
   have hfil : ts.filter (fun x => !p x) = ts := by
     rw [List.filter_eq_self]
     intro x hx
     have := List.any_eq_false.1 (Bool.eq_false_iff.2 hany) x hx
     simpa using this
   rw [hi, hfil]
   simp
   exact ⟨Fr.refl _ _, hd⟩
end Go.Proofs.YtgoeenodllmdpaaGreat.B

namespace Go.Proofs.YtgoeenodllmdpaaGreat.B
open Go.RowKit Go.Proofs
set_option linter.unusedVariables false
set_option linter.unusedSimpArgs false
variable {E : Env}
theorem FreeSays_ok (c : Nat) (t x : Int) (H : Hp) (hc : H.at c = some ⟨[[.int .i64 t]], 1, 3, false⟩) :
   AC Tryz.prog E 146 [.int .i64 x, .pt c 0 0] H (fun v H' => v = .bool (decide (x = t)) /\ H' = H) := by
 refine AC_byp (tC_le tabJ_ok) h_impl_StoreFree_1_1 (by simp) ?_
 simp [c_impl_StoreFree_1_1, hc]
theorem Free1_ok (o c : Nat) (t : Int) (s : Sr) (H0 H : Hp) (hs : PSt H0 H o s) (hle0 : HLe H0 H) (hsm : Small s) (hc : H0.at c = some ⟨[[.int .i64 t]], 1, 3, false⟩) :
   AC Tryz.prog E 144 [.pt o 0 0, .pt c 0 0] H (fun u H' => OpR H0 H o u H' (freeI s t)) := by
 obtain ⟨ho, a, ol, os, d, b0, hm⟩ := hs
 obtain ⟨p1, p2, p3⟩ := hm.parts
 have u0 := Hp.at_lt b0
 have uc := Hp.at_lt hc
 have hc1 := hle0.2 _ _ hc
 refine AC_by fol (tC_le tabJ_ok) h_impl_StoreFree_1 ?_
 have ts3 : s.tms.length <= 1000 := hsm.2.2.1
 have l1 := p2.ints.len
 simp [c_impl_StoreFree_1, b0, l1, p2.ints.slc]
 refine cg_ex (DeleteI_ok d s.tms 146 [.pt c 0 0] (fun x => decide (x = t)) H0 H p2 ts3 (fun x hx H' hF => FreeSays_ok c t x H' (hF.2 _ _ (fun h => by have := p2.2 _ h; omega) hc1)) (fun x => rfl)) ?_
 rintro v H2 ⟨g1, g2, g3⟩
 have nd : ¬ d.of o := fun h => by have := p2.1.ety h b0; simp at this
 have b2 := g1.2 _ _ nd b0
 have u2 := Hp.at_lt b2
 have hm2 := hm.app (ts := s.tms.filter fun x => !decide (x = t)) g1 g2 (fun y hy => .inl (g3 y hy))
 have l2 := g2.ints.len
 simp [b2, u2, Hp.at_set, g2.rows.one, g2.rows.cells, g2.rows.cells1, g2.ints.slc, l2]
 refine ⟨(hle0.fr_le g1 (fun y hy => p2.2 y hy)).set ho _, (g1.k4 (fun y ob hy hob => by rw [p2.1.esz hy hob]; simp)).trans (PSt.fr4 _ b2), ?_⟩
 by_cases htm : t ∈ s.tms
 · have hl : (s.tms.filter fun x => !decide (x = t)).length < s.tms.length := by
     rw [List.length_filter_lt_length_iff_exists]
     exact ⟨t, htm, by simp⟩
   rw [freeI, if_pos hl, decide_eq_true htm]
   exact ⟨rfl, PSt.of (s := { s with tms := s.tms.filter fun x => !decide (x = t) }) ho b2 hm2⟩
 · have hl : ¬ (s.tms.filter fun x => !decide (x = t)).length < s.tms.length := by
     rw [List.length_filter_lt_length_iff_exists]
     rintro ⟨x, hx, hn⟩
     have : x = t := by simpa using hn
     exact htm (this ▸ hx)
   rw [freeI, if_neg hl, decide_eq_false htm]
end Go.Proofs.YtgoeenodllmdpaaGreat.B

namespace Go.Proofs.YtgoeenodllmdpaaGreat.B
open Go.RowKit Go.Proofs
set_option linter.unusedVariables false
set_option linter.unusedSimpArgs false
variable {E : Env}
def RetQ (H0 H : Hp) (u : AV) (o : Option Sr) : Prop := HLe H0 H /\ match o with
 | some x => ∃ w, u = .tu [w, .bool true] /\ MSt H0 H w x /\ FarS H0.length H w x
 | none => u = .tu [zst, .bool false]
theorem RetQ.ret {H0 H : Hp} {u : AV} {o : Option Sr} (h : RetQ H0 H u o) : RetS H0 H u o := by
 obtain ⟨h1, h2⟩ := h
 cases o with
 | none => exact ⟨h1, h2⟩
 | some x =>
   obtain ⟨w, e, hm, _⟩ := h2
   exact ⟨h1, w, e, hm⟩
theorem RetQ.shape {H0 H : Hp} {u : AV} {o : Option Sr} (h : RetQ H0 H u o) : ∃ a b c k t d, u = .tu [.ag [a, b, c, k, t, d], .bool o.isSome] /\ one a = true /\ one b = true /\ one c = true /\ one k = true /\ one t = true /\ one d = true := h.ret.shape
theorem RetQ.fin {S : Nat -> Prop} {H0 H1 H2 H3 : Hp} {u : AV} {o : Option Sr} (h : RetQ H1 H2 u o) (hle : HLe H0 H1) (hf : Fr S H2 H3) (hS : ∀ x ob, S x -> H2.at x = some ob -> ob.esz = 6) (hS2 : ∀ x, S x -> H0.length <= x) : RetQ H0 H3 u o := by
 obtain ⟨h1, h2⟩ := h
 refine ⟨(hle.trans h1).fr_le hf hS2, ?_⟩
 cases o with
 | none => exact h2
 | some x =>
   obtain ⟨w, e, hm, hq⟩ := h2
   exact ⟨w, e, (hm.fr hf hS).base hle.1, (hq.fr hf (fun y hy => .inr (fun ob ho => hS y ob hy ho))).base hle.1⟩
def okThen (s : Sr) (r : Option Sr) : Option Sr := if storeOk s = true then r else none
set_option maxHeartbeats 1600000 in
theorem changed_ok (v : AV) (f : Nat) (caps : List AV) (s : Sr) (r : Option Sr) (H : Hp) (hs : St H v s) (hb : StB s) (hg : ∀ x, tabJ f (.pt x 0 0 :: caps) = none)
   (hf : storeOk s = true -> ∀ o B G, HLe H B -> PSt B G o s -> HLe B G -> AC Tryz.prog E f (.pt o 0 0 :: caps) G (fun u H' => OpR B G o u H' r)) (hx : storeOk s = true -> ∀ x, r = some x -> Small x) :
   AC Tryz.prog E 100 [v, .fn f caps] H (fun u H' => RetQ H H' u (okThen s r)) := by
 have hs0 := hs
 obtain ⟨a, b, c, d, rfl, n1, n2, n3, n4, hea, hed⟩ := hs.shape
 refine AC_by fol (tC_le tabJ_ok) h_impl_changed ?_
 obtain ⟨H1, hH1⟩ : ∃ H1 : Hp, H1 = H ++ [some ⟨[[a, b, c, .int .i64 s.keep, .int .i64 s.time, d]], 6, 28, false⟩, some ⟨[[.nils, .nils, .nils, .int .i64 0, .int .i64 0, .nils]], 6, 28, false⟩] := ⟨_, rfl⟩
 have hle1 : HLe H H1 := by rw [hH1]; exact HLe.self _ _
 have b0 : H1.at H.length = some ⟨[[a, b, c, .int .i64 s.keep, .int .i64 s.time, d]], 6, 28, false⟩ := by rw [hH1]; simp
 have b1 : H1.at (H.length + 1) = some ⟨[[.nils, .nils, .nils, .int .i64 0, .int .i64 0, .nils]], 6, 28, false⟩ := by rw [hH1]; simp
 have hl1 : H1.length = H.length + 2 := by rw [hH1]; simp
 have u1 := Hp.at_lt b1
 simp [c_impl_changed, n1, n2, n3, n4, <- hH1, b0]
 refine cg_use (implStoreOk_ok _ s H1 (hs0.le hle1) hb) ?_
 cases hso : storeOk s with
 | false =>
   simp [b1, Hp.at_set, u1, okThen, hso, RetQ]
   exact hle1.set (by omega) _
 | true =>
 have hsm := storeOk_small hso
 simp [b0]
 refine cg_ex (clone_ok _ s H1 (hs0.le hle1) hb hsm.2.2.2.2.2.2.2.1 hsm.2.2.2.2.2.2.2.2) ?_
 rintro v2 H2 ⟨hle2, hm2, -⟩
 obtain ⟨xa, xl, xs, xd, rfl, xn1, xn2, xdi⟩ := hm2.shape
 have b12 := hle2.2 _ _ b1
 obtain ⟨G, hG⟩ : ∃ G : Hp, G = H2 ++ [some ⟨[[xa, .sl xl 0 3, .sl xs 0 3, .int .i64 s.keep, .int .i64 s.time, xd]], 6, 28, false⟩] := ⟨_, rfl⟩
 have hleG : HLe H2 G := by rw [hG]; exact HLe.self _ _
 have bG : G.at H2.length = some ⟨[[xa, .sl xl 0 3, .sl xs 0 3, .int .i64 s.keep, .int .i64 s.time, xd]], 6, 28, false⟩ := by rw [hG]; simp
 simp [xn1, xn2, <- hG]
 have hps : PSt H1 G H2.length s := ⟨hle2.1, _, _, _, _, bG, hm2.le hleG⟩
 refine cg_ex (hf hso H2.length H1 G hle1 hps (hle2.trans hleG)) ?_ (hg _)
 rintro u H3 ⟨q1, q2, q3⟩
 have b3 := q1.2 _ _ b1
 have u3 := Hp.at_lt b3
 cases r with
 | none =>
   obtain rfl := q3
   simp [b3, u3, Hp.at_set, okThen, hso, RetQ]
   exact (hle1.trans q1).set (by omega) _
 | some x =>
   obtain ⟨rfl, hx3⟩ := q3
   have hsx := hx hso x rfl
   obtain ⟨ho, ya, yl, ys, yd, bo, hmx⟩ := hx3
   have p := hmx.parts
   simp [b3, bo, p.1.rows.one, p.2.1.rows.one]
   refine cg_ex (clone_ok _ x H3 hmx.st hsx.stB hsx.2.2.2.2.2.2.2.1 hsx.2.2.2.2.2.2.2.2) ?_
   rintro v4 H4 ⟨hle4, hm4, hq4⟩
   obtain ⟨za, zl, zs, zd, rfl, zn1, zn2, zdi⟩ := hm4.shape
   have b4 := hle4.2 _ _ b3
   have u4 := Hp.at_lt b4
   simp [zn1, zn2, b4, u4, Hp.at_set, okThen, hso, RetQ]
   have F := Fr.one H4 (H.length + 1) (some ⟨[[za, .sl zl 0 3, .sl zs 0 3, .int .i64 x.keep, .int .i64 x.time, zd]], 6, 28, false⟩)
   exact ⟨((hle1.trans q1).trans hle4).set (by omega) _, (hm4.fr F (fun y ob hy ho => by rw [hy, b4] at ho; cases ho; rfl)).base ((hle1.trans q1).1), (hq4.fr F (fun y hy => .inr (fun ob ho => by rw [hy, b4] at ho; cases ho; rfl))).base ((hle1.trans q1).1)⟩
end Go.Proofs.YtgoeenodllmdpaaGreat.B

namespace Go.Proofs.YtgoeenodllmdpaaGreat.B
open Go.RowKit Go.Proofs
set_option linter.unusedVariables false
set_option linter.unusedSimpArgs false
variable {E : Env}
theorem RetH.toS {H0 H : Hp} {u : AV} {s : Sr} {o : Option Sr} (h : RetH H0 H u s o) : ∃ w n ok, u = .tu [w, n, ok] /\ RetS H0 H (.tu [w, ok]) o := by
 obtain ⟨h1, h2⟩ := h
 cases o with
 | none => exact ⟨_, _, _, h2, h1, rfl⟩
 | some x =>
   obtain ⟨w, e, hm⟩ := h2
   exact ⟨_, _, _, e, h1, w, rfl, hm⟩
theorem l13Do_ok (v : AV) (s : Sr) (e : Dd) (H : Hp) (hs : St H v s) (hb : StB s) (hk : e.key.size < 4611686018427387904) :
   AC Tryz.prog E 72 [v, ddAV e] H (fun u H' => RetS H H' u (doR s e)) := by
 have hs0 := hs
 obtain ⟨a, b, c, d, rfl, n1, n2, n3, n4, hea, hed⟩ := hs.shape
 refine AC_by fol (tC_le tab2_ok) h_spec_l13Do ?_
 obtain ⟨H1, hH1⟩ : ∃ H1 : Hp, H1 = H ++ [some ⟨[[a, b, c, .int .i64 s.keep, .int .i64 s.time, d]], 6, 28, false⟩, some ⟨[[.int .i64 e.kind, .str e.key, .int .i64 e.num]], 3, 47, false⟩, some ⟨[[.nils, .nils, .nils, .int .i64 0, .int .i64 0, .nils]], 6, 28, false⟩] := ⟨_, rfl⟩
 have hle1 : HLe H H1 := by rw [hH1]; exact HLe.self _ _
 have b0 : H1.at H.length = some ⟨[[a, b, c, .int .i64 s.keep, .int .i64 s.time, d]], 6, 28, false⟩ := by rw [hH1]; simp
 have b1 : H1.at (H.length + 1) = some ⟨[[.int .i64 e.kind, .str e.key, .int .i64 e.num]], 3, 47, false⟩ := by rw [hH1]; simp
 have b2 : H1.at (H.length + 2) = some ⟨[[.nils, .nils, .nils, .int .i64 0, .int .i64 0, .nils]], 6, 28, false⟩ := by rw [hH1]; simp
 have hl1 : H1.length = H.length + 3 := by rw [hH1]; simp
 have u2 := Hp.at_lt b2
 have hs1 := hs0.le hle1
 simp [c_spec_l13Do, ddAV, n1, n2, n3, n4, <- hH1, b1]
 refine c_split (fun q0 => ?_) (fun q0 => ?_) <;> simp at q0
 · have hd : doR s e = putR s e.key e.num := by simp [doR, q0]
   simp [b0, b1]
   refine cg_ex (StorePut_ok _ s e.key e.num H1 hs1 hb hk) ?_
   intro v2 H2 hret
   obtain ⟨xa, xb, xc, xk, xt, xd, rfl, o1, o2, o3, o4, o5, o6⟩ := hret.shape
   have b22 := hret.1.2 _ _ b2
   have u22 := Hp.at_lt b22
   simp [o1, o2, o3, o4, o5, o6, b22, Hp.at_set, u22]
   rw [hd]
   have hF := Fr.one H2 (H.length + 2) (some ⟨[[xa, xb, xc, xk, xt, xd]], 6, 28, false⟩)
   exact hret.fin hle1 hF (fun x ob hx ho => by rw [hx, b22] at ho; cases ho; rfl) (fun x hx => by rw [hx]; omega)
 simp
 refine c_split (fun q1 => ?_) (fun q1 => ?_) <;> simp at q1
 · have hd : doR s e = takeR s e.key := by simp [doR, q1]
   simp [b0, b1]
   refine cg_ex (StoreTake_ok _ s e.key H1 hs1 hb hk) ?_
   intro v2 H2 hret
   obtain ⟨xa, xb, xc, xk, xt, xd, rfl, o1, o2, o3, o4, o5, o6⟩ := hret.shape
   have b22 := hret.1.2 _ _ b2
   have u22 := Hp.at_lt b22
   simp [o1, o2, o3, o4, o5, o6, b22, Hp.at_set, u22]
   rw [hd]
   have hF := Fr.one H2 (H.length + 2) (some ⟨[[xa, xb, xc, xk, xt, xd]], 6, 28, false⟩)
   exact hret.fin hle1 hF (fun x ob hx ho => by rw [hx, b22] at ho; cases ho; rfl) (fun x hx => by rw [hx]; omega)
 simp
 refine c_split (fun q2 => ?_) (fun q2 => ?_) <;> simp at q2
 · have hd : doR s e = holdR s := by simp [doR, q2]
   simp [b0, b1]
   refine cg_ex (StoreHold_ok _ s H1 hs1 hb) ?_
   intro v2 H2 hret
   obtain ⟨w, n, ok, hv2, hret'⟩ := hret.toS
   subst hv2
   clear hret
   have hret := hret'
   clear hret'
   obtain ⟨xa, xb, xc, xk, xt, xd, hw, o1, o2, o3, o4, o5, o6⟩ := hret.shape
   cases hw
   have b22 := hret.1.2 _ _ b2
   have u22 := Hp.at_lt b22
   simp [o1, o2, o3, o4, o5, o6, b22, Hp.at_set, u22, Hp.at_app, set_in']
   rw [hd]
   have hF := (Fr.one H2 (H.length + 2) (some ⟨[[xa, xb, xc, xk, xt, xd]], 6, 28, false⟩)).app [some ⟨[[xa, xb, xc, xk, xt, xd]], 6, 28, false⟩]
   exact hret.fin hle1 hF (fun x ob hx ho => by rw [hx, b22] at ho; cases ho; rfl) (fun x hx => by rw [hx]; omega)
 simp
 refine c_split (fun q3 => ?_) (fun q3 => ?_) <;> simp at q3
 · have hd : doR s e = freeR s e.num := by simp [doR, q3]
   simp [b0, b1]
   refine cg_ex (StoreFree_ok _ s e.num H1 hs1 hb) ?_
   intro v2 H2 hret
   obtain ⟨xa, xb, xc, xk, xt, xd, rfl, o1, o2, o3, o4, o5, o6⟩ := hret.shape
   have b22 := hret.1.2 _ _ b2
   have u22 := Hp.at_lt b22
   simp [o1, o2, o3, o4, o5, o6, b22, Hp.at_set, u22]
   rw [hd]
   have hF := Fr.one H2 (H.length + 2) (some ⟨[[xa, xb, xc, xk, xt, xd]], 6, 28, false⟩)
   exact hret.fin hle1 hF (fun x ob hx ho => by rw [hx, b22] at ho; cases ho; rfl) (fun x hx => by rw [hx]; omega)
 simp
 refine c_split (fun q4 => ?_) (fun q4 => ?_) <;> simp at q4
 · have hd : doR s e = letR s := by simp [doR, q4]
   simp [b0, b1]
   refine cg_ex (StoreDown_ok _ s H1 hs1 hb) ?_
   intro v2 H2 hret
   obtain ⟨xa, xb, xc, xk, xt, xd, rfl, o1, o2, o3, o4, o5, o6⟩ := hret.shape
   have b22 := hret.1.2 _ _ b2
   have u22 := Hp.at_lt b22
   simp [o1, o2, o3, o4, o5, o6, b22, Hp.at_set, u22]
   rw [hd]
   have hF := Fr.one H2 (H.length + 2) (some ⟨[[xa, xb, xc, xk, xt, xd]], 6, 28, false⟩)
   exact hret.fin hle1 hF (fun x ob hx ho => by rw [hx, b22] at ho; cases ho; rfl) (fun x hx => by rw [hx]; omega)
 simp
 refine c_split (fun q5 => ?_) (fun q5 => ?_) <;> simp at q5
 · have hd : doR s e = joinR s e.num := by simp [doR, q5]
   simp [b0, b1]
   refine cg_ex (StoreJoin_ok _ s e.num H1 hs1 hb) ?_
   intro v2 H2 hret
   obtain ⟨xa, xb, xc, xk, xt, xd, rfl, o1, o2, o3, o4, o5, o6⟩ := hret.shape
   have b22 := hret.1.2 _ _ b2
   have u22 := Hp.at_lt b22
   simp [o1, o2, o3, o4, o5, o6, b22, Hp.at_set, u22]
   rw [hd]
   have hF := Fr.one H2 (H.length + 2) (some ⟨[[xa, xb, xc, xk, xt, xd]], 6, 28, false⟩)
   exact hret.fin hle1 hF (fun x ob hx ho => by rw [hx, b22] at ho; cases ho; rfl) (fun x hx => by rw [hx]; omega)
 have hd : doR s e = none := by simp [doR, q0, q1, q2, q3, q4, q5]
 simp [b2, Hp.at_set, u2, hd, RetS]
 exact hle1.set (by omega) _
end Go.Proofs.YtgoeenodllmdpaaGreat.B

namespace Go.Proofs.YtgoeenodllmdpaaGreat.B
open Go.RowKit Go.Proofs
set_option linter.unusedVariables false
set_option linter.unusedSimpArgs false
variable {E : Env}
theorem okThen_some {s x : Sr} {r : Option Sr} (h : storeOk s = true) (hr : r = some x) : okThen s r = some x := by rw [okThen, if_pos h, hr]
theorem okThen_free (s : Sr) (t : Int) : okThen s (freeI s t) = freeR s t := by
 unfold okThen
 split
 · rename_i h
   rw [freeI_eq h]
 · rename_i h
   simp [freeR, h]
theorem free_small {s x : Sr} {t : Int} (h : freeR s t = some x) : Small x := doR_small (s := s) (d := ⟨4, ⟨#[]⟩, t⟩) (by simpa [doR] using h)
theorem implFree_ok (v : AV) (s : Sr) (t : Int) (H : Hp) (hs : St H v s) (hb : StB s) :
   AC Tryz.prog E 65 [v, .int .i64 t] H (fun u H' => RetQ H H' u (freeR s t)) := by
 have hs0 := hs
 obtain ⟨a, b, c, d, rfl, n1, n2, n3, n4, hea, hed⟩ := hs.shape
 refine AC_by fol (tC_le tabJ_ok) h_impl_StoreFree ?_
 obtain ⟨H1, hH1⟩ : ∃ H1 : Hp, H1 = H ++ [some ⟨[[a, b, c, .int .i64 s.keep, .int .i64 s.time, d]], 6, 28, false⟩, some ⟨[[.int .i64 t]], 1, 3, false⟩, some ⟨[[.nils, .nils, .nils, .int .i64 0, .int .i64 0, .nils]], 6, 28, false⟩] := ⟨_, rfl⟩
 have hle1 : HLe H H1 := by rw [hH1]; exact HLe.self _ _
 have b0 : H1.at H.length = some ⟨[[a, b, c, .int .i64 s.keep, .int .i64 s.time, d]], 6, 28, false⟩ := by rw [hH1]; simp
 have b1 : H1.at (H.length + 1) = some ⟨[[.int .i64 t]], 1, 3, false⟩ := by rw [hH1]; simp
 have b3 : H1.at (H.length + 2) = some ⟨[[.nils, .nils, .nils, .int .i64 0, .int .i64 0, .nils]], 6, 28, false⟩ := by rw [hH1]; simp
 simp [c_impl_StoreFree, n1, n2, n3, n4, <- hH1, b0]
 refine cg_ex (changed_ok _ 144 [.pt (H.length + 1) 0 0] s (freeI s t) H1 (hs0.le hle1) hb (fun x => rfl)
   (fun hso o B G hB hps hle => Free1_ok o _ t s B G hps hle (storeOk_small hso) (hB.2 _ _ b1)) (fun hso x hx => free_small ((okThen_free s t).symm.trans (okThen_some hso hx)))) ?_
 intro v2 H2 hret
 rw [okThen_free] at hret
 obtain ⟨xa, xb, xc, xk, xt, xd, rfl, o1, o2, o3, o4, o5, o6⟩ := hret.shape
 have b23 := hret.1.2 _ _ b3
 have u23 := Hp.at_lt b23
 simp [o1, o2, o3, o4, o5, o6, b23, Hp.at_set, u23]
 have hF2 := Fr.one H2 (H.length + 2) (some ⟨[[xa, xb, xc, xk, xt, xd]], 6, 28, false⟩)
 exact hret.fin hle1 hF2 (fun x ob hx ho => by rw [hx, b23] at ho; cases ho; rfl) (fun x hx => by rw [hx]; omega)
end Go.Proofs.YtgoeenodllmdpaaGreat.B

namespace Go.Proofs.YtgoeenodllmdpaaGreat.B
open Go.RowKit Go.Proofs
set_option linter.unusedVariables false
set_option linter.unusedSimpArgs false
variable {E : Env}
def ddRow (d : Dd) : List AV := [.int .i64 d.kind, .str d.key, .int .i64 d.num]
def Dds (H : Hp) (v : AV) (ds : List Dd) : Prop := Rows 3 H v (ds.map ddRow)
theorem Dds.get {H : Hp} {v : AV} {ds : List Dd} (h : Dds H v ds) {j : Nat} (hj : j < ds.length) : ∃ o i ob, v = .sl o i ds.length /\ H.at o = some ob /\ ob.esz = 3 /\ ob.rows[i + j]? = some [.int .i64 ds[j].kind, .str ds[j].key, .int .i64 ds[j].num] := by
 obtain ⟨o, i, ob, h1, h2, h3, h4⟩ := Rows.get h (j := j) (by simpa using hj)
 exact ⟨o, i, ob, by simpa using h1, h2, h3, by simpa [ddRow] using h4⟩
theorem doAll_step (s : Sr) (ds : List Dd) {i : Nat} (hi : i < ds.length) : doAll s (ds.take (i + 1)) = (doR (doAll s (ds.take i)) ds[i]).getD (doAll s (ds.take i)) := by
 rw [List.take_succ_eq_append_getElem hi, doAll, List.foldl_append]
 rfl
theorem PastDo_ok (v u : AV) (s : Sr) (ds : List Dd) (H : Hp) (hs : St H v s) (hb : StB s) (hu : Dds H u ds) (hk : ∀ d ∈ ds, d.key.size < 4611686018427387904) :
   AC Tryz.prog E 31 [v, u] H (fun w H' => RetS H H' w (pastR s ds)) := by
 have hs0 := hs
 obtain ⟨a, b, c, d, rfl, n1, n2, n3, n4, hea, hed⟩ := hs.shape
 refine AC_by fol (tC_le tab2_ok) h_spec_PastDo ?_
 obtain ⟨H1, hH1⟩ : ∃ H1 : Hp, H1 = H ++ [some ⟨[[a, b, c, .int .i64 s.keep, .int .i64 s.time, d]], 6, 28, false⟩, some ⟨[[.nils, .nils, .nils, .int .i64 0, .int .i64 0, .nils]], 6, 28, false⟩] := ⟨_, rfl⟩
 have hle1 : HLe H H1 := by rw [hH1]; exact HLe.self _ _
 have b0 : H1.at H.length = some ⟨[[a, b, c, .int .i64 s.keep, .int .i64 s.time, d]], 6, 28, false⟩ := by rw [hH1]; simp
 have b1 : H1.at (H.length + 1) = some ⟨[[.nils, .nils, .nils, .int .i64 0, .int .i64 0, .nils]], 6, 28, false⟩ := by rw [hH1]; simp
 have hl1 : H1.length = H.length + 2 := by rw [hH1]; simp
 have u1 := Hp.at_lt b1
 have hlen : lenV u = .int .i64 ds.length := by simpa using Rows.len hu
 have hslc : slC u := Rows.slc hu
 simp [c_spec_PastDo, n1, n2, n3, n4, <- hH1, b0]
 refine cg_use (StoreOk_ok _ s H1 (hs0.le hle1) hb) ?_
 cases hso : storeOk s with
 | false =>
   simp [b1, Hp.at_set, u1, pastR, hso, RetS]
   exact hle1.set (by omega) _
 | true =>
 have hsm := storeOk_small hso
 simp [hlen, hslc]
 refine c_split (fun hq => ?_) (fun hq => ?_) <;> simp at hq
 · have hp : pastR s ds = none := by simp [pastR, hso]; omega
   simp [b1, Hp.at_set, u1, hp, RetS]
   exact hle1.set (by omega) _
 have hp : pastR s ds = some (doAll s ds) := by simp [pastR, hso]; omega
 simp [b0]
 refine cg_ex (l12Copy_ok _ s H1 (hs0.le hle1) hb hsm.2.2.2.2.2.2.2.1 hsm.2.2.2.2.2.2.2.2) ?_
 rintro v2 H2 ⟨hle2, hm2⟩
 obtain ⟨xa, xl, xs, xd, rfl, xn1, xn2, xdi⟩ := hm2.shape
 have b02 := hle2.2 _ _ b0
 have b12 := hle2.2 _ _ b1
 have u0 := Hp.at_lt b02
 have m01 : H.length ≠ H.length + 1 := by omega
 obtain ⟨H3, hH3⟩ : ∃ H3 : Hp, H3 = List.set H2 H.length (some ⟨[[xa, .sl xl 0 3, .sl xs 0 3, .int .i64 s.keep, .int .i64 s.time, xd]], 6, 28, false⟩) := ⟨_, rfl⟩
 have hF3 : Fr (fun x => x = H.length) H2 H3 := by rw [hH3]; exact Fr.one _ _ _
 have hm3 := (hm2.fr hF3 (fun x ob hx ho => by rw [hx, b02] at ho; cases ho; rfl)).base hle1.1
 have hle3 : HLe H H3 := (hle1.trans hle2).fr_le hF3 (fun x hx => by rw [hx]; exact Nat.le_refl _)
 have b03 : H3.at H.length = some ⟨[[xa, .sl xl 0 3, .sl xs 0 3, .int .i64 s.keep, .int .i64 s.time, xd]], 6, 28, false⟩ := by rw [hH3]; exact Hp.at_set _ u0
 have b13 := hF3.2 _ _ m01.symm b12
 simp [xn1, xn2, b02, Hp.at_set, u0, <- hH3]
 refine W_for (fun m t H' => ∃ (i : Nat) (x : Sr) (wa : AV) (wl ws : Nat) (wd : AV), i + m = ds.length /\ t 1 = u /\ t 2 = .pt H.length 0 0 /\ t 4 = .pt (H.length + 1) 0 0 /\ t 6 = .int .i64 i /\ HLe H H' /\
   H'.at H.length = some ⟨[[wa, .sl wl 0 3, .sl ws 0 3, .int .i64 x.keep, .int .i64 x.time, wd]], 6, 28, false⟩ /\ H'.at (H.length + 1) = some ⟨[[.nils, .nils, .nils, .int .i64 0, .int .i64 0, .nils]], 6, 28, false⟩ /\
   one wa = true /\ one wd = true /\ MSt H H' (.ag [wa, .sl wl 0 3, .sl ws 0 3, .int .i64 x.keep, .int .i64 x.time, wd]) x /\ Small x /\ x = doAll s (ds.take i)) ds.length ?_ (tC_mono AC_mono) ?_
 · exact ⟨0, s, xa, xl, xs, xd, by omega, by simp, by simp, by simp, by simp, hle3, b03, b13, xn1, xn2, hm3, hsm, by simp [doAll]⟩
 rintro m t H' ⟨i, x, wa, wl, ws, wd, him, h1, h2, h4, h6, hle', c0, c1, wn1, wn2, hm, hsx, hx⟩
 have t0 := Hp.at_lt c0
 have t1 := Hp.at_lt c1
 simp [h1, h2, h4, h6, hlen, hslc]
 refine c_split (fun hq2 => ?_) (fun hq2 => ?_) <;> simp at hq2
 · have hi : i < ds.length := by omega
   obtain ⟨o1, i1, ob1, rfl, a1, a2, a3⟩ := Dds.get (Rows.le hu hle') hi
   have hw := wrapN (i := i) (by omega)
   simp [h1, h2, h4, h6, c0, a1, a2, a3, hi]
   refine ⟨?_, ?_⟩
   · refine cg_ex (l13Do_ok _ x (ds[i]) H' (hm.st) hsx.stB (hk _ (List.getElem_mem hi))) ?_
     rintro v5 H5 hret
     have hle5 : HLe H' H5 := hret.1
     have c05 := hle5.2 _ _ c0
     have c15 := hle5.2 _ _ c1
     have a15 := hle5.2 _ _ a1
     have t05 := Hp.at_lt c05
     have t15 := Hp.at_lt c15
     have ta5 := Hp.at_lt a15
     cases hd : doR x ds[i] with
     | none =>
       rw [hd] at hret
       obtain ⟨hle5', rfl⟩ := hret
       simp [h1, h2, h4, h6, c05, c15, a15, a2, a3, hi, hw, Hp.at_app, Hp.at_set, Hp.at_set_ne, List.length_set, t05, t15, ta5, m01, m01.symm, set_in']
       refine ⟨m - 1, by omega, i + 1, by omega, by omega, (hle'.trans hle5').app _, x, wa, wl, ws, wd, by simp, wn1, wn2, (hm.le hle5').le (HLe.self _ _), hsx, ?_⟩
       rw [doAll_step s ds hi, <- hx, hd]
       rfl
     | some y =>
       rw [hd] at hret
       obtain ⟨hle5', w5, rfl, hm5⟩ := hret
       obtain ⟨ya, yl, ys, yd, hy, yn1, yn2, ydi⟩ := hm5.shape
       subst hy
       simp [yn1, yn2, h1, h2, h4, h6, c05, c15, a15, a2, a3, hi, hw, Hp.at_app, Hp.at_set, Hp.at_set_ne, List.length_set, t05, t15, ta5, m01, m01.symm, set_in']
       have hF := (Fr.one H5 H.length (some ⟨[[ya, .sl yl 0 3, .sl ys 0 3, .int .i64 y.keep, .int .i64 y.time, yd]], 6, 28, false⟩)).app [some ⟨[[ya, .sl yl 0 3, .sl ys 0 3, .int .i64 y.keep, .int .i64 y.time, yd]], 6, 28, false⟩]
       refine ⟨m - 1, by omega, i + 1, by omega, by omega, (hle'.trans hle5').fr_le hF (fun z hz => by rw [hz]; exact Nat.le_refl _), y, ya, yl, ys, yd, by simp, yn1, yn2, (hm5.fr hF (fun z ob hz ho => by rw [hz, c05] at ho; cases ho; rfl)).base hle'.1, doR_small hd, ?_⟩
       rw [doAll_step s ds hi, <- hx, hd]
       rfl
   · have ta := Hp.at_lt a1
     simp [Hp.at_app, t0, t1, ta, c0, a1, a2, a3, hi]
     refine cg_ex (l13Do_ok _ x (ds[i]) _ ((hm.le (HLe.self _ _)).st) hsx.stB (hk _ (List.getElem_mem hi))) ?_
     rintro v5 H5 hret
     have hle5 : HLe H' H5 := (HLe.self H' _).trans hret.1
     have c05 := hle5.2 _ _ c0
     have c15 := hle5.2 _ _ c1
     have a15 := hle5.2 _ _ a1
     have t05 := Hp.at_lt c05
     have t15 := Hp.at_lt c15
     have ta5 := Hp.at_lt a15
     have c75 := hret.1.2 _ _ (Hp.at_app_0.trans Hp.at_0)
     have t75 := Hp.at_lt c75
     have m70 : H'.length ≠ H.length := by omega
     have m71 : H'.length ≠ H.length + 1 := by omega
     have m7a : H'.length ≠ o1 := by have := Hp.at_lt a1; omega
     cases hd : doR x ds[i] with
     | none =>
       rw [hd] at hret
       obtain ⟨hle5', rfl⟩ := hret
       simp [h1, h2, h4, h6, c05, c15, a15, a2, a3, hi, hw, Hp.at_app, Hp.at_set, Hp.at_set_ne, List.length_set, t05, t15, ta5, m01, m01.symm, c75, t75, m70, m71, m7a, m70.symm, m71.symm, m7a.symm]
       have hF := Fr.one H5 H'.length (some ⟨[[.nils, .nils, .nils, .int .i64 0, .int .i64 0, .nils]], 6, 28, false⟩)
       refine ⟨m - 1, by omega, i + 1, by omega, by omega, (hle'.trans hle5).fr_le hF (fun z hz => by rw [hz]; exact hle'.1), x, wa, wl, ws, wd, by simp, wn1, wn2, (hm.le hle5).fr hF (fun z ob hz ho => by rw [hz, c75] at ho; cases ho; rfl), hsx, ?_⟩
       rw [doAll_step s ds hi, <- hx, hd]
       rfl
     | some y =>
       rw [hd] at hret
       obtain ⟨hle5', w5, rfl, hm5⟩ := hret
       obtain ⟨ya, yl, ys, yd, hy, yn1, yn2, ydi⟩ := hm5.shape
       subst hy
       simp [yn1, yn2, h1, h2, h4, h6, c05, c15, a15, a2, a3, hi, hw, Hp.at_app, Hp.at_set, Hp.at_set_ne, List.length_set, t05, t15, ta5, m01, m01.symm, c75, t75, m70, m71, m7a, m70.symm, m71.symm, m7a.symm]
       have hF := ((Fr.refl (fun z => z = H'.length \/ z = H.length) H5).set (o := H'.length) (.inl (.inl rfl)) (some ⟨[[ya, .sl yl 0 3, .sl ys 0 3, .int .i64 y.keep, .int .i64 y.time, yd]], 6, 28, false⟩)).set (o := H.length) (.inl (.inr rfl)) (some ⟨[[ya, .sl yl 0 3, .sl ys 0 3, .int .i64 y.keep, .int .i64 y.time, yd]], 6, 28, false⟩)
       refine ⟨m - 1, by omega, i + 1, by omega, by omega, (hle'.trans hle5).fr_le hF (fun z hz => by have := hle'.1; rcases hz with h | h <;> omega), y, ya, yl, ys, yd, by simp, yn1, yn2, (hm5.fr hF (fun z ob hz ho => by rcases hz with h | h <;> rw [h] at ho <;> simp only [c75, c05] at ho <;> cases ho <;> rfl)).base (Nat.le_trans hle'.1 (by simp)), doR_small hd, ?_⟩
       rw [doAll_step s ds hi, <- hx, hd]
       rfl
 · have hie : i = ds.length := by omega
   subst hie
   rw [List.take_of_length_le (Nat.le_refl _)] at hx
   simp [h2, h4, c0, c1, wn1, wn2, Hp.at_set, t1, hp, <- hx]
   have hF := Fr.one H' (H.length + 1) (some ⟨[[wa, .sl wl 0 3, .sl ws 0 3, .int .i64 x.keep, .int .i64 x.time, wd]], 6, 28, false⟩)
   exact ⟨hle'.fr_le hF (fun y hy => by rw [hy]; omega), _, rfl, MSt.fr hm hF (fun y ob hy ho => by rw [hy, c1] at ho; cases ho; rfl)⟩
end Go.Proofs.YtgoeenodllmdpaaGreat.B

namespace Go.Proofs.YtgoeenodllmdpaaGreat.B
open Go.RowKit Go.Proofs
set_option linter.unusedVariables false
set_option linter.unusedSimpArgs false
variable {E : Env}
end Go.Proofs.YtgoeenodllmdpaaGreat.B

namespace Go.Proofs.YtgoeenodllmdpaaGreat.B
open Go.RowKit Go.Proofs
set_option linter.unusedVariables false
set_option linter.unusedSimpArgs false
variable {E : Env}
theorem St.far {H : Hp} {v : AV} {s : Sr} (h : St H v s) : FarP false (fun _ _ _ => True) 0 H v s := by
 obtain ⟨a, b, c, d, lr, sr, e, h1, h2, h3, h4, h5, h6⟩ := h
 exact ⟨a, b, c, d, lr, sr, e, h1, h2, All2.mono (fun _ _ ⟨u, k1, k2⟩ => ⟨u, k1, k2, fun _ _ => Nat.zero_le _⟩) h3, h4, All2.mono (fun _ _ ⟨u, k1, k2, k3⟩ => ⟨u, k1, k2, fun _ _ => Nat.zero_le _⟩) h5, h6, fun _ _ => Nat.zero_le _, trivial⟩
theorem St.fr6 {S : Nat -> Prop} {H H' : Hp} {v : AV} {s : Sr} (h : St H v s) (hf : Fr S H H') (hS : ∀ y ob, S y -> H.at y = some ob -> ob.esz = 6) : St H' v s := (h.far.fr hf (fun y hy => .inr (fun ob ho => hS y ob hy ho))).st
end Go.Proofs.YtgoeenodllmdpaaGreat.B

namespace Go.Proofs.YtgoeenodllmdpaaGreat.B
open Go.RowKit Go.Proofs
set_option linter.unusedVariables false
set_option linter.unusedSimpArgs false
variable {E : Env}
end Go.Proofs.YtgoeenodllmdpaaGreat.B

namespace Go.Proofs.YtgoeenodllmdpaaGreat.B
open Go.RowKit Go.Proofs
set_option linter.unusedVariables false
set_option linter.unusedSimpArgs false
variable {E : Env}
theorem Rd.box {H : Hp} {o N n : Nat} (h : Rd H o N) (X : Option Ob) (hne : n ≠ o) (h1 : ∀ ob, H.at n = some ob -> ob.esz ≠ 1) : Rd (List.set H n X) o N :=
 h.fr (Fr.one H n X) (fun e => hne e.symm) (fun x ob hx ho => by subst hx; exact h1 ob ho)
theorem l71Deed_ok (o N : Nat) (kv : AV) (ks : List ByteArray) (H : Hp) (hr : Rd H o N) (hk : Strs H kv ks) (hkl : ks.length < 1099511627776) (hks : ∀ s ∈ ks, s.size <= 5) (hN : N < 137438953472) :
   AC Tryz.prog E 149 [.pt o 0 0, kv] H (fun v H' => ∃ d, v = ddAV d /\ d.key.size <= 5 /\ Dr o H H' /\ Rd H' o (N + 9)) := by
 refine AC_by fol (tC_le tab2_ok) h_spec_l71Deed ?_
 have hol := hr.lt
 have m0 : H.length ≠ o := by omega
 simp [c_spec_l71Deed]
 refine cg_ex (pick_ok o N 10 _ (hr.le (HLe.self _ _)) (by omega) (by omega)) ?_
 rintro v H1 ⟨n, rfl, hn, hd1, hr1, hlen⟩
 have b1 := hd1.2 H.length ⟨[[.int .i64 0, .str ⟨#[]⟩, .int .i64 0]], 3, 47, false⟩ (by omega) (by simp)
 have hD : Dr o H H1 := (Fr.app (Fr.refl _ H) _).same hd1
 have hk1 : Strs H1 kv ks := (Rows.dr (hr.le (HLe.self _ _)) (hk.le (HLe.self _ _)) (by decide) hd1)
 have fin : ∀ (H2 : Hp) (d : Dd) (M : Nat), d.key.size <= 5 -> Dr o H1 H2 -> Rd H2 o M -> M <= N + 9 -> ∃ d', ddAV d = ddAV d' /\ d'.key.size <= 5 /\ Dr o H (List.set H2 H.length (some ⟨[[.int .i64 d.kind, .str d.key, .int .i64 d.num]], 3, 47, false⟩)) /\ Rd (List.set H2 H.length (some ⟨[[.int .i64 d.kind, .str d.key, .int .i64 d.num]], 3, 47, false⟩)) o (N + 9) := by
   intro H2 d M h1 h2 h3 h4
   have b2 := h2.2 _ _ m0 b1
   exact ⟨d, rfl, h1, (hD.same h2).set (.inr (Nat.le_refl _)) _, (h3.box _ m0 (fun ob ho => by rw [b2] at ho; cases ho; simp)).mono h4⟩
 have hcase : n = 0 \/ n = 1 \/ n = 2 \/ n = 3 \/ n = 4 \/ n = 5 \/ n = 6 \/ n = 7 \/ n = 8 \/ n = 9 := by omega
 have u1 := Hp.at_lt b1
 have put : ∀ t : Tm, True := fun _ => trivial
 simp
 refine c_split (fun q0 => ?_) (fun q0 => ?_) <;> simp at q0
 · simp [q0]
   refine cg_ex (l71Near_ok o _ kv ks _ hr1 hk1 hkl hks (by omega)) ?_
   rintro _ H2 ⟨k, rfl, hk5, hd2, hr2⟩
   simp
   refine cg_ex (pick_ok o _ 100 _ hr2 (by omega) (by omega)) ?_
   rintro _ H3 ⟨m, rfl, hm, hd3, hr3, -⟩
   have hb := (hd2.same hd3).2 _ _ m0 b1
   simp [hb, Hp.at_set, Hp.at_lt hb]
   exact fin _ ⟨1, k, m⟩ _ hk5 (hd2.same hd3) hr3 (by omega)
 simp
 refine c_split (fun q1 => ?_) (fun q1 => ?_) <;> simp at q1
 · simp [q1]
   refine cg_ex (l71Near_ok o _ kv ks _ hr1 hk1 hkl hks (by omega)) ?_
   rintro _ H2 ⟨k, rfl, hk5, hd2, hr2⟩
   simp
   refine cg_ex (pick_ok o _ 100 _ hr2 (by omega) (by omega)) ?_
   rintro _ H3 ⟨m, rfl, hm, hd3, hr3, -⟩
   have hb := (hd2.same hd3).2 _ _ m0 b1
   simp [hb, Hp.at_set, Hp.at_lt hb]
   exact fin _ ⟨1, k, m⟩ _ hk5 (hd2.same hd3) hr3 (by omega)
 simp
 refine c_split (fun q2 => ?_) (fun q2 => ?_) <;> simp at q2
 · simp [q2]
   refine cg_ex (l71Near_ok o _ kv ks _ hr1 hk1 hkl hks (by omega)) ?_
   rintro _ H2 ⟨k, rfl, hk5, hd2, hr2⟩
   simp
   refine cg_ex (pick_ok o _ 100 _ hr2 (by omega) (by omega)) ?_
   rintro _ H3 ⟨m, rfl, hm, hd3, hr3, -⟩
   have hb := (hd2.same hd3).2 _ _ m0 b1
   simp [hb, Hp.at_set, Hp.at_lt hb]
   exact fin _ ⟨1, k, m⟩ _ hk5 (hd2.same hd3) hr3 (by omega)
 simp
 refine c_split (fun q3 => ?_) (fun q3 => ?_) <;> simp at q3
 · simp [q3]
   refine cg_ex (l71Near_ok o _ kv ks _ hr1 hk1 hkl hks (by omega)) ?_
   rintro _ H2 ⟨k, rfl, hk5, hd2, hr2⟩
   simp
   refine cg_ex (pick_ok o _ 100 _ hr2 (by omega) (by omega)) ?_
   rintro _ H3 ⟨m, rfl, hm, hd3, hr3, -⟩
   have hb := (hd2.same hd3).2 _ _ m0 b1
   simp [hb, Hp.at_set, Hp.at_lt hb]
   exact fin _ ⟨1, k, m⟩ _ hk5 (hd2.same hd3) hr3 (by omega)
 simp
 refine c_split (fun q4 => ?_) (fun q4 => ?_) <;> simp at q4
 · simp [q4]
   refine cg_ex (l71Near_ok o _ kv ks _ hr1 hk1 hkl hks (by omega)) ?_
   rintro _ H2 ⟨k, rfl, hk5, hd2, hr2⟩
   simp
   refine cg_ex (pick_ok o _ 100 _ hr2 (by omega) (by omega)) ?_
   rintro _ H3 ⟨m, rfl, hm, hd3, hr3, -⟩
   have hb := (hd2.same hd3).2 _ _ m0 b1
   simp [hb, Hp.at_set, Hp.at_lt hb]
   exact fin _ ⟨1, k, m⟩ _ hk5 (hd2.same hd3) hr3 (by omega)
 simp [q4]
 refine c_split (fun q5 => ?_) (fun q5 => ?_) <;> simp at q5
 · simp
   refine cg_ex (l71Near_ok o _ kv ks _ hr1 hk1 hkl hks (by omega)) ?_
   rintro _ H2 ⟨k, rfl, hk5, hd2, hr2⟩
   have hb := hd2.2 _ _ m0 b1
   simp [hb, Hp.at_set, Hp.at_lt hb]
   exact fin _ ⟨2, k, 0⟩ _ hk5 hd2 hr2 (by omega)
 simp
 refine c_split (fun q6 => ?_) (fun q6 => ?_) <;> simp at q6
 · simp [b1, Hp.at_set, u1]
   exact fin H1 ⟨3, ⟨#[]⟩, 0⟩ _ (by decide) (Fr.refl _ _) hr1 (by omega)
 simp
 refine c_split (fun q7 => ?_) (fun q7 => ?_) <;> simp at q7
 · simp
   refine cg_ex (pick_ok o _ 20 _ hr1 (by omega) (by omega)) ?_
   rintro _ H3 ⟨m, rfl, hm, hd3, hr3, -⟩
   have hb := hd3.2 _ _ m0 b1
   simp [hb, Hp.at_set, Hp.at_lt hb]
   exact fin _ ⟨4, ⟨#[]⟩, m⟩ _ (by show 0 <= 5; omega) hd3 hr3 (by omega)
 simp
 refine c_split (fun q8 => ?_) (fun q8 => ?_) <;> simp at q8
 · simp [b1, Hp.at_set, u1]
   exact fin H1 ⟨5, ⟨#[]⟩, 0⟩ _ (by decide) (Fr.refl _ _) hr1 (by omega)
 simp
 refine cg_ex (pick_ok o _ 3 _ hr1 (by omega) (by omega)) ?_
 rintro _ H3 ⟨m, rfl, hm, hd3, hr3, -⟩
 have hb := hd3.2 _ _ m0 b1
 simp [hb, Hp.at_set, Hp.at_lt hb]
 exact fin _ ⟨6, ⟨#[]⟩, m⟩ _ (by show 0 <= 5; omega) hd3 hr3 (by omega)
end Go.Proofs.YtgoeenodllmdpaaGreat.B

namespace Go.Proofs.YtgoeenodllmdpaaGreat.B
open Go.RowKit Go.Proofs
set_option linter.unusedVariables false
set_option linter.unusedSimpArgs false
variable {E : Env}
def sv0 (keep : Int) : Sv := ⟨⟨#[]⟩, ⟨#[]⟩, ⟨#[]⟩, [], keep⟩
theorem StoreNew_ok (keep : Int) (H : Hp) : AC Tryz.prog E 67 [.int .i64 keep] H (fun u H' => RetS H H' u (newR keep)) := by
 refine AC_by fol (tC_le tab2_ok) h_spec_StoreNew ?_
 simp [c_spec_StoreNew]
 refine c_split (fun hq => ?_) (fun hq => ?_) <;> simp at hq
 · have hn : newR keep = none := by unfold newR; rw [if_neg (by omega)]
   simp [hn, RetS]
 have hn : newR keep = some ⟨[], List.replicate 3 [], List.replicate 3 (sv0 keep), keep, 0, []⟩ := by
   unfold newR
   rw [if_pos (by omega)]
   rfl
 simp
 refine W_for (fun m t H' => ∃ i lv sv lr sr, i + m = 3 /\ t 0 = .int .i64 keep /\ t 2 = .pt H.length 0 0 /\ t 4 = .pt (H.length + 3) 0 0 /\ t 5 = .int .i64 (i : Nat) /\ HLe H H' /\
   H'.at H.length = some ⟨[[.nils, .nils, .nils, .int .i64 0, .int .i64 0, .nils]], 6, 28, false⟩ /\
   H'.at (H.length + 3) = some ⟨[[.sl (H.length + 1) 0 0, lv, sv, .int .i64 keep, .int .i64 0, .sl (H.length + 2) 0 0]], 6, 28, false⟩ /\
   OwnE H H' (.sl (H.length + 1) 0 0) [] /\ OwnI H H' (.sl (H.length + 2) 0 0) [] /\ Own 1 23 H' lv lr /\ (∀ x, lv.of x -> H.length + 4 <= x) /\ All2 (LvRow H') lr (List.replicate i []) /\ OffB H (.sl (H.length + 1) 0 0) lr /\
   Own 5 66 H' sv sr /\ (∀ x, sv.of x -> H.length + 4 <= x) /\ All2 (SvRow H' (fun x => lv.of x \/ H.length + 2 = x)) sr (List.replicate i (sv0 keep))) 3 ?_ (tC_mono AC_mono) ?_
 · refine ⟨0, .nils, .nils, [], [], rfl, by simp, by simp, by simp, by simp, HLe.self _ _, by simp, by simp, ⟨Own.obj (R := []) (by simp) rfl, fun x hx => by simp at hx; omega⟩, ⟨Own.obj (R := []) (by simp) rfl, fun x hx => by simp at hx; omega⟩, Own.nils, fun x hx => hx.elim, trivial, OffB.nil _ _, Own.nils, fun x hx => hx.elim, trivial⟩
 rintro m t H' ⟨i, lv, sv, lr, sr, him, h0, h2, h4, h5, hle, k0, k3, htop, htms, hlv, hlva, hlvr, hoff, hsv, hsva, hsvr⟩
 simp [h0, h2, h4, h5]
 refine c_split (fun hq2 => ?_) (fun hq2 => ?_) <;> simp at hq2
 · have hi3 : i < 3 := by omega
   have hw := wrapN (i := i) (by omega)
   have u0 := Hp.at_lt k0
   have u3 := Hp.at_lt k3
   simp [h0, h2, h4, h5, k3, Hp.at_app, u3]
   rw [List.append_cons]
   have hA : HLe H' (H' ++ [some ⟨[], 4, 99, false⟩]) := HLe.self _ _
   refine appG_one' (bytes := 24) (R := lr) (by simp) (hlv.le hA) (by have := All2.length hlvr; simp at this; omega) (fun v5 H5 g1 g2 g3 => ?_)
   have hF5 : Fr lv.of H' H5 := (hA.fr (S := lv.of)).same g2
   have nlv : ∀ x, x < H.length + 4 -> ¬ lv.of x := fun x h1 h2 => by have := hlva x h2; omega
   have k05 := hF5.2 _ _ (nlv _ (by omega)) k0
   have k35 := hF5.2 _ _ (nlv _ (by omega)) k3
   have ktop := g2.2 H'.length _ (fun h => by have := hlv.lt h; omega) (Hp.at_app_0.trans Hp.at_0)
   have u05 := Hp.at_lt k05
   have u35 := Hp.at_lt k35
   have m03 : H.length ≠ H.length + 3 := by omega
   have hl5 := g2.1
   simp at hl5
   simp [h0, h2, h4, h5, k35, g1.rows.one, g1.rows.cells, g1.rows.cells1, Hp.at_set, Hp.at_app, List.length_set, u35]
   obtain ⟨X, hX⟩ : ∃ X : Option Ob, X = some ⟨[[.sl (H.length + 1) 0 0, v5, sv, .int .i64 keep, .int .i64 0, .sl (H.length + 2) 0 0]], 6, 28, false⟩ := ⟨_, rfl⟩
   rw [<- hX]
   obtain ⟨G5, hG5⟩ : ∃ G5 : Hp, G5 = List.set H5 (H.length + 3) X := ⟨_, rfl⟩
   have hGl : H5.length = G5.length := by rw [hG5]; simp
   have hG : Fr (fun x => x = H.length + 3) H5 G5 := by rw [hG5]; exact Fr.one _ _ _
   have kG3 : G5.at (H.length + 3) = X := by rw [hG5]; exact Hp.at_set _ u35
   rw [<- hG5, hGl, List.append_cons]
   have hB : HLe G5 (G5 ++ [some ⟨[], 1, 9, false⟩]) := HLe.self _ _
   have hsv5 : Own 5 66 H5 sv sr := hsv.fr hF5 (fun x hx h => hlv.rows.apart hsv.rows (by simp) h hx)
   have hsvG : Own 5 66 G5 sv sr := hsv5.fr hG (fun x hx => by have := hsva x hx; omega)
   refine appG_one' (bytes := 80) (R := sr) (by simp) (hsvG.le hB) (by have := All2.length hsvr; simp at this; omega) (fun v7 H7 p1 p2 p3 => ?_)
   have hF7 : Fr sv.of G5 H7 := (hB.fr (S := sv.of)).same p2
   have nsv : ∀ x, x < H.length + 4 -> ¬ sv.of x := fun x h1 h2 => by have := hsva x h2; omega
   have kG0 := hG.2 _ _ m03 k05
   have k07 := hF7.2 _ _ (nsv _ (by omega)) kG0
   have k37 := hF7.2 _ _ (nsv _ (by omega)) (kG3.trans hX)
   have u37 := Hp.at_lt k37
   have hl7 := hF7.1
   have hsvl : ∀ x, sv.of x -> x < H'.length := fun x hx => hsv.lt hx
   have hlvl : ∀ x, lv.of x -> x < H'.length := fun x hx => hlv.lt hx
   have ktG := hG.2 _ _ (show H'.length ≠ H.length + 3 by omega) ktop
   have kt7 := hF7.2 _ _ (fun h => by have := hsvl _ h; omega) ktG
   have ks7 := p2.2 G5.length _ (fun h => by have := hsvl _ h; omega) (Hp.at_app_0.trans Hp.at_0)
   simp [h0, h2, h4, h5, k37, p1.rows.one, p1.rows.cells, p1.rows.cells1, hw]
   obtain ⟨Z, hZ⟩ : ∃ Z : Option Ob, Z = some ⟨[[.sl (H.length + 1) 0 0, v5, v7, .int .i64 keep, .int .i64 0, .sl (H.length + 2) 0 0]], 6, 28, false⟩ := ⟨_, rfl⟩
   rw [<- hZ]
   have hS := Fr.one H7 (H.length + 3) Z
   have hF58 : Fr (fun x => x = H.length + 3 \/ sv.of x) H5 (List.set H7 (H.length + 3) Z) := ((hG.mono (fun x hx => .inl (.inl hx))).trans hF7 (fun x hx => .inl (.inr hx))).trans hS (fun x hx => .inl (.inl hx))
   have hF8 : Fr (fun x => lv.of x \/ sv.of x \/ x = H.length + 3) H' (List.set H7 (H.length + 3) Z) := (hF5.mono (fun x hx => .inl (.inl hx))).trans hF58 (fun x hx => hx.elim (fun h => .inl (.inr (.inr h))) (fun h => .inl (.inr (.inl h))))
   have ns4 : ∀ x ob, (lv.of x \/ sv.of x \/ x = H.length + 3) -> H'.at x = some ob -> ob.esz ≠ 4 := fun x ob hs ho => by
     rcases hs with h | h | h
     · rw [hlv.esz h ho]; decide
     · rw [hsv.esz h ho]; decide
     · subst h; rw [k3] at ho; cases ho; simp
   have v5a : ∀ x, v5.of x -> lv.of x \/ H'.length <= x := fun x hx => (g3 x hx).imp id (fun h => by simp at h; omega)
   have v7a : ∀ x, v7.of x -> sv.of x \/ H5.length <= x := fun x hx => (p3 x hx).imp id (fun h => by simp at h; omega)
   have k0F := hS.2 _ _ m03 k07
   have ktF := hS.2 _ _ (show H'.length ≠ H.length + 3 by omega) kt7
   have ksF := hS.2 _ _ (show G5.length ≠ H.length + 3 by omega) ks7
   refine ⟨m - 1, by omega, i + 1, by omega, by omega, hle.fr_le hF8 (fun x hx => by rcases hx with h | h | h; (have := hlva x h; omega); (have := hsva x h; omega); omega), k0F, v5, v7, (Hp.at_set _ u37).trans hZ, ?_, ?_, lr ++ [[.sl H'.length 0 0]], ?_, ?_, ?_, hoff.add (fun y hy hy2 => by have h1 : H.length + 1 = y := hy; have h2 : H'.length = y := hy2; have := Hp.at_lt k3; omega) (fun y hy => by have h2 : H'.length = y := hy; have := hle.1; omega), sr ++ [[.str ⟨#[]⟩, .str ⟨#[]⟩, .str ⟨#[]⟩, .sl G5.length 0 0, .int .i64 keep]], ?_, ?_, ?_⟩
   · exact htop.fr hF8 (fun x hx hs => by
       have hx' : H.length + 1 = x := hx
       rcases hs with h | h | h
       · have := hlva x h; omega
       · have := hsva x h; omega
       · omega)
   · exact htms.fr hF8 (fun x hx hs => by
       have hx' : H.length + 2 = x := hx
       rcases hs with h | h | h
       · have := hlva x h; omega
       · have := hsva x h; omega
       · omega)
   · exact g1.fr hF58 (fun x hx hs => by
       rcases hs with h | h
       · rcases v5a x hx with hh | hh
         · have := hlva x hh; omega
         · omega
       · exact g1.rows.apart hsv5.rows (by simp) hx h)
   · intro x hx
     rcases v5a x hx with h | h
     · exact hlva x h
     · omega
   · rw [List.replicate_succ']
     exact (All2.mono (fun row es h => h.fr hF8 ns4) hlvr).append ⟨⟨_, rfl, Own.rows (ety := 99) (Own.obj (R := []) ktF rfl)⟩, trivial⟩
   · exact p1.fr hS (fun x hx => by
       rcases v7a x hx with h | h
       · have := hsva x h; omega
       · omega)
   · intro x hx
     rcases v7a x hx with h | h
     · exact hsva x h
     · omega
   · rw [List.replicate_succ']
     refine (All2.mono (fun row sv' h => ?_) hsvr).append ⟨⟨.sl G5.length 0 0, rfl, Own.rows (ety := 9) (Own.obj (R := []) ksF rfl), fun x hx h => ?_⟩, trivial⟩
     · refine SvRow.fr (X' := fun x => v5.of x \/ H.length + 2 = x) h hF8 (fun x ob hs ho => ?_) (fun x hx hx' => hx'.elim (fun h => (v5a x h).elim .inl (fun h => by omega)) .inr)
       rcases hs with h | h | h
       · exact .inr (.inl h)
       · exact .inl (by rw [hsv.esz h ho]; decide)
       · exact .inl (by subst h; rw [k3] at ho; cases ho; simp)
     · have hx' : G5.length = x := hx
       rcases h with h | h
       · have := g1.lt h; omega
       · omega
 · have hi3 : i = 3 := by omega
   subst hi3
   have u0 := Hp.at_lt k0
   obtain ⟨ol, rfl⟩ := hlv.sl (by rw [hlvr.length]; simp)
   obtain ⟨os, rfl⟩ := hsv.sl (by rw [hsvr.length]; simp)
   have hl3 : lr.length = 3 := by rw [hlvr.length]; simp
   have hs3 : sr.length = 3 := by rw [hsvr.length]; simp
   rw [hl3] at hlv k3
   rw [hs3] at hsv k3
   simp [h2, h4, k0, k3, Hp.at_set, u0, hn]
   have hF := Fr.one H' H.length (some ⟨[[.sl (H.length + 1) 0 0, .sl ol 0 3, .sl os 0 3, .int .i64 keep, .int .i64 0, .sl (H.length + 2) 0 0]], 6, 28, false⟩)
   have hm : MSt H H' (.ag [.sl (H.length + 1) 0 0, .sl ol 0 3, .sl os 0 3, .int .i64 keep, .int .i64 0, .sl (H.length + 2) 0 0]) ⟨[], List.replicate 3 [], List.replicate 3 (sv0 keep), keep, 0, []⟩ :=
     ⟨.sl (H.length + 1) 0 0, ol, os, .sl (H.length + 2) 0 0, lr, sr, rfl, htop, hlv, hlvr, hsv, All2.mono (fun _ _ h => by
       obtain ⟨r, e1, e2, e3⟩ := h
       rw [hl3] at e3
       exact ⟨r, e1, e2, e3⟩) hsvr, htms, fun hx => by have := hlva ol rfl; simp at hx; omega, by have := hlva ol rfl; omega, by have := hsva os rfl; omega, rfl, rfl, hoff⟩
   exact ⟨hle.fr_le hF (fun x hx => by rw [hx]; exact Nat.le_refl _), _, rfl, hm.fr hF (fun y ob hy ho => by rw [hy, k0] at ho; cases ho; rfl)⟩
end Go.Proofs.YtgoeenodllmdpaaGreat.B

namespace Go.Proofs.YtgoeenodllmdpaaGreat.B
open Go.RowKit Go.Proofs
set_option linter.unusedVariables false
set_option linter.unusedSimpArgs false
variable {E : Env}
abbrev OwnD := OwnM (α := Dd) 3 47 ddRow
theorem l71Deeds_ok (o N : Nat) (most : Nat) (H : Hp) (hr : Rd H o N) (hm : most < 1000) (hN : N < 68719476736) :
   AC Tryz.prog E 70 [.pt o 0 0, .int .i64 most] H (fun v H' => ∃ ds, OwnD H H' v ds /\ ds.length <= most + 1 /\ (∀ d ∈ ds, d.key.size <= 5) /\ Dr o H H' /\ Rd H' o (N + 39 + 10 * most)) := by
 refine AC_by fol (tC_le tab2_ok) h_spec_l71Deeds ?_
 have hw0 := wrapN (i := most) (by omega)
 simp [c_spec_l71Deeds, hw0]
 refine cg_ex (l71Keys_ok o N 5 H hr (by omega) (by omega)) ?_
 rintro kv H1 ⟨ks, hks, hkl, hksz, hd1, hr1⟩
 simp [hw0]
 refine cg_ex (pick_ok o _ ((most : Int) + 1) _ (hr1.le (HLe.self _ _)) (by omega) (by omega)) ?_
 rintro v H2 ⟨n, rfl, hn, hd2, hr2, hlen⟩
 have hd0 : Dr o H H2 := (hd1.app _).same hd2
 have hn1 : n <= most := by omega
 have hks2 : OwnS H H2 kv ks := OwnM.dr (hr1.le (HLe.self _ _)) (hks.le (HLe.self _ _)) (by decide) hd2
 simp
 refine W_for (fun m t H' => ∃ ds v, m <= most /\ t 0 = .pt o 0 0 /\ t 5 = kv /\ t 6 = v /\ t 7 = .int .i64 m /\ OwnD H H' v ds /\ OwnS H H' kv ks /\ ds.length + m <= most /\ (∀ d ∈ ds, d.key.size <= 5) /\ Dr o H H' /\ Rd H' o (N + 37 + 10 * (most - m))) n ?_ (tC_mono AC_mono) ?_
 · refine ⟨[], _, hn1, by simp, by simp, by simp; rfl, by simp, ?_, hks2, by simpa using hn1, by simp, hd0, hr2.mono (by omega)⟩
   exact (OwnM.dr (hr1.le (HLe.self _ _)) (OwnM.lit0 (HLe.refl H1)) (by decide) hd2).base hd1.len
 rintro m t H' ⟨ds, v, hm5, h0, h5, h6, h7, hv, hkv, hdl, hdk, hd, hr⟩
 simp [h0, h5, h6, h7]
 refine c_split (fun hq => ?_) (fun hq => ?_) <;> simp at hq
 · have hw : IntKind.i64.wrap ((m : Int) - 1) = ((m - 1 : Nat) : Int) := by rw [wrap64 (by omega) (by omega)]; omega
   simp [h0, h5, h6, h7]
   refine cg_ex (l71Deed_ok o _ kv ks H' hr hkv.strs (by omega) hksz (by omega)) ?_
   rintro _ H2 ⟨e, rfl, hk5, hd2, hr2⟩
   have hkv2 := OwnM.dr hr hkv (by decide) hd2
   have hv2 := OwnM.dr hr hv (by decide) hd2
   simp [h0, h5, h6, h7, ddAV]
   have hla := hd.len
   have hl2a := hd2.len
   refine appG_one' (bytes := 32) (R := ds.map ddRow) rfl hv2.1 (by simp; omega) (fun v5 H5 g1 g2 g3 => ?_)
   have hv5 : OwnD H H5 v5 (ds ++ [e]) := ⟨by simpa [ddRow] using g1, fun x hx => (g3 x hx).elim (hv2.2 x) (fun h => by omega)⟩
   have hr5 := (hr2.fr g2 (fun h => hr2.ne hv2.rows (by decide) h rfl) (fun x ob hx ho => by rw [hv2.1.esz hx ho]; decide))
   have hd5 : Dr o H H5 := (hd.same hd2).trans g2 (fun x hx => .inr (hv2.2 x hx))
   have hkv5 := hkv2.fr g2 (fun x hx hs => hkv2.rows.apart hv2.rows (by simp) hx hs)
   simp [h0, h5, h6, h7, hw]
   refine ⟨m - 1, by omega, by omega, rfl, ds ++ [e], hv5, hkv5, by simp; omega, fun d hd => ?_, hd5, hr5.mono (by omega)⟩
   rcases List.mem_append.1 hd with h | h
   · exact hdk d h
   · rw [List.mem_singleton.1 h]; exact hk5
 · have : m = 0 := by omega
   subst this
   simp [h0, h6]
   refine cg_ex (pick_ok o _ 24 _ hr (by omega) (by omega)) ?_
   rintro _ H2 ⟨c, rfl, hc, hd2, hr2, -⟩
   have hv2 := OwnM.dr hr hv (by decide) hd2
   simp [h0, h6]
   refine c_split (fun hq => ?_) (fun hq => ?_) <;> simp at hq
   · simp [h0, h6]
     refine cg_ex (pick_ok o _ 9 _ hr2 (by omega) (by omega)) ?_
     rintro _ H3 ⟨q, rfl, hq9, hd3, hr3, -⟩
     have hv3 := OwnM.dr hr2 hv2 (by decide) hd3
     simp [h0, h6]
     have hlb := hd.len
     have hl2b := hd2.len
     have hl3b := hd3.len
     refine appG_one' (bytes := 32) (R := ds.map ddRow) rfl hv3.1 (by simp; omega) (fun v5 H5 g1 g2 g3 => ?_)
     have hv5 : OwnD H H5 v5 (ds ++ [⟨IntKind.i64.wrap ((q : Int) - 1), ⟨#[120]⟩, -1⟩]) := ⟨by simpa [ddRow] using g1, fun x hx => (g3 x hx).elim (hv3.2 x) (fun h => by omega)⟩
     have hr5 := (hr3.fr g2 (fun h => hr3.ne hv3.rows (by decide) h rfl) (fun x ob hx ho => by rw [hv3.1.esz hx ho]; decide))
     have hd5 : Dr o H H5 := ((hd.same hd2).same hd3).trans g2 (fun x hx => .inr (hv3.2 x hx))
     simp
     refine ⟨_, hv5, by simp; omega, fun d hd => ?_, hd5, hr5.mono (by omega)⟩
     rcases List.mem_append.1 hd with h | h
     · exact hdk d h
     · rw [List.mem_singleton.1 h]; show 1 <= 5; omega
   · simp [h0, h6]
     exact ⟨ds, hv2, by omega, hdk, hd.same hd2, hr2.mono (by omega)⟩
end Go.Proofs.YtgoeenodllmdpaaGreat.B

namespace Go.Proofs.YtgoeenodllmdpaaGreat.B
open Go.RowKit Go.Proofs
set_option linter.unusedVariables false
set_option linter.unusedSimpArgs false
variable {E : Env}
theorem MSt.frn {S : Nat -> Prop} {H0 H H' : Hp} {v : AV} {s : Sr} (h : MSt H0 H v s) (hf : Fr S H H') (hS : ∀ x ob, S x -> H.at x = some ob -> ob.esz = 2 \/ ob.esz = 6) : MSt H0 H' v s := by
 obtain ⟨a, ol, os, d, lr, sr, rfl, ha, hlv, hlr, hsv, hsr, hd, hdo, hol, hos, hl3, hs3, hoff⟩ := h
 have no : ∀ {esz ety : Nat} {v : AV} {R : List (List AV)}, esz ≠ 2 /\ esz ≠ 6 -> Own esz ety H v R -> ∀ x, v.of x -> ¬ S x := by
   intro esz ety v R hne ho x hx hs
   rcases ho with ⟨rfl, _⟩ | ⟨rfl, _⟩ | ⟨o', ob, rfl, a2, a3, a4, _⟩
   · exact hx.elim
   · exact hx.elim
   · have : o' = x := hx
     subst this
     rcases hS _ _ hs a2 with h | h
     · exact hne.1 (a4.symm.trans h)
     · exact hne.2 (a4.symm.trans h)
 refine ⟨a, ol, os, d, lr, sr, rfl, ha.fr hf (no (by omega) ha.1), hlv.fr hf (no (by omega) hlv), All2.mono (fun _ _ h => h.fr hf (fun x ob hs ho => by have := hS x ob hs ho; omega)) hlr, hsv.fr hf (no (by omega) hsv),
   All2.mono (fun _ _ h => h.fr hf (fun x ob hs ho => .inl (by have := hS x ob hs ho; omega)) (fun _ _ h => h)) hsr, hd.fr hf (no (by omega) hd.1), hdo, hol, hos, hl3, hs3, hoff⟩
theorem doAll_small : ∀ (ds : List Dd) {s : Sr}, Small s -> Small (doAll s ds)
 | [], s, h => h
 | d :: ds, s, h => by
   have : doAll s (d :: ds) = doAll ((doR s d).getD s) ds := rfl
   rw [this]
   refine doAll_small ds ?_
   cases hd : doR s d with
   | none => exact h
   | some x => exact doR_small hd
theorem pastR_small {s x : Sr} {ds : List Dd} (h : pastR s ds = some x) : Small x := by
 unfold pastR at h
 split at h
 · rename_i hc
   cases h
   simp only [Bool.and_eq_true] at hc
   exact doAll_small ds (storeOk_small hc.1)
 · cases h
end Go.Proofs.YtgoeenodllmdpaaGreat.B

namespace Go.Proofs.YtgoeenodllmdpaaGreat.B
open Go.RowKit
set_option linter.unusedVariables false
set_option linter.unusedSimpArgs false
structure Best (l : List Ent) (k : ByteArray) (t : Int) (e : Ent) : Prop where
 mem : e ∈ l
 key : e.key = k
 le : e.time <= t
 max : ∀ y ∈ l, y.key = k -> y.time <= t -> y.time <= e.time
theorem Best.congr {l l' : List Ent} (h : ∀ x, x ∈ l ↔ x ∈ l') {k : ByteArray} {t : Int} {e : Ent} (hb : Best l k t e) : Best l' k t e := ⟨(h e).1 hb.mem, hb.key, hb.le, fun y hy => hb.max y ((h y).2 hy)⟩
theorem best_of {l : List Ent} {k : ByteArray} {t : Int} : ∀ {x : Ent}, x ∈ l -> x.key = k -> x.time <= t -> ∃ e, Best l k t e /\ x.time <= e.time := by
 induction l with
 | nil => intro x hx; cases hx
 | cons a l ih =>
   intro x hx hk ht
   by_cases ha : a.key = k /\ a.time <= t
   · by_cases hl : ∃ z ∈ l, z.key = k /\ z.time <= t
     · obtain ⟨z, hz, hzk, hzt⟩ := hl
       obtain ⟨e, he, hze⟩ := ih hz hzk hzt
       by_cases hc : a.time <= e.time
       · refine ⟨e, ⟨by simp [he.mem], he.key, he.le, fun y hy hyk hyt => ?_⟩, ?_⟩
         · rcases List.mem_cons.1 hy with rfl | hy
           · exact hc
           · exact he.max y hy hyk hyt
         · rcases List.mem_cons.1 hx with rfl | hx
           · exact hc
           · exact he.max x hx hk ht
       · refine ⟨a, ⟨by simp, ha.1, ha.2, fun y hy hyk hyt => ?_⟩, ?_⟩
         · rcases List.mem_cons.1 hy with rfl | hy
           · exact Int.le_refl _
           · have := he.max y hy hyk hyt
             omega
         · rcases List.mem_cons.1 hx with rfl | hx
           · exact Int.le_refl _
           · have := he.max x hx hk ht
             omega
     · have hno : ∀ y ∈ l, y.key = k -> y.time <= t -> False := fun y hy h1 h2 => hl ⟨y, hy, h1, h2⟩
       refine ⟨a, ⟨by simp, ha.1, ha.2, fun y hy hyk hyt => ?_⟩, ?_⟩
       · rcases List.mem_cons.1 hy with rfl | hy
         · exact Int.le_refl _
         · exact (hno y hy hyk hyt).elim
       · rcases List.mem_cons.1 hx with rfl | hx
         · exact Int.le_refl _
         · exact (hno x hx hk ht).elim
   · rcases List.mem_cons.1 hx with rfl | hx
     · exact absurd ⟨hk, ht⟩ ha
     · obtain ⟨e, he, hxe⟩ := ih hx hk ht
       refine ⟨e, ⟨by simp [he.mem], he.key, he.le, fun y hy hyk hyt => ?_⟩, hxe⟩
       rcases List.mem_cons.1 hy with rfl | hy
       · exact absurd ⟨hyk, hyt⟩ ha
       · exact he.max y hy hyk hyt
def Same (t : Int) (l l' : List Ent) : Prop := ∀ k e, Best l k t e ↔ Best l' k t e
def Seen (t : Int) (l l' : List Ent) : Prop := ∀ k e, e.gone = false -> (Best l k t e ↔ Best l' k t e)
theorem Same.seen {t : Int} {l l' : List Ent} (h : Same t l l') : Seen t l l' := fun k e _ => h k e
theorem Same.refl (t : Int) (l : List Ent) : Same t l l := fun _ _ => Iff.rfl
theorem Same.trans {t : Int} {a b c : List Ent} (h : Same t a b) (k : Same t b c) : Same t a c := fun x e => (h x e).trans (k x e)
theorem Seen.trans {t : Int} {a b c : List Ent} (h : Seen t a b) (k : Seen t b c) : Seen t a c := fun x e g => (h x e g).trans (k x e g)
theorem same_mem {t : Int} {l l' : List Ent} (h : ∀ x, x ∈ l ↔ x ∈ l') : Same t l l' := fun k e => ⟨Best.congr h, Best.congr (fun x => (h x).symm)⟩
theorem same_sub {t : Int} {l l' : List Ent} (hs : ∀ x ∈ l', x ∈ l) (hb : ∀ k e, Best l k t e -> e ∈ l') : Same t l l' := fun k e => by
 constructor
 · intro h
   exact ⟨hb k e h, h.key, h.le, fun y hy => h.max y (hs y hy)⟩
 · intro h
   refine ⟨hs e h.mem, h.key, h.le, fun y hy hyk hyt => ?_⟩
   obtain ⟨g, hg, hyg⟩ := best_of hy hyk hyt
   have := h.max g (hb k g hg) hg.key hg.le
   omega
def Newer (a b : List Ent) : Prop := ∀ x ∈ a, ∀ y ∈ b, x.key = y.key -> y.time < x.time
theorem best_app {a b : List Ent} (h : Newer a b) {k : ByteArray} {t : Int} {e : Ent} : Best (a ++ b) k t e ↔ Best a k t e \/ ((∀ x ∈ a, x.key = k -> ¬ x.time <= t) /\ Best b k t e) := by
 constructor
 · intro hb
   by_cases hx : ∃ x ∈ a, x.key = k /\ x.time <= t
   · obtain ⟨x, hxa, hxk, hxt⟩ := hx
     have hm := hb.max x (by simp [hxa]) hxk hxt
     rcases List.mem_append.1 hb.mem with hea | heb
     · exact .inl ⟨hea, hb.key, hb.le, fun y hy => hb.max y (by simp [hy])⟩
     · have := h x hxa e heb (hxk.trans hb.key.symm)
       omega
   · have hno : ∀ x ∈ a, x.key = k -> ¬ x.time <= t := fun x h1 h2 h3 => hx ⟨x, h1, h2, h3⟩
     rcases List.mem_append.1 hb.mem with hea | heb
     · exact absurd hb.le (hno e hea hb.key)
     · exact .inr ⟨hno, heb, hb.key, hb.le, fun y hy => hb.max y (by simp [hy])⟩
 · rintro (hb | ⟨hno, hb⟩)
   · refine ⟨by simp [hb.mem], hb.key, hb.le, fun y hy hyk hyt => ?_⟩
     rcases List.mem_append.1 hy with hy | hy
     · exact hb.max y hy hyk hyt
     · have := h e hb.mem y hy (hb.key.trans hyk.symm)
       omega
   · refine ⟨by simp [hb.mem], hb.key, hb.le, fun y hy hyk hyt => ?_⟩
     rcases List.mem_append.1 hy with hy | hy
     · exact absurd hyt (hno y hy hyk)
     · exact hb.max y hy hyk hyt
theorem Seen.left {t : Int} {a b b' : List Ent} (h : Newer a b) (h' : Newer a b') (hs : Seen t b b') : Seen t (a ++ b) (a ++ b') := fun k e g => by
 rw [best_app h, best_app h', hs k e g]
theorem Same.right {t : Int} {a a' b : List Ent} (h : Newer a b) (h' : Newer a' b) (hs : Same t a a') : Same t (a ++ b) (a' ++ b) := fun k e => by
 rw [best_app h, best_app h', hs k e]
 have : (∀ x ∈ a, x.key = k -> ¬ x.time <= t) ↔ (∀ x ∈ a', x.key = k -> ¬ x.time <= t) := by
   constructor
   · intro hn x hx hk ht
     obtain ⟨g, hg, _⟩ := best_of hx hk ht
     exact hn g ((hs k g).2 hg).mem hg.key hg.le
   · intro hn x hx hk ht
     obtain ⟨g, hg, _⟩ := best_of hx hk ht
     exact hn g ((hs k g).1 hg).mem hg.key hg.le
 rw [this]
def Look (ts : List Int) (r : List Ent) (t : Int) : Prop := t ∈ ts \/ ∀ x ∈ r, x.time <= t
theorem trim1_best {ts : List Int} {t : Int} : ∀ {r : List Ent} {p : Option Ent}, (∀ q, p = some q -> ∀ y ∈ r, ahead q y = true) -> r.Pairwise (fun x y => ahead x y = true) -> (t ∈ ts \/ ((∀ x ∈ r, x.time <= t) /\ ∀ q, p = some q -> q.time <= t)) ->
   ∀ k e, Best r k t e -> (∀ q, p = some q -> q.key = k -> t < q.time) -> e ∈ trim1 ts p r
 | [], p, _, _, _, k, e, hb, _ => by cases hb.mem
 | a :: r, p, hp, hs, hlook, k, e, hb, hpq => by
   obtain ⟨h1, h2⟩ := List.pairwise_cons.1 hs
   have hlook2 : t ∈ ts \/ ((∀ x ∈ r, x.time <= t) /\ ∀ q, some a = some q -> q.time <= t) := hlook.imp id (fun h => ⟨fun x hx => h.1 x (by simp [hx]), fun q hq => by injection hq with hq; rw [<- hq]; exact h.1 a (by simp)⟩)
   rw [trim1]
   have rec' : e ∈ r -> e ∈ trim1 ts (some a) r := fun her => by
     refine trim1_best (fun q hq y hy => by injection hq with hq; rw [<- hq]; exact h1 y hy) h2 hlook2 k e ⟨her, hb.key, hb.le, fun y hy => hb.max y (by simp [hy])⟩ (fun q hq hqk => ?_)
     injection hq with hq
     subst hq
     rcases Int.lt_or_le t a.time with hlt | hle
     · exact hlt
     · have := hb.max a (by simp) hqk hle
       have h3 := h1 e her
       rw [ahead_iff, hqk, hb.key, sless_irrefl] at h3
       rcases h3 with h3 | h3
       · cases h3
       · omega
   rcases List.mem_cons.1 hb.mem with he | he
   · subst he
     have hk : seenB ts p e = true := by
       unfold seenB
       cases p with
       | none => rfl
       | some q =>
         simp only [Bool.or_eq_true, Bool.not_eq_true', decide_eq_false_iff_not]
         by_cases hqk : q.key = e.key
         · right
           have hqt := hpq q rfl (hqk.trans hb.key)
           rcases hlook with hl | hl
           · rw [List.any_eq_true]
             exact ⟨t, hl, by simp only [Bool.and_eq_true, decide_eq_true_eq]; exact ⟨hb.le, hqt⟩⟩
           · have := hl.2 q rfl
             omega
         · exact .inl hqk
     rw [if_pos hk]
     simp
   · split
     · exact List.mem_cons_of_mem _ (rec' he)
     · exact rec' he
theorem trim1_mem {ts : List Int} {p : Option Ent} {r : List Ent} {x : Ent} (h : x ∈ trim1 ts p r) : x ∈ r := (trim1_sub ts p r).subset h
theorem trim1_same {ts : List Int} {t : Int} {r : List Ent} (hr : r.Pairwise (fun x y => ahead x y = true)) (hl : Look ts r t) : Same t r (trim1 ts none r) :=
 same_sub (fun x hx => trim1_mem hx) (fun k e hb => trim1_best (fun q hq => by cases hq) hr (hl.imp id (fun h => ⟨h, fun q hq => by cases hq⟩)) k e hb (fun q hq => by cases hq))
theorem drop1_mem : ∀ {r : List Ent} {x : Ent}, r.Pairwise (fun x y => ahead x y = true) -> x ∈ r -> x ∈ drop1 r \/ (x.gone = true /\ ∀ y ∈ r, y.key = x.key -> x.time <= y.time)
 | [], x, _, h => by cases h
 | a :: r, x, hs, h => by
   obtain ⟨h1, h2⟩ := List.pairwise_cons.1 hs
   rw [drop1]
   rcases List.mem_cons.1 h with rfl | hx
   · by_cases hk : (!x.gone || !lastB x r) = true
     · rw [if_pos hk]
       exact .inl (by simp)
     · right
       simp only [Bool.or_eq_true, Bool.not_eq_true', not_or, Bool.not_eq_false] at hk
       refine ⟨hk.1, fun y hy hyk => ?_⟩
       rcases List.mem_cons.1 hy with rfl | hy
       · exact Int.le_refl _
       · exfalso
         have hl := hk.2
         cases r with
         | nil => cases hy
         | cons f fs =>
           simp only [lastB, Bool.not_eq_true', decide_eq_false_iff_not] at hl
           have hxf := h1 f (by simp)
           have hxy := h1 y hy
           have hfx : f.key ≠ x.key := hl
           rw [ahead_iff] at hxf
           rcases hxf with hxf | hxf
           · rcases List.mem_cons.1 hy with rfl | hy
             · exact hfx hyk
             · have hfy := (List.pairwise_cons.1 h2).1 y hy
               rw [ahead_iff, hyk] at hfy
               rcases hfy with hfy | hfy
               · have := sless_asymm hxf
                 rw [hfy] at this
                 cases this
               · exact hfx hfy.1
           · exact hfx hxf.1.symm
   · rcases drop1_mem h2 hx with hd | ⟨hg, hm⟩
     · left
       split
       · exact List.mem_cons_of_mem _ hd
       · exact hd
     · right
       refine ⟨hg, fun y hy hyk => ?_⟩
       rcases List.mem_cons.1 hy with rfl | hy
       · have := h1 x hx
         rw [ahead_iff, hyk, sless_irrefl] at this
         rcases this with h | h
         · cases h
         · omega
       · exact hm y hy hyk
theorem drop1_seen {t : Int} {r : List Ent} (hr : r.Pairwise (fun x y => ahead x y = true)) : Seen t r (drop1 r) := fun k e g => by
 have hsub : ∀ x ∈ drop1 r, x ∈ r := fun x hx => (drop1_sub r).subset hx
 constructor
 · intro h
   rcases drop1_mem hr h.mem with hd | ⟨hg, _⟩
   · exact ⟨hd, h.key, h.le, fun y hy => h.max y (hsub y hy)⟩
   · rw [hg] at g; cases g
 · intro h
   refine ⟨hsub e h.mem, h.key, h.le, fun y hy hyk hyt => ?_⟩
   rcases drop1_mem hr hy with hd | ⟨_, hm⟩
   · exact h.max y hd hyk hyt
   · exact hm e (hsub e h.mem) (h.key.trans hyk.symm)
theorem trimR_seen {ts : List Int} {t : Int} {r : List Ent} (b : Bool) (hr : r.Pairwise (fun x y => ahead x y = true)) (hl : Look ts r t) : Seen t r (trimR r ts b) := by
 unfold trimR
 split
 · exact (trim1_same hr hl).seen.trans (drop1_seen (hr.sublist (trim1_sub ts none r)))
 · exact (trim1_same hr hl).seen
theorem trimR_same {ts : List Int} {t : Int} {r : List Ent} (hr : r.Pairwise (fun x y => ahead x y = true)) (hl : Look ts r t) : Same t r (trimR r ts false) := by
 unfold trimR
 rw [if_neg (by decide)]
 exact trim1_same hr hl
end Go.Proofs.YtgoeenodllmdpaaGreat.B

namespace Go.Proofs.YtgoeenodllmdpaaGreat.B
open Go.RowKit
set_option linter.unusedVariables false
set_option linter.unusedSimpArgs false
structure LvOk (keep : Int) (i : Nat) (l : List Ent) (v : Sv) : Prop where
 run : runOk l = true
 len : l.length <= sizeL i
 sv : sieveO (keysR l) keep = some v
theorem runOk_sub {r l : List Ent} (h : runOk r = true) (hs : l.Sublist r) : runOk l = true := by
 obtain ⟨h1, h2, h3⟩ := runOk_pair h
 exact runOk_of (h1.sublist hs) (fun e he => h2 e (hs.subset he)) (Nat.le_trans hs.length_le h3)
theorem setR_some {s x : Sr} {i : Nat} {r : List Ent} (h : setR s i r = some x) : ∃ v, x = { s with lev := s.lev.set i r, sv := s.sv.set i v } /\ sieveO (keysR r) s.keep = some v /\ r.length <= sizeL i := by
 unfold setR at h
 split at h
 · cases h
 · rename_i v hv
   split at h
   · rename_i hl
     injection h with h
     exact ⟨v, h.symm, hv, hl⟩
   · cases h
theorem Newer.sub {a b a' b' : List Ent} (h : Newer a b) (ha : ∀ x ∈ a', x ∈ a) (hb : ∀ x ∈ b', x ∈ b) : Newer a' b' := fun x hx y hy => h x (ha x hx) y (hb y hy)
theorem Newer.app {a b c : List Ent} (h : Newer a b) (k : Newer a c) : Newer a (b ++ c) := fun x hx y hy => (List.mem_append.1 hy).elim (h x hx y) (k x hx y)
theorem Newer.app_left {a b c : List Ent} (h : Newer a c) (k : Newer b c) : Newer (a ++ b) c := fun x hx y hy => (List.mem_append.1 hx).elim (fun h' => h x h' y hy) (fun h' => k x h' y hy)
theorem fine_of {a b : List Ent} (ha : runOk a = true) (hb : runOk b = true) (hn : Newer a b) (hl : a.length + b.length <= 40) : Fine a b := ⟨ha, hb, hn, hl⟩
theorem joinL_iff (a b : List Ent) (x : Ent) : x ∈ joinL a b ↔ x ∈ a ++ b := (joinL_perm b a).mem_iff
theorem join_trim {ts : List Int} {t : Int} {a b : List Ent} (bot : Bool) (h : Fine a b) (hl : Look ts (a ++ b) t) : runOk (trimR (joinL a b) ts bot) = true /\ (∀ x ∈ trimR (joinL a b) ts bot, x ∈ a ++ b) /\ Seen t (a ++ b) (trimR (joinL a b) ts bot) /\ (bot = false -> Same t (a ++ b) (trimR (joinL a b) ts bot)) := by
 have hr := h.run
 have hp := (runOk_pair hr).1
 have hl' : Look ts (joinL a b) t := hl.imp id (fun g x hx => g x ((joinL_iff a b x).1 hx))
 have hs : Same t (a ++ b) (joinL a b) := same_mem (fun x => (joinL_iff a b x).symm)
 refine ⟨runOk_sub hr (trimR_sub _ _ _), fun x hx => (joinL_iff a b x).1 ((trimR_sub _ _ _).subset hx), hs.seen.trans (trimR_seen bot hp hl'), fun hb => ?_⟩
 subst hb
 exact hs.trans (trimR_same hp hl')
theorem Look.sub {ts : List Int} {t : Int} {r r' : List Ent} (h : Look ts r t) (hs : ∀ x ∈ r', x ∈ r) : Look ts r' t := h.imp id (fun g x hx => g x (hs x hx))
section
variable {s x : Sr} {a b c r : List Ent} {u v w : Sv}
theorem into0 (hl : s.lev = [a, b, c]) (hs : s.sv = [u, v, w]) (hf : Fine r c) (hx : intoR 0 s r = some x) :
   ∃ c' w', x = { s with lev := [a, b, c'], sv := [u, v, w'] } /\ LvOk s.keep 2 c' w' /\ (∀ y ∈ c', y ∈ r ++ c) /\ ∀ t, Look s.tms (r ++ c) t -> Seen t (r ++ c) c' := by
 rw [intoR, hl] at hx
 obtain ⟨w', rfl, h2, h3⟩ := setR_some hx
 have hj := fun t => join_trim (ts := s.tms) (t := t) true hf
 refine ⟨_, w', by rw [hl, hs]; rfl, ⟨?_, h3, h2⟩, ?_, fun t ht => (hj t ht).2.2.1⟩
 · exact runOk_sub hf.run (trimR_sub _ _ _)
 · exact fun y hy => (joinL_iff _ _ _).1 ((trimR_sub _ _ _).subset hy)
theorem into1 (hl : s.lev = [a, b, c]) (hs : s.sv = [u, v, w]) (hf : Fine r b) (hf2 : Fine b c) (hrc : Newer r c) (hc : LvOk s.keep 2 c w) (hx : intoR 1 s r = some x) :
   ∃ b' c' v' w', x = { s with lev := [a, b', c'], sv := [u, v', w'] } /\ LvOk s.keep 1 b' v' /\ LvOk s.keep 2 c' w' /\ Newer b' c' /\ (∀ y ∈ b', y ∈ r ++ b) /\ (∀ y ∈ b' ++ c', y ∈ r ++ (b ++ c)) /\ ∀ t, Look s.tms (r ++ (b ++ c)) t -> Seen t (r ++ (b ++ c)) (b' ++ c') := by
 have hj := fun t => join_trim (ts := s.tms) (t := t) false hf
 have hsub : ∀ y ∈ trimR (joinL r b) s.tms false, y ∈ r ++ b := fun y hy => (joinL_iff _ _ _).1 ((trimR_sub _ _ _).subset hy)
 have hrbc : Newer (r ++ b) c := hrc.app_left hf2.new
 rw [intoR, hl] at hx
 simp only [List.getD_cons_succ, List.getD_cons_zero] at hx
 cases h1 : setR s 1 (trimR (joinL r b) s.tms false) with
 | some z =>
   have hx : some z = some x := by
     rw [<- hx, show (1 - 0 : Nat) = 1 from rfl]
     simp only [List.getD_cons_succ, List.getD_cons_zero, h1]
   injection hx with hx
   subst hx
   obtain ⟨v', rfl, h2, h3⟩ := setR_some h1
   refine ⟨trimR (joinL r b) s.tms false, c, v', w, by rw [hl, hs]; rfl, ⟨runOk_sub hf.run (trimR_sub _ _ _), h3, h2⟩, hc, hrbc.sub hsub (fun _ h => h), hsub, fun y hy => ?_, fun t ht => ?_⟩
   · rcases List.mem_append.1 hy with h | h
     · rw [<- List.append_assoc]
       exact List.mem_append_left _ (hsub y h)
     · simp [h]
   · have ht' : Look s.tms (r ++ b) t := ht.sub (fun y hy => by rw [<- List.append_assoc]; exact List.mem_append_left _ hy)
     rw [<- List.append_assoc]
     exact (((hj t ht').2.2.2 rfl).right hrbc (hrbc.sub hsub (fun _ h => h))).seen
 | none =>
   have hx : (match intoR 0 s b with | none => none | some x => setR x 1 (trimR r x.tms false)) = some x := by
     rw [<- hx, show (1 - 0 : Nat) = 1 from rfl]
     simp only [List.getD_cons_succ, List.getD_cons_zero, h1]
     rfl
   cases h0 : intoR 0 s b with
   | none => rw [h0] at hx; cases hx
   | some z =>
     rw [h0] at hx
     obtain ⟨c', w', rfl, k1, k2, k3⟩ := into0 hl hs hf2 h0
     simp only at hx
     obtain ⟨v', rfl, h2, h3⟩ := setR_some hx
     have hsubr : ∀ y ∈ trimR r s.tms false, y ∈ r := fun y hy => (trimR_sub _ _ _).subset hy
     have hrn : Newer r (b ++ c) := Newer.app hf.new hrc
     have hn' : Newer r c' := hrn.sub (fun _ h => h) k2
     refine ⟨trimR r s.tms false, c', v', w', by rfl, ⟨runOk_sub hf.ra (trimR_sub _ _ _), h3, h2⟩, k1, hn'.sub hsubr (fun _ h => h), fun y hy => List.mem_append_left _ (hsubr y hy), fun y hy => ?_, fun t ht => ?_⟩
     · rcases List.mem_append.1 hy with h | h
       · exact List.mem_append_left _ (hsubr y h)
       · exact List.mem_append_right _ (k2 y h)
     · have t1 : Look s.tms r t := ht.sub (fun y hy => List.mem_append_left _ hy)
       have t2 : Look s.tms (b ++ c) t := ht.sub (fun y hy => List.mem_append_right _ hy)
       have e1 : Seen t (r ++ (b ++ c)) (r ++ c') := Seen.left hrn hn' (k3 t t2)
       have e2 : Same t (r ++ c') (trimR r s.tms false ++ c') := Same.right hn' (hn'.sub hsubr (fun _ h => h)) (trimR_same (runOk_pair hf.ra).1 t1)
       exact e1.trans e2.seen
theorem into2 (hl : s.lev = [a, b, c]) (hs : s.sv = [u, v, w]) (hf : Fine r a) (hf1 : Fine a b) (hf2 : Fine b c) (hrb : Newer r b) (hrc : Newer r c) (hac : Newer a c) (hb : LvOk s.keep 1 b v) (hc : LvOk s.keep 2 c w) (hx : intoR 2 s r = some x) :
   ∃ a' b' c' u' v' w', x = { s with lev := [a', b', c'], sv := [u', v', w'] } /\ LvOk s.keep 0 a' u' /\ LvOk s.keep 1 b' v' /\ LvOk s.keep 2 c' w' /\ Newer a' (b' ++ c') /\ Newer b' c' /\ (∀ y ∈ a' ++ (b' ++ c'), y ∈ r ++ (a ++ (b ++ c))) /\ ∀ t, Look s.tms (r ++ (a ++ (b ++ c))) t -> Seen t (r ++ (a ++ (b ++ c))) (a' ++ (b' ++ c')) := by
 have hj := fun t => join_trim (ts := s.tms) (t := t) false hf
 have hsub : ∀ y ∈ trimR (joinL r a) s.tms false, y ∈ r ++ a := fun y hy => (joinL_iff _ _ _).1 ((trimR_sub _ _ _).subset hy)
 have hbc : Newer b c := hf2.new
 have hra : Newer (r ++ a) (b ++ c) := (Newer.app hrb hrc).app_left (Newer.app hf1.new hac)
 rw [intoR, hl] at hx
 cases h1 : setR s 0 (trimR (joinL r a) s.tms false) with
 | some z =>
   have hx : some z = some x := by
     rw [<- hx, show (1 - 1 : Nat) = 0 from rfl]
     simp only [List.getD_cons_zero, h1]
   injection hx with hx
   subst hx
   obtain ⟨u', rfl, h2, h3⟩ := setR_some h1
   refine ⟨trimR (joinL r a) s.tms false, b, c, u', v, w, by rw [hl, hs]; rfl, ⟨runOk_sub hf.run (trimR_sub _ _ _), h3, h2⟩, hb, hc, hra.sub hsub (fun _ h => h), hbc, fun y hy => ?_, fun t ht => ?_⟩
   · rcases List.mem_append.1 hy with h | h
     · rw [<- List.append_assoc]
       exact List.mem_append_left _ (hsub y h)
     · exact List.mem_append_right _ (List.mem_append_right _ h)
   · have ht' : Look s.tms (r ++ a) t := ht.sub (fun y hy => by rw [<- List.append_assoc]; exact List.mem_append_left _ hy)
     rw [<- List.append_assoc]
     exact (((hj t ht').2.2.2 rfl).right hra (hra.sub hsub (fun _ h => h))).seen
 | none =>
   have hx : (match intoR 1 s a with | none => none | some x => setR x 0 (trimR r x.tms false)) = some x := by
     rw [<- hx, show (1 - 1 : Nat) = 0 from rfl]
     simp only [List.getD_cons_zero, h1]
     rfl
   cases h0 : intoR 1 s a with
   | none => rw [h0] at hx; cases hx
   | some z =>
     rw [h0] at hx
     obtain ⟨b', c', v', w', rfl, k1, k2, k3, -, k4, k5⟩ := into1 hl hs hf1 hf2 hac hc h0
     simp only at hx
     obtain ⟨u', rfl, h2, h3⟩ := setR_some hx
     have hsubr : ∀ y ∈ trimR r s.tms false, y ∈ r := fun y hy => (trimR_sub _ _ _).subset hy
     have hrn : Newer r (a ++ (b ++ c)) := Newer.app hf.new (Newer.app hrb hrc)
     have hn' : Newer r (b' ++ c') := hrn.sub (fun _ h => h) k4
     refine ⟨trimR r s.tms false, b', c', u', v', w', by rfl, ⟨runOk_sub hf.ra (trimR_sub _ _ _), h3, h2⟩, k1, k2, hn'.sub hsubr (fun _ h => h), k3, fun y hy => ?_, fun t ht => ?_⟩
     · rcases List.mem_append.1 hy with h | h
       · exact List.mem_append_left _ (hsubr y h)
       · exact List.mem_append_right _ (k4 y h)
     · have t1 : Look s.tms r t := ht.sub (fun y hy => List.mem_append_left _ hy)
       have t2 : Look s.tms (a ++ (b ++ c)) t := ht.sub (fun y hy => List.mem_append_right _ hy)
       have e1 : Seen t (r ++ (a ++ (b ++ c))) (r ++ (b' ++ c')) := Seen.left hrn hn' (k5 t t2)
       have e2 : Same t (r ++ (b' ++ c')) (trimR r s.tms false ++ (b' ++ c')) := Same.right hn' (hn'.sub hsubr (fun _ h => h)) (trimR_same (runOk_pair hf.ra).1 t1)
       exact e1.trans e2.seen
end
end Go.Proofs.YtgoeenodllmdpaaGreat.B

namespace Go.Proofs.YtgoeenodllmdpaaGreat.B
open Go.RowKit
set_option linter.unusedVariables false
set_option linter.unusedSimpArgs false
def entsR (s : Sr) : List Ent := s.top ++ s.lev.flatten
structure V (s : Sr) (a b c : List Ent) (u v w : Sv) : Prop where
 lev : s.lev = [a, b, c]
 sv : s.sv = [u, v, w]
 keep : 0 <= s.keep /\ s.keep <= 5
 time : 0 <= s.time /\ s.time <= 999
 tms : timesR s.tms s.time = true
 top : runOk s.top = true
 top4 : s.top.length <= 4
 la : LvOk s.keep 0 a u
 lb : LvOk s.keep 1 b v
 lc : LvOk s.keep 2 c w
 ta : Newer s.top (a ++ (b ++ c))
 ab : Newer a (b ++ c)
 bc : Newer b c
 late : ∀ e ∈ s.top ++ (a ++ (b ++ c)), e.time <= s.time
def Val (s : Sr) : Prop := ∃ a b c u v w, V s a b c u v w
theorem entsR_of {s : Sr} {a b c : List Ent} (h : s.lev = [a, b, c]) : entsR s = s.top ++ (a ++ (b ++ c)) := by
 unfold entsR
 rw [h]
 simp
section
variable {s x : Sr} {a b c : List Ent} {u v w : Sv}
theorem V.ok (h : V s a b c u v w) : storeOk s = true := by
 rw [<- storeI_eq]
 obtain ⟨lev, sv, keep, time, tms, top, top4, la, lb, lc, ta, ab, bc, late⟩ := h
 have hl : ∀ (up : List Ent), (∀ e ∈ up, e ∈ s.top ++ (a ++ (b ++ c))) -> lateI s.time up = false := fun up hu => (lateI_iff _ _).2 (fun e he => late e (hu e he))
 simp only [storeI, headI, okI, aboveI, lev, sv, List.getD_cons_zero, List.getD_cons_succ, List.take_zero, List.take_succ_cons, List.flatten_nil, List.flatten_cons, List.append_nil, List.length_cons, List.length_nil, Bool.and_eq_true, decide_eq_true_eq, Bool.not_eq_true']
 refine ⟨⟨⟨⟨⟨⟨⟨⟨trivial, trivial⟩, top⟩, top4⟩, time⟩, tms⟩, ⟨⟨⟨la.run, la.len⟩, la.sv⟩, ?_⟩, ?_⟩, ⟨⟨⟨lb.run, lb.len⟩, lb.sv⟩, ?_⟩, ?_⟩, ⟨⟨⟨lc.run, lc.len⟩, lc.sv⟩, ?_⟩, ?_⟩
 · exact (newerI_iff _ _).2 (fun x hx y hy => ta x hx y (by simp [hy]))
 · exact hl _ (fun e he => by simp [he])
 · refine (newerI_iff _ _).2 (fun x hx y hy => ?_)
   rcases List.mem_append.1 hx with h | h
   · exact ta x h y (by simp [hy])
   · exact ab x h y (by simp [hy])
 · exact hl _ (fun e he => by rcases List.mem_append.1 he with h | h <;> simp [h])
 · refine (newerI_iff _ _).2 (fun x hx y hy => ?_)
   rcases List.mem_append.1 hx with h | h
   · exact ta x h y (by simp [hy])
   · rcases List.mem_append.1 h with h | h
     · exact ab x h y (by simp [hy])
     · exact bc x h y hy
 · refine hl _ (fun e he => ?_)
   rcases List.mem_append.1 he with h | h
   · simp [h]
   · rcases List.mem_append.1 h with h | h <;> simp [h]
theorem V.fine (h : V s a b c u v w) : Fine s.top a /\ Fine a b /\ Fine b c := by
 have := store_fine h.ok
 rw [h.lev] at this
 exact this
def Found (s x : Sr) : Prop := ∀ t, (t ∈ s.tms \/ t = s.time) -> Seen t (entsR s) (entsR x)
theorem V.look (h : V s a b c u v w) {t : Int} (ht : t ∈ s.tms \/ t = s.time) {l : List Ent} (hl : ∀ x ∈ l, x ∈ s.top ++ (a ++ (b ++ c))) : Look s.tms l t :=
 ht.imp id (fun e x hx => by rw [e]; exact h.late x (hl x hx))
theorem down_V (h : V s a b c u v w) (hx : downR s = some x) : Val x /\ x.top = [] /\ x.time = s.time /\ x.keep = s.keep /\ x.tms = s.tms /\ (∀ e ∈ entsR x, e ∈ entsR s) /\ Found s x := by
 obtain ⟨f0, f1, f2⟩ := h.fine
 have hx' : intoR 2 { s with top := [] } s.top = some x := hx
 have tb : Newer s.top b := h.ta.sub (fun _ h => h) (fun y hy => by simp [hy])
 have tc : Newer s.top c := h.ta.sub (fun _ h => h) (fun y hy => by simp [hy])
 have ac : Newer a c := h.ab.sub (fun _ h => h) (fun y hy => by simp [hy])
 obtain ⟨a', b', c', u', v', w', rfl, k1, k2, k3, k4, k5, k6, k7⟩ := into2 (s := { s with top := [] }) h.lev h.sv f0 f1 f2 tb tc ac h.lb h.lc hx'
 have hen : entsR { s with top := [], lev := [a', b', c'], sv := [u', v', w'] } = a' ++ (b' ++ c') := by
   rw [entsR_of rfl]
   rfl
 have hes := entsR_of h.lev
 refine ⟨⟨a', b', c', u', v', w', rfl, rfl, h.keep, h.time, h.tms, runOk_nil, Nat.zero_le _, k1, k2, k3, fun x hx => (by cases hx), k4, k5, fun e he => h.late e (k6 e (by simpa using he))⟩, rfl, rfl, rfl, rfl, fun e he => ?_, fun t ht => ?_⟩
 · rw [hen] at he
   rw [hes]
   exact k6 e he
 · rw [hen, hes]
   exact k7 t (h.look ht (fun _ h => h))
theorem hold_V (h : V s a b c u v w) (hx : holdR s = some x) : V x a b c u v w /\ x.top = s.top /\ x.lev = s.lev /\ x.time = s.time /\ x.keep = s.keep /\ (x.tms = s.tms \/ x.tms = s.tms ++ [s.time]) /\ s.time ∈ x.tms := by
 have ho := h.ok
 rw [<- holdI_eq ho] at hx
 have hx2 := hx
 rw [holdI_eq ho] at hx2
 unfold holdI at hx
 by_cases hm : s.time ∈ s.tms
 · rw [if_pos hm] at hx
   injection hx with hx
   subst hx
   exact ⟨h, rfl, rfl, rfl, rfl, .inl rfl, hm⟩
 · rw [if_neg hm] at hx
   split at hx
   · injection hx with hx
     subst hx
     have hg : ¬ s.tms.getLast? = some s.time := fun e => hm (List.mem_of_getLast? e)
     have ht : timesR (s.tms ++ [s.time]) s.time = true := by
       cases hc : timesR (s.tms ++ [s.time]) s.time with
       | true => rfl
       | false =>
         unfold holdR at hx2
         rw [if_pos ho, if_neg hg] at hx2
         simp only at hx2
         rw [hc, if_neg (by decide)] at hx2
         cases hx2
     exact ⟨⟨h.lev, h.sv, h.keep, h.time, ht, h.top, h.top4, h.la, h.lb, h.lc, h.ta, h.ab, h.bc, h.late⟩, rfl, rfl, rfl, rfl, .inr rfl, by simp⟩
   · cases hx
theorem free_V {n : Int} (h : V s a b c u v w) (hx : freeR s n = some x) : V x a b c u v w /\ x.top = s.top /\ x.lev = s.lev /\ x.time = s.time /\ x.keep = s.keep /\ x.tms = s.tms.filter (fun y => !decide (y = n)) := by
 unfold freeR at hx
 rw [if_pos h.ok] at hx
 simp only at hx
 split at hx
 · cases hx
 · injection hx with hx
   subst hx
   have ht : timesR (s.tms.filter (fun y => !decide (y = n))) s.time = true := by
     have := h.tms
     simp only [timesR, Bool.and_eq_true, decide_eq_true_eq] at this ⊢
     rw [asc1_iff] at this ⊢
     refine ⟨⟨fun t ht => ?_, this.1.2.sublist List.filter_sublist⟩, Nat.le_trans (List.length_filter_le _ _) this.2⟩
     exact this.1.1 t (List.mem_filter.1 ht).1
   exact ⟨⟨h.lev, h.sv, h.keep, h.time, ht, h.top, h.top4, h.la, h.lb, h.lc, h.ta, h.ab, h.bc, h.late⟩, rfl, rfl, rfl, rfl, rfl⟩
theorem join_V {l : Int} (h : V s a b c u v w) (hx : joinR s l = some x) : Val x /\ x.top = s.top /\ x.time = s.time /\ x.keep = s.keep /\ x.tms = s.tms /\ (∀ e ∈ entsR x, e ∈ entsR s) /\ Found s x := by
 obtain ⟨f0, f1, f2⟩ := h.fine
 have hes := entsR_of h.lev
 unfold joinR at hx
 split at hx
 case isFalse => cases hx
 rename_i hl
 obtain ⟨i, hi, rfl⟩ : ∃ i : Nat, i <= 1 /\ l = i := ⟨l.toNat, by omega, by omega⟩
 rw [show ((i : Nat) : Int).toNat = i by omega] at hx
 obtain ⟨x0, hx0⟩ := setR_nil h.keep i
 have hset := hx0 s rfl
 obtain ⟨v0, he, hv0, -⟩ := setR_some hset
 have hxv : x0 = v0 := by
   have := congrArg Sr.sv he
   simp only at this
   have h1 : (s.sv.set i x0)[i]? = (s.sv.set i v0)[i]? := congrArg (fun q => q[i]?) this
   rw [List.getElem?_set_self (by rw [h.sv]; simp; omega), List.getElem?_set_self (by rw [h.sv]; simp; omega)] at h1
   exact Option.some.inj h1
 rw [hset] at hx
 simp only at hx
 have tb : Newer s.top b := h.ta.sub (fun _ h => h) (fun y hy => by simp [hy])
 have tc : Newer s.top c := h.ta.sub (fun _ h => h) (fun y hy => by simp [hy])
 have ta : Newer s.top a := h.ta.sub (fun _ h => h) (fun y hy => by simp [hy])
 have ac : Newer a c := h.ab.sub (fun _ h => h) (fun y hy => by simp [hy])
 have nil0 : LvOk s.keep i [] x0 := ⟨runOk_nil, Nat.zero_le _, by rw [hxv]; exact hv0⟩
 have hcase : i = 0 \/ i = 1 := by omega
 rcases hcase with rfl | rfl
 · rw [h.lev, h.sv] at hx
   obtain ⟨b', c', v', w', rfl, k2, k3, k5, -, k6, k7⟩ := into1 (s := { s with lev := [[], b, c], sv := [x0, v, w] }) rfl rfl f1 f2 ac h.lc hx
   have hsub : ∀ y ∈ b' ++ c', y ∈ a ++ (b ++ c) := k6
   have hen : entsR { s with lev := [[], b', c'], sv := [x0, v', w'] } = s.top ++ (b' ++ c') := by
     rw [entsR_of rfl]
     rfl
   refine ⟨⟨[], b', c', x0, v', w', rfl, rfl, h.keep, h.time, h.tms, h.top, h.top4, nil0, k2, k3, h.ta.sub (fun _ h => h) (fun y hy => hsub y hy), fun x hx => (by cases hx), k5, fun e he => h.late e ?_⟩, rfl, rfl, rfl, rfl, fun e he => ?_, fun t ht => ?_⟩
   · rcases List.mem_append.1 he with g | g
     · exact List.mem_append_left _ g
     · exact List.mem_append_right _ (hsub e g)
   · rw [hen] at he
     rw [hes]
     rcases List.mem_append.1 he with g | g
     · exact List.mem_append_left _ g
     · exact List.mem_append_right _ (hsub e g)
   · rw [hen, hes]
     exact Seen.left h.ta (h.ta.sub (fun _ h => h) hsub) (k7 t (h.look ht (fun y hy => List.mem_append_right _ hy)))
 · rw [h.lev, h.sv] at hx
   obtain ⟨c', w', rfl, k3, k6, k7⟩ := into0 (s := { s with lev := [a, [], c], sv := [u, x0, w] }) rfl rfl f2 hx
   have hsub : ∀ y ∈ c', y ∈ b ++ c := k6
   have hsub2 : ∀ y ∈ a ++ c', y ∈ a ++ (b ++ c) := fun y hy => by
     rcases List.mem_append.1 hy with g | g
     · exact List.mem_append_left _ g
     · exact List.mem_append_right _ (hsub y g)
   have hen : entsR { s with lev := [a, [], c'], sv := [u, x0, w'] } = s.top ++ (a ++ c') := by
     rw [entsR_of rfl]
     rfl
   refine ⟨⟨a, [], c', u, x0, w', rfl, rfl, h.keep, h.time, h.tms, h.top, h.top4, h.la, nil0, k3, h.ta.sub (fun _ h => h) hsub2, h.ab.sub (fun _ h => h) hsub, fun x hx => (by cases hx), fun e he => h.late e ?_⟩, rfl, rfl, rfl, rfl, fun e he => ?_, fun t ht => ?_⟩
   · rcases List.mem_append.1 he with g | g
     · exact List.mem_append_left _ g
     · exact List.mem_append_right _ (hsub2 e g)
   · rw [hen] at he
     rw [hes]
     rcases List.mem_append.1 he with g | g
     · exact List.mem_append_left _ g
     · exact List.mem_append_right _ (hsub2 e g)
   · rw [hen, hes]
     have e1 : Seen t (a ++ (b ++ c)) (a ++ c') := Seen.left h.ab (h.ab.sub (fun _ h => h) hsub) (k7 t (h.look ht (fun y hy => List.mem_append_right _ (List.mem_append_right _ hy))))
     exact Seen.left h.ta (h.ta.sub (fun _ h => h) hsub2) e1
theorem timesR_mono {ts : List Int} {n m : Int} (h : timesR ts n = true) (hnm : n <= m) : timesR ts m = true := by
 simp only [timesR, Bool.and_eq_true, decide_eq_true_eq] at h ⊢
 rw [asc1_iff] at h ⊢
 refine ⟨⟨fun t ht => ?_, h.1.2⟩, h.2⟩
 obtain ⟨h1, h2, h3⟩ := h.1.1 t ht
 exact ⟨h1, by omega, h3⟩
theorem add_V {e : Ent} (h : V s a b c u v w) (he : e.time = s.time + 1) (hx : addR s e = some x) : Val x /\ x.time = s.time + 1 /\ x.keep = s.keep /\ x.tms = s.tms /\ entOk e = true /\ ∃ y, Found s y /\ (∀ z ∈ entsR y, z ∈ entsR s) /\ ∀ z, z ∈ entsR x ↔ z = e \/ z ∈ entsR y := by
 unfold addR at hx
 split at hx
 case isFalse => cases hx
 rename_i hc
 simp only [Bool.and_eq_true] at hc
 have hek := hc.2
 have key : ∀ {y : Sr}, Val y -> y.top.length <= 3 -> y.time = s.time -> y.keep = s.keep -> y.tms = s.tms -> (∀ z ∈ entsR y, z ∈ entsR s) -> Found s y -> x = { y with top := joinL [e] y.top, time := e.time } ->
     Val x /\ x.time = s.time + 1 /\ x.keep = s.keep /\ x.tms = s.tms /\ entOk e = true /\ ∃ y, Found s y /\ (∀ z ∈ entsR y, z ∈ entsR s) /\ ∀ z, z ∈ entsR x ↔ z = e \/ z ∈ entsR y := by
   rintro y ⟨a', b', c', u', v', w', hy⟩ h3 ht hkp htm hsub hfd rfl
   have hty := entOk_time hek
   have hnew : Newer [e] (y.top ++ (a' ++ (b' ++ c'))) := fun p hp q hq _ => by
     rw [List.mem_singleton.1 hp]
     have := hy.late q hq
     omega
   have hf : Fine [e] y.top := fine_of (runOk_one hek) hy.top (hnew.sub (fun _ h => h) (fun q hq => by simp [hq])) (by simp; omega)
   have hmem : ∀ z, z ∈ joinL [e] y.top ↔ z = e \/ z ∈ y.top := fun z => by rw [joinL_iff]; simp
   have hey := entsR_of hy.lev
   have hex : entsR { y with top := joinL [e] y.top, time := e.time } = joinL [e] y.top ++ (a' ++ (b' ++ c')) := entsR_of hy.lev
   refine ⟨⟨a', b', c', u', v', w', hy.lev, hy.sv, hy.keep, ⟨by simp only; omega, hty.2⟩, timesR_mono hy.tms (by simp only; omega), hf.run, ?_, hy.la, hy.lb, hy.lc, ?_, hy.ab, hy.bc, ?_⟩, he, hkp, htm, hek, y, hfd, hsub, fun z => ?_⟩
   · simp only
     rw [(joinL_perm y.top [e]).length_eq]
     simp
     omega
   · intro p hp q hq hpq
     rcases (hmem p).1 hp with rfl | hp
     · exact hnew p (by simp) q (List.mem_append_right _ hq) hpq
     · exact hy.ta p hp q hq hpq
   · intro z hz
     simp only
     rcases List.mem_append.1 hz with g | g
     · rcases (hmem z).1 g with rfl | g
       · exact Int.le_refl _
       · have := hy.late z (List.mem_append_left _ g)
         omega
     · have := hy.late z (List.mem_append_right _ g)
       omega
   · rw [hex, hey]
     simp only [List.mem_append, hmem]
     exact or_assoc
 by_cases h4 : 4 <= s.top.length
 · rw [if_pos h4] at hx
   cases hd : downR s with
   | none => rw [hd] at hx; cases hx
   | some y =>
     rw [hd] at hx
     injection hx with hx
     obtain ⟨k1, k2, k3, k4, k5, k6, k7⟩ := down_V h hd
     exact key k1 (by rw [k2]; simp) k3 k4 k5 k6 k7 hx.symm
 · rw [if_neg h4] at hx
   injection hx with hx
   exact key ⟨a, b, c, u, v, w, h⟩ (by omega) rfl rfl rfl (fun _ h => h) (fun t _ => (Same.refl t _).seen) hx.symm
theorem do_V {d : Dd} (h : V s a b c u v w) (hx : doR s d = some x) : Val x := by
 unfold doR at hx
 split at hx
 · exact (add_V h rfl hx).1
 split at hx
 · exact (add_V h rfl hx).1
 split at hx
 · exact ⟨a, b, c, u, v, w, (hold_V h hx).1⟩
 split at hx
 · exact ⟨a, b, c, u, v, w, (free_V h hx).1⟩
 split at hx
 · unfold letR at hx
   rw [if_pos h.ok] at hx
   exact (down_V h hx).1
 split at hx
 · exact (join_V h hx).1
 · cases hx
theorem doAll_V : ∀ (ds : List Dd) {s : Sr}, Val s -> Val (doAll s ds)
 | [], s, h => h
 | d :: ds, s, h => by
   have e : doAll s (d :: ds) = doAll ((doR s d).getD s) ds := rfl
   rw [e]
   refine doAll_V ds ?_
   cases hd : doR s d with
   | none => exact h
   | some x =>
     obtain ⟨a, b, c, u, v, w, hv⟩ := h
     exact do_V hv hd
theorem sieveR_nil (k : Int) : sieveR [] k = ⟨⟨#[]⟩, ⟨#[]⟩, ⟨#[]⟩, [], k⟩ := by
 have h : brs 0 [] = [] := by rw [brs]
 unfold sieveR
 rw [show (500 : Nat) = 499 + 1 from rfl, bfs, h]
 show bfs 499 ([] ++ subs 0 []) _ = _
 rw [show ([] ++ subs 0 [] : List Fk) = [] from rfl]
 rfl
theorem newR_V {k : Int} (h : newR k = some s) : Val s := by
 unfold newR at h
 split at h
 · rename_i hk
   injection h with h
   subst h
   have hn : ∀ i, LvOk k i [] ⟨⟨#[]⟩, ⟨#[]⟩, ⟨#[]⟩, [], k⟩ := fun i => ⟨runOk_nil, Nat.zero_le _, by
     rw [sieveO, if_pos ⟨by decide, hk⟩]
     exact congrArg some (sieveR_nil k)⟩
   exact ⟨[], [], [], _, _, _, rfl, rfl, hk, ⟨Int.le_refl 0, show (0 : Int) <= 999 by decide⟩, show timesR [] 0 = true by decide, runOk_nil, Nat.zero_le _, hn 0, hn 1, hn 2, fun x hx => (by cases hx), fun x hx => (by cases hx), fun x hx => (by cases hx), fun e he => by simp at he⟩
 · cases h
end
end Go.Proofs.YtgoeenodllmdpaaGreat.B

namespace Go.Proofs.YtgoeenodllmdpaaGreat.B
open Go.RowKit Go.Proofs
set_option linter.unusedVariables false
set_option linter.unusedSimpArgs false
variable {E : Env}
theorem l71StoreM_ok (o N : Nat) (H : Hp) (hr : Rd H o N) (hN : N < 34359738368) :
   AC Tryz.prog E 147 [.pt o 0 0] H (fun v H' => ∃ s, MSt H H' v s /\ Small s /\ storeOk s = true /\ Val s /\ Dr o H H' /\ Rd H' o (N + 400)) := by
 refine AC_by fol (tC_le tab2_ok) h_spec_l71Store ?_
 have hol := hr.lt
 simp [c_spec_l71Store]
 refine cg_ex (pick_ok o N 5 _ (hr.le (HLe.self _ _)) (by omega) (by omega)) ?_
 rintro v H1 ⟨n, rfl, hn, hd1, hr1, hlen⟩
 have b0 := hd1.2 H.length ⟨[[.nils, .nils, .nils, .int .i64 0, .int .i64 0, .nils]], 6, 28, false⟩ (by omega) (by simp)
 have bl := hd1.2 (H.length + 1) ⟨[[.int .i64 0], [.int .i64 1], [.int .i64 1], [.int .i64 2], [.int .i64 5]], 1, 3, false⟩ (by omega) (by simp)
 have hD1 : Dr o H H1 := (Fr.app (Fr.refl _ H) _).same hd1
 have hn5 : n < 5 := by omega
 have hnI : (n : Int) < 5 := by omega
 have hrow : ∃ k : Int, (0 <= k /\ k <= 5) /\ ([[.int .i64 0], [.int .i64 1], [.int .i64 1], [.int .i64 2], [.int .i64 5]] : List (List AV))[n]? = some [.int .i64 k] := by
   have : n = 0 \/ n = 1 \/ n = 2 \/ n = 3 \/ n = 4 := by omega
   rcases this with rfl | rfl | rfl | rfl | rfl <;> exact ⟨_, by constructor <;> decide, rfl⟩
 obtain ⟨k, hk05, hk⟩ := hrow
 simp [bl, hk, hnI]
 refine cg_ex (StoreNew_ok k H1) ?_
 intro v2 H2 hret
 obtain ⟨s0, hs0⟩ : ∃ s0, newR k = some s0 := by
   unfold newR
   rw [if_pos hk05]
   exact ⟨_, rfl⟩
 have hso : storeOk s0 = true := by
   obtain ⟨a, b, c, u, v, w, hv⟩ := newR_V hs0
   exact hv.ok
 rw [hs0] at hret
 obtain ⟨xa, xb, xc, xk, xt, xd, rfl, o1, o2, o3, o4, o5, o6⟩ := hret.shape
 simp [o1, o2, o3, o4, o5, o6]
 have hr2 := hr1.le hret.1
 have hl2 := hret.1.1
 have hl1 := hD1.len
 have hB := HLe.self H2 [some ⟨[[xa, xb, xc, xk, xt, xd]], 6, 28, false⟩]
 refine cg_ex (l71Deeds_ok o _ 30 _ (hr2.le hB) (by omega) (by omega)) ?_
 rintro dv H3 ⟨ds, hds, hdl, hdk, hd3, hr3⟩
 have esz2 : ∀ x ob, x = o -> H2.at x = some ob -> ob.esz = 2 \/ ob.esz = 6 := by
   intro x ob hx ho
   obtain ⟨b, bs, p, h1, _⟩ := hr2
   rw [hx, h1] at ho
   cases ho
   exact .inl rfl
 have hmm : MSt H1 H2 (.ag [xa, xb, xc, xk, xt, xd]) s0 := by
   obtain ⟨_, w, hw, hm⟩ := hret
   cases hw
   exact hm
 have hm3 := hmm.frn ((Fr.app (Fr.refl (fun x => x = o) H2) [some ⟨[[xa, xb, xc, xk, xt, xd]], 6, 28, false⟩]).same hd3) esz2
 have hsm := newR_small hs0
 have c3 := hd3.2 H2.length _ (show ¬ H2.length = o by omega) (Hp.at_app_0.trans Hp.at_0)
 have b03 := hd3.2 H.length _ (show ¬ H.length = o by omega) (hB.2 _ _ (hret.1.2 _ _ b0))
 simp [c3]
 refine cg_ex (PastDo_ok _ dv s0 ds H3 hm3.st hsm.stB hds.rows (fun d hd => by have := hdk d hd; omega)) ?_
 intro v4 H4 hret4
 have hp : pastR s0 ds = some (doAll s0 ds) := by
   unfold pastR
   rw [if_pos (by rw [hso, Bool.true_and, decide_eq_true_iff]; omega)]
 rw [hp] at hret4
 obtain ⟨ya, yb, yc, yk, yt, yd, rfl, p1, p2, p3, p4, p5, p6⟩ := hret4.shape
 have c4 := hret4.1.2 _ _ c3
 have b04 := hret4.1.2 _ _ b03
 have u4 := Hp.at_lt c4
 have u04 := Hp.at_lt b04
 have hl1' := Hp.at_lt b0
 have m0 : H2.length ≠ H.length := by omega
 simp [p1, p2, p3, p4, p5, p6, c4, b04, Hp.at_set, Hp.at_set_ne, List.length_set, u4, u04, m0, m0.symm]
 obtain ⟨W, hW⟩ : ∃ W : Option Ob, W = some ⟨[[ya, yb, yc, yk, yt, yd]], 6, 28, false⟩ := ⟨_, rfl⟩
 rw [<- hW]
 have hF := ((Fr.refl (fun x => x = H2.length \/ x = H.length) H4).set (o := H2.length) (.inl (.inl rfl)) W).set (o := H.length) (.inl (.inr rfl)) W
 have e6 : ∀ x ob, (x = H2.length \/ x = H.length) -> H4.at x = some ob -> ob.esz = 2 \/ ob.esz = 6 := by
   intro x ob hx ho
   rcases hx with h | h
   · rw [h, c4] at ho; cases ho; exact .inr rfl
   · rw [h, b04] at ho; cases ho; exact .inr rfl
 have hm5 : MSt H3 H4 (.ag [ya, yb, yc, yk, yt, yd]) (doAll s0 ds) := by
   obtain ⟨_, w, hw, hm⟩ := hret4
   cases hw
   exact hm
 have hB1 := hB.1
 have hd31 := hd3.len
 refine ⟨doAll s0 ds, (hm5.frn hF e6).base (by omega), pastR_small hp, (by
   obtain ⟨a, b, c, u, v, w, hv⟩ := doAll_V ds (newR_V hs0)
   exact hv.ok), doAll_V ds (newR_V hs0), ((((hD1.le_fr hret.1).app _).same hd3).le_fr hret4.1).trans hF (fun x hx => .inr (by rcases hx with h | h <;> omega)), Rd.mono ((hr3.le hret4.1).fr hF (by omega) (fun x ob hx ho => by have := e6 x ob hx ho; omega)) (by omega)⟩
end Go.Proofs.YtgoeenodllmdpaaGreat.B

namespace Go.Proofs.YtgoeenodllmdpaaGreat.B
open Go.RowKit Go.Proofs
set_option linter.unusedVariables false
set_option linter.unusedSimpArgs false
variable {E : Env}
theorem addBs_l (d : Nat) : ∀ (gs : List (List ByteArray)) (b : Bool) (s : Sv), (addBs d b s gs).l.size <= s.l.size + gs.length
 | [], b, s => Nat.le_refl _
 | g :: gs, b, s => by
   have h := addBs_l d gs false (addB d b s g)
   have h2 : (addB d b s g).l.size = s.l.size + 1 := by
     simp only [addB, ByteArray.size_append]
     rfl
   simp only [addBs, List.length_cons]
   omega
theorem bfs_l : ∀ (n : Nat) (q : List Fk) (s : Sv), (∀ f ∈ q, f.1.length <= 24) -> (bfs n q s).l.size <= s.l.size + n * 24
 | 0, q, s, h => by simp [bfs]
 | n + 1, [], s, h => by simp [bfs]
 | n + 1, (ks, d) :: q, s, h => by
   have hk : ks.length <= 24 := h (ks, d) (List.mem_cons_self ..)
   have h1 := bfs_l n (q ++ subs d (brs d ks)) (addBs d true s (brs d ks)) (fun f hf => (List.mem_append.1 hf).elim (fun hf => h f (List.mem_cons_of_mem _ hf)) (subs_len hk f))
   have h2 := addBs_l d (brs d ks) true s
   have h3 := (brs_sum _ d ks (Nat.le_refl _)).2
   simp only [bfs]
   omega
theorem sieveO_l {ks : List ByteArray} {keep : Int} {x : Sv} (h : sieveO ks keep = some x) : x.l.size <= 12000 := by
 unfold sieveO at h
 split at h
 · rename_i hc
   cases h
   have := bfs_l 500 [(ks, 0)] ⟨⟨#[]⟩, ⟨#[]⟩, ⟨#[]⟩, [], keep⟩ (fun f hf => by
     simp at hf
     subst hf
     exact (keysOk_good hc.1).2)
   have e : (⟨#[]⟩ : ByteArray).size = 0 := rfl
   simp only [e] at this
   unfold sieveR
   omega
 · cases h
theorem storeOk_l0 {s : Sr} (h : storeOk s = true) (h3 : 0 < s.sv.length) : s.sv[0].l.size <= 12000 := by
 simp only [storeOk, Bool.and_eq_true, decide_eq_true_eq] at h
 have h0 := h.2.1.1
 simp only [levelOk, Bool.and_eq_true, decide_eq_true_eq] at h0
 have := sieveO_l h0.2
 rwa [getD_get _ h3] at this
theorem MSt.appT {H0 H H' : Hp} {a a' d : AV} {ol os : Nat} {s : Sr} {tp : List Ent} (h : MSt H0 H (.ag [a, .sl ol 0 3, .sl os 0 3, .int .i64 s.keep, .int .i64 s.time, d]) s) (hf : Fr a.of H H') (ha : Ents H' a' tp) :
   St H' (.ag [a', .sl ol 0 3, .sl os 0 3, .int .i64 s.keep, .int .i64 s.time, d]) { s with top := tp } := by
 obtain ⟨a2, ol2, os2, d2, lr, sr, hv, ha2, hlv, hlr, hsv, hsr, hd2, hdo2, hol, hos, hl3, hs3, hoff⟩ := h
 simp only [stAV, hl3, hs3, AV.ag.injEq, List.cons.injEq, AV.sl.injEq, and_true, true_and] at hv
 obtain ⟨rfl, rfl, rfl, rfl⟩ := hv
 have n4 : ∀ {e : Nat}, e ≠ 4 -> ∀ x ob, a.of x -> H.at x = some ob -> ob.esz ≠ e := fun he x ob hx ho => by rw [ha2.1.esz hx ho]; exact he.symm
 refine ⟨a', .sl ol 0 3, .sl os 0 3, d, lr, sr, rfl, ha, ?_, ?_, ?_, All2.mono (fun row sv h => ?_) hsr, Rows.frz hd2.ints hf (n4 (by simp))⟩
 · rw [<- hl3]
   exact Rows.frz hlv.rows hf (n4 (by simp))
 · have key : ∀ {lr : List (List AV)} {ls : List (List Ent)}, All2 (LvRow H) lr ls -> (∀ y, a.of y -> ∀ u, [u] ∈ lr -> ¬ u.of y) -> All2 (LvRow H') lr ls := by
     intro lr
     induction lr with
     | nil => intro ls h _; cases ls with
       | nil => trivial
       | cons => exact h.elim
     | cons r lr ih => intro ls h ho; cases ls with
       | nil => exact h.elim
       | cons l ls =>
         obtain ⟨⟨u, rfl, hu⟩, h2⟩ := h
         exact ⟨⟨u, rfl, Rows.fr hu hf (fun y hy hs => ho y hs u (List.mem_cons_self ..) hy)⟩, ih h2 (fun y hy w hw => ho y hy w (List.mem_cons_of_mem _ hw))⟩
   exact key hlr hoff.1
 · rw [<- hs3]
   exact Rows.frz hsv.rows hf (n4 (by simp))
 · obtain ⟨r, e1, e2, _⟩ := h
   exact ⟨r, e1, Rows.frz e2 hf (n4 (by simp)), fun _ _ h => h⟩
def BoxS (H : Hp) (L : Nat) (s : Sr) : Prop := ∃ a b c d, H.at L = some ⟨[[a, b, c, .int .i64 s.keep, .int .i64 s.time, d]], 6, 28, false⟩ /\ one a = true /\ one b = true /\ one c = true /\ one d = true /\ St H (.ag [a, b, c, .int .i64 s.keep, .int .i64 s.time, d]) s /\ StB s
structure Spl (s : Sr) : Prop where
 val : storeOk s = true -> Val s
 key : ∀ e ∈ s.top ++ s.lev.flatten, e.key.size <= 5
 sml : s.top.length <= 2000 /\ s.lev.length <= 3 /\ ∀ l ∈ s.lev, l.length <= 1000
theorem Small.sml {s : Sr} (h : Small s) : s.top.length <= 2000 /\ s.lev.length <= 3 /\ ∀ l ∈ s.lev, l.length <= 1000 := by
 obtain ⟨h1, h2, h3, h4, h5, h6, h7, h8, h9⟩ := h
 exact ⟨by have := h1.1; omega, by omega, fun l hl => (h2 l hl).1⟩
theorem runOk_key {r : List Ent} (h : runOk r = true) : ∀ e ∈ r, e.key.size <= 5 := by
 simp only [runOk, decide_eq_true_eq] at h
 intro e he
 obtain ⟨i, hi, rfl⟩ := List.getElem_of_mem he
 have := (h.1 i hi).1
 simp only [entOk, Bool.and_eq_true] at this
 exact keyOk_size this.1.1.1
theorem Val.key {s : Sr} (h : Val s) : ∀ e ∈ s.top ++ s.lev.flatten, e.key.size <= 5 := by
 obtain ⟨a, b, c, u, v, w, h⟩ := h
 rw [h.lev]
 intro e he
 simp only [List.flatten_cons, List.flatten_nil, List.append_nil, List.mem_append] at he
 rcases he with he | he | he | he
 · exact runOk_key h.top e he
 · exact runOk_key h.la.run e he
 · exact runOk_key h.lb.run e he
 · exact runOk_key h.lc.run e he
def SpJ (o N : Nat) (H : Hp) (L : Nat) (t : Tm) (H' : Hp) : Prop := t 2 = .pt H.length 0 0 /\ t 3 = .pt L 0 0 /\ H'.at H.length = some ⟨[[.nils, .nils, .nils, .int .i64 0, .int .i64 0, .nils]], 6, 28, false⟩ /\ (∃ s, BoxS H' L s /\ Spl s) /\ Dr o H H' /\ Rd H' o (N + 410)
theorem BoxS.of {H : Hp} {L : Nat} {a b c d : AV} {s : Sr} {R : List (List AV)} (hb : H.at L = some ⟨R, 6, 28, false⟩) (hs : St H (.ag [a, b, c, .int .i64 s.keep, .int .i64 s.time, d]) s) (hB : StB s) :
   BoxS (List.set H L (some ⟨[[a, b, c, .int .i64 s.keep, .int .i64 s.time, d]], 6, 28, false⟩)) L s := by
 have hs2 := hs.fr6 (Fr.one H L (some ⟨[[a, b, c, .int .i64 s.keep, .int .i64 s.time, d]], 6, 28, false⟩)) (fun y ob hy ho => by rw [hy, hb] at ho; cases ho; rfl)
 obtain ⟨a', b', c', d', e, n1, n2, n3, n4, _⟩ := hs.shape
 simp only [stAV, AV.ag.injEq, List.cons.injEq, and_true, true_and] at e
 obtain ⟨rfl, rfl, rfl, rfl⟩ := e
 exact ⟨a, b, c, d, Hp.at_set _ (Hp.at_lt hb), n1, n2, n3, n4, hs2, hB⟩
theorem SpJ.put {o N : Nat} {H K : Hp} {L : Nat} {t : Tm} {a b c d : AV} {s : Sr} {R : List (List AV)} (t2 : t 2 = .pt H.length 0 0) (t3 : t 3 = .pt L 0 0) (hb : K.at H.length = some ⟨[[.nils, .nils, .nils, .int .i64 0, .int .i64 0, .nils]], 6, 28, false⟩)
   (hc : K.at L = some ⟨R, 6, 28, false⟩) (hL : H.length < L) (ho : o < H.length) (hs : St K (.ag [a, b, c, .int .i64 s.keep, .int .i64 s.time, d]) s) (hB : StB s) (hV : Spl s) (hD : Dr o H K) {M : Nat} (hr : Rd K o M) (hM : M <= N + 410) :
   SpJ o N H L t (List.set K L (some ⟨[[a, b, c, .int .i64 s.keep, .int .i64 s.time, d]], 6, 28, false⟩)) := by
 have F := Fr.one K L (some ⟨[[a, b, c, .int .i64 s.keep, .int .i64 s.time, d]], 6, 28, false⟩)
 exact ⟨t2, t3, (Hp.at_set_ne (by omega)).trans hb, ⟨s, BoxS.of hc hs hB, hV⟩, hD.trans F (fun x hx => .inr (by omega)), Rd.mono (hr.fr F (by omega) (fun x ob hx ho => by rw [hx, hc] at ho; cases ho; simp)) hM⟩
theorem ok_head {s : Sr} (h : storeOk s = true) : s.lev.length = 3 /\ s.sv.length = 3 /\ (0 <= s.keep /\ s.keep <= 5) /\ (0 <= s.time /\ s.time <= 999) /\ timesR s.tms s.time = true /\ runOk s.top = true := by
 simp only [storeOk, headOk, Bool.and_eq_true, decide_eq_true_eq] at h
 obtain ⟨⟨⟨⟨⟨⟨h1, h2⟩, h3⟩, h4⟩, h5⟩, h6, h7⟩, h8⟩ := h
 exact ⟨h1, h2, h3, h4, h5, h6⟩
theorem spoil_tms {s : Sr} (h : storeOk { s with tms := s.tms ++ [s.time + 1] } = true) : Val { s with tms := s.tms ++ [s.time + 1] } := by
 have h5 := (ok_head h).2.2.2.2.1
 simp only [timesR, Bool.and_eq_true] at h5
 have := asc1_bnd _ _ _ h5.1 (s.time + 1) (by simp)
 omega
theorem spoil_sv {s : Sr} (h0 : storeOk s = true) (hl : 0 < s.lev.length) (hv : 0 < s.sv.length) (h : storeOk { s with sv := s.sv.set 0 { (s.sv[0]'hv) with l := (s.sv[0]'hv).l ++ ⟨#[97]⟩ } } = true) : False := by
 have lv : ∀ {q : Sr}, storeOk q = true -> levelOk q 0 = true := fun {q} hq => by
   simp only [storeOk, Bool.and_eq_true, decide_eq_true_eq] at hq
   exact hq.2.1.1
 have a1 := lv h0
 have a2 := lv h
 simp only [levelOk, Bool.and_eq_true, decide_eq_true_eq] at a1 a2
 have e := a1.2.symm.trans a2.2
 rw [getD_get default hv, getD_get default (by simpa using hv)] at e
 simp only [List.getElem_set_self, Option.some.injEq] at e
 have e2 := congrArg (fun q : Sv => q.l.size) e
 simp only [ByteArray.size_append] at e2
 have : (⟨#[97]⟩ : ByteArray).size = 1 := rfl
 omega
theorem spoil_top {s : Sr} (h : storeOk { s with top := s.top ++ [⟨⟨#[]⟩, 0, false, 0⟩] } = true) : False := by
 have h6 := (ok_head h).2.2.2.2.2
 simp only [runOk, decide_eq_true_eq] at h6
 have := (h6.1 s.top.length (by simp)).1
 simp [entOk] at this
theorem lit2 {z : Nat} (hz : z < 2) : ∃ k : Int, (k < 0 \/ 999 < k) /\ I64 k /\ ([[.int .i64 (-1)], [.int .i64 1000]] : List (List AV))[z]? = some [.int .i64 k] := by
 have : z = 0 \/ z = 1 := by omega
 rcases this with rfl | rfl
 · exact ⟨-1, .inl (by decide), ⟨by decide, by decide⟩, rfl⟩
 · exact ⟨1000, .inr (by decide), ⟨by decide, by decide⟩, rfl⟩
set_option maxHeartbeats 1600000 in
theorem l71Spoilt_ok (o N : Nat) (H : Hp) (hr : Rd H o N) (hN : N < 34359738368) :
   AC Tryz.prog E 69 [.pt o 0 0] H (fun v H' => ∃ s, St H' v s /\ StB s /\ Spl s /\ Dr o H H' /\ Rd H' o (N + 410)) := by
 refine AC_by fol (tC_le tab2_ok) h_spec_l71Spoilt ?_
 have hol := hr.lt
 obtain ⟨H1, hH1⟩ : ∃ H1 : Hp, H1 = H ++ [some ⟨[[.nils, .nils, .nils, .int .i64 0, .int .i64 0, .nils]], 6, 28, false⟩] := ⟨_, rfl⟩
 have hle1 : HLe H H1 := by rw [hH1]; exact HLe.self _ _
 have b1 : H1.at H.length = some ⟨[[.nils, .nils, .nils, .int .i64 0, .int .i64 0, .nils]], 6, 28, false⟩ := by rw [hH1]; simp
 have hD1 : Dr o H H1 := hle1.fr
 simp [c_spec_l71Spoilt, <- hH1]
 refine cg_ex (l71StoreM_ok o N H1 (hr.le hle1) hN) ?_
 rintro v H2 ⟨s, hm2, hsm, hok, hval, hd2, hr2⟩
 obtain ⟨xa, xl, xs, xd, rfl, xn1, xn2, xdi⟩ := hm2.shape
 have b2 := hd2.2 _ _ (show ¬ H.length = o by omega) b1
 obtain ⟨H3, hH3⟩ : ∃ H3 : Hp, H3 = H2 ++ [some ⟨[[xa, .sl xl 0 3, .sl xs 0 3, .int .i64 s.keep, .int .i64 s.time, xd]], 6, 28, false⟩] := ⟨_, rfl⟩
 have hle3 : HLe H2 H3 := by rw [hH3]; exact HLe.self _ _
 have c3 : H3.at H2.length = some ⟨[[xa, .sl xl 0 3, .sl xs 0 3, .int .i64 s.keep, .int .i64 s.time, xd]], 6, 28, false⟩ := by rw [hH3]; simp
 have b3 := hle3.2 _ _ b2
 have hr3 := hr2.le hle3
 have hm3 := (hm2.le hle3).base hle1.1
 have hD3 : Dr o H H3 := (hD1.same hd2).le_fr hle3
 simp [xn1, xn2, <- hH3]
 refine cg_ex (pick_ok o _ 14 _ hr3 (by omega) (by omega)) ?_
 rintro v H4 ⟨n, rfl, hn, hd4, hr4, hlen⟩
 have l21 : H.length < H2.length := Hp.at_lt b2
 have b4 := hd4.2 _ _ (show ¬ H.length = o by omega) b3
 have c4 := hd4.2 _ _ (show ¬ H2.length = o by omega) c3
 have e2 : ∀ x ob, x = o -> H3.at x = some ob -> ob.esz = 2 \/ ob.esz = 6 := by
   intro x ob hx ho
   obtain ⟨b, bs, p, h1, _⟩ := hr3
   rw [hx, h1] at ho
   cases ho
   exact .inl rfl
 have hm4 := hm3.frn hd4 e2
 have hD4 : Dr o H H4 := hD3.same hd4
 have u4 := Hp.at_lt b4
 have hS : ∀ y ob, y = H.length -> H4.at y = some ob -> ob.esz = 6 := fun y ob hy ho => by rw [hy, b4] at ho; cases ho; rfl
 simp
 refine c_split (fun hq => ?_) (fun hq => ?_) <;> simp at hq
 · simp [c4, b4, xn1, xn2, Hp.at_set, u4]
   have F := Fr.one H4 H.length (some ⟨[[xa, .sl xl 0 3, .sl xs 0 3, .int .i64 s.keep, .int .i64 s.time, xd]], 6, 28, false⟩)
   exact ⟨s, hm4.st.fr6 F hS, hsm.stB, ⟨fun _ => hval, hval.key, hsm.sml⟩, hD4.trans F (fun x hx => .inr (by omega)), Rd.mono (hr4.fr F (by omega) (fun x ob hx ho => by have := hS x ob hx ho; omega)) (by omega)⟩
 rw [W_skip]
 refine W_cut (tC_mono AC_mono) (SpJ o N H H2.length) ?_ ?_
 · simp
   refine cg_ex (pick_ok o _ 6 _ hr4 (by omega) (by omega)) ?_
   rintro v H5 ⟨q, rfl, hq6, hd5, hr5, hlen5⟩
   have b5 := hd5.2 _ _ (show ¬ H.length = o by omega) b4
   have c5 := hd5.2 _ _ (show ¬ H2.length = o by omega) c4
   have e4 : ∀ x ob, x = o -> H4.at x = some ob -> ob.esz = 2 \/ ob.esz = 6 := by
     intro x ob hx ho
     obtain ⟨b, bs, p, h1, _⟩ := hr4
     rw [hx, h1] at ho
     cases ho
     exact .inl rfl
   have hm5 := hm4.frn hd5 e4
   have hD5 : Dr o H H5 := hD4.same hd5
   have u5 := Hp.at_lt c5
   simp
   refine c_split (fun q0 => ?_) (fun q0 => ?_) <;> simp at q0
   · simp
     refine cg_ex (pick_ok o _ 2 _ (hr5.le (HLe.self _ _)) (by omega) (by omega)) ?_
     rintro v H6 ⟨z, rfl, hz, hd6, hr6, hlen6⟩
     have b6 := hd6.2 _ _ (show ¬ H.length = o by omega) ((HLe.self _ _).2 _ _ b5)
     have c6 := hd6.2 _ _ (show ¬ H2.length = o by omega) ((HLe.self _ _).2 _ _ c5)
     have l6 := hd6.2 _ _ (show ¬ H5.length = o by omega) (Hp.at_app_0.trans Hp.at_0)
     have e5 : ∀ x ob, x = o -> (H5 ++ [some ⟨[[.int .i64 (-1)], [.int .i64 1000]], 1, 3, false⟩] : Hp).at x = some ob -> ob.esz = 2 \/ ob.esz = 6 := by
       intro x ob hx ho
       obtain ⟨b, bs, p, h1, _⟩ := hr5.le (HLe.self H5 [some ⟨[[.int .i64 (-1)], [.int .i64 1000]], 1, 3, false⟩])
       rw [hx, h1] at ho
       cases ho
       exact .inl rfl
     have hm6 := (hm5.le (HLe.self _ _)).frn hd6 e5
     have hD6 : Dr o H H6 := (hD5.app _).same hd6
     have u6 := Hp.at_lt c6
     have hz2 : z < 2 := by omega
     have hzI : (z : Int) < 2 := by omega
     obtain ⟨k, hkb, hk64, hk⟩ := lit2 hz2
     obtain ⟨p1, p2, p3⟩ := hm6.parts
     simp [l6, hk, hzI, c6, u6]
     have hBs := hsm.stB
     exact SpJ.put (s := { s with time := k }) (by simp) (by simp) b6 c6 l21 hol (hm6.upd (tp := s.top) (ts := s.tms) k p1 p2 p3 (fun y h => h) (fun lr h _ => h)).st ⟨hBs.1, hBs.2.1, hBs.2.2.1, hBs.2.2.2.1, hBs.2.2.2.2.1, hBs.2.2.2.2.2.1, hk64, hBs.2.2.2.2.2.2.2.1, hBs.2.2.2.2.2.2.2.2⟩ ⟨fun h => by have := (ok_head h).2.2.2.1; simp only at this; omega, hval.key, hsm.sml⟩ hD6 hr6 (by omega)
   simp
   refine c_split (fun q1 => ?_) (fun q1 => ?_) <;> simp at q1
   · obtain ⟨p1, p2, p3⟩ := hm5.parts
     have ht := storeOk_time hok
     have hlt := (headI_parts (storeOk_ok hok).1).2.2.2.2.1
     simp [c5, ht]
     refine appG_one (bytes := 8) (R := s.tms.map intRow) p2.1 (by have := hsm.2.2.1; simp; omega) (fun v6 H6 g1 g2 g3 => ?_)
     have nd : ∀ {x : Nat} {ob : Ob}, H5.at x = some ob -> ob.ety ≠ 3 -> ¬ xd.of x := fun ho he hx => he (p2.1.ety hx ho)
     have b6 := g2.2 _ _ (nd b5 (by simp)) b5
     have c6 := g2.2 _ _ (nd c5 (by simp)) c5
     have u6 := Hp.at_lt c6
     have hl5 := hD5.len
     have g1' : OwnI H H6 v6 (s.tms ++ [s.time + 1]) := ⟨by simpa [intRow] using g1, fun y hy => (g3 y hy).elim (p2.2 y) (fun h => by omega)⟩
     have hm6 := hm5.app (ts := s.tms ++ [s.time + 1]) g2 g1' g3
     have hBs := hsm.stB
     simp [c6, u6, g1.rows.one, g1.rows.cells, g1.rows.cells1]
     refine SpJ.put (s := { s with tms := s.tms ++ [s.time + 1] }) (by simp) (by simp) b6 c6 l21 hol hm6.st ⟨hBs.1, hBs.2.1, hBs.2.2.1, hBs.2.2.2.1, by have := hsm.2.2.1; simp; omega, hBs.2.2.2.2.2.1, hBs.2.2.2.2.2.2.1, hBs.2.2.2.2.2.2.2.1, fun t ht => ?_⟩ ⟨spoil_tms, hval.key, hsm.sml⟩ (hD5.trans g2 (fun x hx => .inr (p2.2 x hx))) (hr5.fr2 g2 (fun x hx => by have := p2.2 x hx; omega)) (by omega)
     rcases List.mem_append.1 ht with h | h
     · exact hBs.2.2.2.2.2.2.2.2 t h
     · rw [List.mem_singleton.1 h]
       exact ⟨by omega, by omega⟩
   simp
   refine c_split (fun q2 => ?_) (fun q2 => ?_) <;> simp at q2
   · obtain ⟨a', b', c', d', lr, sr, e, f1, f2, f3, f4, f5, f6⟩ := hm5.st
     simp only [stAV, AV.ag.injEq, List.cons.injEq, and_true, true_and] at e
     obtain ⟨rfl, rfl, rfl, rfl⟩ := e
     have hlr3 : lr.length = 3 := by rw [f3.length]; exact hsm.2.2.2.2.2.2.2.1
     have hBs := hsm.stB
     simp [c5]
     refine cutG_from f2 1 rfl (by omega) (fun u g1 g2 => ?_)
     simp [c5, u5, g1.one, g1.cells, g1.cells1]
     exact SpJ.put (s := { s with lev := s.lev.drop 1 }) (by simp) (by simp) b5 c5 l21 hol ⟨xa, u, .sl xs 0 3, xd, lr.drop 1, sr, rfl, f1, g1, All2.drop f3 1, f4, f5, f6⟩ ⟨hBs.1, fun es he => hBs.2.1 es (List.mem_of_mem_drop he), by have := hBs.2.2.1; simp; omega, hBs.2.2.2⟩ ⟨fun h => by have := (ok_head h).1; have h3 := hsm.2.2.2.2.2.2.2.1; simp at this; omega, fun e he => hval.key e (by
       rcases List.mem_append.1 he with h | h
       · exact List.mem_append_left _ h
       · obtain ⟨l, h1, h2⟩ := List.mem_flatten.1 h
         exact List.mem_append_right _ (List.mem_flatten.2 ⟨l, List.mem_of_mem_drop h1, h2⟩)), hsm.sml.1, by have := hsm.sml.2.1; simp; omega, fun l hl => hsm.sml.2.2 l (List.mem_of_mem_drop hl)⟩ hD5 hr5 (by omega)
   simp
   refine c_split (fun q3 => ?_) (fun q3 => ?_) <;> simp at q3
   · obtain ⟨a2, ol2, os2, d2, lr, sr, hv, ha2, hlv, hlr, hsv, hsr, hd2', hdo2, hol2, hos2, hl3, hs3, hoff⟩ := hm5
     simp only [stAV, hl3, hs3, AV.ag.injEq, List.cons.injEq, AV.sl.injEq, and_true, true_and] at hv
     obtain ⟨rfl, rfl, rfl, rfl⟩ := hv
     have hsv' := hsv
     obtain ⟨e2, obs, j1, j2, j3, j4, j5, j6⟩ := hsv'.ob
     have hsr3 : sr.length = 3 := by omega
     obtain ⟨x0, hx0⟩ : ∃ x0, x0 = s.sv[0]'(by omega) := ⟨_, rfl⟩
     obtain ⟨r0, hr0, hr1, _⟩ := hsr.get 0 (by omega) (by omega)
     rw [<- hx0] at hr0 hr1
     have hx0l : x0.l.size <= 12000 := by rw [hx0]; exact storeOk_l0 hok (by omega)
     have hsz : x0.l.size + (⟨#[97]⟩ : ByteArray).size <= 9223372036854775807 := by
       have : (⟨#[97]⟩ : ByteArray).size = 1 := rfl
       omega
     have j7 : obs.rows[0]? = some [.str x0.l, .str x0.m, .str x0.f, r0, .int .i64 x0.k] := by
       have : (obs.rows.take sr.length)[0]? = sr[0]? := by rw [j6]
       rw [List.getElem?_take, if_pos (by omega)] at this
       rw [this, List.getElem?_eq_getElem (by omega), hr0]
     have u1 := Hp.at_lt j1
     simp [c5, j1, j2, j3, j7, hsz, u1]
     obtain ⟨K, hK⟩ : ∃ K : Hp, K = List.set H5 xs (some ⟨obs.rows.set 0 [.str (x0.l ++ ⟨#[97]⟩), .str x0.m, .str x0.f, r0, .int .i64 x0.k], 5, obs.ety, false⟩) := ⟨_, rfl⟩
     rw [<- hK]
     have F : Fr (fun y => y = xs) H5 K := by rw [hK]; exact Fr.one _ _ _
     have jK : K.at xs = some { obs with rows := obs.rows.set 0 [.str (x0.l ++ ⟨#[97]⟩), .str x0.m, .str x0.f, r0, .int .i64 x0.k] } := by rw [hK, Hp.at_set _ u1, <- j2, <- j3]
     have n5 : ∀ {e : Nat}, e ≠ 5 -> ∀ x ob, x = xs -> H5.at x = some ob -> ob.esz ≠ e := fun he x ob hx ho => by
       rw [hx, j1] at ho
       cases ho
       omega
     have ne6 : ∀ {x : Nat} {ob : Ob}, H5.at x = some ob -> ob.esz = 6 -> ¬ x = xs := fun ho he hx => by
       rw [hx, j1] at ho
       cases ho
       omega
     have hsvK := hsv.setRow j1 0 _ jK
     have hBs := hsm.stB
     refine ⟨by simp, by simp, F.2 _ _ (ne6 b5 rfl) b5, ⟨{ s with sv := s.sv.set 0 { x0 with l := x0.l ++ ⟨#[97]⟩ } }, ⟨xa, .sl xl 0 3, .sl xs 0 3, xd, F.2 _ _ (ne6 c5 rfl) c5, xn1, by simp, by simp, xn2, ?_, hBs.1, hBs.2.1, hBs.2.2.1, by simpa using hBs.2.2.2.1, hBs.2.2.2.2.1, fun y hy => ?_, hBs.2.2.2.2.2.2⟩, ⟨fun h => by rw [hx0] at h; exact (spoil_sv hok (by have := hsm.2.2.2.2.2.2.2.1; omega) (by omega) h).elim, hval.key, hsm.sml⟩⟩, hD5.trans F (fun x hx => .inr (by omega)), Rd.mono (hr5.fr2 F (fun x hx => by omega)) (by omega)⟩
     · refine ⟨xa, .sl xl 0 3, .sl xs 0 3, xd, lr, sr.set 0 [.str (x0.l ++ ⟨#[97]⟩), .str x0.m, .str x0.f, r0, .int .i64 x0.k], rfl, Rows.frz ha2.ents F (n5 (by simp)), ?_, All2.mono (fun _ _ h => h.fr F (n5 (by simp))) hlr, ?_, All2.set (All2.mono (fun row sv h => ?_) hsr) 0 ⟨r0, rfl, Rows.frz hr1 F (n5 (by simp)), fun _ _ h => h⟩, Rows.frz hd2'.ints F (n5 (by simp))⟩
       · rw [<- hl3]
         exact Rows.frz hlv.rows F (n5 (by simp))
       · rw [<- hs3]
         exact hsvK.rows
       · obtain ⟨r, e1, e2, _⟩ := h
         exact ⟨r, e1, Rows.frz e2 F (n5 (by simp)), fun _ _ h => h⟩
     · rcases List.mem_or_eq_of_mem_set hy with h | h
       · exact hBs.2.2.2.2.2.1 y h
       · rw [h]
         exact hBs.2.2.2.2.2.1 x0 (by rw [hx0]; exact List.getElem_mem _)
   simp
   refine c_split (fun q4 => ?_) (fun q4 => ?_) <;> simp at q4
   · obtain ⟨a', b', c', d', lr, sr, e, f1, f2, f3, f4, f5, f6⟩ := hm5.st
     simp only [stAV, AV.ag.injEq, List.cons.injEq, and_true, true_and] at e
     obtain ⟨rfl, rfl, rfl, rfl⟩ := e
     have hBs := hsm.stB
     simp [c5, u5]
     exact SpJ.put (s := { s with keep := 6 }) (by simp) (by simp) b5 c5 l21 hol ⟨xa, _, _, xd, lr, sr, rfl, f1, f2, f3, f4, f5, f6⟩ ⟨hBs.1, hBs.2.1, hBs.2.2.1, hBs.2.2.2.1, hBs.2.2.2.2.1, hBs.2.2.2.2.2.1, hBs.2.2.2.2.2.2.1, ⟨by simp, by simp⟩, hBs.2.2.2.2.2.2.2.2⟩ ⟨fun h => by have := (ok_head h).2.2.1; simp at this, hval.key, hsm.sml⟩ hD5 hr5 (by omega)
   · obtain ⟨p1, p2, p3⟩ := hm5.parts
     simp [c5]
     refine appG_one (bytes := 40) (R := s.top.map entRow) p1.1 (by have := hsm.1.1; simp; omega) (fun v6 H6 g1 g2 g3 => ?_)
     have nd : ∀ {x : Nat} {ob : Ob}, H5.at x = some ob -> ob.ety ≠ 99 -> ¬ xa.of x := fun ho he hx => he (p1.1.ety hx ho)
     have b6 := g2.2 _ _ (nd b5 (by simp)) b5
     have c6 := g2.2 _ _ (nd c5 (by simp)) c5
     have u6 := Hp.at_lt c6
     have g1' : Ents H6 v6 (s.top ++ [⟨⟨#[]⟩, 0, false, 0⟩]) := by
       have := g1.rows
       simpa [entRow, Ents] using this
     have hBs := hsm.stB
     simp [c6, u6, g1.rows.one, g1.rows.cells, g1.rows.cells1]
     refine SpJ.put (s := { s with top := s.top ++ [⟨⟨#[]⟩, 0, false, 0⟩] }) (by simp) (by simp) b6 c6 l21 hol (hm5.appT g2 g1') ⟨⟨by have := hsm.1.1; simp; omega, fun e he => ?_⟩, hBs.2⟩ ⟨fun h => (spoil_top h).elim, fun e he => by
       rcases List.mem_append.1 he with h | h
       · rcases List.mem_append.1 h with h | h
         · exact hval.key e (List.mem_append_left _ h)
         · rw [List.mem_singleton.1 h]
           exact Nat.zero_le _
       · exact hval.key e (List.mem_append_right _ h), by have := hsm.1.1; simp; omega, hsm.sml.2⟩ (hD5.trans g2 (fun x hx => .inr (p1.2 x hx))) (hr5.fr2 g2 (fun x hx => by have := p1.2 x hx; omega)) (by omega)
     rcases List.mem_append.1 he with h | h
     · exact hBs.1.2 e h
     · rw [List.mem_singleton.1 h]
       exact ⟨by show (0 : Nat) < _; omega, ⟨by simp, by simp⟩, ⟨by simp, by simp⟩⟩
 rintro t H5 ⟨t2, t3, b5, ⟨s', ⟨a', b', c', d', c5, n1, n2, n3, n4, hs5, hB5⟩, hV5⟩, hD5, hr5⟩
 have u5 := Hp.at_lt b5
 simp [t2, t3, c5, b5, n1, n2, n3, n4, Hp.at_set, u5]
 have F := Fr.one H5 H.length (some ⟨[[a', b', c', .int .i64 s'.keep, .int .i64 s'.time, d']], 6, 28, false⟩)
 have hS5 : ∀ y ob, y = H.length -> H5.at y = some ob -> ob.esz = 6 := fun y ob hy ho => by rw [hy, b5] at ho; cases ho; rfl
 exact ⟨s', hs5.fr6 F hS5, hB5, hV5, hD5.trans F (fun x hx => .inr (by omega)), Rd.mono (hr5.fr F (by omega) (fun x ob hx ho => by have := hS5 x ob hx ho; omega)) (by omega)⟩
end Go.Proofs.YtgoeenodllmdpaaGreat.B

namespace Go.Proofs.YtgoeenodllmdpaaGreat.B
open Go.RowKit Go.Proofs
set_option linter.unusedVariables false
set_option linter.unusedSimpArgs false
variable {E : Env}
theorem toList_inj' {x y : ByteArray} (h : x.toList = y.toList) : x = y := by
 have := toList_beq x y
 rw [h] at this
 simpa using this.symm
theorem ltRuns_ok (a b : AV) (xs ys : List Ent) (H : Hp) (ha : Ents H a xs) (hb : Ents H b ys) (hx : xs.length < 9223372036854775807) : AC Tryz.prog E 17 [a, b] H (fun v H' => v = .bool (decide (xs = ys)) /\ H' = H) := by
 refine AC_byp (CLe.refl _) h_laws_ltRuns (by simp) ?_
 have l1 := ha.len
 have l2 := hb.len
 simp [c_laws_ltRuns, l1, l2, ha.slc, hb.slc]
 refine c_split (fun hq => ?_) (fun hq => ?_) <;> simp at hq <;> simp
 · intro h
   subst h
   exact hq rfl
 · refine W_for (fun k t H' => ∃ i : Nat, i + k = xs.length /\ t 0 = a /\ t 1 = b /\ t 5 = .int .i64 i /\ (∀ j : Nat, j < i -> xs[j]? = ys[j]?) /\ HLe H H') xs.length ?_ AC_mono ?_
   · exact ⟨0, by simp⟩
   rintro k t H' ⟨i, hik, h0, h1, h5, hI, hle⟩
   simp [h0, h1, h5, l1, ha.slc]
   refine c_split (fun hq2 => ?_) (fun hq2 => ?_) <;> simp at hq2
   · have hw := wrapN (i := i) (by omega)
     obtain ⟨o1, i1, ob1, rfl, a1, a2, a3⟩ := (ha.le hle).get hq2
     obtain ⟨o2, i2, ob2, rfl, b1, b2, b3⟩ := (hb.le hle).get (j := i) (by omega)
     obtain ⟨m, hm⟩ : ∃ m, m = xs[i] := ⟨_, rfl⟩
     obtain ⟨n, hn⟩ : ∃ n, n = ys[i]'(by omega) := ⟨_, rfl⟩
     rw [<- hm] at a3
     rw [<- hn] at b3
     simp [h0, h1, h5, a1, a2, a3, b1, b2, b3, hq2, <- hq, entRow]
     refine c_split (fun hq3 => ?_) (fun hq3 => ?_) <;> simp at hq3 <;> simp [h0, h1, h5, hw, hle]
     · intro h
       subst h
       rw [<- hn] at hm
       subst hm
       simp at hq3
     · refine ⟨k - 1, by omega, i + 1, by omega, by omega, fun j hj => ?_⟩
       rcases Nat.lt_or_ge j i with h | h
       · exact hI j h
       · have : j = i := by omega
         subst this
         rw [List.getElem?_eq_getElem hq2, List.getElem?_eq_getElem (by omega), <- hm, <- hn]
         obtain ⟨m1, m2, m3, m4⟩ := m
         obtain ⟨n1, n2, n3, n4⟩ := n
         simp at hq3 ⊢
         exact ⟨toList_inj' hq3.1, hq3.2.1, hq3.2.2.1, hq3.2.2.2⟩
   · simp [hle]
     apply List.ext_getElem?
     intro j
     rcases Nat.lt_or_ge j i with h | h
     · exact hI j h
     · rw [List.getElem?_eq_none (by omega), List.getElem?_eq_none (by omega)]
theorem ltSames_ok (a b : AV) (xs ys : List ByteArray) (H : Hp) (ha : Strs H a xs) (hb : Strs H b ys) (hx : xs.length < 4611686018427387904) : AC Tryz.prog E 175 [a, b] H (fun v H' => v = .bool (decide (xs = ys)) /\ H' = H) := by
 refine AC_byp (tC_le tab2_ok) h_laws_ltSames (by simp) ?_
 have l1 := ha.len
 have l2 := hb.len
 simp [c_laws_ltSames, l1, l2, ha.slc, hb.slc]
 refine c_split (fun hq => ?_) (fun hq => ?_) <;> simp at hq <;> simp
 · intro h
   subst h
   exact hq rfl
 · refine W_for (fun k t H' => ∃ i : Nat, i + k = xs.length /\ t 0 = a /\ t 1 = b /\ t 5 = .int .i64 i /\ (∀ j : Nat, j < i -> xs[j]? = ys[j]?) /\ HLe H H') xs.length ?_ (tC_mono AC_mono) ?_
   · exact ⟨0, by simp⟩
   rintro k t H' ⟨i, hik, h0, h1, h5, hI, hle⟩
   simp [h0, h1, h5, l1, ha.slc]
   refine c_split (fun hq2 => ?_) (fun hq2 => ?_) <;> simp at hq2
   · have hw := wrapN (i := i) (by omega)
     obtain ⟨o1, i1, ob1, rfl, a1, a2, a3⟩ := (ha.le hle).get hq2
     obtain ⟨o2, i2, ob2, rfl, b1, b2, b3⟩ := (hb.le hle).get (j := i) (by omega)
     simp [h0, h1, h5, a1, a2, a3, b1, b2, b3, hq2, <- hq]
     refine c_split (fun hq3 => ?_) (fun hq3 => ?_) <;> simp at hq3 <;> simp [h0, h1, h5, hw, hle]
     · intro h
       subst h
       exact hq3 rfl
     · refine ⟨k - 1, by omega, i + 1, by omega, rfl, fun j hj => ?_⟩
       rcases Nat.lt_or_ge j i with h | h
       · exact hI j h
       · have : j = i := by omega
         subst this
         rw [List.getElem?_eq_getElem hq2, List.getElem?_eq_getElem (by omega), hq3]
   · simp [hle]
     apply List.ext_getElem?
     intro j
     rcases Nat.lt_or_ge j i with h | h
     · exact hI j h
     · rw [List.getElem?_eq_none (by omega), List.getElem?_eq_none (by omega)]
theorem ltInts_ok (a b : AV) (xs ys : List Int) (H : Hp) (ha : Ints H a xs) (hb : Ints H b ys) (hx : xs.length < 4611686018427387904) : AC Tryz.prog E 102 [a, b] H (fun v H' => v = .bool (decide (xs = ys)) /\ H' = H) := by
 refine AC_byp (tC_le tab2_ok) h_laws_ltInts (by simp) ?_
 have l1 := ha.len
 have l2 := hb.len
 simp [c_laws_ltInts, l1, l2, ha.slc, hb.slc]
 refine c_split (fun hq => ?_) (fun hq => ?_) <;> simp at hq <;> simp
 · intro h
   subst h
   exact hq rfl
 · refine W_for (fun k t H' => ∃ i : Nat, i + k = xs.length /\ t 0 = a /\ t 1 = b /\ t 5 = .int .i64 i /\ (∀ j : Nat, j < i -> xs[j]? = ys[j]?) /\ HLe H H') xs.length ?_ (tC_mono AC_mono) ?_
   · exact ⟨0, by simp⟩
   rintro k t H' ⟨i, hik, h0, h1, h5, hI, hle⟩
   simp [h0, h1, h5, l1, ha.slc]
   refine c_split (fun hq2 => ?_) (fun hq2 => ?_) <;> simp at hq2
   · have hw := wrapN (i := i) (by omega)
     obtain ⟨o1, i1, ob1, rfl, a1, a2, a3⟩ := (ha.le hle).get hq2
     obtain ⟨o2, i2, ob2, rfl, b1, b2, b3⟩ := (hb.le hle).get (j := i) (by omega)
     simp [h0, h1, h5, a1, a2, a3, b1, b2, b3, hq2, <- hq]
     refine c_split (fun hq3 => ?_) (fun hq3 => ?_) <;> simp at hq3 <;> simp [h0, h1, h5, hw, hle]
     · intro h
       subst h
       exact hq3 rfl
     · refine ⟨k - 1, by omega, i + 1, by omega, rfl, fun j hj => ?_⟩
       rcases Nat.lt_or_ge j i with h | h
       · exact hI j h
       · have : j = i := by omega
         subst this
         rw [List.getElem?_eq_getElem hq2, List.getElem?_eq_getElem (by omega), hq3]
   · simp [hle]
     apply List.ext_getElem?
     intro j
     rcases Nat.lt_or_ge j i with h | h
     · exact hI j h
     · rw [List.getElem?_eq_none (by omega), List.getElem?_eq_none (by omega)]
end Go.Proofs.YtgoeenodllmdpaaGreat.B

namespace Go.Proofs.YtgoeenodllmdpaaGreat.B
open Go.RowKit Go.Proofs
set_option linter.unusedVariables false
set_option linter.unusedSimpArgs false
variable {E : Env}
theorem ltSieve_ok (r r' : AV) (s s' : Sv) (H : Hp) (hr : Strs H r s.r) (hr' : Strs H r' s'.r) (hx : s.r.length < 4611686018427387904) :
   AC Tryz.prog E 103 [svAV s r, svAV s' r'] H (fun v H' => v = .bool (decide (s = s')) /\ H' = H) := by
 refine AC_byp (tC_le tabJ_ok) h_laws_ltSieve (by simp) ?_
 have ed : decide (s = s') = (decide (s.l = s'.l) && (decide (s.m = s'.m) && (decide (s.f = s'.f) && (decide (s.k = s'.k) && decide (s.r = s'.r))))) := by
   obtain ⟨x1, x2, x3, x4, x5⟩ := s
   obtain ⟨y1, y2, y3, y4, y5⟩ := s'
   simp only [Sv.mk.injEq, Bool.decide_and]
   cases decide (x1 = y1) <;> cases decide (x2 = y2) <;> cases decide (x3 = y3) <;> cases decide (x4 = y4) <;> cases decide (x5 = y5) <;> rfl
 rw [ed]
 obtain ⟨H1, hH1⟩ : ∃ H1 : Hp, H1 = H ++ [some ⟨[[.str s.l, .str s.m, .str s.f, r, .int .i64 s.k]], 5, 66, false⟩, some ⟨[[.str s'.l, .str s'.m, .str s'.f, r', .int .i64 s'.k]], 5, 66, false⟩] := ⟨_, rfl⟩
 have hle1 : HLe H H1 := by rw [hH1]; exact HLe.self _ _
 have b0 : H1.at H.length = some ⟨[[.str s.l, .str s.m, .str s.f, r, .int .i64 s.k]], 5, 66, false⟩ := by rw [hH1]; simp
 have b1 : H1.at (H.length + 1) = some ⟨[[.str s'.l, .str s'.m, .str s'.f, r', .int .i64 s'.k]], 5, 66, false⟩ := by rw [hH1]; simp
 simp [c_laws_ltSieve, svAV, Rows.one hr, Rows.one hr', <- hH1, b0, b1]
 by_cases e1 : s.l = s'.l
 · by_cases e2 : s.m = s'.m
   · by_cases e3 : s.f = s'.f
     · by_cases e4 : s.k = s'.k
       · simp [e1, e2, e3, e4, b0, b1]
         refine cg_use (ltSames_ok r r' s.r s'.r H1 (hr.le hle1) (hr'.le hle1) hx) ?_
         simp [hle1]
       · simp [e1, e2, e3, e4, b0, b1, hle1]
     · simp [e1, e2, e3, b0, b1, hle1]
   · simp [e1, e2, b0, b1, hle1]
 · simp [e1, hle1]
theorem pre_add {α : Type} {xs ys : List α} {i : Nat} (h : ∀ j, j < i -> xs[j]? = ys[j]?) (hx : i < xs.length) (hy : i < ys.length) (he : xs[i] = ys[i]) : ∀ j, j < i + 1 -> xs[j]? = ys[j]? := by
 intro j hj
 rcases Nat.lt_or_ge j i with h2 | h2
 · exact h j h2
 · have : j = i := by omega
   subst this
   rw [List.getElem?_eq_getElem hx, List.getElem?_eq_getElem hy, he]
theorem pre_all {α : Type} {xs ys : List α} {i : Nat} (h : ∀ j, j < i -> xs[j]? = ys[j]?) (hx : xs.length <= i) (hl : xs.length = ys.length) : xs = ys := by
 apply List.ext_getElem?
 intro j
 rcases Nat.lt_or_ge j i with h2 | h2
 · exact h j h2
 · rw [List.getElem?_eq_none (by omega), List.getElem?_eq_none (by omega)]
set_option maxHeartbeats 1600000 in
theorem ltStore_ok (v v' : AV) (s s' : Sr) (H : Hp) (hs : St H v s) (hs' : St H v' s') (hb : StB s) (hb' : StB s') :
   AC Tryz.prog E 29 [v, v'] H (fun u H' => u = .bool (decide (s = s')) /\ H' = H) := by
 obtain ⟨a, b, c, d, lr, sr, rfl, f1, f2, f3, f4, f5, f6⟩ := hs
 obtain ⟨a', b', c', d', lr', sr', rfl, g1, g2, g3, g4, g5, g6⟩ := hs'
 refine AC_byp (tC_le tabJ_ok) h_laws_ltStore (by simp) ?_
 obtain ⟨H1, hH1⟩ : ∃ H1 : Hp, H1 = H ++ [some ⟨[[a, b, c, .int .i64 s.keep, .int .i64 s.time, d]], 6, 28, false⟩, some ⟨[[a', b', c', .int .i64 s'.keep, .int .i64 s'.time, d']], 6, 28, false⟩] := ⟨_, rfl⟩
 have hle1 : HLe H H1 := by rw [hH1]; exact HLe.self _ _
 have b0 : H1.at H.length = some ⟨[[a, b, c, .int .i64 s.keep, .int .i64 s.time, d]], 6, 28, false⟩ := by rw [hH1]; simp
 have b1 : H1.at (H.length + 1) = some ⟨[[a', b', c', .int .i64 s'.keep, .int .i64 s'.time, d']], 6, 28, false⟩ := by rw [hH1]; simp
 have ll := f3.length
 have ll' := g3.length
 have ls := f5.length
 have ls' := g5.length
 have k1 := f2.len
 have k2 := g2.len
 have k3 := f4.len
 have k4 := g4.len
 rw [ll] at k1
 rw [ll'] at k2
 rw [ls] at k3
 rw [ls'] at k4
 have hB := hb.2.2.1
 have hB' := hb'.2.2.1
 have hC := hb.2.2.2.1
 have no : ∀ {p : Prop}, (s = s' -> p) -> ¬ p -> decide (s = s') = false := fun h hp => decide_eq_false (fun e => hp (h e))
 simp [c_laws_ltStore, stAV, Rows.one f1, f2.one, f4.one, Rows.one f6, Rows.one g1, g2.one, g4.one, Rows.one g6, <- hH1, b0, b1]
 refine cg_use (ltRuns_ok a a' s.top s'.top H1 (f1.le hle1) (g1.le hle1) (by have := hb.1.1; omega)) ?_
 by_cases e1 : s.top = s'.top
 · simp [e1, b0, b1, k1, k2, f2.slc, g2.slc]
   by_cases e2 : s.lev.length = s'.lev.length
   · simp [e2, b0, b1, k3, k4, f4.slc, g4.slc]
     by_cases e3 : s.sv.length = s'.sv.length
     · simp [e3, b0, b1]
       by_cases e4 : s.keep = s'.keep
       · simp [e4, b0, b1]
         by_cases e5 : s.time = s'.time
         · simp [e5, b0, b1]
           refine cg_use (ltInts_ok d d' s.tms s'.tms H1 (f6.le hle1) (g6.le hle1) (by have := hb.2.2.2.2.1; omega)) ?_
           by_cases e6 : s.tms = s'.tms
           · simp [e6]
             refine W_for (fun m t H' => ∃ i : Nat, i + m = s.lev.length /\ t 2 = .pt H.length 0 0 /\ t 3 = .pt (H.length + 1) 0 0 /\ t 5 = .int .i64 i /\ H' = H1 /\ (∀ j, j < i -> s.lev[j]? = s'.lev[j]?)) s.lev.length ?_ (tC_mono AC_mono) ?_
             · exact ⟨0, by simp⟩
             rintro m t H' ⟨i, him, t2, t3, t5, rfl, hI⟩
             simp [t2, t3, t5, b0, b1, k1, k2, f2.slc, g2.slc]
             refine c_split (fun hq => ?_) (fun hq => ?_) <;> simp at hq
             · have hw := wrapN (i := i) (by omega)
               have hil : i < s.lev.length := by omega
               have hil' : i < s'.lev.length := by omega
               obtain ⟨o1, i1, ob1, rfl, x1, x2, x3⟩ := f2.get (j := i) (by omega)
               obtain ⟨u, hu, hue⟩ := f3.get i (by omega) hil
               obtain ⟨o2, i2, ob2, rfl, y1, y2, y3⟩ := g2.get (j := i) (by omega)
               obtain ⟨u', hu', hue'⟩ := g3.get i (by omega) hil'
               rw [hu] at x3
               rw [hu'] at y3
               have x1' := hle1.2 _ _ x1
               have y1' := hle1.2 _ _ y1
               have q1 : i < lr.length := by omega
               have q2 : i < lr'.length := by omega
               simp [t2, t3, t5, b0, b1, x1', x2, x3, y1', y2, y3, q1, q2]
               refine cg_use (ltRuns_ok u u' s.lev[i] s'.lev[i] H' (hue.le hle1) (hue'.le hle1) (by have := (hb.2.1 _ (List.getElem_mem hil)).1; omega)) ?_
               by_cases ez : s.lev[i] = s'.lev[i]
               · simp [ez, t2, t3, t5, hw]
                 exact ⟨m - 1, by omega, i + 1, by omega, by omega, pre_add hI hil hil' ez⟩
               · have hn := no (p := s.lev[i] = s'.lev[i]) (fun h => by simp [h]) ez
                 simp [ez, hn, hle1]
             have elev : s.lev = s'.lev := pre_all hI (by omega) e2
             simp
             refine W_for (fun m t H2 => ∃ i : Nat, i + m = s.sv.length /\ t 2 = .pt H.length 0 0 /\ t 3 = .pt (H.length + 1) 0 0 /\ t 6 = .int .i64 i /\ H2 = H' /\ (∀ j, j < i -> s.sv[j]? = s'.sv[j]?)) s.sv.length ?_ (tC_mono AC_mono) ?_
             · exact ⟨0, by simp [t2, t3]⟩
             clear t2 t3 t5 him hq hI
             rintro m t H2 ⟨i, him, t2, t3, t6, rfl, hI⟩
             simp [t2, t3, t6, b0, b1, k3, k4, f4.slc, g4.slc]
             refine c_split (fun hq => ?_) (fun hq => ?_) <;> simp at hq
             · have hw := wrapN (i := i) (by omega)
               have hil : i < s.sv.length := by omega
               have hil' : i < s'.sv.length := by omega
               obtain ⟨o1, i1, ob1, rfl, x1, x2, x3⟩ := f4.get (j := i) (by omega)
               obtain ⟨u, hu, hue, _⟩ := f5.get i (by omega) hil
               obtain ⟨o2, i2, ob2, rfl, y1, y2, y3⟩ := g4.get (j := i) (by omega)
               obtain ⟨u', hu', hue', _⟩ := g5.get i (by omega) hil'
               rw [hu] at x3
               rw [hu'] at y3
               have x1' := hle1.2 _ _ x1
               have y1' := hle1.2 _ _ y1
               have q1 : i < sr.length := by omega
               have q2 : i < sr'.length := by omega
               simp [t2, t3, t6, b0, b1, x1', x2, x3, y1', y2, y3, q1, q2]
               have hsk := ltSieve_ok (E := E) u u' s.sv[i] s'.sv[i] H2 (hue.le hle1) (hue'.le hle1) (by have := hb.2.2.2.2.2.1 _ (List.getElem_mem hil); omega)
               simp only [svAV] at hsk
               refine cg_use hsk ?_
               by_cases ez : s.sv[i] = s'.sv[i]
               · simp [ez, t2, t3, t6, hw]
                 exact ⟨m - 1, by omega, i + 1, by omega, by omega, pre_add hI hil hil' ez⟩
               · have hn := no (p := s.sv[i] = s'.sv[i]) (fun h => by simp [h]) ez
                 simp [ez, hn, hle1]
             have esv : s.sv = s'.sv := pre_all hI (by omega) e3
             have es : s = s' := by
               obtain ⟨z1, z2, z3, z4, z5, z6⟩ := s
               obtain ⟨w1, w2, w3, w4, w5, w6⟩ := s'
               simp only at e1 elev esv e4 e5 e6
               rw [e1, elev, esv, e4, e5, e6]
             simp [es, hle1]
           · simp [e6, no (fun h => by rw [h]) e6, hle1]
         · simp [e5, no (fun h => by rw [h]) e5, hle1]
       · simp [e4, no (fun h => by rw [h]) e4, hle1]
     · have e3I : ¬ (s.sv.length : Int) = (s'.sv.length : Int) := by omega
       simp [e3, e3I, no (fun h => by rw [h]) e3, hle1]
   · have e2I : ¬ (s.lev.length : Int) = (s'.lev.length : Int) := by omega
     simp [e2, e2I, no (fun h => by rw [h]) e2, hle1]
 · simp [e1, no (fun h => by rw [h]) e1, hle1]
end Go.Proofs.YtgoeenodllmdpaaGreat.B

namespace Go.Proofs.YtgoeenodllmdpaaGreat.B
open Go.RowKit
set_option linter.unusedVariables false
set_option linter.unusedSimpArgs false
end Go.Proofs.YtgoeenodllmdpaaGreat.B

namespace Go.Proofs.YtgoeenodllmdpaaGreat.B
open Go.RowKit Go.Proofs
set_option linter.unusedVariables false
set_option linter.unusedSimpArgs false
variable {E : Env}
theorem St.frE {S : Nat -> Prop} {e : Nat} {H H' : Hp} {v : AV} {s : Sr} (h : St H v s) (hf : Fr S H H') (he : e ≠ 1 /\ e ≠ 4 /\ e ≠ 5) (hS : ∀ y ob, S y -> H.at y = some ob -> ob.esz = e) : St H' v s := by
 obtain ⟨a, b, c, d, lr, sr, e0, h1, h2, h3, h4, h5, h6⟩ := h
 have n : ∀ {k : Nat}, e ≠ k -> ∀ y ob, S y -> H.at y = some ob -> ob.esz ≠ k := fun hk y ob hy ho => by rw [hS y ob hy ho]; exact hk
 exact ⟨a, b, c, d, lr, sr, e0, Rows.frz h1 hf (n he.2.1), Rows.frz h2 hf (n he.1), All2.mono (fun _ _ ⟨u, k1, k2⟩ => ⟨u, k1, Rows.frz k2 hf (n he.2.1)⟩) h3, Rows.frz h4 hf (n he.2.2), All2.mono (fun _ _ ⟨u, k1, k2, k3⟩ => ⟨u, k1, Rows.frz k2 hf (n he.1), k3⟩) h5, Rows.frz h6 hf (n he.1)⟩
end Go.Proofs.YtgoeenodllmdpaaGreat.B

namespace Go.Proofs.YtgoeenodllmdpaaGreat.B
open Go.RowKit Go.Proofs
set_option linter.unusedVariables false
set_option linter.unusedSimpArgs false
variable {E : Env}
end Go.Proofs.YtgoeenodllmdpaaGreat.B

namespace Go.Proofs.YtgoeenodllmdpaaGreat.B
open Go.RowKit Go.Proofs
set_option linter.unusedVariables false
set_option linter.unusedSimpArgs false
structure Br where
 g : List ByteArray
 d : Nat
 fst : Bool
def recs (d : Nat) : Bool -> List (List ByteArray) -> List Br
 | _, [] => []
 | b, g :: gs => ⟨g, d, b⟩ :: recs d false gs
def recF (f : Fk) : List Br := recs f.2 true (brs f.2 f.1)
def kids (f : Fk) : List Fk := subs f.2 (brs f.2 f.1)
def allF : Nat -> List Fk -> List Fk
 | 0, _ => []
 | _ + 1, [] => []
 | n + 1, f :: q => f :: allF n (q ++ kids f)
def Br.ltr (b : Br) : UInt8 := letter (b.g.headD ⟨#[]⟩) b.d
def Br.rst (keep : Int) (b : Br) : ByteArray := restK (b.g.headD ⟨#[]⟩) (b.d + 1) keep
def Br.many (b : Br) : Bool := B.many b.g
def Br.kid (b : Br) : Fk := (b.g, b.d + 1)
def bitC (b : Bool) : UInt8 := if b = true then 49 else 48
structure Enc (L : List Br) (keep : Int) (s : Sv) : Prop where
 l : s.l.data.toList = L.map Br.ltr
 m : s.m.data.toList = L.map (fun b => bitC b.many)
 f : s.f.data.toList = L.map (fun b => bitC b.fst)
 r : s.r = (L.filter (fun b => !b.many)).map (Br.rst keep)
 k : s.k = keep
theorem ba_app (x y : ByteArray) : (x ++ y).data.toList = x.data.toList ++ y.data.toList := by
 rw [ByteArray.data_append, Array.toList_append]
theorem Enc.add {L : List Br} {keep : Int} {s : Sv} (h : Enc L keep s) (d : Nat) (b : Bool) (g : List ByteArray) : Enc (L ++ [⟨g, d, b⟩]) keep (addB d b s g) := by
 obtain ⟨h1, h2, h3, h4, h5⟩ := h
 refine ⟨?_, ?_, ?_, ?_, h5⟩
 · show (s.l ++ lit1 _).data.toList = _
   rw [ba_app, h1, List.map_append]
   rfl
 · show (s.m ++ lit1 _).data.toList = _
   rw [ba_app, h2, List.map_append]
   rfl
 · show (s.f ++ lit1 _).data.toList = _
   rw [ba_app, h3, List.map_append]
   rfl
 · show (if many g = true then s.r else s.r ++ [restK (g.headD ⟨#[]⟩) (d + 1) s.k]) = _
   rw [List.filter_append, List.map_append, h4, h5]
   cases hm : many g with
   | true => simp [Br.many, hm]
   | false => simp [Br.many, hm, Br.rst]
theorem Enc.adds {keep : Int} (d : Nat) : ∀ (gs : List (List ByteArray)) (b : Bool) {L : List Br} {s : Sv}, Enc L keep s -> Enc (L ++ recs d b gs) keep (addBs d b s gs)
 | [], b, L, s, h => by simpa [recs, addBs] using h
 | g :: gs, b, L, s, h => by
   have := Enc.adds d gs false (h.add d b g)
   simpa [recs, addBs, List.append_assoc] using this
theorem Enc.bfs {keep : Int} : ∀ (n : Nat) (q : List Fk) {L : List Br} {s : Sv}, Enc L keep s -> Enc (L ++ (allF n q).flatMap recF) keep (bfs n q s)
 | 0, q, L, s, h => by simpa [allF, B.bfs] using h
 | n + 1, [], L, s, h => by simpa [allF, B.bfs] using h
 | n + 1, (ks, d) :: q, L, s, h => by
   have := Enc.bfs n (q ++ subs d (brs d ks)) (Enc.adds d (brs d ks) true h)
   simpa [allF, B.bfs, kids, recF, List.append_assoc] using this
theorem allF_kids : ∀ (n : Nat) (q : List Fk), (∀ f ∈ q, Good f) -> mu q <= n -> allF n q = q ++ (allF n q).flatMap kids /\ ∀ f ∈ allF n q, Good f
 | 0, [], _, _ => by simp [allF]
 | 0, f :: q, _, hm => by
   have : mu (f :: q) = 1 + 2 * f.1.length * (7 - f.2) + mu q := by simp [mu]
   omega
 | n + 1, [], _, _ => by simp [allF]
 | n + 1, (ks, d) :: q, hg, hm => by
   have hf := hg (ks, d) (by simp)
   have hs := mu_step (q := q) hf
   obtain ⟨h1, h2⟩ := allF_kids n (q ++ kids (ks, d)) (fun f h => by
     rcases List.mem_append.1 h with h | h
     · exact hg f (List.mem_cons_of_mem _ h)
     · exact hf.subs f h) (by unfold kids; simp only; omega)
   refine ⟨?_, fun f h => ?_⟩
   · simp only [allF, List.flatMap_cons, List.cons_append, List.cons.injEq, true_and]
     rw [<- List.append_assoc]
     exact h1
   · rcases List.mem_cons.1 h with rfl | h
     · exact hf
     · exact h2 f h
theorem recs_kids (d : Nat) : ∀ (gs : List (List ByteArray)) (b : Bool), ((recs d b gs).filter Br.many).map Br.kid = subs d gs
 | [], b => rfl
 | g :: gs, b => by
   have ih := recs_kids d gs false
   unfold subs at ih ⊢
   rw [recs, List.filter_cons, List.filter_cons]
   cases hm : many g with
   | true => simp [Br.many, hm, ih, Br.kid]
   | false => simp [Br.many, hm, ih]
theorem flat_kids : ∀ (F : List Fk), F.flatMap kids = ((F.flatMap recF).filter Br.many).map Br.kid
 | [] => rfl
 | f :: F => by
   rw [List.flatMap_cons, List.flatMap_cons, List.filter_append, List.map_append, flat_kids F]
   congr 1
   exact (recs_kids f.2 (brs f.2 f.1) true).symm
theorem filter_at {α : Type} (p : α -> Bool) : ∀ (L : List α) (i : Nat) (h : i < L.length), p L[i] = true -> (L.filter p)[(L.take i).countP p]? = some L[i]
 | a :: L, 0, _, hp => by
   rw [List.getElem_cons_zero] at hp
   simp [List.filter_cons, hp]
 | a :: L, i + 1, h, hp => by
   have hp' : p (L[i]'(by simpa using h)) = true := by simpa using hp
   have ih := filter_at p L i (by simpa using h) hp'
   rw [List.filter_cons, List.take_succ_cons, List.countP_cons]
   split
   · simpa using ih
   · simpa using ih
theorem allF_mono : ∀ (n : Nat) (q : List Fk) (m : Nat), q.Pairwise (fun a b => a.2 <= b.2) -> (∀ f ∈ q, m <= f.2 /\ f.2 <= m + 1) -> (allF n q).Pairwise (fun a b => a.2 <= b.2) /\ ∀ f ∈ allF n q, m <= f.2
 | 0, q, m, _, _ => ⟨List.Pairwise.nil, fun f h => (by cases h)⟩
 | n + 1, [], m, _, _ => ⟨List.Pairwise.nil, fun f h => (by cases h)⟩
 | n + 1, f :: q, m, h1, h2 => by
   obtain ⟨h3, h4⟩ := List.pairwise_cons.1 h1
   have hf := h2 f (by simp)
   have hk : ∀ g ∈ kids f, g.2 = f.2 + 1 := by
     intro g hg
     simp only [kids, subs, List.mem_map] at hg
     obtain ⟨x, _, rfl⟩ := hg
     rfl
   have hq : ∀ g ∈ q, f.2 <= g.2 /\ g.2 <= f.2 + 1 := fun g hg => ⟨h3 g hg, by have := h2 g (List.mem_cons_of_mem _ hg); omega⟩
   have hkp : (kids f).Pairwise (fun a b => a.2 <= b.2) := by
     refine List.pairwise_iff_forall_sublist.2 (fun {a b} hab => ?_)
     have ha := hk a (hab.subset (by simp))
     have hb := hk b (hab.subset (by simp))
     omega
   obtain ⟨h5, h6⟩ := allF_mono n (q ++ kids f) f.2 (List.pairwise_append.2 ⟨h4, hkp, fun a ha b hb => by have := hq a ha; have := hk b hb; omega⟩) (fun g hg => by
     rcases List.mem_append.1 hg with hg | hg
     · exact hq g hg
     · have := hk g hg
       omega)
   refine ⟨List.pairwise_cons.2 ⟨h6, h5⟩, fun g hg => ?_⟩
   rcases List.mem_cons.1 hg with rfl | hg
   · exact hf.1
   · have := h6 g hg
     omega
structure Tr (ks : List ByteArray) (F : List Fk) (L : List Br) : Prop where
 f : F = (ks, 0) :: (L.filter Br.many).map Br.kid
 l : L = F.flatMap recF
 good : ∀ f ∈ F, Good f
 sp : ∀ f ∈ F, SP f.2 f.1
 z : ks = [] -> L = []
 mono : F.Pairwise (fun a b => a.2 <= b.2)
theorem allF_sp : ∀ (n : Nat) (q : List Fk), (∀ f ∈ q, SP f.2 f.1) -> ∀ f ∈ allF n q, SP f.2 f.1
 | 0, q, _, f, h => by cases h
 | n + 1, [], _, f, h => by cases h
 | n + 1, g :: q, hq, f, h => by
   rcases List.mem_cons.1 h with rfl | h
   · exact hq _ (by simp)
   · refine allF_sp n (q ++ kids g) (fun x hx => ?_) f h
     rcases List.mem_append.1 hx with hx | hx
     · exact hq x (List.mem_cons_of_mem _ hx)
     · exact (hq g (by simp)).of_subs x hx
theorem kids_len {f : Fk} {B : Nat} (h : f.1.length <= B) : ∀ g ∈ kids f, g.1.length <= B := by
 intro g hg
 simp only [kids, subs, List.mem_map, List.mem_filter] at hg
 obtain ⟨x, ⟨hx, _⟩, rfl⟩ := hg
 obtain ⟨ks', h1, rfl⟩ := brs_sub f.1.length f.2 f.1 (Nat.le_refl _) x hx
 have := ((grp_sub f.2 ks').trans h1).length_le
 simp only
 omega
theorem allF_len {B : Nat} : ∀ (n : Nat) (q : List Fk), (∀ f ∈ q, f.1.length <= B) -> (∀ f ∈ allF n q, f.1.length <= B) /\ (allF n q).length <= n
 | 0, q, _ => ⟨(fun _ h => by cases h), Nat.le_refl _⟩
 | n + 1, [], _ => ⟨(fun _ h => by cases h), Nat.zero_le _⟩
 | n + 1, f :: q, h => by
   obtain ⟨h1, h2⟩ := allF_len n (q ++ kids f) (fun x hx => by
     rcases List.mem_append.1 hx with hx | hx
     · exact h x (List.mem_cons_of_mem _ hx)
     · exact kids_len (h f (by simp)) x hx)
   refine ⟨fun x hx => ?_, ?_⟩
   · rcases List.mem_cons.1 hx with rfl | hx
     · exact h _ (by simp)
     · exact h1 x hx
   · rw [allF, List.length_cons]
     omega
theorem recs_len (d : Nat) : ∀ (gs : List (List ByteArray)) (b : Bool), (recs d b gs).length = gs.length
 | [], _ => rfl
 | g :: gs, b => by rw [recs, List.length_cons, List.length_cons, recs_len d gs false]
theorem flat_sum {B : Nat} : ∀ (F : List Fk), (∀ f ∈ F, f.1.length <= B) -> (F.flatMap recF).length <= B * F.length
 | [], _ => by simp
 | f :: F, h => by
   have ih := flat_sum F (fun x hx => h x (List.mem_cons_of_mem _ hx))
   have h1 := (brs_sum f.1.length f.2 f.1 (Nat.le_refl _)).2
   have h2 := h f (by simp)
   have h3 : (recF f).length = (brs f.2 f.1).length := recs_len _ _ _
   rw [List.flatMap_cons, List.length_append, List.length_cons, Nat.mul_add, Nat.mul_one]
   omega
theorem flat_len {ks : List ByteArray} (h : ks.length <= 24) : ((allF 500 [(ks, 0)]).flatMap recF).length <= 12000 := by
 obtain ⟨h1, h2⟩ := allF_len (B := 24) 500 [(ks, 0)] (fun f hf => by rw [List.mem_singleton.1 hf]; exact h)
 have h3 := flat_sum _ h1
 have : 24 * (allF 500 [(ks, 0)]).length <= 24 * 500 := Nat.mul_le_mul_left _ h2
 omega
theorem Tr.of {ks : List ByteArray} (h : keysOk ks = true) (keep : Int) : ∃ F L, Tr ks F L /\ Enc L keep (sieveR ks keep) /\ L.length <= 12000 := by
 obtain ⟨hg, hl⟩ := keysOk_good h
 have hm : mu [(ks, 0)] <= 500 := by
   simp [mu]
   omega
 obtain ⟨h1, h2⟩ := allF_kids 500 [(ks, 0)] (fun f hf => by rw [List.mem_singleton.1 hf]; exact hg) hm
 refine ⟨allF 500 [(ks, 0)], (allF 500 [(ks, 0)]).flatMap recF, ⟨?_, rfl, h2, ?_, ?_, (allF_mono 500 [(ks, 0)] 0 (List.pairwise_singleton _ _) (fun f hf => by rw [List.mem_singleton.1 hf]; exact ⟨Nat.zero_le _, Nat.zero_le _⟩)).1⟩, ?_, flat_len hl⟩
 · rw [flat_kids] at h1
   exact h1
 · exact allF_sp 500 [(ks, 0)] (fun f hf => by rw [List.mem_singleton.1 hf]; exact SP.of_keys h)
 · intro e
   subst e
   have e0 : brs 0 [] = [] := by rw [brs]
   have e1 : kids ([], 0) = [] := by
     unfold kids
     simp only [e0]
     rfl
   have e2 : allF 500 [([], 0)] = ([], 0) :: allF 499 ([] ++ kids ([], 0)) := rfl
   have e3 : allF 499 [] = [] := rfl
   rw [e2, e1, List.append_nil, e3, List.flatMap_cons, List.flatMap_nil, List.append_nil]
   unfold recF
   simp only [e0]
   rfl
 · have e : Enc [] keep ⟨⟨#[]⟩, ⟨#[]⟩, ⟨#[]⟩, [], keep⟩ := ⟨rfl, rfl, rfl, rfl, rfl⟩
   have := Enc.bfs 500 [(ks, 0)] e
   rw [List.nil_append] at this
   exact this
theorem Tr.kid {ks : List ByteArray} {F : List Fk} {L : List Br} (h : Tr ks F L) {i : Nat} (hi : i < L.length) (hm : L[i].many = true) : F[(L.take (i + 1)).countP Br.many]? = some L[i].kid := by
 rw [h.f, List.take_succ_eq_append_getElem hi, List.countP_append, List.countP_singleton, if_pos hm, List.getElem?_cons_succ, List.getElem?_map, filter_at _ _ _ hi hm]
 rfl
theorem Tr.at {ks : List ByteArray} {F : List Fk} {L : List Br} (h : Tr ks F L) {j : Nat} (hj : j < F.length) : L = (F.take j).flatMap recF ++ (recF F[j] ++ (F.drop (j + 1)).flatMap recF) := by
 rw [h.l]
 conv => lhs; rw [<- List.take_append_drop j F]
 rw [List.flatMap_append]
 congr 1
 rw [List.drop_eq_getElem_cons hj, List.flatMap_cons]
theorem recs_fst (d : Nat) : ∀ (gs : List (List ByteArray)), (recs d false gs).countP (·.fst) = 0 /\ (∀ b ∈ recs d false gs, b.fst = false)
 | [] => ⟨rfl, fun _ h => by cases h⟩
 | g :: gs => by
   obtain ⟨h1, h2⟩ := recs_fst d gs
   rw [recs]
   refine ⟨by rw [List.countP_cons, h1]; rfl, fun b hb => ?_⟩
   rcases List.mem_cons.1 hb with rfl | hb
   · rfl
   · exact h2 b hb
theorem recF_cons {f : Fk} (h : f.1 ≠ []) : ∃ b r, recF f = b :: r /\ b.fst = true /\ (∀ x ∈ r, x.fst = false) /\ (recF f).countP (·.fst) = 1 := by
 obtain ⟨ks, d⟩ := f
 cases ks with
 | nil => exact absurd rfl h
 | cons k ks =>
   unfold recF
   simp only [brs_cons, recs]
   obtain ⟨h1, h2⟩ := recs_fst d (brs d ((k :: ks).drop (grp d (k :: ks)).length))
   exact ⟨_, _, rfl, rfl, h2, by rw [List.countP_cons, h1]; rfl⟩
theorem flat_fst : ∀ (F : List Fk), (∀ f ∈ F, f.1 ≠ []) -> (F.flatMap recF).countP (·.fst) = F.length
 | [], _ => rfl
 | f :: F, h => by
   obtain ⟨b, r, _, _, _, e⟩ := recF_cons (h f (by simp))
   rw [List.flatMap_cons, List.countP_append, e, flat_fst F (fun x hx => h x (List.mem_cons_of_mem _ hx)), List.length_cons]
   omega
theorem Tr.ne {ks : List ByteArray} {F : List Fk} {L : List Br} (h : Tr ks F L) (hk : ks ≠ []) : ∀ f ∈ F, f.1 ≠ [] := by
 intro f hf
 have hg := h.good f hf
 rw [h.f] at hf
 rcases List.mem_cons.1 hf with rfl | hf
 · exact hk
 · obtain ⟨b, hb, rfl⟩ := List.mem_map.1 hf
   have h2 := hg.2.2.2
   intro e
   rw [e] at h2
   simp [Br.kid] at h2
def oneP : List Bool -> Nat -> Option Nat
 | [], _ => none
 | true :: _, 0 => some 0
 | true :: r, n + 1 => (oneP r n).map (· + 1)
 | false :: r, n => (oneP r n).map (· + 1)
theorem oneP_app : ∀ (A R : List Bool), oneP (A ++ true :: R) (A.countP id) = some A.length
 | [], R => rfl
 | true :: A, R => by
   have ih := oneP_app A R
   rw [List.cons_append, List.countP_cons_of_pos (by rfl), oneP, ih]
   rfl
 | false :: A, R => by
   have ih := oneP_app A R
   rw [List.cons_append, List.countP_cons_of_neg (by simp), oneP, ih]
   rfl
theorem recF_len (f : Fk) : (recF f).length = (brs f.2 f.1).length := recs_len _ _ _
theorem recs_get (d : Nat) : ∀ (gs : List (List ByteArray)) (b : Bool) (i : Nat) (h : i < (recs d b gs).length) (h' : i < gs.length), ((recs d b gs)[i]).g = gs[i] /\ ((recs d b gs)[i]).d = d
 | g :: gs, b, 0, _, _ => ⟨rfl, rfl⟩
 | g :: gs, b, i + 1, h, h' => by
   have := recs_get d gs false i (by simpa [recs] using h) (by simpa using h')
   simpa [recs] using this
theorem Tr.span {ks : List ByteArray} {F : List Fk} {L : List Br} (h : Tr ks F L) (hk : ks ≠ []) {j : Nat} (hj : j < F.length) : ∃ a, oneP (L.map (·.fst)) j = some a /\ a + (brs F[j].2 F[j].1).length <= L.length /\ 0 < (brs F[j].2 F[j].1).length /\
   (((L.map (·.fst)).drop (a + 1)).takeWhile (fun b => !b)).length = (brs F[j].2 F[j].1).length - 1 /\
   ∀ (i : Nat) (hi : i < (brs F[j].2 F[j].1).length) (hl : a + i < L.length), (L[a + i]).g = (brs F[j].2 F[j].1)[i] /\ (L[a + i]).d = F[j].2 := by
 have hne := h.ne hk
 have hat := h.at hj
 obtain ⟨b, r, e, hb, hr, hc⟩ := recF_cons (hne F[j] (List.getElem_mem hj))
 have hlen := recF_len F[j]
 have hr1 : r.length + 1 = (brs F[j].2 F[j].1).length := by rw [<- hlen, e, List.length_cons]
 have hA := flat_fst (F.take j) (fun f hf => hne f (List.mem_of_mem_take hf))
 rw [List.length_take, Nat.min_eq_left (by omega)] at hA
 have hL := congrArg List.length hat
 rw [List.length_append, List.length_append] at hL
 refine ⟨((F.take j).flatMap recF).length, ?_, by omega, by omega, ?_, fun i hi hl => ?_⟩
 · have e2 : L.map (·.fst) = ((F.take j).flatMap recF).map (·.fst) ++ true :: (r.map (·.fst) ++ ((F.drop (j + 1)).flatMap recF).map (·.fst)) := by
     conv => lhs; rw [hat]
     rw [e, List.map_append, List.map_append, List.map_cons, hb, List.cons_append]
   have e3 : (((F.take j).flatMap recF).map (·.fst)).countP id = j := by
     rw [List.countP_map]
     exact hA
   have := oneP_app (((F.take j).flatMap recF).map (·.fst)) (r.map (·.fst) ++ ((F.drop (j + 1)).flatMap recF).map (·.fst))
   rw [e3, List.length_map] at this
   rw [e2]
   exact this
 · have e2 : (L.map (·.fst)).drop (((F.take j).flatMap recF).length + 1) = r.map (·.fst) ++ ((F.drop (j + 1)).flatMap recF).map (·.fst) := by
     conv => lhs; rw [hat]
     rw [e, List.map_append, List.map_append, List.map_cons, List.cons_append, List.drop_append, List.length_map, show ((F.take j).flatMap recF).length + 1 - ((F.take j).flatMap recF).length = 1 by omega, List.drop_of_length_le (by simp), List.nil_append]
     rfl
   rw [e2]
   have e4 : ∀ x ∈ r.map (·.fst), (!x) = true := by
     intro x hx
     obtain ⟨y, hy, rfl⟩ := List.mem_map.1 hx
     simp [hr y hy]
   rw [List.takeWhile_append_of_pos e4, List.length_append, List.length_map]
   have e5 : ((((F.drop (j + 1)).flatMap recF).map (·.fst)).takeWhile (fun b => !b)) = [] := by
     cases hd : F.drop (j + 1) with
     | nil => rfl
     | cons f F' =>
       obtain ⟨b', r', e', hb', _⟩ := recF_cons (hne f (List.mem_of_mem_drop (by rw [hd]; simp)))
       rw [List.flatMap_cons, e', List.cons_append, List.map_cons, hb']
       rfl
   rw [e5]
   simp
   omega
 · have hi2 : i < (recF F[j]).length := by omega
   have e6 : L[((F.take j).flatMap recF).length + i] = (recF F[j])[i] := by
     apply Option.some.inj
     rw [<- List.getElem?_eq_getElem hl, <- List.getElem?_eq_getElem hi2]
     conv => lhs; rw [hat]
     rw [List.getElem?_append_right (by omega), show ((F.take j).flatMap recF).length + i - ((F.take j).flatMap recF).length = i by omega, List.getElem?_append_left hi2]
   rw [e6]
   exact recs_get _ _ _ _ hi2 hi
def pickG (d : Nat) (c : UInt8) : List (List ByteArray) -> Option (List ByteArray)
 | [] => none
 | g :: gs => if letter (g.headD ⟨#[]⟩) d = c then some g else pickG d c gs
def tailK (k : ByteArray) (d : Nat) : ByteArray := k.extract (min (d + 1) k.size) k.size
def wholeK (x : ByteArray) (d : Nat) (keep : Int) : Bool := decide (letter x d = 45) || decide (((restK x (d + 1) keep).size : Int) < keep)
def begins (k p : ByteArray) : Bool := decide (p.size <= k.size /\ k.extract 0 p.size = p)
def leafHas (k : ByteArray) (d : Nat) (keep : Int) (x : ByteArray) : Bool := if wholeK x d keep = true then decide (tailK k d = restK x (d + 1) keep) else begins (tailK k d) (restK x (d + 1) keep)
def hasF (keep : Int) (k : ByteArray) : Nat -> List ByteArray -> Nat -> Bool
 | 0, _, _ => false
 | n + 1, ks, d => match pickG d (letter k d) (brs d ks) with
   | none => false
   | some g => if many g = true then hasF keep k n g (d + 1) else leafHas k d keep (g.headD ⟨#[]⟩)
def hasR (ks : List ByteArray) (keep : Int) (k : ByteArray) : Bool := hasF keep k 7 ks 0
theorem restK_tail (k : ByteArray) (d : Nat) (keep : Int) (hk : 0 <= keep) : restK k (d + 1) keep = (tailK k d).extract 0 (min keep.toNat (tailK k d).size) := by
 have e : k.extract (d + 1) k.size = tailK k d := by
   unfold tailK
   rcases Nat.lt_or_ge (d + 1) k.size with h | h
   · rw [Nat.min_eq_left (by omega)]
   · rw [Nat.min_eq_right h]
     apply ByteArray.ext
     simp [ByteArray.data_extract]
     omega
 have e2 : (tailK k d).size = k.size - (d + 1) := by
   unfold tailK
   rw [ByteArray.size_extract]
   omega
 unfold restK
 rw [e, e2, Nat.min_comm]
theorem ba_whole (x : ByteArray) : x.extract 0 x.size = x := by
 apply ByteArray.ext
 simp [ByteArray.data_extract]
theorem leafHas_self (k : ByteArray) (d : Nat) (keep : Int) (hk : 0 <= keep) (hok : keyOk k = true) : leafHas k d keep k = true := by
 have e := restK_tail k d keep hk
 have e2 : (tailK k d).size = k.size - (d + 1) := by
   unfold tailK
   rw [ByteArray.size_extract]
   omega
 unfold leafHas
 split
 · rename_i h
   rw [decide_eq_true_eq]
   simp only [wholeK, Bool.or_eq_true, decide_eq_true_eq] at h
   rw [e]
   have hle : (tailK k d).size <= keep.toNat := by
     rcases h with h | h
     · have := (letter_ok hok d).1 h
       omega
     · rw [e, ByteArray.size_extract] at h
       omega
   rw [Nat.min_eq_right hle, ba_whole]
 · unfold begins
   rw [decide_eq_true_eq, e]
   refine ⟨by rw [ByteArray.size_extract]; omega, ?_⟩
   rw [ByteArray.size_extract]
   congr 1
   omega
theorem grp_hd {d : Nat} {k : ByteArray} {ks : List ByteArray} : (grp d (k :: ks)).headD ⟨#[]⟩ = k := by
 unfold grp
 simp only
 rw [List.filter_cons, if_pos (by simp)]
 rfl
theorem pick_mem : ∀ (n : Nat) {d : Nat} {ks : List ByteArray} {k : ByteArray}, ks.length <= n -> SP d ks -> k ∈ ks -> ∃ g, pickG d (letter k d) (brs d ks) = some g /\ k ∈ g /\ g ∈ brs d ks
 | n, d, [], k, _, _, hk => by cases hk
 | 0, d, k0 :: ks, k, hn, _, _ => by simp at hn
 | n + 1, d, k0 :: ks, k, hn, h, hk => by
   rw [brs_cons, pickG, grp_hd]
   by_cases he : letter k0 d = letter k d
   · rw [if_pos he]
     refine ⟨_, rfl, ?_, by simp⟩
     unfold grp
     simp only
     rw [List.mem_filter]
     exact ⟨hk, by simp [he]⟩
   · rw [if_neg he]
     obtain ⟨e1, e2⟩ := grp_take h
     have hp := grp_pos d k0 ks
     have hd : k ∈ (k0 :: ks).drop (grp d (k0 :: ks)).length := by
       rw [<- List.take_append_drop (grp d (k0 :: ks)).length (k0 :: ks)] at hk
       rcases List.mem_append.1 hk with h1 | h1
       · exfalso
         rw [e2, <- e1] at h1
         unfold grp at h1
         simp only at h1
         have := (List.mem_filter.1 h1).2
         simp only [beq_iff_eq] at this
         exact he this.symm
       · exact h1
     obtain ⟨g, g1, g2, g3⟩ := pick_mem n (by simp only [List.length_drop, List.length_cons] at hn ⊢; omega) (h.sub (List.drop_sublist _ _)) hd
     exact ⟨g, g1, g2, List.mem_cons_of_mem _ g3⟩
theorem kid_good {ks g : List ByteArray} {d : Nat} (h : Good (ks, d)) (hg : g ∈ brs d ks) (hm : many g = true) : Good (g, d + 1) :=
 h.subs _ (List.mem_map.2 ⟨g, List.mem_filter.2 ⟨hg, hm⟩, rfl⟩)
theorem hasF_self {keep : Int} {k : ByteArray} (hk0 : 0 <= keep) (hok : keyOk k = true) : ∀ (n : Nat) {ks : List ByteArray} {d : Nat}, SP d ks -> Good (ks, d) -> k ∈ ks -> 7 <= n + d -> hasF keep k n ks d = true
 | 0, ks, d, _, hg, _, hn => by
   have := hg.deep
   simp only at this
   omega
 | n + 1, ks, d, hs, hg, hk, hn => by
   obtain ⟨g, g1, g2, g3⟩ := pick_mem ks.length (Nat.le_refl _) hs hk
   rw [hasF, g1]
   simp only
   cases hm : many g with
   | true =>
     rw [if_pos rfl]
     exact hasF_self hk0 hok n (SP.of_brs ks.length d (Nat.le_refl _) hs g g3) (kid_good hg g3 hm) g2 (by omega)
   | false =>
     rw [if_neg (by simp)]
     have hl : g.length <= 1 := by simpa [many] using hm
     match g, g2, hl with
     | [x], g2, _ =>
       rw [List.mem_singleton] at g2
       subst g2
       exact leafHas_self k d keep hk0 hok
theorem hasR_self {ks : List ByteArray} {keep : Int} {k : ByteArray} (h : keysOk ks = true) (hk0 : 0 <= keep) (hk : k ∈ ks) : hasR ks keep k = true :=
 hasF_self hk0 ((SP.of_keys h).ok k hk) 7 (SP.of_keys h) (keysOk_good h).1 hk (by omega)
end Go.Proofs.YtgoeenodllmdpaaGreat.B

namespace Go.Proofs
open Go.Shelf
def Tryz.laysCount_ren : Go.Shelf.Ren := ⟨fun | 138 => 231 | 195 => 259 | 218 => 260 | 143 => 261 | 219 => 267 | 217 => 271 | 225 => 272 | 224 => 273 | 267 => 274 | 266 => 278 | 314 => 279 | n => n, fun | 9 => 9 | 3 => 3 | 4 => 4 | 5 => 5 | 0 => 0 | 46 => 179 | 146 => 261 | 51 => 225 | n => n, fun | 1 => 0 | n => n⟩
theorem Tryz.laysCount : Go.Proofs.Lays.n138 Tryz.prog Tryz.laysCount_ren := {
 mixed := by kernel_rfl
 f138 := Tryz.func231.trans (congrArg some (by kernel_rfl))
 f143 := Tryz.func261.trans (congrArg some (by kernel_rfl))
 f195 := Tryz.func259.trans (congrArg some (by kernel_rfl))
 f217 := Tryz.func271.trans (congrArg some (by kernel_rfl))
 f218 := Tryz.func260.trans (congrArg some (by kernel_rfl))
 f219 := Tryz.func267.trans (congrArg some (by kernel_rfl))
 f224 := Tryz.func273.trans (congrArg some (by kernel_rfl))
 f225 := Tryz.func272.trans (congrArg some (by kernel_rfl))
 f266 := Tryz.func278.trans (congrArg some (by kernel_rfl))
 f267 := Tryz.func274.trans (congrArg some (by kernel_rfl))
 f314 := Tryz.func279.trans (congrArg some (by kernel_rfl))
 t0 := Tryz.underlying0
 a0 := Tryz.isAgg0
 z0 := Tryz.sizeOf0
 v0 := Tryz.zeroValue0
 t3 := Tryz.underlying3
 a3 := Tryz.isAgg3
 z3 := Tryz.sizeOf3
 v3 := Tryz.zeroValue3
 t4 := Tryz.underlying4
 a4 := Tryz.isAgg4
 z4 := Tryz.sizeOf4
 v4 := Tryz.zeroValue4
 t5 := Tryz.underlying5
 a5 := Tryz.isAgg5
 z5 := Tryz.sizeOf5
 v5 := Tryz.zeroValue5
 t9 := Tryz.underlying9
 a9 := Tryz.isAgg9
 z9 := Tryz.sizeOf9
 v9 := Tryz.zeroValue9
 t46 := Tryz.underlying179
 a46 := Tryz.isAgg179
 z46 := Tryz.sizeOf179
 v46 := Tryz.zeroValue179
 t51 := Tryz.underlying225
 a51 := Tryz.isAgg225
 z51 := Tryz.sizeOf225
 v51 := Tryz.zeroValue225
 t146 := Tryz.underlying261
 a146 := Tryz.isAgg261
 z146 := Tryz.sizeOf261
 v146 := Tryz.zeroValue261
 g1 := by kernel_rfl }
end Go.Proofs

namespace Go.Proofs.YtgoeenodllmdpaaGreat.B
open Go.RowKit Go.Proofs
set_option linter.unusedVariables false
set_option linter.unusedSimpArgs false
variable {E : Env}
def BitsIs (s : ByteArray) (b : List Bool) : Prop := s.data.toList = b.map bitC
theorem BitsIs.size {s : ByteArray} {b : List Bool} (h : BitsIs s b) : s.size = b.length := by
 have := congrArg List.length h
 rw [List.length_map] at this
 rw [<- this]
 exact Array.length_toList.symm
theorem BitsIs.bt {s : ByteArray} {b : List Bool} (h : BitsIs s b) {i : Nat} (hi : i < b.length) : bt s i = if b[i] = true then 49 else 48 := by
 have hl : s.data.toList.length = b.length := by rw [h, List.length_map]
 rw [bt_at (by omega)]
 have : s.data.toList[i]'(by omega) = bitC b[i] := by
   have h2 : s.data.toList[i]? = (b.map bitC)[i]? := by rw [h]
   rw [List.getElem?_eq_getElem (by omega), List.getElem?_eq_getElem (by simpa using hi), List.getElem_map] at h2
   exact Option.some.inj h2
 rw [this]
 cases b[i] <;> rfl
theorem oneP_drop_t {b : List Bool} {i : Nat} (hi : i < b.length) (h : b[i] = true) : oneP (b.drop i) 0 = some 0 /\ ∀ n, oneP (b.drop i) (n + 1) = (oneP (b.drop (i + 1)) n).map (· + 1) := by
 rw [List.drop_eq_getElem_cons hi, h]
 exact ⟨rfl, fun n => rfl⟩
theorem oneP_drop_f {b : List Bool} {i : Nat} (hi : i < b.length) (h : b[i] = false) : ∀ n, oneP (b.drop i) n = (oneP (b.drop (i + 1)) n).map (· + 1) := by
 rw [List.drop_eq_getElem_cons hi, h]
 exact fun n => rfl
theorem opt_add (o : Option Nat) (i : Nat) : (o.map (· + 1)).map (· + i) = o.map (· + (i + 1)) := by
 cases o with
 | none => rfl
 | some x =>
   simp only [Option.map_some]
   congr 1
   omega
def posI (o : Option Nat) : Int := match o with
 | none => -1
 | some i => i
theorem one_ok (s : ByteArray) (b : List Bool) (n : Nat) (H : Hp) (hb : BitsIs s b) (hs : b.length < 1099511627776) (hn : n < 1099511627776) :
   AC Tryz.prog E 230 [.str s, .int .i64 n] H (fun v H' => v = .int .i64 (posI (oneP b n)) /\ H' = H) := by
 refine AC_byp (CLe.refl (AC Tryz.prog E)) h_impl_one (by simp) ?_
 have hsz := hb.size
 simp [c_impl_one, hsz]
 refine W_for (fun k t H' => ∃ i m : Nat, i + k = b.length /\ m < 1099511627776 /\ t 0 = .str s /\ t 1 = .int .i64 m /\ t 7 = .int .i64 b.length /\ t 8 = .int .i64 i /\ (oneP (b.drop i) m).map (· + i) = oneP b n /\ HLe H H') b.length ?_ AC_mono ?_
 · exact ⟨0, n, by simp, hn, by simp, by simp, by simp [hsz], by simp, by simp, HLe.refl _⟩
 rintro k t H' ⟨i, m, hik, hm, h0, h1, h7, h8, hP, hle⟩
 simp [h0, h1, h7, h8]
 refine c_split (fun hq => ?_) (fun hq => ?_) <;> simp at hq
 · have hi : i < b.length := by omega
   have hw := wrapN (i := i) (by omega)
   have hbt := hb.bt hi
   simp [h0, h1, h7, h8, hbt, hsz, hi]
   cases hbi : b[i] with
   | false =>
     simp [h0, h1, h7, h8, hw]
     rw [oneP_drop_f hi hbi, opt_add] at hP
     exact ⟨k - 1, by omega, i + 1, by omega, m, hm, rfl, by omega, hP, hle⟩
   | true =>
     obtain ⟨p0, p1⟩ := oneP_drop_t hi hbi
     simp [h0, h1, h7, h8]
     refine c_split (fun hq2 => ?_) (fun hq2 => ?_) <;> simp at hq2
     · have : m = 0 := by omega
       subst this
       rw [p0] at hP
       rw [<- hP]
       simp [h0, h1, h7, h8, posI, hle]
     · obtain ⟨m', rfl⟩ : ∃ m', m = m' + 1 := ⟨m - 1, by omega⟩
       rw [p1, opt_add] at hP
       have hw2 : IntKind.i64.wrap (m' : Int) = m' := wrap64 (by omega) (by omega)
       simp [h0, h1, h7, h8, hw, hw2]
       exact ⟨k - 1, by omega, i + 1, by omega, m', by omega, rfl, by omega, hP, hle⟩
 · have : i = b.length := by omega
   subst this
   rw [List.drop_length] at hP
   rw [<- hP]
   simp [posI, oneP, hle]
theorem Count_ok (s : ByteArray) (c : UInt8) (H : Hp) : AC Tryz.prog E 231 [.str s, .str ⟨#[c]⟩] H (fun v H' => v = .int .i64 (s.data.toList.count c) /\ H' = H) := by
 refine ⟨?_, fun φ w vals hv hH => ?_⟩
 · exact ⟨_, _, Tryz.func231, by kernel_rfl, rfl⟩
 · have e : vals = [.string s, .string ⟨#[c]⟩] := by
     obtain ⟨v, vs, rfl, h1, h2⟩ := hv
     obtain ⟨v2, vs2, rfl, h3, h4⟩ := h2
     have h1 : v = .string s := h1
     have h3 : v2 = .string ⟨#[c]⟩ := h3
     have h4 : vs2 = [] := h4
     rw [h1, h3, h4]
   subst e
   refine Calls.mono (Any.strings_Count_one Tryz.laysCount s c w) ?_
   rintro e w' ⟨rfl, rfl⟩
   exact ⟨φ, H, .int .i64 (s.data.toList.count c), fun _ _ h => h, hH, Below.refl _ _, rfl, rfl, rfl⟩
end Go.Proofs.YtgoeenodllmdpaaGreat.B

namespace Go.Proofs.YtgoeenodllmdpaaGreat.B
open Go.RowKit Go.Proofs
set_option linter.unusedVariables false
set_option linter.unusedSimpArgs false
variable {E : Env}
theorem svBox (s : Sv) (r : AV) (H : Hp) : ∃ H1 : Hp, H1 = H ++ [some ⟨[[.str s.l, .str s.m, .str s.f, r, .int .i64 s.k]], 5, 66, false⟩] /\ HLe H H1 /\ H1.at H.length = some ⟨[[.str s.l, .str s.m, .str s.f, r, .int .i64 s.k]], 5, 66, false⟩ :=
 ⟨_, rfl, HLe.self _ _, by simp⟩
def nullsN (b : List Bool) : Nat := (b.takeWhile (fun x => !x)).length
theorem nullsN_f {b : List Bool} {i : Nat} (hi : i < b.length) (h : b[i] = false) : nullsN (b.drop i) = nullsN (b.drop (i + 1)) + 1 := by
 unfold nullsN
 rw [List.drop_eq_getElem_cons hi, h]
 rfl
theorem nullsN_t {b : List Bool} {i : Nat} (hi : i < b.length) (h : b[i] = true) : nullsN (b.drop i) = 0 := by
 unfold nullsN
 rw [List.drop_eq_getElem_cons hi, h]
 rfl
def spanI (b : List Bool) (n : Nat) : AV := match oneP b n with
 | none => .tu [.int .i64 0, .int .i64 0]
 | some a => .tu [.int .i64 a, .int .i64 ((a + 1 + nullsN (b.drop (a + 1)) : Nat) : Int)]
theorem oneP_lt : ∀ (b : List Bool) (n a : Nat), oneP b n = some a -> a < b.length
 | [], n, a, h => by cases h
 | true :: b, 0, a, h => by
   have : 0 = a := Option.some.inj h
   simp
   omega
 | true :: b, n + 1, a, h => by
   obtain ⟨x, hx, rfl⟩ := Option.map_eq_some_iff.1 h
   have := oneP_lt b n x hx
   simp
   omega
 | false :: b, n, a, h => by
   obtain ⟨x, hx, rfl⟩ := Option.map_eq_some_iff.1 h
   have := oneP_lt b n x hx
   simp
   omega
theorem branches_ok (s : Sv) (r : AV) (b : List Bool) (n : Nat) (H : Hp) (hr : one r = true) (hb : BitsIs s.f b) (hs : b.length < 1099511627776) (hn : n < 1099511627776) :
   AC Tryz.prog E 181 [svAV s r, .int .i64 n] H (fun v H' => v = spanI b n /\ H' = H) := by
 refine AC_byp (tC_le tabJ_ok) h_impl_Sieve_branches (by unfold spanI; split <;> rfl) ?_
 have hsz := hb.size
 obtain ⟨H1, hH1, hle1, b0⟩ := svBox s r H
 simp [c_impl_Sieve_branches, svAV, hr, <- hH1, b0]
 refine cg_use (one_ok s.f b n H1 hb hs hn) ?_
 cases hp : oneP b n with
 | none => simp [posI, spanI, hp, hle1]
 | some a =>
   have ha := oneP_lt b n a hp
   have hw := wrapN (i := a) (by omega)
   have hneg : ¬ ((a : Int) < 0) := by omega
   simp [posI, spanI, hp, hneg, hw]
   refine W_for (fun k t H' => ∃ i : Nat, i + k = b.length /\ t 2 = .pt H.length 0 0 /\ t 6 = .int .i64 a /\ t 7 = .int .i64 i /\ i + nullsN (b.drop i) = a + 1 + nullsN (b.drop (a + 1)) /\ HLe H H' /\ H'.at H.length = some ⟨[[.str s.l, .str s.m, .str s.f, r, .int .i64 s.k]], 5, 66, false⟩) (b.length - (a + 1)) ?_ (tC_mono AC_mono) ?_
   · exact ⟨a + 1, by omega, by simp, by simp, by simp, rfl, hle1, b0⟩
   rintro k t H' ⟨i, hik, h2, h6, h7, hP, hle, b0'⟩
   simp [h2, h6, h7, b0', hsz]
   by_cases hi : i < b.length
   · have hbt := hb.bt hi
     have hiI : (i : Int) < b.length := by omega
     have hw2 := wrapN (i := i) (by omega)
     cases hbi : b[i] with
     | false =>
       rw [nullsN_f hi hbi] at hP
       simp [h2, h6, h7, b0', hi, hbt, hbi, hsz, hw2]
       exact ⟨k - 1, by omega, i + 1, by omega, by omega, by omega, hle⟩
     | true =>
       rw [nullsN_t hi hbi] at hP
       simp [h2, h6, h7, b0', hi, hbt, hbi, hsz, hle]
       omega
   · have : i = b.length := by omega
     subst this
     have e : nullsN (b.drop b.length) = 0 := by rw [List.drop_length]; rfl
     rw [e] at hP
     simp [h2, h6, h7, b0', hle]
     omega
theorem bits_count {s : ByteArray} {b : List Bool} (h : BitsIs s b) (n : Nat) : ((s.extract 0 n).data.toList.count 49 = (b.take n).countP id) /\ ((s.extract 0 n).data.toList.count 48 = (b.take n).countP (fun x => !x)) := by
 have e : (s.extract 0 n).data.toList = (b.take n).map bitC := by
   rw [ByteArray.data_extract, Array.toList_extract, List.map_take, <- h]
   rfl
 rw [e, List.count, List.count, List.countP_map, List.countP_map]
 constructor
 · congr 1
   funext x
   cases x <;> rfl
 · congr 1
   funext x
   cases x <;> rfl
theorem node_ok (s : Sv) (r : AV) (b : List Bool) (i : Nat) (H : Hp) (hr : one r = true) (hb : BitsIs s.m b) (hs : b.length < 1099511627776) (hi : i < b.length) :
   AC Tryz.prog E 182 [svAV s r, .int .i64 i] H (fun v H' => v = .int .i64 ((b.take (i + 1)).countP id) /\ H' = H) := by
 refine AC_byp (tC_le tabJ_ok) h_impl_Sieve_node (by simp) ?_
 have hsz := hb.size
 obtain ⟨H1, hH1, hle1, b0⟩ := svBox s r H
 have hw := wrapN (i := i) (by omega)
 simp [c_impl_Sieve_node, svAV, hr, <- hH1, b0, hw, hsz]
 refine ⟨by omega, ?_⟩
 refine cg_use (Count_ok _ 49 H1) ?_
 rw [(bits_count hb (i + 1)).1]
 simp [hle1]
theorem rest_ok (s : Sv) (r : AV) (b : List Bool) (i : Nat) (H : Hp) (hr : Strs H r s.r) (hb : BitsIs s.m b) (hs : b.length < 1099511627776) (hi : i < b.length) (x : ByteArray) (hx : s.r[(b.take i).countP (fun x => !x)]? = some x) :
   AC Tryz.prog E 184 [svAV s r, .int .i64 i] H (fun v H' => v = .str x /\ H' = H) := by
 refine AC_byp (tC_le tabJ_ok) h_impl_Sieve_rest (by simp) ?_
 have hsz := hb.size
 obtain ⟨H1, hH1, hle1, b0⟩ := svBox s r H
 simp [c_impl_Sieve_rest, svAV, Rows.one hr, <- hH1, b0, hsz]
 refine ⟨by omega, ?_⟩
 refine cg_use (Count_ok _ 48 H1) ?_
 rw [(bits_count hb i).2]
 obtain ⟨n, hn⟩ : ∃ n, n = (b.take i).countP (fun x => !x) := ⟨_, rfl⟩
 rw [<- hn] at hx ⊢
 obtain ⟨hl, hxe⟩ := List.getElem?_eq_some_iff.1 hx
 obtain ⟨o1, i1, ob1, rfl, a1, a2, a3⟩ := (hr.le hle1).get hl
 rw [hxe] at a3
 simp [b0, a1, a2, a3, hl, hle1]
theorem complete_ok (s : Sv) (r : AV) (b : List Bool) (i : Nat) (H : Hp) (hr : Strs H r s.r) (hb : BitsIs s.m b) (hs : b.length < 1099511627776) (hi : i < b.length) (hl : s.l.size = b.length) (x : ByteArray) (hx : s.r[(b.take i).countP (fun x => !x)]? = some x) (c : UInt8) (hc : bt s.l i = c.toNat) :
   AC Tryz.prog E 183 [svAV s r, .int .i64 i] H (fun v H' => v = .bool (decide (c = 45) || decide ((x.size : Int) < s.k)) /\ H' = H) := by
 refine AC_byp (tC_le tabJ_ok) h_impl_Sieve_complete (by simp) ?_
 obtain ⟨H1, hH1, hle1, b0⟩ := svBox s r H
 have hcd : decide ((c.toNat : Int) = 45) = decide (c = 45) := u8_eq c 45
 have hiI : (i : Int) < b.length := by omega
 simp [c_impl_Sieve_complete, svAV, Rows.one hr, <- hH1, b0, hl, hc, hi, hcd]
 by_cases he : c = 45
 · simp [he, hle1]
 · simp [he, b0, Rows.one hr]
   have hR := rest_ok (E := E) s r b i H1 (hr.le hle1) hb hs hi x hx
   simp only [svAV] at hR
   refine cg_use hR ?_
   simp [b0, hle1]
end Go.Proofs.YtgoeenodllmdpaaGreat.B

namespace Go.Proofs.YtgoeenodllmdpaaGreat.B
open Go.RowKit Go.Proofs
set_option linter.unusedVariables false
set_option linter.unusedSimpArgs false
variable {E : Env}
theorem HasPrefix_in (k p : ByteArray) (H : Hp) (hk : k.size < 4611686018427387904) (hp : p.size < 4611686018427387904) : AC Tryz.prog E 262 [.str k, .str p] H (fun v H' => v = .bool (begins k p) /\ H' = H) := by
 refine AC_byp (CLe.refl (AC Tryz.prog E)) h_internal_stringslite_HasPrefix (by simp) ?_
 simp [c_internal_stringslite_HasPrefix]
 by_cases h : p.size <= k.size
 · have hI : (p.size : Int) <= k.size := by omega
   simp [h, hI, begins]
 · have hI : ¬ (p.size : Int) <= k.size := by omega
   simp [h, hI, begins]
theorem HasPrefix_ok (k p : ByteArray) (H : Hp) (hk : k.size < 4611686018427387904) (hp : p.size < 4611686018427387904) : AC Tryz.prog E 232 [.str k, .str p] H (fun v H' => v = .bool (begins k p) /\ H' = H) := by
 refine AC_byp (CLe.refl (AC Tryz.prog E)) h_strings_HasPrefix (by simp) ?_
 simp [c_strings_HasPrefix]
 refine callG_use (HasPrefix_in k p H hk hp) ?_
 simp
theorem KeyBegins_ok (k p : ByteArray) (H : Hp) (hk : k.size < 4611686018427387904) (hp : p.size < 4611686018427387904) : AC Tryz.prog E 185 [.str k, .str p] H (fun v H' => v = .bool (begins k p) /\ H' = H) := by
 refine AC_byp (CLe.refl (AC Tryz.prog E)) h_impl_KeyBegins (by simp) ?_
 simp [c_impl_KeyBegins]
 refine callG_use (HasPrefix_ok k p H hk hp) ?_
 simp
structure Svt (ks : List ByteArray) (keep : Int) (F : List Fk) (L : List Br) (s : Sv) : Prop where
 tr : Tr ks F L
 en : Enc L keep s
 len : L.length < 1000000
 kp : 0 <= keep /\ keep <= 5
theorem Svt.bm {ks : List ByteArray} {keep : Int} {F : List Fk} {L : List Br} {s : Sv} (h : Svt ks keep F L s) : BitsIs s.m (L.map Br.many) := by
 unfold BitsIs
 rw [h.en.m, List.map_map]
 rfl
theorem Svt.bf {ks : List ByteArray} {keep : Int} {F : List Fk} {L : List Br} {s : Sv} (h : Svt ks keep F L s) : BitsIs s.f (L.map (·.fst)) := by
 unfold BitsIs
 rw [h.en.f, List.map_map]
 rfl
theorem Svt.ls {ks : List ByteArray} {keep : Int} {F : List Fk} {L : List Br} {s : Sv} (h : Svt ks keep F L s) : s.l.size = L.length := by
 have := congrArg List.length h.en.l
 rw [List.length_map] at this
 rw [<- this]
 exact Array.length_toList.symm
theorem Svt.lt {ks : List ByteArray} {keep : Int} {F : List Fk} {L : List Br} {s : Sv} (h : Svt ks keep F L s) {i : Nat} (hi : i < L.length) : bt s.l i = (L[i].ltr).toNat := by
 have hl : s.l.data.toList.length = L.length := by rw [h.en.l, List.length_map]
 rw [bt_at (by omega)]
 have h2 : s.l.data.toList[i]? = (L.map Br.ltr)[i]? := by rw [h.en.l]
 rw [List.getElem?_eq_getElem (by omega), List.getElem?_eq_getElem (by simpa using hi), List.getElem_map] at h2
 rw [Option.some.inj h2]
theorem Svt.rs {ks : List ByteArray} {keep : Int} {F : List Fk} {L : List Br} {s : Sv} (h : Svt ks keep F L s) {i : Nat} (hi : i < L.length) (hm : L[i].many = false) : s.r[((L.map Br.many).take i).countP (fun x => !x)]? = some (L[i].rst keep) := by
 rw [<- List.map_take, List.countP_map, h.en.r, List.getElem?_map]
 have := filter_at (fun b : Br => !b.many) L i hi (by simp [hm])
 have e : ((fun x => !x) ∘ Br.many) = (fun b : Br => !b.many) := rfl
 rw [e, this]
 rfl
theorem Svt.kid {ks : List ByteArray} {keep : Int} {F : List Fk} {L : List Br} {s : Sv} (h : Svt ks keep F L s) {i : Nat} (hi : i < L.length) (hm : L[i].many = true) : F[((L.map Br.many).take (i + 1)).countP id]? = some L[i].kid := by
 rw [<- List.map_take, List.countP_map]
 exact h.tr.kid hi hm
theorem pick_none {d : Nat} {c : UInt8} : pickG d c [] = none := rfl
theorem pick_drop {d : Nat} {c : UInt8} {gs : List (List ByteArray)} {i : Nat} (hi : i < gs.length) : pickG d c (gs.drop i) = if letter ((gs[i]).headD ⟨#[]⟩) d = c then some gs[i] else pickG d c (gs.drop (i + 1)) := by
 rw [List.drop_eq_getElem_cons hi, pickG]
theorem letter_more {ks g : List ByteArray} {d : Nat} {k : ByteArray} (hok : keyOk k = true) (hs : SP d ks) (hg : g ∈ brs d ks) (hm : many g = true) (hl : letter (g.headD ⟨#[]⟩) d = letter k d) : d + 1 <= k.size := by
 have h2 := SP.of_brs ks.length d (Nat.le_refl _) hs g hg
 have hlen : 2 <= g.length := by
   have : 1 < g.length := by simpa [many] using hm
   omega
 match g, hlen, h2, hl with
 | a :: b :: g, hlen, h2, hl =>
   have hsz := h2.size hlen a (by simp)
   have hak := h2.ok a (by simp)
   rcases Nat.lt_or_ge d k.size with h | h
   · omega
   · have e1 : letter k d = 45 := (letter_ok hok d).2 h
     have e2 : letter a d = letter k d := hl
     rw [e1] at e2
     have := (letter_ok hak d).1 e2
     omega
def HsI (keep : Int) (k : ByteArray) (F : List Fk) (R : Bool) (s : Sv) (r : AV) (H : Hp) (m : Nat) (t : Tm) (H' : Hp) : Prop := ∃ (j d : Nat) (ks : List ByteArray), F[j]? = some (ks, d) /\ m + d = 7 /\ d <= k.size /\ hasF keep k m ks d = R /\ t 1 = .str k /\ t 2 = .pt H.length 0 0 /\ t 5 = .int .i64 j /\ t 6 = .int .i64 d /\ HLe H H' /\ H'.at H.length = some ⟨[[.str s.l, .str s.m, .str s.f, r, .int .i64 s.k]], 5, 66, false⟩
def HsJ (k : ByteArray) (s : Sv) (r : AV) (H : Hp) (a nb q j d : Nat) (gs : List (List ByteArray)) (m : Nat) (t : Tm) (H' : Hp) : Prop := ∃ i p : Nat, i + m = nb /\ p = a + i /\ t 1 = .str k /\ t 2 = .pt H.length 0 0 /\ t 5 = .int .i64 j /\ t 6 = .int .i64 d /\ t 8 = .int .i64 q /\ t 9 = .int .i64 p /\ pickG d (letter k d) (gs.drop i) = pickG d (letter k d) gs /\ HLe H H' /\ H'.at H.length = some ⟨[[.str s.l, .str s.m, .str s.f, r, .int .i64 s.k]], 5, 66, false⟩
set_option maxHeartbeats 1600000 in
theorem has_ok (s : Sv) (r : AV) (k : ByteArray) (ks : List ByteArray) (keep : Int) (F : List Fk) (L : List Br) (H : Hp) (h : Svt ks keep F L s) (hr : Strs H r s.r) (hk : keyOk k = true) :
   AC Tryz.prog E 110 [svAV s r, .str k] H (fun v H' => v = .bool (hasR ks keep k) /\ H' = H) := by
 refine AC_byp (tC_le tabJ_ok) h_impl_Sieve_has (by simp) ?_
 obtain ⟨H1, hH1, hle1, b0⟩ := svBox s r H
 have hks := keyOk_size hk
 have hll := h.len
 have hr1 := Rows.one hr
 simp [c_impl_Sieve_has, svAV, hr1, <- hH1]
 by_cases hke : ks = []
 · -- no key at all
   have hL := h.tr.z hke
   have e1 : spanI (L.map (·.fst)) 0 = .tu [.int .i64 0, .int .i64 0] := by
     rw [hL]
     rfl
   have e2 : hasR ks keep k = false := by
     unfold hasR
     rw [hke, hasF, brs]
     rfl
   rw [e2]
   refine W_for (fun m t H' => t 1 = .str k /\ t 2 = .pt H.length 0 0 /\ t 5 = .int .i64 0 /\ t 6 = .int .i64 0 /\ HLe H H' /\ H'.at H.length = some ⟨[[.str s.l, .str s.m, .str s.f, r, .int .i64 s.k]], 5, 66, false⟩) 0 ?_ (tC_mono AC_mono) ?_
   · exact ⟨by simp, by simp, by simp, by simp, hle1, b0⟩
   rintro m t H' ⟨t1, t2, t5, t6, hle, b0'⟩
   simp [t1, t2, t5, t6, b0']
   have cB := branches_ok (E := E) s r (L.map (·.fst)) 0 H' hr1 h.bf (by rw [List.length_map]; omega) (by omega)
   simp only [svAV] at cB
   refine cg_use cB ?_
   rw [e1]
   simp
   refine W_for (fun m t2 H2 => t2 8 = .int .i64 0 /\ t2 9 = .int .i64 0 /\ H2 = H') 0 ?_ (tC_mono AC_mono) ?_
   · exact ⟨by simp, by simp, rfl⟩
   rintro m t2 H2 ⟨u8, u9, rfl⟩
   simp [u8, u9, hle]
 refine W_for (HsI keep k F (hasR ks keep k) s r H) 7 ?_ (tC_mono AC_mono) ?_
 · refine ⟨0, 0, ks, by rw [h.tr.f]; rfl, rfl, Nat.zero_le _, rfl, by simp, by simp, by simp, by simp, hle1, b0⟩
 rintro m t H' ⟨j, d, ks', hj, hmd, hdk, hR, t1, t2, t5, t6, hle, b0'⟩
 obtain ⟨hjl, hje⟩ := List.getElem?_eq_some_iff.1 hj
 have hgd := h.tr.good F[j] (List.getElem_mem hjl)
 have hsp := h.tr.sp F[j] (List.getElem_mem hjl)
 rw [hje] at hgd hsp
 have hd5 : d <= 5 := hgd.deep
 obtain ⟨n, rfl⟩ : ∃ n, m = n + 1 := ⟨m - 1, by omega⟩
 have hjb : j < 1099511627776 := by
   have e := congrArg List.length h.tr.f
   rw [List.length_cons, List.length_map] at e
   have := List.length_filter_le Br.many L
   omega
 simp [t1, t2, t5, t6, b0']
 have cB := branches_ok (E := E) s r (L.map (·.fst)) j H' hr1 h.bf (by rw [List.length_map]; omega) hjb
 simp only [svAV] at cB
 refine cg_use cB ?_
 obtain ⟨a, p1, p2, p3, p4, p5⟩ := h.tr.span hke hjl
 rw [hje] at p2 p3 p4
 have p6 : ∀ (i : Nat) (hi : i < (brs d ks').length) (hl : a + i < L.length), (L[a + i]).g = (brs d ks')[i] /\ (L[a + i]).d = d := by
   intro i hi hl
   have := p5 i (by rw [hje]; exact hi) hl
   simp only [hje] at this
   exact this
 clear p5
 simp only at p2 p3 p4
 rw [hasF] at hR
 obtain ⟨gs, hgs⟩ : ∃ gs, gs = brs d ks' := ⟨_, rfl⟩
 have hgm : ∀ g ∈ gs, g ∈ brs d ks' := by rw [hgs]; exact fun g h => h
 simp only [<- hgs] at p2 p3 p4 p6 hR
 obtain ⟨q, hqa⟩ : ∃ q : Nat, q = a + gs.length := ⟨_, rfl⟩
 have hspan : spanI (L.map (·.fst)) j = .tu [.int .i64 a, .int .i64 q] := by
   unfold spanI nullsN
   rw [p1]
   simp only
   rw [p4, show a + 1 + (gs.length - 1) = q by omega]
 rw [hspan]
 simp [t1, t2, t5, t6]
 refine W_for (HsJ k s r H a gs.length q j d gs) gs.length ?_ (tC_mono AC_mono) ?_
 · exact ⟨0, a, by omega, rfl, by simp [t1], by simp [t2], by simp [t5], by simp [t6], by simp, by simp, rfl, hle, b0'⟩
 clear t1 t2 t5 t6 hle b0'
 rintro m t H' ⟨i, p, him, hp, t1, t2, t5, t6, t8, t9, hP, hle, b0'⟩
 simp [t1, t2, t5, t6, t8, t9, b0']
 by_cases hi : i < gs.length
 · have hpq : p < q := by omega
   have hpL : p < L.length := by omega
   have hpI : (p : Int) < L.length := by omega
   have hls := h.ls
   obtain ⟨z1, z2⟩ := p6 i hi (by omega)
   simp only [<- hp] at z1 z2
   have hlt := h.lt hpL
   obtain ⟨x, hx⟩ : ∃ x, x = gs[i].headD ⟨#[]⟩ := ⟨_, rfl⟩
   have hltr : L[p].ltr = letter x d := by
     unfold Br.ltr
     rw [z1, z2, hx]
   rw [hltr] at hlt
   have hw := wrapN (i := p) (by omega)
   have hbm := h.bm.bt (i := p) (by rw [List.length_map]; omega)
   rw [List.getElem_map] at hbm
   have hms : s.m.size = L.length := by rw [h.bm.size, List.length_map]
   have hmany : L[p].many = many gs[i] := by unfold Br.many; rw [z1]
   simp [hpq, t1, t2, t5, t6, t8, t9, b0', hlt, hls, hpL]
   refine cg_use (label_ok k d H' hdk (by omega)) ?_
   rw [pick_drop hi, <- hx] at hP
   by_cases hc : letter x d = letter k d
   · rw [if_pos hc] at hP
     rw [<- hP] at hR
     simp only [<- hx] at hR
     have hgi := hgm _ (List.getElem_mem hi)
     have hpn : ¬ p = q := by omega
     have hpn2 : ¬ (p : Int) = q := by omega
     cases hm : many gs[i] with
     | true =>
       rw [hm] at hmany
       rw [hmany, if_pos rfl] at hbm
       rw [hm, if_pos rfl] at hR
       simp [t1, t2, t5, t6, t8, t9, b0', hlt, hls, hpL, hc, hpn, hpn2, hbm, hms]
       have cN := node_ok (E := E) s r (L.map Br.many) p H' hr1 h.bm (by rw [List.length_map]; omega) (by rw [List.length_map]; omega)
       simp only [svAV] at cN
       refine cg_use cN ?_
       have hkd := h.kid hpL hmany
       obtain ⟨j2, hj2⟩ : ∃ j2, j2 = ((L.map Br.many).take (p + 1)).countP id := ⟨_, rfl⟩
       rw [<- hj2] at hkd ⊢
       have hkk : L[p].kid = (gs[i], d + 1) := by unfold Br.kid; rw [z1, z2]
       rw [hkk] at hkd
       have hw2 := wrapN (i := d) (by omega)
       simp [t1, t2, t5, t6, t8, t9, b0', hw2]
       refine ⟨n, by omega, j2, d + 1, gs[i], hkd, by omega, letter_more hk hsp hgi hm (by rw [<- hx]; exact hc), hR, by simp [t1], by simp [t2], by simp, by simp, hle, b0'⟩
     | false =>
       rw [hm] at hmany
       rw [hmany] at hbm
       simp only [Bool.false_eq_true, if_false] at hbm
       rw [hm] at hR
       simp only [Bool.false_eq_true, if_false] at hR
       have hw2 := wrapN (i := d) (by omega)
       have hrs := h.rs hpL hmany
       have hrst : L[p].rst keep = restK x (d + 1) keep := by unfold Br.rst; rw [z1, z2, hx]
       rw [hrst] at hrs
       obtain ⟨e, he⟩ : ∃ e : Nat, e = min (d + 1) k.size := ⟨_, rfl⟩
       have hmin : (if (k.size : Int) < (d : Int) + 1 then (k.size : Int) else (d : Int) + 1) = e := by
         split <;> omega
       have het : k.extract e k.size = tailK k d := by unfold tailK; rw [he]
       have hts : (tailK k d).size <= k.size := by rw [<- het, ByteArray.size_extract]; omega
       have hxs : (restK x (d + 1) keep).size < 1000 := by
         unfold restK
         rw [ByteArray.size_extract]
         have := h.kp
         omega
       simp [t1, t2, t5, t6, t8, t9, b0', hlt, hls, hpL, hc, hpn, hpn2, hbm, hms, hw2, hmin, het]
       refine ⟨by omega, ?_⟩
       have cC := complete_ok (E := E) s r (L.map Br.many) p H' (hr.le hle) h.bm (by rw [List.length_map]; omega) (by rw [List.length_map]; omega) (by rw [List.length_map]; exact hls) _ hrs _ hlt
       have cR := rest_ok (E := E) s r (L.map Br.many) p H' (hr.le hle) h.bm (by rw [List.length_map]; omega) (by rw [List.length_map]; omega) _ hrs
       simp only [svAV] at cC cR
       refine cg_use cC ?_
       have hwk : (decide (letter x d = 45) || decide (((restK x (d + 1) keep).size : Int) < s.k)) = wholeK x d keep := by rw [h.en.k]; rfl
       rw [hwk]
       unfold leafHas at hR
       cases hwh : wholeK x d keep with
       | true =>
         rw [hwh, if_pos rfl] at hR
         simp [t1, t2, t5, t6, t8, t9, b0']
         refine cg_use cR ?_
         simp [hle, hR]
       | false =>
         rw [hwh] at hR
         simp only [Bool.false_eq_true, if_false] at hR
         simp [t1, t2, t5, t6, t8, t9, b0']
         refine cg_use cR ?_
         simp
         refine cg_use (KeyBegins_ok _ _ H' (by omega) (by omega)) ?_
         simp [hle, hR]
   · rw [if_neg hc] at hP
     have hcn : ¬ ((letter x d).toNat : Int) = (letter k d).toNat := fun e => hc (UInt8.toNat_inj.1 (by omega))
     have hcn2 : ¬ (letter x d).toNat = (letter k d).toNat := fun e => hc (UInt8.toNat_inj.1 e)
     simp [t1, t2, t5, t6, t8, t9, b0', hlt, hls, hpL, hcn, hcn2, hw]
     exact ⟨m - 1, by omega, i + 1, p + 1, by omega, by omega, by simp [t1], by simp [t2], by simp [t5], by simp [t6], by simp [t8], by simp, hP, hle, b0'⟩
 · have hpq : ¬ p < q := by omega
   have hpq2 : p = q := by omega
   rw [List.drop_of_length_le (by omega), pick_none] at hP
   rw [<- hP] at hR
   simp only at hR
   simp [hpq, hpq2, t1, t2, t5, t6, t8, t9, b0', hR.symm, hle]
end Go.Proofs.YtgoeenodllmdpaaGreat.B

namespace Go.Proofs.YtgoeenodllmdpaaGreat.B
open Go.RowKit Go.Proofs
set_option linter.unusedVariables false
set_option linter.unusedSimpArgs false
variable {E : Env}
theorem Svt.of {ks : List ByteArray} {keep : Int} (h : keysOk ks = true) (hk : 0 <= keep /\ keep <= 5) : ∃ F L, Svt ks keep F L (sieveR ks keep) := by
 obtain ⟨F, L, h1, h2, h3⟩ := Tr.of h keep
 exact ⟨F, L, h1, h2, by omega, hk⟩
theorem sieveO_some {ks : List ByteArray} {keep : Int} {v : Sv} (h : sieveO ks keep = some v) : keysOk ks = true /\ 0 <= keep /\ keep <= 5 /\ v = sieveR ks keep := by
 unfold sieveO at h
 split at h
 · rename_i h1
   exact ⟨h1.1, h1.2.1, h1.2.2, (Option.some.inj h).symm⟩
 · cases h
def getR (s : Sr) (k : ByteArray) (t : Int) : Option Ent := (s.top :: s.lev).findSome? (atR k t)
theorem atR_key {k : ByteArray} {t : Int} : ∀ {r : List Ent} {e : Ent}, atR k t r = some e -> e ∈ r /\ e.key = k /\ e.time <= t
 | [], e, h => by cases h
 | x :: r, e, h => by
   rw [atR] at h
   split at h
   · rename_i h1
     obtain rfl := Option.some.inj h
     exact ⟨by simp, h1.1, h1.2⟩
   · obtain ⟨h1, h2⟩ := atR_key h
     exact ⟨List.mem_cons_of_mem _ h1, h2⟩
theorem keys1_in : ∀ {r : List Ent} {p : Option Ent} {e : Ent}, e ∈ r -> e.key ∈ keys1 p r \/ ∃ q, p = some q /\ q.key = e.key
 | x :: r, p, e, h => by
   have own : x.key ∈ keys1 p (x :: r) \/ ∃ q, p = some q /\ q.key = x.key := by
     rw [keys1]
     split
     · exact .inl (by simp)
     · rename_i hn
       cases p with
       | none => exact absurd rfl hn
       | some q => exact .inr ⟨q, rfl, by
           have h2 : ¬ (!decide (q.key = x.key)) = true := hn
           simpa using h2⟩
   have sub : ∀ {y : ByteArray}, y ∈ keys1 (some x) r -> y ∈ keys1 p (x :: r) := by
     intro y hy
     rw [keys1]
     split
     · exact List.mem_cons_of_mem _ hy
     · exact hy
   rcases List.mem_cons.1 h with rfl | h
   · exact own
   · rcases keys1_in (p := some x) h with h1 | ⟨q, hq, hk⟩
     · exact .inl (sub h1)
     · obtain rfl := Option.some.inj hq
       rw [<- hk]
       exact own
theorem keysR_mem {r : List Ent} {e : Ent} (h : e ∈ r) : e.key ∈ keysR r := by
 rcases keys1_in (p := none) h with h | ⟨q, hq, _⟩
 · exact h
 · cases hq
theorem hidden {l : List Ent} {keep : Int} {v : Sv} {k : ByteArray} {t : Int} (h : sieveO (keysR l) keep = some v) (hh : hasR (keysR l) keep k = false) : atR k t l = none := by
 cases ha : atR k t l with
 | none => rfl
 | some e =>
   obtain ⟨h1, h2, _⟩ := atR_key ha
   obtain ⟨h3, h4, h5, _⟩ := sieveO_some h
   have := hasR_self h3 h4 (keysR_mem h1)
   rw [h2, hh] at this
   cases this
theorem storeOk_level {s : Sr} (h : storeOk s = true) {i : Nat} (hi : i < 3) (hl : i < s.lev.length) (hv : i < s.sv.length) : sieveO (keysR s.lev[i]) s.keep = some s.sv[i] := by
 simp only [storeOk, Bool.and_eq_true, decide_eq_true_eq] at h
 have lv : levelOk s i = true := by
   match i, hi with
   | 0, _ => exact h.2.1.1
   | 1, _ => exact h.2.2.1.1
   | 2, _ => exact h.2.2.2.1
 simp only [levelOk, Bool.and_eq_true, decide_eq_true_eq] at lv
 have := lv.2
 rw [getD_get [] hl, getD_get default hv] at this
 exact this
theorem findSome_drop {α β : Type} {f : α -> Option β} {l : List α} {i : Nat} (hi : i < l.length) : (l.drop i).findSome? f = (f l[i]).or ((l.drop (i + 1)).findSome? f) := by
 rw [List.drop_eq_getElem_cons hi, List.findSome?_cons]
 cases f l[i] <;> rfl
def FdI (s : Sr) (a b c d : AV) (k : ByteArray) (time : Int) (H : Hp) (m : Nat) (t : Tm) (H' : Hp) : Prop := ∃ i : Nat, i + m = 3 /\ t 1 = .str k /\ t 2 = .int .i64 time /\ t 3 = .pt H.length 0 0 /\ t 6 = .pt (H.length + 1) 0 0 /\ t 25 = b /\ t 26 = .int .i64 3 /\ t 27 = .int .i64 i /\ (s.lev.drop i).findSome? (atR k time) = getR s k time /\ HLe H H' /\
 H'.at H.length = some ⟨[[a, b, c, .int .i64 s.keep, .int .i64 s.time, d]], 6, 28, false⟩ /\ H'.at (H.length + 1) = some ⟨[[.str ⟨#[]⟩, .int .i64 0, .bool false, .int .i64 0]], 4, 99, false⟩
set_option maxHeartbeats 1600000 in
theorem find_ok (v : AV) (s : Sr) (k : ByteArray) (time : Int) (H : Hp) (hs : St H v s) (hb : StB s) (ho : storeOk s = true) (hk : keyOk k = true) :
   AC Tryz.prog E 85 [v, .str k, .int .i64 time] H (fun u H' => u = .tu (entAV (getR s k time)) /\ H' = H) := by
 have hst := hs
 obtain ⟨a, b, c, d, lr, sr, rfl, ha, hb1, hlr, hc, hsr, hd⟩ := hs
 obtain ⟨hB1, hB2, hB3, hB4, hB5, hB6, hB7, hB8, hB9⟩ := hb
 have hsm := storeOk_small ho
 have e3 : s.lev.length = 3 := hsm.2.2.2.2.2.2.2.1
 have s3 : s.sv.length = 3 := hsm.2.2.2.2.2.2.2.2
 have ll := hlr.length
 have ls := hsr.length
 have l1 := hb1.len
 rw [ll, e3] at l1
 have hplain : (AV.tu (entAV (getR s k time))).plain = true := by unfold entAV; split <;> simp [entRow]
 refine AC_byp (tC_le tabJ_ok) h_impl_Store_find hplain ?_
 obtain ⟨H1, hH1⟩ : ∃ H1 : Hp, H1 = H ++ [some ⟨[[a, b, c, .int .i64 s.keep, .int .i64 s.time, d]], 6, 28, false⟩, some ⟨[[.str ⟨#[]⟩, .int .i64 0, .bool false, .int .i64 0]], 4, 99, false⟩] := ⟨_, rfl⟩
 have hle1 : HLe H H1 := by rw [hH1]; exact HLe.self _ _
 have b0 : H1.at H.length = some ⟨[[a, b, c, .int .i64 s.keep, .int .i64 s.time, d]], 6, 28, false⟩ := by rw [hH1]; simp
 have b1 : H1.at (H.length + 1) = some ⟨[[.str ⟨#[]⟩, .int .i64 0, .bool false, .int .i64 0]], 4, 99, false⟩ := by rw [hH1]; simp
 have u1 := Hp.at_lt b1
 simp [c_impl_Store_find, stAV, Rows.one ha, hb1.one, hc.one, Rows.one hd, <- hH1, b0]
 refine cg_use (at_ok a s.top k time H1 (ha.le hle1) (by have := hB1.1; omega)) ?_
 cases ht : atR k time s.top with
 | some e =>
   have hg : getR s k time = some e := by unfold getR; rw [List.findSome?_cons, ht]
   rw [hg]
   obtain ⟨ek, ev, eg, et⟩ := e
   simp [entAV, entRow, b1, u1, Hp.at_app, Hp.at_set, set_in', at_in]
   exact (hle1.set (by omega) _).app _
 | none =>
   have hg : s.lev.findSome? (atR k time) = getR s k time := by unfold getR; rw [List.findSome?_cons, ht]
   obtain ⟨G, hG⟩ : ∃ G : Hp, G = H1 ++ [some ⟨[[.str ⟨#[]⟩, .int .i64 0, .bool false, .int .i64 0]], 4, 99, false⟩] := ⟨_, rfl⟩
   have hleG : HLe H1 G := by rw [hG]; exact HLe.self _ _
   have g0 := hleG.2 _ _ b0
   have g1 := hleG.2 _ _ b1
   simp [entAV, entRow]
   simp only [<- hG]
   simp [g0, l1, hb1.slc]
   refine W_for (FdI s a b c d k time H) 3 ?_ (tC_mono AC_mono) ?_
   · exact ⟨0, by simp, by simp, by simp, by simp, by simp, by simp, by simp, by simp, by simpa using hg, hle1.trans hleG, g0, g1⟩
   rintro m t H' ⟨i, him, t1, t2, t3, t6, t25, t26, t27, hP, hle, c0, c1⟩
   simp [t1, t2, t3, t6, t25, t26, t27, c0]
   refine c_split (fun hq => ?_) (fun hq => ?_) <;> simp at hq
   · have hi3 : i < 3 := by omega
     have hil : i < s.lev.length := by omega
     have his : i < s.sv.length := by omega
     have hiI : (i : Int) < 3 := by omega
     have hw := wrapN (i := i) (by omega)
     obtain ⟨o1, i1, ob1, rfl, x1, x2, x3⟩ := hb1.get (j := i) (by omega)
     obtain ⟨u, hu, hue⟩ := hlr.get i (by omega) hil
     rw [hu] at x3
     obtain ⟨o2, i2, ob2, rfl, y1, y2, y3⟩ := hc.get (j := i) (by omega)
     obtain ⟨r, hr, hrs, _⟩ := hsr.get i (by omega) his
     rw [hr] at y3
     have x1' := hle.2 _ _ x1
     have y1' := hle.2 _ _ y1
     have q1 : i < lr.length := by omega
     have q2 : i < sr.length := by omega
     have hso := storeOk_level ho hi3 hil his
     obtain ⟨v1, v2, v3, v4⟩ := sieveO_some hso
     obtain ⟨F, L, hsvt⟩ := Svt.of v1 ⟨v2, v3⟩
     rw [<- v4] at hsvt
     simp [t1, t2, t3, t6, t25, t26, t27, c0, x1', x2, x3, y1', y2, y3, q1, q2]
     have cH := has_ok (E := E) s.sv[i] r k _ _ F L H' hsvt (hrs.le hle) hk
     simp only [svAV] at cH
     refine cg_use cH ?_
     rw [findSome_drop hil] at hP
     cases hh : hasR (keysR s.lev[i]) s.keep k with
     | false =>
       rw [hidden hso hh, Option.none_or] at hP
       simp [t1, t2, t3, t6, t25, t26, t27, hw]
       exact ⟨m - 1, by omega, i + 1, by omega, by simp [t1], by simp [t2], by simp [t3], by simp [t6], by simp [t25], by simp [t26], by simp, hP, hle, c0, c1⟩
     | true =>
       simp [t1, t2, t3, t6, t25, t26, t27]
       refine cg_use (at_ok u s.lev[i] k time H' (hue.le hle) (by have := (hB2 _ (List.getElem_mem hil)).1; omega)) ?_
       have w1 := Hp.at_lt c1
       cases hat : atR k time s.lev[i] with
       | some e =>
         rw [hat, Option.some_or] at hP
         rw [<- hP]
         obtain ⟨ek, ev, eg, et⟩ := e
         simp [entAV, entRow, t1, t2, t3, t6, t25, t26, t27, c1, w1, Hp.at_app, Hp.at_set, set_in', at_in]
         exact (hle.set (by omega) _).app _
       | none =>
         rw [hat, Option.none_or] at hP
         obtain ⟨G2, hG2⟩ : ∃ G : Hp, G = H' ++ [some ⟨[[.str ⟨#[]⟩, .int .i64 0, .bool false, .int .i64 0]], 4, 99, false⟩] := ⟨_, rfl⟩
         have hleG2 : HLe H' G2 := by rw [hG2]; exact HLe.self _ _
         simp [entAV, entRow, t1, t2, t3, t6, t25, t26, t27, hw]
         simp only [<- hG2]
         exact ⟨m - 1, by omega, i + 1, by omega, by simp [t1], by simp [t2], by simp [t3], by simp [t6], by simp [t25], by simp [t26], by simp, hP, hle.trans hleG2, hleG2.2 _ _ c0, hleG2.2 _ _ c1⟩
   · have : i = 3 := by omega
     subst this
     rw [List.drop_of_length_le (by omega)] at hP
     rw [<- hP]
     have w1 := Hp.at_lt c1
     simp [entAV, entRow, t1, t2, t3, t6, t25, t26, t27, c1, w1, Hp.at_app, Hp.at_set, set_in', at_in]
     exact hle.set (by omega) _
def knownR (s : Sr) (t : Int) : Bool := decide (t = s.time) || decide (t ∈ s.tms)
theorem known_ok (v : AV) (s : Sr) (time : Int) (H : Hp) (hs : St H v s) (hb : StB s) :
   AC Tryz.prog E 81 [v, .int .i64 time] H (fun u H' => u = .bool (knownR s time) /\ H' = H) := by
 obtain ⟨a, b, c, d, lr, sr, rfl, ha, hb1, hlr, hc, hsr, hd⟩ := hs
 refine AC_byp (tC_le tabJ_ok) h_impl_Store_known (by simp) ?_
 obtain ⟨H1, hH1⟩ : ∃ H1 : Hp, H1 = H ++ [some ⟨[[a, b, c, .int .i64 s.keep, .int .i64 s.time, d]], 6, 28, false⟩] := ⟨_, rfl⟩
 have hle1 : HLe H H1 := by rw [hH1]; exact HLe.self _ _
 have b0 : H1.at H.length = some ⟨[[a, b, c, .int .i64 s.keep, .int .i64 s.time, d]], 6, 28, false⟩ := by rw [hH1]; simp
 simp [c_impl_Store_known, stAV, Rows.one ha, hb1.one, hc.one, Rows.one hd, <- hH1, b0]
 by_cases he : time = s.time
 · simp [he, knownR, hle1]
 · simp [he, b0, knownR]
   refine cg_use (ContainsI_ok d s.tms time H1 (hd.le hle1) (by have := hb.2.2.2.2.1; omega)) ?_
   simp [hle1]
end Go.Proofs.YtgoeenodllmdpaaGreat.B

namespace Go.Proofs.YtgoeenodllmdpaaGreat.B
open Go.RowKit Go.Proofs
set_option linter.unusedVariables false
set_option linter.unusedSimpArgs false
theorem atR_none {k : ByteArray} {t : Int} : ∀ {r : List Ent}, atR k t r = none ↔ ∀ x ∈ r, x.key = k -> ¬ x.time <= t
 | [] => by simp [atR]
 | y :: r => by
   rw [atR]
   by_cases h : y.key = k /\ y.time <= t
   · rw [if_pos h]
     refine ⟨(fun h1 => by cases h1), fun h1 => absurd h.2 (h1 y (by simp) h.1)⟩
   · rw [if_neg h, atR_none]
     refine ⟨fun h1 x hx hk ht => ?_, fun h1 x hx => h1 x (List.mem_cons_of_mem _ hx)⟩
     rcases List.mem_cons.1 hx with rfl | hx
     · exact h ⟨hk, ht⟩
     · exact h1 x hx hk ht
theorem atR_best {k : ByteArray} {t : Int} : ∀ {r : List Ent}, r.Pairwise (fun a b => ahead a b = true) -> ∀ {e : Ent}, atR k t r = some e ↔ Best r k t e
 | [], _, e => by
   refine ⟨(fun h => by cases h), (fun h => by cases h.mem)⟩
 | y :: r, hp, e => by
   obtain ⟨h1, h2⟩ := List.pairwise_cons.1 hp
   rw [atR]
   by_cases h : y.key = k /\ y.time <= t
   · rw [if_pos h]
     have hlt : ∀ z ∈ r, z.key = k -> z.time < y.time := fun z hz hk => by
       rcases (ahead_iff _ _).1 (h1 z hz) with h3 | h3
       · rw [h.1, hk] at h3
         rw [sless_irrefl] at h3
         cases h3
       · exact h3.2
     constructor
     · intro he
       obtain rfl := Option.some.inj he
       refine ⟨by simp, h.1, h.2, fun z hz hk ht => ?_⟩
       rcases List.mem_cons.1 hz with rfl | hz
       · exact Int.le_refl _
       · have := hlt z hz hk
         omega
     · intro hb
       rcases List.mem_cons.1 hb.mem with he | he
       · rw [he]
       · have a1 := hlt e he hb.key
         have a2 := hb.max y (by simp) h.1 h.2
         omega
   · rw [if_neg h, atR_best h2]
     constructor
     · intro hb
       refine ⟨List.mem_cons_of_mem _ hb.mem, hb.key, hb.le, fun z hz hk ht => ?_⟩
       rcases List.mem_cons.1 hz with rfl | hz
       · exact absurd ⟨hk, ht⟩ h
       · exact hb.max z hz hk ht
     · intro hb
       rcases List.mem_cons.1 hb.mem with he | he
       · rw [<- he] at h
         exact absurd ⟨hb.key, hb.le⟩ h
       · exact ⟨he, hb.key, hb.le, fun z hz => hb.max z (List.mem_cons_of_mem _ hz)⟩
theorem find_best {k : ByteArray} {t : Int} : ∀ {ls : List (List Ent)}, (∀ l ∈ ls, l.Pairwise (fun a b => ahead a b = true)) -> ls.Pairwise Newer -> ∀ {e : Ent}, ls.findSome? (atR k t) = some e ↔ Best ls.flatten k t e
 | [], _, _, e => by
   refine ⟨(fun h => by cases h), (fun h => by cases h.mem)⟩
 | l :: ls, h1, h2, e => by
   obtain ⟨h3, h4⟩ := List.pairwise_cons.1 h2
   have hn : Newer l ls.flatten := fun x hx y hy hk => by
     obtain ⟨m, hm, hy⟩ := List.mem_flatten.1 hy
     exact h3 m hm x hx y hy hk
   have ih := find_best (k := k) (t := t) (fun m hm => h1 m (List.mem_cons_of_mem _ hm)) h4 (e := e)
   rw [List.findSome?_cons, List.flatten_cons, best_app hn, <- atR_best (h1 l (by simp)), <- ih, <- atR_none]
   cases atR k t l with
   | none => simp
   | some x => simp
theorem Val.best {s : Sr} (h : Val s) {k : ByteArray} {t : Int} {e : Ent} : getR s k t = some e ↔ Best (entsR s) k t e := by
 obtain ⟨a, b, c, u, v, w, h⟩ := h
 unfold getR
 rw [find_best]
 · rfl
 · intro l hl
   rw [h.lev] at hl
   simp only [List.mem_cons, List.not_mem_nil, or_false] at hl
   rcases hl with rfl | rfl | rfl | rfl
   · exact (runOk_pair h.top).1
   · exact (runOk_pair h.la.run).1
   · exact (runOk_pair h.lb.run).1
   · exact (runOk_pair h.lc.run).1
 · rw [h.lev]
   refine List.pairwise_cons.2 ⟨fun l hl => ?_, List.pairwise_cons.2 ⟨fun l hl => ?_, List.pairwise_cons.2 ⟨fun l hl => ?_, List.pairwise_singleton _ _⟩⟩⟩
   · refine h.ta.sub (fun _ h => h) (fun x hx => ?_)
     simp only [List.mem_cons, List.not_mem_nil, or_false] at hl
     rcases hl with rfl | rfl | rfl <;> simp [hx]
   · refine h.ab.sub (fun _ h => h) (fun x hx => ?_)
     simp only [List.mem_cons, List.not_mem_nil, or_false] at hl
     rcases hl with rfl | rfl <;> simp [hx]
   · rw [List.mem_singleton.1 hl]
     exact h.bc
theorem Val.ok {s : Sr} (h : Val s) : storeOk s = true := by
 obtain ⟨a, b, c, u, v, w, h⟩ := h
 exact h.ok
theorem Val.ent {s : Sr} (h : Val s) : ∀ e ∈ entsR s, entOk e = true := by
 obtain ⟨a, b, c, u, v, w, h⟩ := h
 rw [entsR_of h.lev]
 intro e he
 simp only [List.mem_append] at he
 rcases he with he | he | he | he
 · exact (runOk_pair h.top).2.1 e he
 · exact (runOk_pair h.la.run).2.1 e he
 · exact (runOk_pair h.lb.run).2.1 e he
 · exact (runOk_pair h.lc.run).2.1 e he
theorem known_now (s : Sr) : knownR s s.time = true := by simp [knownR]
end Go.Proofs.YtgoeenodllmdpaaGreat.B

namespace Go.Proofs.YtgoeenodllmdpaaGreat.B
open Go.RowKit Go.Proofs
set_option linter.unusedVariables false
set_option linter.unusedSimpArgs false
variable {E : Env}
theorem Rd.e2 {K : Hp} {r M : Nat} (hr : Rd K r M) : ∀ x ob, x = r -> K.at x = some ob -> ob.esz = 2 := by
 intro x ob hx ho
 obtain ⟨b, bs, p, h1, _⟩ := hr
 rw [hx, h1] at ho
 cases ho
 rfl
end Go.Proofs.YtgoeenodllmdpaaGreat.B

namespace Go.Proofs.YtgoeenodllmdpaaGreat.B
open Go.RowKit Go.Proofs
set_option linter.unusedVariables false
set_option linter.unusedSimpArgs false
variable {E : Env}
def sNil : Sr := ⟨[], [], [], 0, 0, []⟩
theorem sNil_B : StB sNil := ⟨⟨by simp [sNil], by simp [sNil, Fits]⟩, by simp [sNil], by simp [sNil], by simp [sNil], by simp [sNil], by simp [sNil], by simp [sNil, I64], by simp [sNil, I64], by simp [sNil]⟩
theorem RetS.vl {H0 H : Hp} {u : AV} {o : Option Sr} (h : RetS H0 H u o) (hb : ∀ x, o = some x -> Small x) : HLe H0 H /\ StB (o.getD sNil) /\ ∃ a b c d, u = .tu [.ag [a, b, c, .int .i64 (o.getD sNil).keep, .int .i64 (o.getD sNil).time, d], .bool o.isSome] /\ one a = true /\ one b = true /\ one c = true /\ one d = true /\ St H (.ag [a, b, c, .int .i64 (o.getD sNil).keep, .int .i64 (o.getD sNil).time, d]) (o.getD sNil) := by
 obtain ⟨h1, h2⟩ := h
 cases o with
 | none => exact ⟨h1, sNil_B, .nils, .nils, .nils, .nils, h2, rfl, rfl, rfl, rfl, .nils, .nils, .nils, .nils, [], [], rfl, Rows.nil, Rows.nil, trivial, Rows.nil, trivial, Rows.nil⟩
 | some x =>
   obtain ⟨w, e, hm⟩ := h2
   obtain ⟨a, b, c, d, rfl, n1, n2, n3, n4, _⟩ := hm.st.shape
   exact ⟨h1, (hb x rfl).stB, a, b, c, d, e, n1, n2, n3, n4, hm.st⟩
theorem St.box {H K : Hp} {a b c d : AV} {s : Sr} (h : St H (.ag [a, b, c, .int .i64 s.keep, .int .i64 s.time, d]) s) (hK : K = H ++ [some ⟨[[a, b, c, .int .i64 s.keep, .int .i64 s.time, d]], 6, 28, false⟩]) :
   HLe H K /\ K.at H.length = some ⟨[[a, b, c, .int .i64 s.keep, .int .i64 s.time, d]], 6, 28, false⟩ /\ St K (.ag [a, b, c, .int .i64 s.keep, .int .i64 s.time, d]) s := by
 have hle : HLe H K := by rw [hK]; exact HLe.self _ _
 exact ⟨hle, by rw [hK]; simp, h.le hle⟩
theorem ltStore_same {v v' : AV} {s : Sr} {H : Hp} (hs : St H v s) (hs' : St H v' s) (hb : StB s) : AC Tryz.prog E 29 [v, v'] H (fun u H' => u = .bool true /\ H' = H) :=
 (ltStore_ok v v' s s H hs hs' hb hb).mono (fun u H' h => ⟨by rw [h.1]; simp, h.2⟩)
end Go.Proofs.YtgoeenodllmdpaaGreat.B

namespace Go.Proofs.YtgoeenodllmdpaaGreat.B
open Go.RowKit Go.Proofs
set_option linter.unusedVariables false
set_option linter.unusedSimpArgs false
theorem known_iff {s : Sr} {t : Int} : knownR s t = true ↔ t ∈ s.tms \/ t = s.time := by
 simp only [knownR, Bool.or_eq_true, decide_eq_true_eq]
 exact Or.comm
end Go.Proofs.YtgoeenodllmdpaaGreat.B

namespace Go.Proofs.YtgoeenodllmdpaaGreat.B
open Go.RowKit Go.Proofs
set_option linter.unusedVariables false
set_option linter.unusedSimpArgs false
def cutK (keep : Int) (z : ByteArray × Nat) : ByteArray := z.1.extract 0 (z.2 + 1 + keep.toNat)
theorem cutK_size (keep : Int) (z : ByteArray × Nat) : (cutK keep z).size = min (z.2 + 1 + keep.toNat) z.1.size := by
 unfold cutK
 rw [ByteArray.size_extract]
 omega
theorem cutK_letter (keep : Int) (z : ByteArray × Nat) {d : Nat} (h : d <= z.2) : letter (cutK keep z) d = letter z.1 d := by
 have hs := cutK_size keep z
 rcases Nat.lt_or_ge d z.1.size with h1 | h1
 · rw [letter_in h1, letter_in (by omega)]
   unfold cutK
   simp [ByteArray.data_extract]
 · rw [letter_end h1, letter_end (by omega)]
theorem cutK_rest (keep : Int) (z : ByteArray × Nat) {d : Nat} (h : d <= z.2) : restK (cutK keep z) (d + 1) keep = restK z.1 (d + 1) keep := by
 have hs := cutK_size keep z
 unfold restK
 rw [hs]
 unfold cutK
 apply ByteArray.ext
 simp only [ByteArray.data_extract, Array.extract_extract]
 congr 1
 · omega
 · omega
def grpG {α : Type} (f : α -> ByteArray) (d : Nat) (l : List α) : List α := match l with
 | [] => []
 | z :: _ => l.filter (fun y => letter (f y) d == letter (f z) d)
theorem grpG_map {α : Type} (f : α -> ByteArray) (d : Nat) (l : List α) : (grpG f d l).map f = grp d (l.map f) := by
 cases l with
 | nil => rfl
 | cons z l =>
   unfold grpG grp
   simp only [List.map_cons]
   rw [<- List.map_cons, List.filter_map]
   rfl
theorem grpG_pos {α : Type} (f : α -> ByteArray) (d : Nat) (z : α) (l : List α) : 0 < (grpG f d (z :: l)).length := by
 simp [grpG]
def brsG {α : Type} (f : α -> ByteArray) (d : Nat) : List α -> List (List α)
 | [] => []
 | z :: l => grpG f d (z :: l) :: brsG f d ((z :: l).drop (grpG f d (z :: l)).length)
termination_by l => l.length
decreasing_by
 have := grpG_pos f d z l
 simp only [List.length_drop, List.length_cons]
 omega
theorem brsG_cons {α : Type} (f : α -> ByteArray) (d : Nat) (z : α) (l : List α) : brsG f d (z :: l) = grpG f d (z :: l) :: brsG f d ((z :: l).drop (grpG f d (z :: l)).length) := by rw [brsG]
theorem brsG_map {α : Type} (f : α -> ByteArray) (d : Nat) : ∀ (n : Nat) (l : List α), l.length <= n -> (brsG f d l).map (List.map f) = brs d (l.map f)
 | _, [], _ => by rw [brsG, List.map_nil, List.map_nil, brs]
 | 0, z :: l, h => by simp at h
 | n + 1, z :: l, h => by
   have hp := grpG_pos f d z l
   have hm := grpG_map f d (z :: l)
   rw [brsG_cons, List.map_cons, hm, List.map_cons, brs_cons]
   congr 1
   have hl : (grp d (f z :: l.map f)).length = (grpG f d (z :: l)).length := by
     rw [<- List.map_cons, <- hm, List.length_map]
   rw [brsG_map f d n _ (by simp only [List.length_drop, List.length_cons] at h ⊢; omega), hl, List.map_drop, List.map_cons]
theorem brsG_same {α : Type} {f g : α -> ByteArray} {d : Nat} : ∀ (n : Nat) (l : List α), l.length <= n -> (∀ z ∈ l, letter (f z) d = letter (g z) d) -> brsG f d l = brsG g d l
 | _, [], _, _ => by rw [brsG, brsG]
 | 0, z :: l, h, _ => by simp at h
 | n + 1, z :: l, h, hs => by
   have he : grpG f d (z :: l) = grpG g d (z :: l) := by
     unfold grpG
     simp only
     apply List.filter_congr
     intro y hy
     rw [hs y hy, hs z (by simp)]
   have hp := grpG_pos f d z l
   rw [brsG_cons, brsG_cons, <- he]
   congr 1
   refine brsG_same n _ (by simp only [List.length_drop, List.length_cons] at h ⊢; omega) (fun y hy => hs y (List.mem_of_mem_drop hy))
theorem grpG_sub {α : Type} (f : α -> ByteArray) (d : Nat) (l : List α) : (grpG f d l).Sublist l := by
 cases l with
 | nil => exact List.Sublist.refl _
 | cons z l => exact List.filter_sublist
theorem brsG_mem {α : Type} (f : α -> ByteArray) (d : Nat) : ∀ (n : Nat) (l : List α), l.length <= n -> ∀ g ∈ brsG f d l, ∀ z ∈ g, z ∈ l
 | _, [], _, g, hg, _, _ => by rw [brsG] at hg; cases hg
 | 0, z :: l, h, _, _, _, _ => by simp at h
 | n + 1, z :: l, h, g, hg, y, hy => by
   have hp := grpG_pos f d z l
   rw [brsG_cons] at hg
   rcases List.mem_cons.1 hg with rfl | hg
   · exact (grpG_sub f d _).subset hy
   · exact List.mem_of_mem_drop (brsG_mem f d n _ (by simp only [List.length_drop, List.length_cons] at h ⊢; omega) g hg y hy)
abbrev FkG (α : Type) := List α × Nat
def manyG {α : Type} (g : List α) : Bool := decide (1 < g.length)
def kidsG {α : Type} (f : α -> ByteArray) (q : FkG α) : List (FkG α) := ((brsG f q.2 q.1).filter manyG).map (fun g => (g, q.2 + 1))
def toFk {α : Type} (f : α -> ByteArray) (q : FkG α) : Fk := (q.1.map f, q.2)
theorem kidsG_map {α : Type} (f : α -> ByteArray) (q : FkG α) : (kidsG f q).map (toFk f) = kids (toFk f q) := by
 unfold kidsG kids subs toFk
 simp only
 rw [<- brsG_map f q.2 q.1.length q.1 (Nat.le_refl _), List.filter_map, List.map_map, List.map_map]
 congr 1
 apply List.filter_congr
 intro g _
 simp [manyG, many]
def Deep : Nat -> FkG (ByteArray × Nat) -> Prop
 | 0, _ => True
 | n + 1, q => (∀ z ∈ q.1, q.2 <= z.2) /\ ∀ k ∈ kidsG Prod.fst q, Deep n k
theorem addBs_same {keep : Int} (d : Nat) : ∀ (gs : List (List (ByteArray × Nat))) (b : Bool) (s : Sv), s.k = keep -> (∀ g ∈ gs, g ≠ [] /\ ∀ z ∈ g, d <= z.2) -> addBs d b s (gs.map (List.map (cutK keep))) = addBs d b s (gs.map (List.map Prod.fst))
 | [], b, s, _, _ => rfl
 | g :: gs, b, s, hk, h => by
   obtain ⟨h1, h2⟩ := h g (by simp)
   have e : addB d b s (g.map (cutK keep)) = addB d b s (g.map Prod.fst) := by
     cases g with
     | nil => exact absurd rfl h1
     | cons z g =>
       have hz := h2 z (by simp)
       simp only [addB, List.map_cons, List.headD_cons, many, List.length_cons, List.length_map]
       rw [cutK_letter keep z hz, hk, cutK_rest keep z hz]
   rw [List.map_cons, List.map_cons, addBs, addBs, e]
   exact addBs_same d gs false _ (by simp [addB, hk]) (fun x hx => h x (List.mem_cons_of_mem _ hx))
theorem brsG_ne {α : Type} (f : α -> ByteArray) (d : Nat) : ∀ (n : Nat) (l : List α), l.length <= n -> ∀ g ∈ brsG f d l, g ≠ []
 | _, [], _, g, hg => by rw [brsG] at hg; cases hg
 | 0, z :: l, h, _, _ => by simp at h
 | n + 1, z :: l, h, g, hg => by
   have hp := grpG_pos f d z l
   rw [brsG_cons] at hg
   rcases List.mem_cons.1 hg with rfl | hg
   · exact List.length_pos_iff.1 hp
   · exact brsG_ne f d n _ (by simp only [List.length_drop, List.length_cons] at h ⊢; omega) g hg
theorem addBs_k (d : Nat) : ∀ (gs : List (List ByteArray)) (b : Bool) (s : Sv), (addBs d b s gs).k = s.k
 | [], _, _ => rfl
 | g :: gs, b, s => by
   rw [addBs, addBs_k d gs]
   rfl
theorem bfs_same {keep : Int} : ∀ (n : Nat) (q : List (FkG (ByteArray × Nat))) (s : Sv), s.k = keep -> (∀ f ∈ q, ∀ m, Deep m f) -> bfs n (q.map (toFk (cutK keep))) s = bfs n (q.map (toFk Prod.fst)) s
 | 0, q, s, _, _ => rfl
 | n + 1, [], s, _, _ => rfl
 | n + 1, f :: q, s, hk, hq => by
   have h1 := (hq f (by simp) 1).1
   have h2 : ∀ k ∈ kidsG Prod.fst f, ∀ m, Deep m k := fun k hk m => (hq f (by simp) (m + 1)).2 k hk
   have hl : brsG (cutK keep) f.2 f.1 = brsG Prod.fst f.2 f.1 := brsG_same f.1.length f.1 (Nat.le_refl _) (fun z hz => cutK_letter keep z (h1 z hz))
   have hkids : (kidsG Prod.fst f).map (toFk (cutK keep)) = kids (toFk (cutK keep) f) := by
     rw [<- kidsG_map]
     unfold kidsG
     rw [hl]
   have e1 : brs f.2 (f.1.map (cutK keep)) = (brsG Prod.fst f.2 f.1).map (List.map (cutK keep)) := by
     rw [<- brsG_map _ _ f.1.length f.1 (Nat.le_refl _), hl]
   have e2 : brs f.2 (f.1.map Prod.fst) = (brsG Prod.fst f.2 f.1).map (List.map Prod.fst) := by
     rw [<- brsG_map _ _ f.1.length f.1 (Nat.le_refl _)]
   have ea := addBs_same (keep := keep) f.2 (brsG Prod.fst f.2 f.1) true s hk (fun g hg => ⟨brsG_ne _ _ f.1.length f.1 (Nat.le_refl _) g hg, fun z hz => h1 z (brsG_mem _ _ f.1.length f.1 (Nat.le_refl _) g hg z hz)⟩)
   have eb : ∀ (h : ByteArray × Nat -> ByteArray), bfs (n + 1) ((f :: q).map (toFk h)) s = bfs n (q.map (toFk h) ++ kids (toFk h f)) (addBs f.2 true s (brs f.2 (f.1.map h))) := fun h => rfl
   rw [eb, eb, e1, e2, ea, <- hkids, <- kidsG_map, <- List.map_append, <- List.map_append]
   have hkk : ∀ (gs : List (List ByteArray)), (addBs f.2 true s gs).k = keep := fun gs => by rw [addBs_k, hk]
   refine bfs_same n (q ++ kidsG Prod.fst f) _ (hkk _) (fun x hx => ?_)
   rcases List.mem_append.1 hx with hx | hx
   · exact hq x (List.mem_cons_of_mem _ hx)
   · exact h2 x hx
def leafs : Nat -> List ByteArray -> Nat -> List (ByteArray × Nat)
 | 0, _, _ => []
 | n + 1, ks, d => (brs d ks).flatMap (fun g => if many g = true then leafs n g (d + 1) else [(g.headD ⟨#[]⟩, d)])
theorem brs_flat {d : Nat} : ∀ (n : Nat) {ks : List ByteArray}, ks.length <= n -> SP d ks -> (brs d ks).flatten = ks
 | _, [], _, _ => by rw [brs]; rfl
 | 0, k :: ks, h, _ => by simp at h
 | n + 1, k :: ks, h, hs => by
   have hp := grp_pos d k ks
   obtain ⟨e1, e2⟩ := grp_take hs
   rw [brs_cons, List.flatten_cons, brs_flat n (by simp only [List.length_drop, List.length_cons] at h ⊢; omega) (hs.sub (List.drop_sublist _ _))]
   conv => lhs; lhs; rw [e1, <- e2]
   exact List.take_append_drop _ _
theorem brs_ne : ∀ (n d : Nat) (ks : List ByteArray), ks.length <= n -> ∀ g ∈ brs d ks, g ≠ []
 | _, d, [], _, g, hg => by rw [brs] at hg; cases hg
 | 0, d, k :: ks, h, _, _ => by simp at h
 | n + 1, d, k :: ks, h, g, hg => by
   have hp := grp_pos d k ks
   rw [brs_cons] at hg
   rcases List.mem_cons.1 hg with rfl | hg
   · exact List.length_pos_iff.1 hp
   · exact brs_ne n d _ (by simp only [List.length_drop, List.length_cons] at h ⊢; omega) g hg
theorem mem_tw {α : Type} {p : α -> Bool} : ∀ {l : List α} {y : α}, y ∈ l.takeWhile p -> p y = true
 | a :: l, y, h => by
   rw [List.takeWhile_cons] at h
   split at h
   · rcases List.mem_cons.1 h with rfl | h
     · assumption
     · exact mem_tw h
   · cases h
theorem leafs_fst : ∀ (n : Nat) {ks : List ByteArray} {d : Nat}, SP d ks -> Good (ks, d) -> 7 <= n + d -> (leafs n ks d).map Prod.fst = ks
 | 0, ks, d, _, hg, hn => by
   have := hg.deep
   simp only at this
   omega
 | n + 1, ks, d, hs, hg, hn => by
   have key : ∀ (gs : List (List ByteArray)), (∀ g ∈ gs, g ∈ brs d ks) -> (gs.flatMap (fun g => if many g = true then leafs n g (d + 1) else [(g.headD ⟨#[]⟩, d)])).map Prod.fst = gs.flatten := by
     intro gs
     induction gs with
     | nil => intro _; rfl
     | cons g gs ih =>
       intro hm
       have hgm := hm g (by simp)
       rw [List.flatMap_cons, List.map_append, List.flatten_cons, ih (fun x hx => hm x (List.mem_cons_of_mem _ hx))]
       congr 1
       cases hmg : many g with
       | true =>
         rw [if_pos rfl]
         exact leafs_fst n (SP.of_brs ks.length d (Nat.le_refl _) hs g hgm) (kid_good hg hgm hmg) (by omega)
       | false =>
         rw [if_neg (by simp)]
         have hl : g.length <= 1 := by simpa [many] using hmg
         have hne : g ≠ [] := brs_ne ks.length d ks (Nat.le_refl _) g hgm
         match g, hl, hne with
         | [x], _, _ => rfl
   rw [leafs, key _ (fun g h => h), brs_flat ks.length (Nat.le_refl _) hs]
theorem leafs_deep : ∀ (n : Nat) (ks : List ByteArray) (d : Nat), ∀ z ∈ leafs n ks d, d <= z.2
 | 0, _, _, z, hz => by cases hz
 | n + 1, ks, d, z, hz => by
   rw [leafs] at hz
   obtain ⟨g, hg, hz⟩ := List.mem_flatMap.1 hz
   split at hz
   · have := leafs_deep n g (d + 1) z hz
     omega
   · rw [List.mem_singleton.1 hz]
     exact Nat.le_refl _
theorem parts_eq {α : Type} : ∀ {xs ys : List (List α)}, xs.flatten = ys.flatten -> xs.map List.length = ys.map List.length -> xs = ys
 | [], [], _, _ => rfl
 | [], _ :: _, _, h => by simp at h
 | _ :: _, [], _, h => by simp at h
 | x :: xs, y :: ys, h, hl => by
   simp only [List.map_cons, List.cons.injEq] at hl
   simp only [List.flatten_cons] at h
   have hxy : x = y := by
     have := congrArg (List.take x.length) h
     rw [List.take_left, hl.1, List.take_left] at this
     exact this
   subst hxy
   have := List.append_cancel_left h
   rw [parts_eq this hl.2]
theorem brsG_flat {d : Nat} : ∀ (n : Nat) {zs : List (ByteArray × Nat)}, zs.length <= n -> SP d (zs.map Prod.fst) -> (brsG Prod.fst d zs).flatten = zs
 | _, [], _, _ => by rw [brsG]; rfl
 | 0, k :: ks, h, _ => by simp at h
 | n + 1, z :: zs, h, hs => by
   have hp := grpG_pos Prod.fst d z zs
   have hm := grpG_map Prod.fst d (z :: zs)
   have e : grpG Prod.fst d (z :: zs) = (z :: zs).take (grpG Prod.fst d (z :: zs)).length := by
     rw [List.map_cons] at hs hm
     obtain ⟨e1, e2⟩ := grp_take hs
     -- a filter that keeps as many at the front as it keeps at all
     have hlen : (grpG Prod.fst d (z :: zs)).length = cnt d (z.1 :: zs.map Prod.fst) := by
       rw [<- e2, <- hm, List.length_map]
     unfold grpG at hlen ⊢
     simp only at hlen ⊢
     rw [List.filter_cons, if_pos (by simp)] at hlen ⊢
     have hf : zs.filter (fun y => letter y.1 d == letter z.1 d) = zs.takeWhile (fun y => letter y.1 d == letter z.1 d) := by
       have h3 : ((zs.map Prod.fst).filter (fun x => letter x d == letter z.1 d)).length = ((zs.map Prod.fst).takeWhile (fun x => letter x d == letter z.1 d)).length := by
         rw [cnt] at hlen
         simp only [List.length_cons] at hlen
         rw [List.filter_map, List.length_map]
         have : (zs.filter ((fun x => letter x d == letter z.1 d) ∘ Prod.fst)).length = (zs.filter (fun y => letter y.1 d == letter z.1 d)).length := rfl
         omega
       have h4 : (zs.takeWhile (fun y => letter y.1 d == letter z.1 d)).length = ((zs.map Prod.fst).takeWhile (fun x => letter x d == letter z.1 d)).length := by
         rw [List.takeWhile_map, List.length_map]
         rfl
       have h5 : (zs.filter (fun y => letter y.1 d == letter z.1 d)).length = ((zs.map Prod.fst).filter (fun x => letter x d == letter z.1 d)).length := by
         rw [List.filter_map, List.length_map]
         rfl
       have hsub : (zs.takeWhile (fun y => letter y.1 d == letter z.1 d)).Sublist (zs.filter (fun y => letter y.1 d == letter z.1 d)) := by
         have := (List.takeWhile_sublist (l := zs) (fun y => letter y.1 d == letter z.1 d)).filter (fun y => letter y.1 d == letter z.1 d)
         rwa [List.filter_eq_self.2 (fun y hy => mem_tw (p := fun y : ByteArray × Nat => letter y.1 d == letter z.1 d) hy)] at this
       exact (hsub.eq_of_length (by omega)).symm
     rw [hf, List.length_cons, List.take_succ_cons]
     congr 1
     exact List.prefix_iff_eq_take.1 (List.takeWhile_prefix _)
   rw [brsG_cons, List.flatten_cons, brsG_flat n (by simp only [List.length_drop, List.length_cons] at h ⊢; omega) (by rw [List.map_drop]; exact hs.sub (List.drop_sublist _ _))]
   conv => lhs; lhs; rw [e]
   exact List.take_append_drop _ _
def sgm (n d : Nat) (g : List ByteArray) : List (ByteArray × Nat) := if many g = true then leafs n g (d + 1) else [(g.headD ⟨#[]⟩, d)]
theorem leafs_succ (n : Nat) (ks : List ByteArray) (d : Nat) : leafs (n + 1) ks d = ((brs d ks).map (sgm n d)).flatten := by
 rw [leafs, List.flatMap]
 rfl
theorem sgm_fst {n d : Nat} {ks g : List ByteArray} (hs : SP d ks) (hg : Good (ks, d)) (hn : 7 <= n + 1 + d) (hm : g ∈ brs d ks) : (sgm n d g).map Prod.fst = g := by
 unfold sgm
 cases hmg : many g with
 | true =>
   rw [if_pos rfl]
   exact leafs_fst n (SP.of_brs ks.length d (Nat.le_refl _) hs g hm) (kid_good hg hm hmg) (by omega)
 | false =>
   rw [if_neg (by simp)]
   have hl : g.length <= 1 := by simpa [many] using hmg
   have hne : g ≠ [] := brs_ne ks.length d ks (Nat.le_refl _) g hm
   match g, hl, hne with
   | [x], _, _ => rfl
theorem leafs_brs {n d : Nat} {ks : List ByteArray} (hs : SP d ks) (hg : Good (ks, d)) (hn : 7 <= n + 1 + d) : brsG Prod.fst d (leafs (n + 1) ks d) = (brs d ks).map (sgm n d) := by
 have hf := leafs_fst (n + 1) hs hg hn
 apply parts_eq
 · rw [brsG_flat _ (Nat.le_refl _) (by rw [hf]; exact hs), leafs_succ]
 · have h1 := brsG_map Prod.fst d _ (leafs (n + 1) ks d) (Nat.le_refl _)
   rw [hf] at h1
   have h2 : (brsG Prod.fst d (leafs (n + 1) ks d)).map List.length = (brs d ks).map List.length := by
     rw [<- h1, List.map_map]
     apply List.map_congr_left
     intro x _
     simp
   rw [h2, List.map_map]
   apply List.map_congr_left
   intro g hgm
   have := congrArg List.length (sgm_fst hs hg hn hgm)
   rw [List.length_map] at this
   exact this.symm
theorem leafs_Deep : ∀ (m n : Nat) (ks : List ByteArray) (d : Nat), SP d ks -> Good (ks, d) -> 7 <= n + d -> Deep m (leafs n ks d, d)
 | 0, _, _, _, _, _, _ => trivial
 | m + 1, 0, ks, d, _, hg, hn => by
   have := hg.deep
   simp only at this
   omega
 | m + 1, n + 1, ks, d, hs, hg, hn => by
   refine ⟨fun z hz => leafs_deep (n + 1) ks d z hz, fun k hk => ?_⟩
   unfold kidsG at hk
   simp only at hk
   rw [leafs_brs hs hg hn] at hk
   obtain ⟨x, hx, rfl⟩ := List.mem_map.1 hk
   obtain ⟨hx1, hx2⟩ := List.mem_filter.1 hx
   obtain ⟨g, hgm, rfl⟩ := List.mem_map.1 hx1
   have hlen : (sgm n d g).length = g.length := by
     have := congrArg List.length (sgm_fst hs hg hn hgm)
     rw [List.length_map] at this
     exact this
   have hmg : many g = true := by
     have h3 : 1 < (sgm n d g).length := by simpa [manyG] using hx2
     simp only [many, decide_eq_true_eq]
     omega
   have e : sgm n d g = leafs n g (d + 1) := by
     unfold sgm
     rw [if_pos hmg]
   rw [e]
   exact leafs_Deep m n g (d + 1) (SP.of_brs ks.length d (Nat.le_refl _) hs g hgm) (kid_good hg hgm hmg) (by omega)
def headsR (ks : List ByteArray) (keep : Int) : List ByteArray := (leafs 7 ks 0).map (cutK keep)
theorem sieve_heads {ks : List ByteArray} {keep : Int} (h : keysOk ks = true) : sieveR (headsR ks keep) keep = sieveR ks keep := by
 have hs := SP.of_keys h
 have hg := (keysOk_good h).1
 have := bfs_same (keep := keep) 500 [(leafs 7 ks 0, 0)] ⟨⟨#[]⟩, ⟨#[]⟩, ⟨#[]⟩, [], keep⟩ rfl (fun f hf m => by
   rw [List.mem_singleton.1 hf]
   exact leafs_Deep m 7 ks 0 hs hg (by omega))
 have hf := leafs_fst 7 hs hg (by omega)
 simp only [List.map_cons, List.map_nil, toFk] at this
 rw [hf] at this
 exact this
theorem keyOk_cut {keep : Int} {z : ByteArray × Nat} (h : keyOk z.1 = true) : keyOk (cutK keep z) = true := by
 have hs := cutK_size keep z
 simp only [keyOk, decide_eq_true_eq] at h ⊢
 refine ⟨fun i hi => ?_, by omega⟩
 have h1 := h.1 i (by omega)
 have e : letter (cutK keep z) i = letter z.1 i := by
   rw [letter_in hi, letter_in (show i < z.1.size by omega)]
   unfold cutK
   simp [ByteArray.data_extract]
 rw [<- letter_lt hi, e, letter_lt (show i < z.1.size by omega)]
 exact h1
theorem sless_of {a b : ByteArray} (ha : keyOk a = true) (hb : keyOk b = true) {j : Nat} (h1 : ∀ i, i < j -> letter a i = letter b i) (h2 : (letter a j).toNat < (letter b j).toNat) : sless a b = true := by
 rcases sless_total a b with h | h | h
 · exact h
 · rw [h] at h2
   omega
 · have := letters_le hb ha h (fun i hi => (h1 i hi).symm)
   omega
theorem brs_pw {d : Nat} : ∀ (n : Nat) {ks : List ByteArray}, ks.length <= n -> SP d ks -> (brs d ks).Pairwise (fun g h => ∀ x ∈ g, ∀ y ∈ h, (letter x d).toNat < (letter y d).toNat)
 | _, [], _, _ => by rw [brs]; exact List.Pairwise.nil
 | 0, k :: ks, h, _ => by simp at h
 | n + 1, k :: ks, h, hs => by
   have hp := grp_pos d k ks
   obtain ⟨e1, e2⟩ := grp_take hs
   have hdl : ((k :: ks).drop (grp d (k :: ks)).length).length <= n := by simp only [List.length_drop, List.length_cons] at h ⊢; omega
   rw [brs_cons]
   refine List.pairwise_cons.2 ⟨fun g hg x hx y hy => ?_, brs_pw n hdl (hs.sub (List.drop_sublist _ _))⟩
   obtain ⟨ks', hsub, rfl⟩ := brs_sub _ d _ (Nat.le_refl _) g hg
   have hyd : y ∈ (k :: ks).drop (grp d (k :: ks)).length := hsub.subset ((grp_sub d ks').subset hy)
   have hxt : x ∈ (k :: ks).take (grp d (k :: ks)).length := by rw [e2, <- e1]; exact hx
   have hpw := hs.pw
   rw [<- List.take_append_drop (grp d (k :: ks)).length (k :: ks)] at hpw
   have hxy := (List.pairwise_append.1 hpw).2.2 x hxt y hyd
   have hxk : x ∈ k :: ks := List.mem_of_mem_take hxt
   have hyk : y ∈ k :: ks := List.mem_of_mem_drop hyd
   have hle := letters_le (hs.ok x hxk) (hs.ok y hyk) hxy.1 hxy.2
   have hne : letter x d ≠ letter y d := by
     intro e
     -- then y would be in the first group, of which there is nothing left behind
     have hx3 : letter x d = letter k d := by
       unfold grp at hx
       simp only at hx
       simpa using (List.mem_filter.1 hx).2
     have hcount : (grp d (k :: ks)).length = (((k :: ks).take (grp d (k :: ks)).length).filter (fun z => letter z d == letter k d)).length + (((k :: ks).drop (grp d (k :: ks)).length).filter (fun z => letter z d == letter k d)).length := by
       rw [<- List.length_append, <- List.filter_append, List.take_append_drop]
       rfl
     have h0 : 0 < (((k :: ks).drop (grp d (k :: ks)).length).filter (fun z => letter z d == letter k d)).length := by
       apply List.length_pos_of_mem
       exact List.mem_filter.2 ⟨hyd, by simp [<- e, hx3]⟩
     have h3 : ((k :: ks).take (grp d (k :: ks)).length).filter (fun z => letter z d == letter k d) = (k :: ks).take (grp d (k :: ks)).length := by
       apply List.filter_eq_self.2
       intro z hz
       rw [e2, <- e1] at hz
       unfold grp at hz
       simp only at hz
       exact (List.mem_filter.1 hz).2
     rw [h3, List.length_take] at hcount
     have := (grp_sub d (k :: ks)).length_le
     omega
   have : (letter x d).toNat ≠ (letter y d).toNat := fun e => hne (UInt8.toNat_inj.1 e)
   omega
def Told (z w : ByteArray × Nat) : Prop := ∃ j, j <= z.2 /\ j <= w.2 /\ (∀ i, i < j -> letter z.1 i = letter w.1 i) /\ (letter z.1 j).toNat < (letter w.1 j).toNat
theorem leafs_told : ∀ (n : Nat) (ks : List ByteArray) (d : Nat), SP d ks -> Good (ks, d) -> 7 <= n + d -> (leafs n ks d).Pairwise Told
 | 0, _, _, _, _, _ => List.Pairwise.nil
 | n + 1, ks, d, hs, hg, hn => by
   rw [leafs_succ, List.pairwise_flatten]
   refine ⟨fun l hl => ?_, ?_⟩
   · obtain ⟨g, hgm, rfl⟩ := List.mem_map.1 hl
     unfold sgm
     cases hmg : many g with
     | true =>
       rw [if_pos rfl]
       exact leafs_told n g (d + 1) (SP.of_brs ks.length d (Nat.le_refl _) hs g hgm) (kid_good hg hgm hmg) (by omega)
     | false =>
       rw [if_neg (by simp)]
       exact List.pairwise_singleton _ _
   · rw [List.pairwise_map]
     refine (brs_pw ks.length (Nat.le_refl _) hs).imp_of_mem (fun {g h} hgm hhm hgh z hz w hw => ?_)
     have hzg : z.1 ∈ g := by rw [<- sgm_fst hs hg hn hgm]; exact List.mem_map_of_mem hz
     have hwh : w.1 ∈ h := by rw [<- sgm_fst hs hg hn hhm]; exact List.mem_map_of_mem hw
     have dz : d <= z.2 := leafs_deep (n + 1) ks d z (by rw [leafs_succ]; exact List.mem_flatten.2 ⟨_, List.mem_map_of_mem hgm, hz⟩)
     have dw : d <= w.2 := leafs_deep (n + 1) ks d w (by rw [leafs_succ]; exact List.mem_flatten.2 ⟨_, List.mem_map_of_mem hhm, hw⟩)
     have hzk : z.1 ∈ ks := by
       rw [<- brs_flat ks.length (Nat.le_refl _) hs]
       exact List.mem_flatten.2 ⟨g, hgm, hzg⟩
     have hwk : w.1 ∈ ks := by
       rw [<- brs_flat ks.length (Nat.le_refl _) hs]
       exact List.mem_flatten.2 ⟨h, hhm, hwh⟩
     exact ⟨d, dz, dw, fun i hi => hg.2.2.1 z.1 hzk w.1 hwk i hi, hgh _ hzg _ hwh⟩
theorem heads_pw {ks : List ByteArray} {keep : Int} (h : keysOk ks = true) : (headsR ks keep).Pairwise (fun a b => sless a b = true) := by
 have hs := SP.of_keys h
 have hf := leafs_fst 7 hs (keysOk_good h).1 (by omega)
 have hk : ∀ z ∈ leafs 7 ks 0, keyOk z.1 = true := fun z hz => hs.ok z.1 (by rw [<- hf]; exact List.mem_map_of_mem hz)
 unfold headsR
 rw [List.pairwise_map]
 refine (leafs_told 7 ks 0 hs (keysOk_good h).1 (by omega)).imp_of_mem (fun {z w} hz hw ⟨j, h1, h2, h3, h4⟩ => ?_)
 refine sless_of (keyOk_cut (hk z hz)) (keyOk_cut (hk w hw)) (j := j) (fun i hi => ?_) ?_
 · rw [cutK_letter keep z (by omega), cutK_letter keep w (by omega)]
   exact h3 i hi
 · rw [cutK_letter keep z h1, cutK_letter keep w h2]
   exact h4
end Go.Proofs.YtgoeenodllmdpaaGreat.B

namespace Go.Proofs.YtgoeenodllmdpaaGreat.B
open Go.RowKit Go.Proofs
set_option linter.unusedVariables false
set_option linter.unusedSimpArgs false
variable {E : Env}
theorem recs_d (d : Nat) : ∀ (gs : List (List ByteArray)) (b : Bool), ∀ x ∈ recs d b gs, x.d = d
 | [], _, x, h => by cases h
 | g :: gs, b, x, h => by
   rw [recs] at h
   rcases List.mem_cons.1 h with rfl | h
   · rfl
   · exact recs_d d gs false x h
theorem Tr.lmono {ks : List ByteArray} {F : List Fk} {L : List Br} (h : Tr ks F L) : L.Pairwise (fun a b => a.d <= b.d) := by
 rw [h.l, List.pairwise_flatMap]
 refine ⟨fun f _ => ?_, h.mono.imp (fun {a b} hab x hx y hy => ?_)⟩
 · refine List.pairwise_iff_forall_sublist.2 (fun {a b} hab => ?_)
   have ha := recs_d f.2 _ _ a (hab.subset (by simp))
   have hb := recs_d f.2 _ _ b (hab.subset (by simp))
   omega
 · have hx := recs_d a.2 _ _ x hx
   have hy := recs_d b.2 _ _ y hy
   omega
theorem Tr.later {ks : List ByteArray} {F : List Fk} {L : List Br} (h : Tr ks F L) {p q : Nat} (hp : p < L.length) (hq : q < L.length) (hd : (L[q]).d = (L[p]).d + 1) : p < q := by
 rcases Nat.lt_trichotomy p q with h1 | h1 | h1
 · exact h1
 · subst h1
   omega
 · have := List.pairwise_iff_getElem.1 h.lmono q p hq hp h1
   omega
theorem ba_toList (x : ByteArray) (a b : Nat) : (x.extract a b).data.toList = (x.data.toList.drop a).take (b - a) := by
 rw [ByteArray.data_extract, Array.toList_extract]
theorem ba_ext {x y : ByteArray} (h : x.data.toList = y.data.toList) : x = y := ByteArray.ext (Array.toList_inj.1 h)
theorem ba_len (x : ByteArray) : x.data.toList.length = x.size := Array.length_toList
theorem letter_get {x : ByteArray} {d : Nat} (h : d < x.size) : x.data.toList[d]'(by rw [ba_len]; exact h) = letter x d := by
 rw [letter_in h]
 simp
theorem way_more {x : ByteArray} {d : Nat} (h : d < x.size) : x.extract 0 d ++ lit1 (letter x d) = x.extract 0 (d + 1) := by
 apply ba_ext
 rw [ba_app, ba_toList, ba_toList]
 simp only [List.drop_zero, Nat.sub_zero]
 rw [List.take_succ_eq_append_getElem (by rw [ba_len]; exact h), letter_get h]
 rfl
theorem leaf_text {keep : Int} {x way : ByteArray} {d : Nat} (hk : keyOk x = true) (h0 : 0 <= keep) (hw : x.extract 0 d = way) (hs : way.size = d) : (if letter x d = 45 then way else way ++ lit1 (letter x d)) ++ restK x (d + 1) keep = cutK keep (x, d) := by
 have hxs : d <= x.size := by
   rw [<- hw, ByteArray.size_extract] at hs
   omega
 have hrest : restK x (d + 1) keep = (x.extract (d + 1) x.size).extract 0 (min (x.size - (d + 1)) keep.toNat) := rfl
 have hcut : cutK keep (x, d) = x.extract 0 (d + 1 + keep.toNat) := rfl
 rw [hrest, hcut]
 have hlen := ba_len x
 by_cases hl : letter x d = 45
 · rw [if_pos hl, <- hw]
   have hxd := (letter_ok hk d).1 hl
   apply ba_ext
   rw [ba_app, ba_toList, ba_toList, ba_toList, ba_toList]
   simp only [List.drop_zero, Nat.sub_zero]
   rw [List.drop_of_length_le (by omega), List.take_nil, List.take_nil, List.append_nil, List.take_of_length_le (by omega), List.take_of_length_le (by omega)]
 · rw [if_neg hl]
   have hd : d < x.size := by
     rcases Nat.lt_or_ge d x.size with h | h
     · exact h
     · exact absurd ((letter_ok hk d).2 h) hl
   rw [<- hw, way_more hd]
   apply ba_ext
   rw [ba_app, ba_toList, ba_toList, ba_toList, ba_toList]
   simp only [List.drop_zero, Nat.sub_zero]
   have e1 : List.take (d + 1 + keep.toNat) x.data.toList = List.take (d + 1) x.data.toList ++ List.take keep.toNat (List.drop (d + 1) x.data.toList) := List.take_add
   rw [e1]
   congr 1
   rw [List.take_take, List.take_eq_take_iff, List.length_drop, hlen]
   omega
end Go.Proofs.YtgoeenodllmdpaaGreat.B
