/- A part of the proof: strings.Builder: a string is written. strings.Builder: its string. The program's blocks: texts. Blocks are read: the program's way. Runs are drawn, and compared. A torn block, a block with another byte: in plain Lean. Deeds are read: the program's way. Deeds are read: the reference's way. A law's row where a table of the library is read. The law FnExactDeedText. The reference's draws: deeds. The law FnDeedOne. A law's row where functions of the library are called that read variables of the library. The laws of deeds that are read. The laws FnDeedBack and FnDeedStrict. The laws of blocks that are read. The functions of laws/exact.go for strings and moves. The law FnExactBlockText. The law FnExactBlockRead. All laws of deeds and blocks that are read. There is no condition. -/
import Derived.Handed
import Derived.Test.YtiecldkihdebiaaDoorM0
import Derived.Test.YtiecldkihdebiaaDoorM1
import Derived.Test.YtiecldkihdebiaaDoorM2
namespace Go.Proofs.YtiecldkihdebiaaDoor.B
open Go.RowKit Go.Proofs
set_option linter.unusedVariables false
set_option linter.unusedSimpArgs false
variable {E : Env}

theorem wpList_app_run {P : Program} {ops : Array Oper} {rest : List Oper} {o : Oper} {a : Act} {Q : Exit → Act → World → Prop} {w w' : World} {v' : Value} (hgd : o.guard = none) (sl x : Operand) (t u : TypeId)
    (ho : o.op = .call { callee := .builtin .append, args := #[sl, x], argTypes := #[t, u] }) (hr : (Builtin.append_ #[t, u] o.type #[a.eval sl, a.eval x]).run P w = .ok v' w')
    (h : wpList P ops Q rest (a.put o.dst v') w') : wpList P ops Q (o :: rest) a w := by
  refine wpList_plain hgd fun K hK => ?_
  unfold Oper.wp execOp
  simp only [ho, resolve, invoke, builtin, Sem.run_bind, Sem.run_pure, Result.andThen_ok, List.map_toArray, List.map_cons, List.map_nil, hr]
  exact hK _ _ h

/-- A builder that holds bytes. -/
def Bld (H : Hp) (o : Nat) (x : AV) (bs : List Int) : Prop := ∃ a, H.at o = some ⟨[[a, x]], 2, 78, false⟩ ∧ (a = .nilp ∨ a = .pt o 0 0) ∧ BufA 5 H x bs ∧ (bs = [] → x = .nils)
theorem bufA_ne {e : Nat} {H : Hp} {x : AV} {bs : List Int} (h : BufA e H x bs) {o : Nat} {ob : Ob} (ho : H.at o = some ob) (he : ob.esz ≠ 1) : ¬ x.of o := by
  rcases h with ⟨rfl, _⟩ | ⟨o', rfl, h2⟩
  · exact fun h => h
  · intro h
    have : o' = o := h
    subst this
    rw [ho] at h2
    cases h2
    exact he rfl
theorem bufO_of {x : AV} {y : Nat} (h : bufO x = some y) : x.of y := by
  cases x <;> simp [bufO] at h
  exact h
theorem BufA.fr {e : Nat} {S : Nat → Prop} {H H' : Hp} {x : AV} {bs : List Int} (h : BufA e H x bs) (hf : Fr S H H') (hs : ∀ y, x.of y → ¬ S y) : BufA e H' x bs := by
  rcases h with h | ⟨o, rfl, h2⟩
  · exact .inl h
  · exact .inr ⟨o, rfl, hf.2 _ _ (hs o rfl) h2⟩
/-- What an append to a builder's bytes makes. -/
theorem bufH_ok {e : Nat} {H : Hp} {x : AV} {bs cs : List Int} (h : BufA e H x bs) : BufA e (bufH e H x bs cs).1 (bufH e H x bs cs).2 (bs ++ cs) ∧ Fr x.of H (bufH e H x bs cs).1 ∧ (∀ y, (bufH e H x bs cs).2.of y → x.of y ∨ H.length ≤ y) ∧ one (bufH e H x bs cs).2 = true := by
  unfold bufH
  split
  · rename_i hw
    have e1 : x = .nils ∧ cs = [] := by
      unfold bufW at hw
      split at hw
      · exact ⟨rfl, rfl⟩
      · cases hw
    obtain ⟨rfl, rfl⟩ := e1
    rcases h with ⟨_, h2⟩ | ⟨o, h1, _⟩
    · exact ⟨.inl ⟨rfl, by rw [h2]; rfl⟩, Fr.refl _ _, fun y hy => hy.elim, rfl⟩
    · cases h1
  · have hl : (killO H (bufO x)).length = H.length := by cases bufO x <;> simp [killO]
    refine ⟨.inr ⟨H.length, rfl, by rw [← hl]; exact Hp.at_app_0.trans Hp.at_0⟩, ?_, fun y hy => .inr (by have hy' : H.length = y := hy; omega), rfl⟩
    refine Fr.app ?_ _
    cases hb : bufO x with
    | none => exact Fr.refl _ _
    | some y => exact (Fr.refl _ _).set (.inl (bufO_of hb)) _

set_option maxRecDepth 100000 in
theorem WriteString_ok (o : Nat) (x : AV) (bs : List Int) (s : ByteArray) (H : Hp) (hb : Bld H o x bs) (hl : bs.length + s.size ≤ 140737488355328) :
    AC Tryd.prog E 69 [.pt o 0 0, .str s] H (fun u H' => u = .tu [.int .i64 s.size, .nili] ∧ ∃ x', Bld H' o x' (bs ++ bytesOf s) ∧ Fr (fun y => y = o ∨ x.of y) H H' ∧ ∀ y, x'.of y → x.of y ∨ H.length ≤ y) := by
  obtain ⟨a, ho, ha, hx, hxn⟩ := hb
  refine ⟨⟨_, _, Tryd.func69, by kernel_rfl, rfl⟩, fun φ w vals hv hH => ?_⟩
  obtain ⟨v, vs, rfl, hv1, v2, vs2, rfl, hv2, h3⟩ := hv
  have hv2 : v2 = .string s := hv2
  have h3 : vs2 = [] := h3
  subst hv2 h3
  obtain ⟨p, cells, va, vx, hp, rfl, hbase, hpe, hblk, hsz, c0, c1, ra, rx, hB⟩ := bld_parts hH ho hv1
  have cc := copy_HR hH ho ha hp hbase hpe
  obtain ⟨H1, hH1⟩ : ∃ H1 : Hp, H1 = List.set H o (some ⟨[[.pt o 0 0, x]], 2, 78, false⟩) := ⟨_, rfl⟩
  rw [← hH1] at cc
  have uo := Hp.at_lt ho
  have ho1 : H1.at o = some ⟨[[.pt o 0 0, x]], 2, 78, false⟩ := by rw [hH1]; exact Hp.at_set _ uo
  have hF1 : Fr (fun y => y = o) H H1 := by rw [hH1]; exact Fr.one _ _ _
  have hxo : ¬ x.of o := bufA_ne hx ho (by simp)
  have hx1 : BufA 5 H1 x bs := hx.fr hF1 (fun y hy e => hxo (e ▸ hy))
  have e51 : ∀ args w, (callFunc 87 args).run Tryd.prog w = .ok (.enter 87 args) w := enters_of Tryd.func87 (by kernel_rfl) rfl
  show Calls Tryd.prog 69 #[.pointer (some ⟨p.b, 0, none⟩), .string s] w _
  go_enter Tryd.func69, Tryd.ntmps69
  go_wp2_with (go_at_fn 87; refine cc.mono ?_)
  rintro e w1 ⟨rfl, hbel1, hHR1⟩
  obtain ⟨p1, cells1, va1, vx1, hp1, _, _, _, hblk1, hsz1, d0, d1, ra1, rx1, _⟩ := bld_parts hHR1 ho1 hv1
  obtain rfl := Option.some.inj (hp.symm.trans hp1)
  have k1 : w1.cell? ⟨p.b, 1, none⟩ = some vx1 := by simp [World.cell?, hblk1, d1]
  obtain ⟨i, hi, hi2⟩ := Option.map_eq_some_iff.1 (show (Tryd.prog.info? 5).map (fun i => (i.zero, i.size, i.bytes)) = some (some (Value.int .u8 0), 1, 1) by kernel_rfl)
  simp only [Prod.mk.injEq] at hi2
  obtain ⟨hz, hs1, hs2⟩ := hi2
  obtain ⟨v', w2, φ2, hr, hle2, hHR2, hbel2, hv'⟩ := HR.appStr (ty := 28) Tryd.underlying28 Tryd.underlying9 hi hz hs1 hs2 hHR1 rx1 s hx1 hl
  obtain ⟨q1, q2, q3, q4⟩ := bufH_ok (cs := bytesOf s) hx1
  obtain ⟨H2, hH2⟩ : ∃ H2 : Hp, H2 = (bufH 5 H1 x bs (bytesOf s)).1 := ⟨_, rfl⟩
  obtain ⟨x2, hx2⟩ : ∃ x2 : AV, x2 = (bufH 5 H1 x bs (bytesOf s)).2 := ⟨_, rfl⟩
  rw [← hH2] at q1 q2 hHR2
  rw [← hx2] at q1 q3 q4 hv'
  have ho2 := q2.2 _ _ hxo ho1
  have hp2 := hle2 o p hp
  obtain ⟨⟨u, hu⟩, hfz, hbel3, hHR3⟩ := hHR2.set1 (Hp.at_some ho2) rfl hp2 (i := 0) (row := [.pt o 0 0, x]) rfl (f := 1) (by simp) (a := x2) (v := v') q4 hv'
  rw [hbase] at hu hfz hbel3 hHR3
  simp only [Nat.zero_mul, Nat.zero_add] at hu hfz hbel3 hHR3
  obtain ⟨ao, n', cap, rfl⟩ : ∃ ao n' cap, v' = .slice ao n' cap := by
    rcases q1 with ⟨e1, _⟩ | ⟨o', e1, _⟩
    · rw [e1] at hv'
      exact ⟨_, _, _, hv'⟩
    · rw [e1] at hv'
      obtain ⟨p', a', c', _, e2, _⟩ := hv'
      exact ⟨_, _, _, e2⟩
  go_wp2_with (at_builtin; refine wpList_app_run rfl _ _ 28 9 rfl hr ?_)
  go_wp2
  go_ret2
  have uo2 := Hp.at_lt ho2
  have hS := Fr.one H2 o (some ⟨[[.pt o 0 0, x2]], 2, 78, false⟩)
  have hl1 := hF1.1
  have hxo2 : ¬ x2.of o := bufA_ne q1 ho2 (by simp)
  refine ⟨φ2, List.set H2 o (some ⟨[[.pt o 0 0, x2]], 2, 78, false⟩), .tu [.int .i64 s.size, .nili], hle2, hHR3, (hbel1.trans hbel2).trans hbel3, ⟨[.int .i64 s.size, .nilIface], rfl, _, _, rfl, rfl, _, _, rfl, rfl, rfl⟩, rfl, x2, ⟨.pt o 0 0, Hp.at_set _ uo2, .inr rfl, q1.fr hS (fun y hy e => hxo2 (e ▸ hy)), fun hnil => ?_⟩, ?_, ?_⟩
  · obtain ⟨h1, h2⟩ := List.append_eq_nil_iff.1 hnil
    rw [hx2, h2, hxn h1]
    rfl
  · exact ((hF1.mono (fun y hy => .inl (.inl hy))).trans q2 (fun y hy => .inl (.inr hy))).trans hS (fun y hy => .inl (.inl hy))
  · intro y hy
    have hlen : H1.length = H.length := by rw [hH1]; simp
    rcases q3 y hy with h | h
    · exact .inl h
    · exact .inr (by omega)

end Go.Proofs.YtiecldkihdebiaaDoor.B

namespace Go.Proofs.YtiecldkihdebiaaDoor.B
open Go.RowKit Go.Proofs
set_option linter.unusedVariables false
set_option linter.unusedSimpArgs false
variable {E : Env}

theorem freeze_other (w : World) (g n k : Nat) (h : k ≠ g) : (w.freeze ⟨g, 0, none⟩ n).heap[k]? = w.heap[k]? := by
  unfold World.freeze
  split
  · rfl
  · simp only [Array.getElem?_modify]
    rw [if_neg (fun e => h e.symm)]

set_option maxHeartbeats 2000000 in
set_option maxRecDepth 100000 in
theorem BString_ok (o : Nat) (x : AV) (s : ByteArray) (H : Hp) (hb : Bld H o x (bytesOf s)) (hl : s.size ≤ 140737488355328) :
    AC Tryd.prog E 71 [.pt o 0 0] H (fun u H' => u = .str s ∧ Fr x.of H H') := by
  obtain ⟨a, ho, ha, hx, hxn⟩ := hb
  have hsl := bytesOf_len s
  have mixed : Tryd.prog.follows .mixedOrders = true := fol
  refine ⟨⟨_, _, Tryd.func71, by kernel_rfl, rfl⟩, fun φ w vals hv hH => ?_⟩
  obtain ⟨v, vs, rfl, hv1, h3⟩ := hv
  have h3 : vs = [] := h3
  subst h3
  obtain ⟨p, cells, va, vx, hp, rfl, hbase, hpe, hblk, hsz, c0, c1, ra, rx, hB⟩ := bld_parts hH ho hv1
  show Calls Tryd.prog 71 #[.pointer (some ⟨p.b, 0, none⟩)] w _
  rcases hx with ⟨rfl, hs0⟩ | ⟨o2, rfl, ho2⟩
  · have hvx : vx = .slice none 0 0 := rx
    subst hvx
    have hse : s = ⟨#[]⟩ := by
      apply ByteArray.ext
      apply Array.eq_empty_of_size_eq_zero
      rw [hs0] at hsl
      exact hsl.symm
    have k1 : w.drew.cell? ⟨p.b, 1, none⟩ = some (.slice none 0 0) := by
      have : w.drew.heap[p.b]? = some (.cells cells 78 (0, 0)) := hblk
      simp [World.cell?, this, c1]
    have hSD : (Builtin.unsafeSliceData_ #[28] 89 #[.slice none 0 0]).run Tryd.prog w.drew = .ok (.pointer none) w.drew := rfl
    have hUS := Lib.run_unsafeString_none (P := Tryd.prog) w.drew 89 3 9 none
    go_enter Tryd.func71, Tryd.ntmps71
    go_wp2
    go_region_o
    all_goals (go_wp2; go_ret; exact ⟨φ, H, .str s, PLe.refl _, hH.drew, Below.drew (Below.refl _ w), by rw [hse]; rfl, rfl, Fr.refl _ _⟩)
  · obtain ⟨p2, ad, c, hp2, rfl, hmc, hc⟩ := rx
    have ho2' := Hp.at_some ho2
    obtain ⟨r1, r2, cells2, ee, fr, hblk2, hrw2, hrows2⟩ := hH.obj _ _ ho2' p2 hp2
    obtain ⟨rfl, he, hpsz2, hbase2, hB2⟩ := hrw2 rfl
    have he : ee = 5 := he
    rw [he] at hblk2
    have hne : bytesOf s ≠ [] := fun h => by have := hxn h; cases this
    have hpos : 0 < (bytesOf s).length := List.length_pos_iff.2 hne
    rcases hc with hc | ⟨rfl, hc⟩
    · omega
    rcases hc with hc | hc
    · have : p2.ro = false := r1
      rw [this] at hc; cases hc
    have hpe2 : p2.esz = 1 := r2
    have ead : (⟨p2.b, p2.base + 0 * p2.esz, none⟩ : Addr) = ⟨p2.b, 0, none⟩ := by simp [hbase2]
    rw [ead] at c1
    rw [Nat.zero_add, hpe2, Nat.mul_one, hpsz2] at hc
    subst hc
    obtain ⟨l, hlist⟩ : ∃ l : List UInt8, l = s.data.toList := ⟨_, rfl⟩
    have hll : (bytesOf s).length = l.length := by rw [hlist, bytesOf, List.length_map]
    have hl0 : l ≠ [] := fun h => by rw [h] at hll; rw [hll] at hpos; exact absurd hpos (by simp)
    have hls : l.length = s.size := by omega
    have hcell : ∀ (j : Nat) (b : UInt8), l[j]? = some b → w.drew.cell? ((⟨p2.b, 0, none⟩ : Addr).add j) = some (.int .u8 b.toNat) := by
      intro j b hj
      have hr : ((bytesOf s).map byteRow)[j]? = some (byteRow b.toNat) := by
        rw [bytesOf, ← hlist, List.getElem?_map, List.getElem?_map, hj]
        rfl
      obtain ⟨_, hcc⟩ := hrows2 j (byteRow b.toNat) hr
      obtain ⟨_, u, hu, hRu⟩ := hcc 0 (.int .u8 b.toNat) rfl
      have hRu : u = .int .u8 b.toNat := hRu
      rw [hRu, hbase2] at hu
      have h1 : (⟨[] , 1, 0, false⟩ : Ob).esz = 1 := rfl
      simp only [Nat.zero_add, Nat.add_zero, Nat.mul_one] at hu
      have hbk : w.drew.heap[p2.b]? = some (.cells cells2 5 (0, 0)) := hblk2
      rw [Addr_add]
      simp [World.cell?, hbk, hu]
    have k1 : w.drew.cell? ⟨p.b, 1, none⟩ = some (.slice (some ⟨p2.b, 0, none⟩) s.size cells2.size) := by
      have : w.drew.heap[p.b]? = some (.cells cells 78 (0, 0)) := hblk
      rw [← hsl]
      simp [World.cell?, this, c1]
    have hSD : (Builtin.unsafeSliceData_ #[28] 89 #[.slice (some ⟨p2.b, 0, none⟩) s.size cells2.size]).run Tryd.prog w.drew = .ok (.pointer (some ⟨p2.b, 0, none⟩)) w.drew :=
      Lib.run_unsafeSliceData_row _ _ _ _ _ _ (by omega)
    have hUS := Lib.run_unsafeString_row (P := Tryd.prog) w.drew 89 3 9 5 Tryd.underlying89 (by kernel_rfl) p2.b cells2.size (by
      have hg' : w.drew.heap[p2.b]? = some (.cells cells2 5 (0, 0)) := hblk2
      simp [World.shape?, hg']) l hl0 (by omega) (by omega) hcell
    have hst : (⟨l.toArray⟩ : ByteArray) = s := by rw [hlist]
    rw [hst, hls] at hUS
    have hbel : Below E.B0 w (w.drew.freeze ⟨p2.b, 0, none⟩ s.size) := Lib.below_freeze (Below.drew (Below.refl _ w)) (p := ⟨p2.b, 0, none⟩) hB2 _
    have hHR : HR E φ (List.set H o2 none) (w.drew.freeze ⟨p2.b, 0, none⟩ s.size) := by
      refine (hH.kill o2).keep hbel (fun o' ob' p' ho' hp' => ?_)
      have hne' : o2 ≠ o' := fun e => by
        rw [e, List.getElem?_set] at ho'
        split at ho'
        · split at ho' <;> simp at ho'
        · exact absurd rfl ‹_›
      rw [List.getElem?_set_ne hne'] at ho'
      have hbn : p'.b ≠ p2.b := fun e => hH.inj o2 o' _ ob' ho2' ho' p2 p' hp2 hp' rfl hne' e.symm
      exact freeze_other _ _ _ _ hbn
    go_enter Tryd.func71, Tryd.ntmps71
    go_wp2
    go_region_o
    all_goals (go_wp2; go_ret; exact ⟨φ, List.set H o2 none, .str s, PLe.refl _, hHR, hbel, rfl, rfl, (Fr.refl _ H).set (.inl rfl) _⟩)

end Go.Proofs.YtiecldkihdebiaaDoor.B

namespace Go.Proofs.YtiecldkihdebiaaDoor.B
open Go.RowKit Go.Proofs
set_option linter.unusedVariables false
set_option linter.unusedSimpArgs false
variable {E : Env}

theorem seal_ok (hE : Tab10 E) (t : ByteArray) (H : Hp) (ht : t.size < 1099511627776) : AC Tryd.prog E 70 [.str t] H (fun v H' => v = .str (sealT t) ∧ H' = H) := by
  refine AC_byp (tC_le tab2_ok) h_impl_seal (by simp) ?_
  simp [c_impl_seal]
  have h1 : (ByteArray.mk #[33]).size = 1 := rfl
  refine ⟨by omega, ?_⟩
  refine cg_use (implSum_ok t H (by omega)) ?_
  simp
  refine cg_use (Itoa_ok hE (sumB t) H (by have := sumB_bound t; omega)) ?_
  have h2 := dec_size (sumB t) (by have := sumB_bound t; omega)
  simp [sealT, lit1]
  omega
theorem bytesOf_nil : bytesOf ⟨#[]⟩ = [] := rfl
/-- A builder of one's own that holds a text. -/
def MyB (H G : Hp) (o : Nat) (s : ByteArray) : Prop := HLe H G ∧ ∃ x, Bld G o x (bytesOf s) ∧ ∀ y, x.of y → H.length ≤ y
theorem MyB.app {H G : Hp} {o : Nat} {s : ByteArray} (h : MyB H G o s) (l : Hp) : MyB H (G ++ l) o s := by
  obtain ⟨h1, x, ⟨a, b1, b2, b3, b4⟩, h3⟩ := h
  exact ⟨h1.app l, x, ⟨a, (HLe.self G l).2 _ _ b1, b2, b3.fr ((HLe.self G l).fr (S := fun _ => False)) (fun _ _ h => h), b4⟩, h3⟩
theorem MyB.write {H G : Hp} {o : Nat} {s t : ByteArray} {n : Nat} {ob : Ob} (h : MyB H G o s) (ho : H.length ≤ o) (hl : s.size + t.size ≤ 140737488355328) (hn : G.at n = some ob) (hne : n ≠ o) (he : ob.esz ≠ 1) :
    AC Tryd.prog E 69 [.pt o 0 0, .str t] G (fun u G' => u = .tu [.int .i64 t.size, .nili] ∧ MyB H G' o (s ++ t) ∧ G'.at n = some ob) := by
  obtain ⟨h1, x, hb, h3⟩ := h
  refine (WriteString_ok o x _ t G hb (by rw [bytesOf_len]; exact hl)).mono ?_
  rintro u G' ⟨rfl, x', hb', hf, hx'⟩
  have hlen := h1.1
  obtain ⟨a, b1, b2, b3, b4⟩ := hb
  refine ⟨rfl, ⟨h1.fr_le hf (fun y hy => ?_), x', by rw [bytesOf_app]; exact hb', fun y hy => ?_⟩, hf.2 _ _ (fun hh => ?_) hn⟩
  · rcases hy with hy | hy
    · omega
    · exact h3 y hy
  · rcases hx' y hy with hh | hh
    · exact h3 y hh
    · omega
  · rcases hh with hh | hh
    · exact hne hh
    · exact bufA_ne b3 hn he hh
theorem blockText_ok (hE : Tab10 E) (a : AV) (r : List Ent) (H : Hp) (ha : Ents H a r) (hr : runOk r = true) : AC Tryd.prog E 56 [a] H (fun v H' => v = .str (sealT (runText r)) ∧ H' = H) := by
  refine AC_byp (tC_le tab2_ok) h_impl_blockText (by simp) ?_
  obtain ⟨f1, f2, f3⟩ := runOk_fits hr
  have l1 := ha.len
  simp [c_impl_blockText, l1, ha.slc]
  obtain ⟨H1, hH1⟩ : ∃ H1 : Hp, H1 = H ++ [some ⟨[[.nilp, .nils]], 2, 78, false⟩] := ⟨_, rfl⟩
  have hle1 : HLe H H1 := by rw [hH1]; exact HLe.self _ _
  have b0 : H1.at H.length = some ⟨[[.nilp, .nils]], 2, 78, false⟩ := by rw [hH1]; simp
  rw [← hH1]
  have hsz := runText_size r (fun e he => ⟨f1 e he, by have := f3 e he; omega⟩)
  refine W_for (fun m t H' => ∃ i : Nat, i + m = r.length ∧ t 3 = .pt H.length 0 0 ∧ t 6 = a ∧ t 7 = .int .i64 r.length ∧ t 8 = .int .i64 i ∧ MyB H H' H.length (runText (r.take i))) r.length ?_ (tC_mono AC_mono) ?_
  · exact ⟨0, by omega, by simp, by simp, by simp, by simp, hle1, .nils, ⟨.nilp, b0, .inl rfl, .inl ⟨rfl, by simp [runText]; rfl⟩, fun _ => rfl⟩, fun y hy => hy.elim⟩
  rintro m t H' ⟨i, him, h3, h6, h7, h8, hb⟩
  have hle := hb.1
  simp [h3, h6, h7, h8]
  refine c_split (fun hq => ?_) (fun hq => ?_) <;> simp at hq
  · have hw := wrapN (i := i) (by omega)
    obtain ⟨o1, i1, ob1, rfl, a1, a2, a3⟩ := (ha.le hle).get hq
    have u1 := Hp.at_lt a1
    have hsi := hsz i (by omega)
    have htk := runText_take r hq
    obtain ⟨e, he⟩ : ∃ e, e = r[i] := ⟨_, rfl⟩
    have hfe := f1 e (by rw [he]; exact List.getElem_mem _)
    have hke := f3 e (by rw [he]; exact List.getElem_mem _)
    rw [← he] at a3 htk
    obtain ⟨G, hG⟩ : ∃ G : Hp, G = H' ++ [some ⟨[[.str e.key, .int .i64 e.val, .bool e.gone, .int .i64 e.time]], 4, 59, false⟩] := ⟨_, rfl⟩
    have bG : G.at H'.length = some ⟨[[.str e.key, .int .i64 e.val, .bool e.gone, .int .i64 e.time]], 4, 59, false⟩ := by rw [hG]; simp
    have hlH := hle.1
    have hol : H.length < H'.length := by
      obtain ⟨_, x, ⟨_, b1, _⟩, _⟩ := hb
      exact Hp.at_lt b1
    have hbG : MyB H G H.length (runText (r.take i)) := by rw [hG]; exact hb.app _
    have hd1 := dec_size e.val hfe.2.1
    have hd2 := dec_size e.time hfe.2.2
    have e1 : ∀ c : UInt8, (⟨#[c]⟩ : ByteArray).size = 1 := fun _ => rfl
    have hne : H'.length ≠ H.length := by omega
    have en1 : (⟨[[.str e.key, .int .i64 e.val, .bool e.gone, .int .i64 e.time]], 4, 59, false⟩ : Ob).esz ≠ 1 := by simp
    obtain ⟨s, hs⟩ : ∃ s, s = runText (r.take i) := ⟨_, rfl⟩
    rw [← hs] at hbG hsi htk
    have fin : ∀ (G9 : Hp), MyB H G9 H.length (runText (r.take (i + 1))) → ∃ k', k' < m ∧ ∃ i1 : Nat, i1 + k' = r.length ∧ ((i + 1 : Nat) : Int) = i1 ∧ MyB H G9 H.length (runText (r.take i1)) := fun G9 h => ⟨m - 1, by omega, i + 1, by omega, rfl, h⟩
    simp [h3, h6, h7, h8, hq, a1, a2, a3, Hp.at_app, u1, ← hG, bG]
    refine cg_ex (hbG.write (t := e.key) (Nat.le_refl _) (by omega) bG hne en1) ?_
    rintro v G1 ⟨rfl, hb1, bG1⟩
    simp [h3, h6, h7, h8, bG1]
    cases hgo : e.gone with
    | true =>
      rw [hgo] at bG1
      simp [h3, h6, h7, h8, bG1, e1]
      refine cg_use (Itoa_ok hE e.time _ hfe.2.2) ?_
      simp [h3, h6, h7, h8, bG1, e1]
      refine ⟨by omega, by omega, cg_ex (hb1.write (t := ⟨#[45]⟩ ++ dec e.time ++ ⟨#[59]⟩) (Nat.le_refl _) (by simp only [ByteArray.size_append, e1]; omega) bG1 hne (by simp)) ?_⟩
      rintro v G2 ⟨rfl, hb2, bG2⟩
      simp [h3, h6, h7, h8, hw]
      refine fin G2 ?_
      have et : entText e = e.key ++ (⟨#[45]⟩ ++ dec e.time ++ ⟨#[59]⟩) := by
        unfold entText
        rw [if_pos hgo]
        simp only [lit1, ByteArray.append_assoc]
      rw [htk, et, ← ByteArray.append_assoc]
      exact hb2
    | false =>
      rw [hgo] at bG1
      simp [h3, h6, h7, h8, bG1, e1]
      refine cg_use (Itoa_ok hE e.val _ hfe.2.1) ?_
      simp [h3, h6, h7, h8, bG1, e1]
      refine ⟨by omega, cg_ex (hb1.write (t := ⟨#[61]⟩ ++ dec e.val) (Nat.le_refl _) (by simp only [ByteArray.size_append, e1]; omega) bG1 hne (by simp)) ?_⟩
      rintro v G2 ⟨rfl, hb2, bG2⟩
      simp [h3, h6, h7, h8, bG2, e1]
      refine cg_use (Itoa_ok hE e.time _ hfe.2.2) ?_
      simp [h3, h6, h7, h8, bG2, e1]
      refine ⟨by omega, by omega, cg_ex (hb2.write (t := ⟨#[45]⟩ ++ dec e.time ++ ⟨#[59]⟩) (Nat.le_refl _) (by simp only [ByteArray.size_append, e1]; omega) bG2 hne (by simp)) ?_⟩
      rintro v G3 ⟨rfl, hb3, bG3⟩
      simp [h3, h6, h7, h8, hw]
      refine fin G3 ?_
      have et : entText e = e.key ++ (⟨#[61]⟩ ++ dec e.val) ++ (⟨#[45]⟩ ++ dec e.time ++ ⟨#[59]⟩) := by
        unfold entText
        rw [if_neg (by rw [hgo]; decide)]
        simp only [lit1, ByteArray.append_assoc]
      rw [htk, et]
      simp only [ByteArray.append_assoc] at hb3 ⊢
      exact hb3
  · have hie : i = r.length := by omega
    subst hie
    rw [List.take_length] at hb
    have hsi := hsz r.length (Nat.le_refl _)
    rw [List.take_length] at hsi
    obtain ⟨_, x, hbx, hxa⟩ := hb
    simp [h3, h6, h7, h8]
    refine cg_ex (BString_ok H.length x (runText r) H' hbx (by omega)) ?_
    rintro v G1 ⟨rfl, hF⟩
    simp
    refine cg_use (seal_ok hE (runText r) G1 (by omega)) ?_
    simp
    exact hle.fr_le hF hxa

theorem implBlockText_ok (hE : Tab10 E) (a : AV) (r : List Ent) (H : Hp) (ha : Ents H a r) (hs : Short r) (hn : r.length < 1099511627776) : AC Tryd.prog E 25 [a] H (fun v H' => v = .str (blockT r) ∧ H' = H) := by
  refine AC_byp (tC_le tab2_ok) h_impl_BlockText (by simp) ?_
  simp [c_impl_BlockText]
  refine cg_use (implRunOk_ok a r H ha hs (by omega)) ?_
  cases hro : runOk r with
  | false => simp [blockT, hro]
  | true =>
  simp
  refine cg_use (blockText_ok hE a r H ha hro) ?_
  simp
  refine c_split (fun hq => ?_) (fun hq => ?_) <;> simp at hq
  · simp [blockT, hro]
    omega
  · simp [blockT, hro]
    omega

end Go.Proofs.YtiecldkihdebiaaDoor.B

namespace Go.Proofs.YtiecldkihdebiaaDoor.B
open Go.RowKit Go.Proofs
set_option linter.unusedVariables false
set_option linter.unusedSimpArgs false
variable {E : Env}

theorem mk_size (l : List UInt8) : (⟨l.toArray⟩ : ByteArray).size = l.length := by
  show l.toArray.size = _
  simp
theorem ls_size (s : ByteArray) : s.data.toList.length = s.size := Array.length_toList
theorem cutI_size (c : UInt8) (s : ByteArray) : (cutI c s).1.size ≤ s.size ∧ (cutI c s).2.1.size ≤ s.size := by
  have hs := ls_size s
  unfold cutI
  simp only [mk_size]
  unfold Lib.cut
  split
  · simp only [List.length_take, List.length_drop]
    omega
  · simp only [List.length_nil]
    omega
theorem entI_size (s : ByteArray) : (entI s).key.size ≤ s.size := by
  have h1 := (cutI_size 45 s).1
  have h2 := (cutI_size 61 (cutI 45 s).1).1
  unfold entI
  simp only
  omega
theorem kSplit_sizes (c : UInt8) (s : ByteArray) : ∀ x ∈ kSplit c s, x.size ≤ s.size := by
  intro x hx
  have h : ∀ (k : Nat) (s : ByteArray), ∀ x ∈ Lib.splitB ⟨#[c]⟩ 0 k s, x.size ≤ s.size := by
    intro k
    induction k with
    | zero =>
      intro s x hx
      rw [Lib.splitB_zero] at hx
      rw [List.mem_singleton.1 hx]
      exact Nat.le_refl _
    | succ k ih =>
      intro s x hx
      unfold Lib.splitB at hx
      split at hx
      · rw [List.mem_singleton.1 hx]
        exact Nat.le_refl _
      · rcases List.mem_cons.1 hx with rfl | hx
        · rw [ByteArray.size_extract]
          omega
        · have := ih _ x hx
          rw [ByteArray.size_extract] at this
          omega
  exact h _ s x hx
theorem kSplit_lens (c : UInt8) (s : ByteArray) : (kSplit c s).length ≤ s.size + 1 := by
  rw [show (kSplit c s).length = Lib.countB s ⟨#[c]⟩ + 1 from Lib.splitB_all ⟨#[c]⟩ (Nat.le_refl 1) 0 _ s rfl]
  have := Lib.countB_le ⟨#[c]⟩ (Nat.le_refl 1) s.size s (Nat.le_refl _)
  omega
theorem linesI_size (t : ByteArray) : ∀ x ∈ linesI t, x.size ≤ t.size := fun x hx => by
  have h1 := kSplit_sizes 59 (cutI 33 t).1 x (List.mem_of_mem_take hx)
  have h2 := (cutI_size 33 t).1
  omega
theorem linesI_len (t : ByteArray) : (linesI t).length ≤ t.size := by
  have h1 := kSplit_lens 59 (cutI 33 t).1
  have h2 := (cutI_size 33 t).1
  unfold linesI
  rw [List.length_take]
  omega
theorem readI_short (t : ByteArray) (ht : t.size < 1099511627776) : Short (readI t) ∧ (readI t).length ≤ t.size := by
  refine ⟨fun e he => ?_, ?_⟩
  · obtain ⟨x, hx, rfl⟩ := List.mem_map.1 he
    have := linesI_size t x hx
    have := entI_size x
    omega
  · rw [readI, List.length_map]
    exact linesI_len t
theorem cloneRun_ok (a : AV) (r : List Ent) (H : Hp) (ha : Ents H a r) (hn : r.length < 1099511627776) : AC Tryd.prog E 52 [a] H (fun v H' => HLe H H' ∧ OwnE H H' v r) := by
  refine AC_by fol (tC_le tab2_ok) h_impl_cloneRun ?_
  simp [c_impl_cloneRun]
  refine appG_cat (xs := []) (ys := r) (bytes := 40) (row := entRow) (H0 := H) OwnM.nils ha (HLe.refl H) (by simp; omega) (fun v H' g1 g2 g3 g4 => ?_)
  simp
  exact ⟨g1, by simpa using g2⟩
def BlockV (H : Hp) (t : ByteArray) (v : AV) (H' : Hp) : Prop := HLe H H' ∧ ∃ w r ok, v = .tu [w, .bool ok] ∧ BlockIs t r ok ∧ OwnE H H' w r
theorem BlockV.bad {H H' : Hp} {t : ByteArray} (h : HLe H H') (hb : BlockIs t [] false) : BlockV H t (.tu [.nils, .bool false]) H' := ⟨h, .nils, [], false, rfl, hb, OwnM.nils⟩
theorem implBlockRead_ok (hE : LibE E) (t : ByteArray) (H : Hp) (ht : t.size < 4294967281) : AC Tryd.prog E 20 [.str t] H (BlockV H t) := by
  refine AC_by fol (tC_le tab2_ok) h_impl_BlockRead ?_
  simp [c_impl_BlockRead]
  refine cg_use (Cut_ok hE t 33 H ht) ?_
  simp
  refine g_split (fun hq => ?_) (fun hq => ?_) (by simp) <;> simp at hq
  · simp [hq]
    refine BlockV.bad (HLe.refl H) (.inr ⟨rfl, rfl, fun q hq' => ?_⟩)
    rcases Nat.eq_zero_or_pos t.size with h0 | h0
    · exact h0
    · have := (readI_block (r := q) (by rw [hq']; omega)).1
      rw [hq', hq] at this
      cases this
  simp [hq]
  refine c_split (fun hq2 => ?_) (fun hq2 => ?_) <;> simp at hq2
  · simp
    refine BlockV.bad (HLe.refl H) (.inr ⟨rfl, rfl, fun q hq' => ?_⟩)
    rcases Nat.eq_zero_or_pos t.size with h0 | h0
    · exact h0
    · have := (blockT_form (r := q) (by rw [hq']; omega)).2.2
      rw [hq'] at this
      omega
  simp
  have hbs := (cutI_size 33 t).1
  refine cg_use (Split_ok hE (cutI 33 t).1 59 H (by omega)) ?_
  obtain ⟨H1, hH1⟩ : ∃ H1 : Hp, H1 = H ++ [some ⟨(kSplit 59 (cutI 33 t).1).map strRow, 1, 9, false⟩] := ⟨_, rfl⟩
  have hle1 : HLe H H1 := by rw [hH1]; exact HLe.self _ _
  have b8 : H1.at H.length = some ⟨(kSplit 59 (cutI 33 t).1).map strRow, 1, 9, false⟩ := by rw [hH1, Hp.at_app_0, Hp.at_0]
  have hkl := kSplit_len 59 (cutI 33 t).1
  have hkm := kSplit_lens 59 (cutI 33 t).1
  have hS : Strs H1 (.sl H.length 0 (kSplit 59 (cutI 33 t).1).length) (kSplit 59 (cutI 33 t).1) := .inr (.inr ⟨H.length, 0, _, by simp, b8, rfl, by simp, by rw [List.drop_zero, List.take_of_length_le (by simp)]; rfl⟩)
  have hsub : IntKind.i64.wrap (((kSplit 59 (cutI 33 t).1).length : Int) - 1) = (((kSplit 59 (cutI 33 t).1).length - 1 : Nat) : Int) := by
    rw [wrap64 (by omega) (by omega)]
    omega
  simp [← hH1, hsub]
  refine cutG_upto hS ((kSplit 59 (cutI 33 t).1).length - 1) rfl (by simp) (fun u w1 w2 _ => ?_)
  have hu : Strs H1 u (linesI t) := by
    rw [linesI]
    unfold Strs
    rw [List.map_take]
    exact w1
  have hll := linesI_len t
  have hls := linesI_size t
  simp [hu.len, hu.slc]
  refine W_for (fun m tt H' => ∃ (i : Nat) (v : AV), i + m = (linesI t).length ∧ tt 0 = .str t ∧ tt 7 = v ∧ tt 37 = u ∧ tt 38 = .int .i64 (linesI t).length ∧ tt 39 = .int .i64 i ∧ HLe H H' ∧ Strs H' u (linesI t) ∧ OwnE H H' v (((linesI t).take i).map entI)) (linesI t).length ?_ (tC_mono AC_mono) ?_
  · exact ⟨0, .nils, by omega, by simp, by simp, by simp, by simp, by simp, hle1, hu, by simpa using OwnM.nils⟩
  rintro m tt H' ⟨i, v, him, h0, h7, h37, h38, h39, hle, hu', hown⟩
  have hw2 := wrapN (i := i) (by omega)
  simp [h0, h7, h37, h38, h39, hw2, hu'.len, hu'.slc]
  refine c_split (fun hq3 => ?_) (fun hq3 => ?_) <;> simp at hq3
  · have hi : i < (linesI t).length := by omega
    obtain ⟨o2, i2, ob2, rfl, c1, c2, c3⟩ := hu'.get hi
    have hxs := hls _ (List.getElem_mem hi)
    obtain ⟨x, hx⟩ : ∃ x, x = (linesI t)[i] := ⟨_, rfl⟩
    rw [← hx] at c3 hxs
    simp [h0, h7, h37, h38, h39, hw2, c1, c2, c3, hi]
    refine cg_use (Cut_ok hE x 45 H' (by omega)) ?_
    have hx1 := cutI_size 45 x
    have hx2 := cutI_size 61 (cutI 45 x).1
    simp
    refine cg_use (Cut_ok hE (cutI 45 x).1 61 H' (by omega)) ?_
    simp
    refine cg_use (number_ok hE (cutI 45 x).2.1 H' (by omega)) ?_
    obtain ⟨H2, hH2⟩ : ∃ H2 : Hp, H2 = H' ++ [some ⟨[[.str (cutI 61 (cutI 45 x).1).1, .int .i64 0, .bool (!(cutI 61 (cutI 45 x).1).2.2), .int .i64 (numI (cutI 45 x).2.1)]], 4, 59, false⟩] := ⟨_, rfl⟩
    have hle2 : HLe H' H2 := by rw [hH2]; exact HLe.self _ _
    have b17 : H2.at H'.length = some ⟨[[.str (cutI 61 (cutI 45 x).1).1, .int .i64 0, .bool (!(cutI 61 (cutI 45 x).1).2.2), .int .i64 (numI (cutI 45 x).2.1)]], 4, 59, false⟩ := by rw [hH2, Hp.at_app_0, Hp.at_0]
    have u17 := Hp.at_lt b17
    have he : entRow (entI x) = [.str (cutI 61 (cutI 45 x).1).1, .int .i64 (if (cutI 61 (cutI 45 x).1).2.2 = true then numI (cutI 61 (cutI 45 x).1).2.1 else 0), .bool (!(cutI 61 (cutI 45 x).1).2.2), .int .i64 (numI (cutI 45 x).2.1)] := rfl
    simp [← hH2]
    refine c_split (fun hq4 => ?_) (fun hq4 => ?_)
    · rw [if_pos hq4] at he
      simp [b17]
      refine cg_use (number_ok hE (cutI 61 (cutI 45 x).1).2.1 H2 (by omega)) ?_
      simp [b17, h7, Hp.at_set _ u17]
      obtain ⟨H3, hH3⟩ : ∃ H3 : Hp, H3 = List.set H2 H'.length (some ⟨[entRow (entI x)], 4, 59, false⟩) := ⟨_, rfl⟩
      rw [he] at hH3
      have hl3 : H2.length = H3.length := by rw [hH3, List.length_set]
      have hle3 : HLe H' H3 := by rw [hH3]; exact hle2.set (Nat.le_refl _) _
      rw [← hH3, hl3]
      refine appG_add (y := entI x) (bytes := 40) (row := entRow) (H0 := H) (hown.le hle3) (hle.trans hle3) (by simp; omega) he.symm (fun v5 H5 g1 g2 g3 g4 => ?_)
      have hu5 : Strs H5 (.sl o2 i2 (linesI t).length) (linesI t) := Rows.fr (hu'.le hle3) g3 (fun y hy hs => Rows.apart (hu'.le hle3) (hown.le hle3).rows (by simp) hy hs)
      simp [h0, h7, h37, h38, h39, hw2]
      refine ⟨m - 1, by omega, i + 1, by omega, by omega, g1, hu5, ?_⟩
      rw [List.take_succ_eq_append_getElem (by simpa using hi), List.getElem_map, ← List.map_take, ← hx]
      exact g2
    · rw [if_neg (by simp [hq4])] at he
      simp [b17, h7]
      have hle3 : HLe H' H2 := hle2
      refine appG_add (y := entI x) (bytes := 40) (row := entRow) (H0 := H) (hown.le hle3) (hle.trans hle3) (by simp; omega) he.symm (fun v5 H5 g1 g2 g3 g4 => ?_)
      have hu5 : Strs H5 (.sl o2 i2 (linesI t).length) (linesI t) := Rows.fr (hu'.le hle3) g3 (fun y hy hs => Rows.apart (hu'.le hle3) (hown.le hle3).rows (by simp) hy hs)
      simp [h0, h7, h37, h38, h39, hw2]
      refine ⟨m - 1, by omega, i + 1, by omega, by omega, g1, hu5, ?_⟩
      rw [List.take_succ_eq_append_getElem (by simpa using hi), List.getElem_map, ← List.map_take, ← hx]
      exact g2
  · have hie : i = (linesI t).length := by omega
    subst hie
    rw [List.take_of_length_le (Nat.le_refl _)] at hown
    change OwnE H H' v (readI t) at hown
    obtain ⟨hsh, hrl⟩ := readI_short t (by omega)
    simp [h0, h7, h37, h38, h39]
    refine cg_use (implBlockText_ok hE.tab v (readI t) H' hown.ents hsh (by omega)) ?_
    simp [h0, h7]
    refine c_split (fun hq4 => ?_) (fun hq4 => ?_) <;> simp at hq4
    · simp
      exact BlockV.bad hle (BlockIs.no (fun q h1 h2 => by rw [← h2]; exact (readI_block h1).2) hq4)
    · simp [h7]
      refine cg_ex (cloneRun_ok v (readI t) H' hown.ents (by omega)) ?_
      rintro w H3 ⟨hle3, hw⟩
      simp
      refine ⟨hle.trans hle3, w, readI t, true, rfl, .inl ⟨rfl, fun h0 => ?_, hq4⟩, hw.1, fun o ho => Nat.le_trans hle.1 (hw.2 o ho)⟩
      have : t.data.toList = [] := List.eq_nil_of_length_eq_zero (by rw [ls_size]; exact h0)
      have := cutI_free (c := 33) (s := t) (by rw [this]; simp)
      rw [this] at hq
      cases hq

end Go.Proofs.YtiecldkihdebiaaDoor.B

namespace Go.Proofs.YtiecldkihdebiaaDoor.B
open Go.RowKit Go.Proofs
set_option linter.unusedVariables false
set_option linter.unusedSimpArgs false
variable {E : Env}

theorem toList_inj' {x y : ByteArray} (h : x.toList = y.toList) : x = y := by
  have := toList_beq x y
  rw [h] at this
  simpa using this.symm
theorem ltRuns_ok (a b : AV) (xs ys : List Ent) (H : Hp) (ha : Ents H a xs) (hb : Ents H b ys) (hx : xs.length < 9223372036854775807) : AC Tryd.prog E 27 [a, b] H (fun v H' => v = .bool (decide (xs = ys)) ∧ H' = H) := by
  refine AC_byp (CLe.refl _) h_laws_ltRuns (by simp) ?_
  have l1 := ha.len
  have l2 := hb.len
  simp [c_laws_ltRuns, l1, l2, ha.slc, hb.slc]
  refine c_split (fun hq => ?_) (fun hq => ?_) <;> simp at hq <;> simp
  · intro h
    subst h
    exact hq rfl
  · refine W_for (fun k t H' => ∃ i : Nat, i + k = xs.length ∧ t 0 = a ∧ t 1 = b ∧ t 5 = .int .i64 i ∧ (∀ j : Nat, j < i → xs[j]? = ys[j]?) ∧ HLe H H') xs.length ?_ AC_mono ?_
    · exact ⟨0, by simp⟩
    rintro k t H' ⟨i, hik, h0, h1, h5, hI, hle⟩
    simp [h0, h1, h5, l1, ha.slc]
    refine c_split (fun hq2 => ?_) (fun hq2 => ?_) <;> simp at hq2
    · have hw := wrapN (i := i) (by omega)
      obtain ⟨o1, i1, ob1, rfl, a1, a2, a3⟩ := (ha.le hle).get hq2
      obtain ⟨o2, i2, ob2, rfl, b1, b2, b3⟩ := (hb.le hle).get (j := i) (by omega)
      obtain ⟨m, hm⟩ : ∃ m, m = xs[i] := ⟨_, rfl⟩
      obtain ⟨n, hn⟩ : ∃ n, n = ys[i]'(by omega) := ⟨_, rfl⟩
      rw [← hm] at a3
      rw [← hn] at b3
      simp [h0, h1, h5, a1, a2, a3, b1, b2, b3, hq2, ← hq, entRow]
      refine c_split (fun hq3 => ?_) (fun hq3 => ?_) <;> simp at hq3 <;> simp [h0, h1, h5, hw, hle]
      · intro h
        subst h
        rw [← hn] at hm
        subst hm
        simp at hq3
      · refine ⟨k - 1, by omega, i + 1, by omega, by omega, fun j hj => ?_⟩
        rcases Nat.lt_or_ge j i with h | h
        · exact hI j h
        · have : j = i := by omega
          subst this
          rw [List.getElem?_eq_getElem hq2, List.getElem?_eq_getElem (by omega), ← hm, ← hn]
          obtain ⟨m1, m2, m3, m4⟩ := m
          obtain ⟨n1, n2, n3, n4⟩ := n
          simp at hq3 ⊢
          exact ⟨toList_inj' hq3.1, hq3.2.1, hq3.2.2.1, hq3.2.2.2⟩
    · simp [hle]
      apply List.ext_getElem?
      intro j
      rcases Nat.lt_or_ge j i with h | h
      · exact hI j h
      · rw [List.getElem?_eq_none (by omega), List.getElem?_eq_none (by omega)]
def Sm (n : Nat) (es : List Ent) : Prop := (∀ e ∈ es, e.key.size ≤ 6) ∧ es.length ≤ n
theorem Sm.add {n : Nat} {es : List Ent} (h : Sm n es) {e : Ent} (he : e.key.size ≤ 6) : Sm (n + 1) (es ++ [e]) := by
  refine ⟨fun x hx => ?_, by simpa using h.2⟩
  rcases List.mem_append.1 hx with hx | hx
  · exact h.1 x hx
  · rw [List.mem_singleton.1 hx]
    exact he
theorem Sm.mono {n m : Nat} {es : List Ent} (h : Sm n es) (hm : n ≤ m) : Sm m es := ⟨h.1, Nat.le_trans h.2 hm⟩
theorem Sm.short {n : Nat} {es : List Ent} (h : Sm n es) : Short es := fun e he => by have := h.1 e he; omega
theorem appG_dr {o : Nat} {H H3 : Hp} {v : AV} {es : List Ent} {e : Ent} {row : List AV} {C : CallP} {d : Option Nat} {ag : List (Option Nat × AOp × Option (Nat × Bool))} {p : Plan} {t : Tm} {K : Tm → Hp → Prop}
    (hv : OwnE H H3 v es) (hd : Dr o H H3) (hl : es.length ≤ 100000) (hr : row = entRow e)
    (hk : ∀ w H', OwnE H H' w (es ++ [e]) → Dr o H H' → againG ag (updO t d w) H' ∧ RgP C p (updO t d w) H' K) :
    appG v (.sl H3.length 0 1) 59 4 40 C d ag p t (H3 ++ [some ⟨[row], 4, 59, false⟩]) K := by
  subst hr
  have hh := hd.1
  exact appG_one hv.1 (by simp; omega) (fun w H' g1 g2 g3 => hk w H' ⟨by simpa using g1, fun x hx => (g3 x hx).elim (hv.2 x) (fun h => by omega)⟩ (hd.trans g2 (fun x hx => .inr (hv.2 x hx))))
theorem l71Off_ok (o N : Nat) (H : Hp) (hr : Rd H o N) (hN : N < 60000000000) :
    AC Tryd.prog E 55 [.pt o 0 0] H (fun v H' => ∃ es, OwnE H H' v es ∧ Sm 41 es ∧ Dr o H H') := by
  refine AC_by fol (tC_le tab2_ok) h_spec_l71Off ?_
  simp [c_spec_l71Off]
  refine cg_ex (l71Run_ok o N 10 H hr (by omega) (by omega)) ?_
  rintro v H1 ⟨es, hv, hok, hd1, hr1⟩
  obtain ⟨f1, f2, f3⟩ := runOk_fits hok
  have hsm : Sm 40 es := ⟨fun e he => by have := f3 e he; omega, by omega⟩
  have hol := hr.lt
  have nof : ∀ x, v.of x → x ≠ o := fun x hx e => by have := hv.2 x hx; omega
  simp
  refine cg_ex (pick_ok o _ 12 H1 hr1 (by omega) (by omega)) ?_
  rintro w H2 ⟨k, rfl, hk, hd2, hr2, hl2⟩
  have hv2 := hv.fr hd2 (fun x hx hs => nof x hx hs)
  have hd02 := hd1.trans hd2 (fun x hx => .inl hx)
  simp
  refine c_split (fun hq => ?_) (fun hq => ?_) <;> simp at hq
  · simp
    exact ⟨es, hv2, hsm.mono (by omega), hd02⟩
  simp
  refine cg_ex (pick_ok o _ 5 H2 hr2 (by omega) (by omega)) ?_
  rintro w H3 ⟨j, rfl, hj, hd3, hr3, hl3⟩
  have hv3 := hv2.fr hd3 (fun x hx hs => nof x hx hs)
  have hd03 := hd02.trans hd3 (fun x hx => .inl hx)
  have hln : es.length ≤ 100000 := by omega
  have b5 : (⟨#[100, 100, 100, 100, 100]⟩ : ByteArray).size ≤ 6 := by decide
  have b6 : (⟨#[100, 100, 100, 100, 100, 100]⟩ : ByteArray).size ≤ 6 := by decide
  have b0 : (⟨#[]⟩ : ByteArray).size ≤ 6 := by decide
  simp
  refine c_split (fun hq2 => ?_) (fun hq2 => ?_) <;> simp at hq2
  · simp
    refine appG_dr (e := ⟨⟨#[]⟩, 0, false, 1⟩) hv3 hd03 hln rfl (fun w H' g1 g2 => ?_)
    simp
    exact ⟨_, g1, hsm.add b0, g2⟩
  simp
  refine c_split (fun hq3 => ?_) (fun hq3 => ?_) <;> simp at hq3
  · simp
    refine appG_dr (e := ⟨⟨#[100, 100, 100, 100, 100, 100]⟩, 0, false, 1⟩) hv3 hd03 hln rfl (fun w H' g1 g2 => ?_)
    simp
    exact ⟨_, g1, hsm.add b6, g2⟩
  simp
  refine c_split (fun hq4 => ?_) (fun hq4 => ?_) <;> simp at hq4
  · simp
    refine appG_dr (e := ⟨⟨#[100, 100, 100, 100, 100]⟩, 100, false, 1⟩) hv3 hd03 hln rfl (fun w H' g1 g2 => ?_)
    simp
    exact ⟨_, g1, hsm.add b5, g2⟩
  simp
  refine c_split (fun hq5 => ?_) (fun hq5 => ?_) <;> simp at hq5
  · simp
    obtain ⟨L, hL⟩ : ∃ L : Hp, L = [some ⟨[[.int .i64 0], [.int .i64 1000]], 1, 3, false⟩] := ⟨_, rfl⟩
    rw [← hL]
    refine cg_ex (pick_ok o _ 2 _ (hr3.le (HLe.self H3 L)) (by omega) (by omega)) ?_
    rintro w H4 ⟨i, rfl, hi, hd4, hr4, hl4⟩
    have hv4 := (hv3.le (HLe.self H3 L)).fr hd4 (fun x hx hs => nof x hx hs)
    have hd04 := (hd03.trans (S' := fun x => x = o) (HLe.self H3 L).fr (fun x hx => .inl hx)).trans hd4 (fun x hx => .inl hx)
    have hh := hd03.1
    have b33 := hd4.2 H3.length _ (show ¬ H3.length = o by omega) (Hp.at_app_0.trans (by rw [hL]; exact Hp.at_0))
    have hrow : ∃ z, ([[.int .i64 0], [.int .i64 1000]] : List (List AV))[i]? = some [.int .i64 z] := by
      have : i = 0 ∨ i = 1 := by omega
      rcases this with rfl | rfl <;> exact ⟨_, rfl⟩
    obtain ⟨z, hz⟩ := hrow
    have hiI : (i : Int) < 2 := by omega
    simp [b33, hz, hiI]
    refine appG_dr (e := ⟨⟨#[100, 100, 100, 100, 100]⟩, 0, false, z⟩) hv4 hd04 hln rfl (fun w H' g1 g2 => ?_)
    simp
    exact ⟨_, g1, hsm.add b5, g2⟩
  simp
  refine appG_dr (e := ⟨⟨#[100, 100, 100, 100, 100]⟩, 1, true, 1⟩) hv3 hd03 hln rfl (fun w H' g1 g2 => ?_)
  simp
  exact ⟨_, g1, hsm.add b5, g2⟩

theorem DrawBlockText_ok (c : AV) (bs : List Int) (H : Hp) (hc : Bytes H c bs) (hn : bs.length < 4611686018427387904) :
    AC Tryd.prog E 24 [c] H (fun v H' => ∃ es, OwnE H H' v es ∧ Sm 41 es ∧ HLe H H') := by
  refine AC_by fol (tC_le tab2_ok) h_spec_DrawBlockText ?_
  simp [c_spec_DrawBlockText]
  refine cg_ex (l6Open_ok c bs H hc hn) ?_
  rintro v H1 ⟨o, rfl, ho, hle1, hr1⟩
  simp
  refine cg_ex (pick_ok o _ 12 H1 hr1 (by omega) (by omega)) ?_
  rintro w H2 ⟨k, rfl, hk, hd2, hr2, hl2⟩
  have hle2 := hle1.fr_le hd2 (fun x hx => by omega)
  simp
  refine c_split (fun hq => ?_) (fun hq => ?_) <;> simp at hq
  · simp
    refine W_for (fun m t H' => ∃ (i : Nat) (es : List Ent) (v : AV), i + m = 36 ∧ t 4 = v ∧ t 5 = .int .i64 i ∧ HLe H H' ∧ OwnE H H' v es ∧ Sm i es) 36 ?_ (tC_mono AC_mono) ?_
    · exact ⟨0, [], .sl H2.length 0 0, by omega, by simp, by simp, hle2.app _, OwnM.lit0 hle2, fun e he => (by cases he), Nat.le_refl _⟩
    rintro m t H' ⟨i, es, v, him, h4, h5, hle, hv, hsm⟩
    have hw := wrapN (i := i) (by omega)
    have hwt : IntKind.i64.wrap (900 - (i : Int)) = 900 - (i : Int) := wrap64 (by omega) (by omega)
    have hsl := hsm.2
    simp [h4, h5]
    refine c_split (fun hq2 => ?_) (fun hq2 => ?_) <;> simp at hq2
    · simp [h4, h5, hw, hwt]
      refine appG_add (y := ⟨⟨#[100, 100, 100, 100, 100]⟩, 99, false, 900 - (i : Int)⟩) (bytes := 40) (row := entRow) (H0 := H) hv hle (by omega) rfl (fun v5 H5 g1 g2 g3 g4 => ?_)
      simp [h5, hw]
      exact ⟨m - 1, by omega, i + 1, by omega, by omega, g1, _, g2, hsm.add (show (⟨#[100, 100, 100, 100, 100]⟩ : ByteArray).size ≤ 6 by decide)⟩
    · simp [h4]
      exact ⟨es, hv, hsm.mono (by omega), hle⟩
  · simp
    refine cg_ex (l71Off_ok o _ H2 hr2 (by omega)) ?_
    rintro v H3 ⟨es, hv, hsm, hd3⟩
    have hh := hle2.1
    simp
    exact ⟨es, ⟨hv.1, fun x hx => by have := hv.2 x hx; omega⟩, hsm, hle2.fr_le hd3 (fun x hx => by omega)⟩

end Go.Proofs.YtiecldkihdebiaaDoor.B

namespace Go.Proofs.YtiecldkihdebiaaDoor.B
open Go.RowKit Go.Proofs
set_option linter.unusedVariables false
set_option linter.unusedSimpArgs false

theorem runText_eq {r q : List Ent} (h : lines q = lines r) : runText q = runText r := ls_inj (by rw [runText_ls, runText_ls, h])
theorem torn {r q : List Ent} (hr : (blockT r).size ≠ 0) {n : Nat} (hn : n < (blockT r).size) (hq : blockT q = (blockT r).extract 0 n) : ((blockT r).extract 0 n).size = 0 := by
  rcases Nat.eq_zero_or_pos ((blockT r).extract 0 n).size with h0 | h0
  · exact h0
  exfalso
  have hq0 : (blockT q).size ≠ 0 := by rw [hq]; omega
  obtain ⟨r1, r2, r3⟩ := blockT_ls hr
  obtain ⟨q1, q2, q3⟩ := blockT_ls hq0
  have hl : (blockT r).data.toList.length = (blockT r).size := Array.length_toList
  have e1 : (blockT q).data.toList = (blockT r).data.toList.take n := by rw [hq, extract_ls, List.drop_zero]
  have e2 : (blockT q).data.toList ++ (blockT r).data.toList.drop n = (blockT r).data.toList := by rw [e1, List.take_append_drop]
  have hd : ((blockT r).data.toList.drop n).length ≠ 0 := by rw [List.length_drop]; omega
  generalize (blockT r).data.toList.drop n = rest at e2 hd
  rw [q1, r1, List.append_assoc] at e2
  obtain ⟨g1, g2⟩ := cut_at q2 r2 (.inr ⟨_, rfl⟩) (.inr ⟨_, rfl⟩) e2
  rw [runText_eq g1] at g2
  have := congrArg List.length g2
  simp at this
  exact hd (by rw [this]; rfl)
theorem byte_ls (s : ByteArray) (i : Nat) (hi : i < s.size) (c : UInt8) : (s.extract 0 i ++ lit1 c ++ s.extract (i + 1) s.size).data.toList = s.data.toList.set i c := by
  have hl : s.data.toList.length = s.size := Array.length_toList
  rw [ls_app, ls_app, extract_ls, extract_ls, lit1_ls, List.drop_zero, List.set_eq_take_append_cons_drop, if_pos (by omega)]
  have e : s.data.toList.take s.size = s.data.toList := List.take_of_length_le (by omega)
  rw [e]
  simp
theorem other {r q : List Ent} (hr : (blockT r).size ≠ 0) {i : Nat} (hi : i < (blockT r).size) {c : UInt8} (hc : 97 ≤ c.toNat) (hne : (c.toNat : Int) ≠ bt (blockT r) i)
    (hq : blockT q = (blockT r).extract 0 i ++ lit1 c ++ (blockT r).extract (i + 1) (blockT r).size) : ((blockT r).extract 0 i ++ lit1 c ++ (blockT r).extract (i + 1) (blockT r).size).size = 0 := by
  rcases Nat.eq_zero_or_pos ((blockT r).extract 0 i ++ lit1 c ++ (blockT r).extract (i + 1) (blockT r).size).size with h0 | h0
  · exact h0
  exfalso
  have hq0 : (blockT q).size ≠ 0 := by rw [hq]; omega
  obtain ⟨r1, r2, r3⟩ := blockT_ls hr
  obtain ⟨q1, q2, q3⟩ := blockT_ls hq0
  have hl : (blockT r).data.toList.length = (blockT r).size := Array.length_toList
  have e1 := byte_ls (blockT r) i hi c
  rw [← hq, q1, r1, List.set_append] at e1
  have hbr := sumB_bound (runText r)
  have hbq := sumB_bound (runText q)
  have c33 : c ≠ 33 := fun e => by rw [e] at hc; exact absurd hc (by decide)
  split at e1
  · rename_i hi2
    have hno : ∀ u ∈ (lines r).set i c, u ≠ 33 := fun u hu => by
      rcases List.mem_or_eq_of_mem_set hu with h | h
      · exact r2 u h
      · rw [h]; exact c33
    obtain ⟨g1, g2⟩ := cut_at q2 hno (.inr ⟨_, rfl⟩) (.inr ⟨_, rfl⟩) e1
    injection g2 with _ g2
    have gs := dec_inj hbq.1 hbr.1 g2
    have hts : (runText r).data.toList.length = (runText r).size := Array.length_toList
    have hti : i < (runText r).size := by rw [← hts, runText_ls]; exact hi2
    have hbt : bt (blockT r) i = bt (runText r) i := by
      rw [bt_at (by omega), bt_at (by omega)]
      have a1 : (blockT r).data.toList[i]? = (runText r).data.toList[i]? := by
        rw [r1, runText_ls, List.getElem?_append_left hi2]
      rw [List.getElem?_eq_getElem (by omega), List.getElem?_eq_getElem (by omega)] at a1
      rw [Option.some.inj a1]
    have hso := sumB_other (runText r) i hti c (by rw [← hbt]; exact hne)
    have : runText q = (runText r).extract 0 i ++ lit1 c ++ (runText r).extract (i + 1) (runText r).size := ls_inj (by rw [byte_ls _ _ hti, runText_ls, runText_ls, g1])
    rw [this] at gs
    exact hso gs
  · rename_i hi2
    obtain ⟨j, hj⟩ : ∃ j, j = i - (lines r).length := ⟨_, rfl⟩
    rw [← hj] at e1
    cases j with
    | zero =>
      have h33 : (33 : UInt8) ∈ lines r ++ (33 :: (dec (sumB (runText r))).data.toList).set 0 c := by
        rw [← e1]
        simp
      rcases List.mem_append.1 h33 with h | h
      · exact r2 33 h rfl
      · rw [List.set_cons_zero] at h
        rcases List.mem_cons.1 h with h | h
        · exact c33 h.symm
        · have := dec_space hbr.1 33 h
          exact absurd this.1 (by decide)
    | succ j =>
      rw [List.set_cons_succ] at e1
      obtain ⟨g1, g2⟩ := cut_at q2 r2 (.inr ⟨_, rfl⟩) (.inr ⟨_, rfl⟩) e1
      injection g2 with _ g2
      have hlen : (blockT r).size = (lines r).length + ((dec (sumB (runText r))).data.toList.length + 1) := by
        rw [← hl, r1, List.length_append, List.length_cons]
      have hmem : c ∈ (dec (sumB (runText q))).data.toList := by
        rw [g2]
        exact List.mem_set (by omega) c
      have := dec_space hbq.1 c hmem
      omega

end Go.Proofs.YtiecldkihdebiaaDoor.B

namespace Go.Proofs.YtiecldkihdebiaaDoor.B
open Go.RowKit Go.Proofs
set_option linter.unusedVariables false
set_option linter.unusedSimpArgs false
variable {E : Env}

def dEnd : CC := (.seq (.seq (.plan (.st (some 64) (.lda 3 (.t 5)) none [] (.st (some 65) (.call 16 [(.t 64)]) none [] (.st (some 66) (.mv (.t 0)) none [] (.st (some 67) (.bin .neq (.t 65) (.t 66)) none [] .fin))))) (.cond (.t 67) (.seq (.plan (.st (some 68) (.build [(.int .i64 0), (.str ⟨#[]⟩), (.int .i64 0)] []) none [] (.st none (.st 3 (.t 2) (.t 68)) none [] (.st (some 3) (.mv (.c (.bool false))) none [] .fin)))) .ret) .skip)) (.seq (.plan (.st (some 69) (.lda 3 (.t 5)) none [] (.st none (.st 3 (.t 2) (.t 69)) none [] (.st (some 3) (.mv (.c (.bool true))) none [] .fin)))) .ret))
def dCnt : CC := (.seq (.seq (.plan (.st (some 51) (.fa 0 (.t 5)) none [] (.st (some 52) (.ld (.t 51)) none [] (.st (some 53) (.call 38 [(.t 52)]) none [] (.st (some 54) (.mv (.t 53)) none [] (.st (some 55) (.mv (.t 8)) (some (54, true)) [] (.st (some 56) (.len (.t 55)) (some (54, true)) [] (.st (some 57) (.bin .gtr (.t 56) (.c (.int .i64 0))) (some (54, true)) [] (.st (some 58) (.pick (.t 54) (.t 57) (.c (.bool false))) none [] .fin))))))))) (.cond (.t 58) (.plan (.st (some 59) (.mv (.t 8)) none [] (.st (some 60) (.ia 1 (.t 59) (.c (.int .i64 0))) none [] (.st (some 61) (.ld (.t 60)) none [] (.st (some 62) (.call 39 [(.t 61)]) none [] (.st (some 63) (.fa 2 (.t 5)) none [] (.st none (.st 1 (.t 63) (.t 62)) none [] .fin))))))) .skip)) dEnd)
def dKey : CC := (.seq (.plan (.st (some 34) (.mv (.t 4)) none [] (.st (some 35) (.cut 1 (.t 34) (some (.c (.int .i64 1))) none) none [] (.st (some 8) (.mv (.t 35)) none [] .fin)))) (.seq (.seq (.plan (.st (some 36) (.fa 0 (.t 5)) none [] (.st (some 37) (.ld (.t 36)) none [] (.st (some 38) (.call 36 [(.t 37)]) none [] (.st (some 39) (.mv (.t 38)) none [] (.st (some 40) (.mv (.t 8)) (some (39, true)) [] (.st (some 41) (.len (.t 40)) (some (39, true)) [] (.st (some 42) (.bin .gtr (.t 41) (.c (.int .i64 0))) (some (39, true)) [] (.st (some 43) (.pick (.t 39) (.t 42) (.c (.bool false))) none [] .fin))))))))) (.cond (.t 43) (.seq (.plan (.st (some 44) (.mv (.t 8)) none [] (.st (some 45) (.ia 1 (.t 44) (.c (.int .i64 0))) none [] (.st (some 46) (.ld (.t 45)) none [] (.st (some 47) (.call 37 [(.t 46), (.c (.str ⟨#[46]⟩))]) none [] (.st (some 48) (.fa 1 (.t 5)) none [] (.st none (.st 1 (.t 48) (.t 47)) none [] .fin))))))) (.plan (.st (some 49) (.mv (.t 8)) none [] (.st (some 50) (.cut 1 (.t 49) (some (.c (.int .i64 1))) none) none [] (.st (some 8) (.mv (.t 50)) none [] .fin))))) .skip)) dCnt))
theorem e_impl_DeedRead : c_impl_DeedRead = ⟨70, (.seq (.plan (.st (some 2) (.alloc 23 [(.int .i64 0), (.str ⟨#[]⟩), (.int .i64 0)]) none [] (.st (some 3) (.mv (.c (.bool false))) none [] .fin))) (.seq (.plan (.st (some 9) (.mv (.t 0)) none [] (.st (some 10) (.call 34 [(.t 9), (.c (.str ⟨#[32]⟩))]) none [] (.st (some 4) (.mv (.t 10)) none [] .fin)))) (.seq (.seq (.plan (.st (some 11) (.mv (.t 0)) none [] (.st (some 12) (.bin .eql (.t 11) (.c (.str ⟨#[]⟩))) none [] (.st (some 13) (.mv (.t 12)) none [] (.st (some 14) (.mv (.t 0)) (some (13, false)) [] (.st (some 15) (.lns (.t 14)) (some (13, false)) [] (.st (some 16) (.bin .gtr (.t 15) (.c (.int .i64 40))) (some (13, false)) [] (.st (some 17) (.pick (.t 13) (.c (.bool true)) (.t 16)) none [] .fin)))))))) (.cond (.t 17) (.seq (.plan (.st (some 18) (.build [(.int .i64 0), (.str ⟨#[]⟩), (.int .i64 0)] []) none [] (.st none (.st 3 (.t 2) (.t 18)) none [] (.st (some 3) (.mv (.c (.bool false))) none [] .fin)))) .ret) .skip)) (.seq (.plan (.st (some 5) (.alloc 23 [(.int .i64 0), (.str ⟨#[]⟩), (.int .i64 0)]) none [] .fin)) (.seq (.seq (.plan (.st (some 19) (.call 35 []) none [] (.st (some 20) (.len (.t 19)) none [] (.st (some 21) (.mv (.c (.int .i64 0))) none [] .fin)))) (.block 0 (.loop (.seq (.plan (.st (some 22) (.bin .lss (.t 21) (.t 20)) none [] .fin)) (.seq (.cond (.t 22) .skip (.exit 0)) (.seq (.block 1 (.seq (.plan (.st (some 23) (.mv (.t 21)) none [] (.st (some 24) (.ia 1 (.t 19) (.t 21)) none [] (.st (some 25) (.ld (.t 24)) none [] (.st (some 6) (.mv (.t 23)) none [] (.st (some 7) (.mv (.t 25)) none [] .fin)))))) (.seq (.plan (.st (some 26) (.mv (.t 7)) none [] (.st (some 27) (.mv (.t 4)) none [] (.st (some 28) (.ia 1 (.t 27) (.c (.int .i64 0))) none [] (.st (some 29) (.ld (.t 28)) none [] (.st (some 30) (.bin .eql (.t 26) (.t 29)) none [] .fin)))))) (.cond (.t 30) (.plan (.st (some 31) (.mv (.t 6)) none [] (.st (some 32) (.fa 0 (.t 5)) none [] (.st none (.st 1 (.t 32) (.t 31)) none [] .fin)))) .skip)))) (.plan (.st (some 33) (.bin .add (.t 21) (.c (.int .i64 1))) none [] (.st (some 21) (.mv (.t 33)) none [] .fin))))))))) dKey))))), [(.ca 2 3), (.t 3)]⟩ := rfl
theorem dEnd_ok (hE : LibE E) {Q : Ex → Tm → Hp → Prop} {t : Tm} {H H0 : Hp} {o2 o5 : Nat} {s : ByteArray} (d : Dd)
    (t0 : t 0 = .str s) (t2 : t 2 = .pt o2 0 0) (t5 : t 5 = .pt o5 0 0) (hle : HLe H0 H) (n2 : H0.length ≤ o2) (n25 : o2 ≠ o5)
    (b2 : H.at o2 = some ⟨[[.int .i64 0, .str ⟨#[]⟩, .int .i64 0]], 3, 23, false⟩)
    (b5 : H.at o5 = some ⟨[[.int .i64 d.kind, .str d.key, .int .i64 d.num]], 3, 23, false⟩)
    (hk : d.key.size < 4611686018427387904) (hs0 : s.size ≠ 0) (hs : s.size ≤ 40) (hc : ∀ e, deedOk e = true → deedT e = s → d = e)
    (hQ : ∀ t' H' d' ok, t' 2 = .pt o2 0 0 → t' 3 = .bool ok → HLe H0 H' → H'.at o2 = some ⟨[[.int .i64 d'.kind, .str d'.key, .int .i64 d'.num]], 3, 23, false⟩ → DeedIs s d' ok → Q .ret t' H') :
    W (tC tabI (AC Tryd.prog E)) dEnd Q t H := by
  have u2 := Hp.at_lt b2
  simp [dEnd, t0, t2, t5, b2, b5]
  refine cg_use (implDeedText_ok hE.tab d H hk) ?_
  simp [t0, t2, t5]
  refine c_split (fun hq => ?_) (fun hq => ?_) <;> simp at hq
  · simp [t0, t2, t5, b2, b5]
    exact hQ _ _ dd0 false (by simp [t2]) (by simp) (hle.set n2 _) (Hp.at_set _ u2) (DeedIs.no hc hq)
  · simp [t0, t2, t5, b2, b5]
    exact hQ _ _ d true (by simp [t2]) (by simp) (hle.set n2 _) (Hp.at_set _ u2) (.inl ⟨rfl, hs0, hs, hq⟩)

def numD (k : Int) (rest : List ByteArray) : Int := if (dCounted k && !rest.isEmpty) = true then numI (rest.headD ⟨#[]⟩) else 0
theorem dCnt_ok (hE : LibE E) {Q : Ex → Tm → Hp → Prop} {t : Tm} {H H0 : Hp} {o2 o5 : Nat} {s key : ByteArray} {k : Int} {rv : AV} {rest : List ByteArray}
    (t0 : t 0 = .str s) (t2 : t 2 = .pt o2 0 0) (t5 : t 5 = .pt o5 0 0) (t8 : t 8 = rv) (hr : Strs H rv rest) (hrs : ∀ x ∈ rest, x.size ≤ 281474976710656) (hle : HLe H0 H) (n2 : H0.length ≤ o2) (n5 : H0.length ≤ o5) (n25 : o2 ≠ o5)
    (b2 : H.at o2 = some ⟨[[.int .i64 0, .str ⟨#[]⟩, .int .i64 0]], 3, 23, false⟩)
    (b5 : H.at o5 = some ⟨[[.int .i64 k, .str key, .int .i64 0]], 3, 23, false⟩)
    (hk : key.size < 4611686018427387904) (hs0 : s.size ≠ 0) (hs : s.size ≤ 40) (hc : ∀ e, deedOk e = true → deedT e = s → (⟨k, key, numD k rest⟩ : Dd) = e)
    (hQ : ∀ t' H' d' ok, t' 2 = .pt o2 0 0 → t' 3 = .bool ok → HLe H0 H' → H'.at o2 = some ⟨[[.int .i64 d'.kind, .str d'.key, .int .i64 d'.num]], 3, 23, false⟩ → DeedIs s d' ok → Q .ret t' H') :
    W (tC tabI (AC Tryd.prog E)) dCnt Q t H := by
  have u2 := Hp.at_lt b2
  have u5 := Hp.at_lt b5
  have dc : dCounted k = (decide (k = 1) || (decide (k = 4) || decide (k = 6))) := by simp [dCounted]
  simp [dCnt, t0, t2, t5, t8, b2, b5]
  refine g_split (fun hq => ?_) (fun hq => ?_) (by simp)
  · rw [← dc] at hq
    cases hrest : rest with
    | nil =>
      subst hrest
      have hl : lenV rv = .int .i64 0 := by simpa using hr.len
      simp [t8, hl, hr.slc]
      refine dEnd_ok (H0 := H0) hE ⟨k, key, 0⟩ (by simp [t0]) (by simp [t2]) (by simp [t5]) hle n2 n25 b2 b5 hk hs0 hs (fun e h1 h2 => ?_) hQ
      simpa [numD] using hc e h1 h2
    | cons x xs =>
      subst hrest
      obtain ⟨o, i, ob, rfl, a1, a2, a3⟩ := hr.get (j := 0) (by simp)
      have hl := hr.len
      simp at hl a3
      simp [t8, hl, a1, a2, a3]
      refine cg_use (number_ok hE x H (hrs x (by simp))) ?_
      simp [t5, b5]
      refine dEnd_ok (H0 := H0) hE ⟨k, key, numI x⟩ (by simp [t0]) (by simp [t2]) (by simp [t5]) (hle.set n5 _) n2 n25 (by rw [Hp.at_set_ne (Ne.symm n25)]; exact b2) (Hp.at_set _ u5) hk hs0 hs (fun e h1 h2 => ?_) hQ
      simpa [numD, hq] using hc e h1 h2
  · rw [← dc] at hq
    simp [t8]
    refine dEnd_ok (H0 := H0) hE ⟨k, key, 0⟩ (by simp [t0]) (by simp [t2]) (by simp [t5]) hle n2 n25 b2 b5 hk hs0 hs (fun e h1 h2 => ?_) hQ
    simpa [numD, hq] using hc e h1 h2

def keyD (k : Int) (rest : List ByteArray) : ByteArray := if (dKeyed k && !rest.isEmpty) = true then trimP (rest.headD ⟨#[]⟩) else ⟨#[]⟩
def restD (k : Int) (rest : List ByteArray) : List ByteArray := if (dKeyed k && !rest.isEmpty) = true then rest.tail else rest
theorem trimP_size (x : ByteArray) : (trimP x).size ≤ x.size := by
  have h1 : (trimP x).size = (Lib.trimPrefix x.data.toList [46]).length := by
    show (Lib.trimPrefix x.data.toList [46]).toArray.size = _
    simp
  have h2 : x.data.toList.length = x.size := Array.length_toList
  rw [h1, ← h2]
  unfold Lib.trimPrefix
  split
  · rw [List.length_drop]
    omega
  · exact Nat.le_refl _
theorem dKey_ok (hE : LibE E) {Q : Ex → Tm → Hp → Prop} {t : Tm} {H H0 : Hp} {o2 o5 ow : Nat} {s : ByteArray} {k : Int} {ws : List ByteArray}
    (t0 : t 0 = .str s) (t2 : t 2 = .pt o2 0 0) (t5 : t 5 = .pt o5 0 0) (t4 : t 4 = .sl ow 0 ws.length) (hrs : ∀ x ∈ ws, x.size ≤ 281474976710656) (hle : HLe H0 H) (n2 : H0.length ≤ o2) (n5 : H0.length ≤ o5) (n25 : o2 ≠ o5) (n5w : o5 ≠ ow) (hw1 : ws ≠ [])
    (b2 : H.at o2 = some ⟨[[.int .i64 0, .str ⟨#[]⟩, .int .i64 0]], 3, 23, false⟩)
    (b5 : H.at o5 = some ⟨[[.int .i64 k, .str ⟨#[]⟩, .int .i64 0]], 3, 23, false⟩)
    (bw : H.at ow = some ⟨ws.map strRow, 1, 9, false⟩)
    (hs0 : s.size ≠ 0) (hs : s.size ≤ 40) (hc : ∀ e, deedOk e = true → deedT e = s → (⟨k, keyD k ws.tail, numD k (restD k ws.tail)⟩ : Dd) = e)
    (hQ : ∀ t' H' d' ok, t' 2 = .pt o2 0 0 → t' 3 = .bool ok → HLe H0 H' → H'.at o2 = some ⟨[[.int .i64 d'.kind, .str d'.key, .int .i64 d'.num]], 3, 23, false⟩ → DeedIs s d' ok → Q .ret t' H') :
    W (tC tabI (AC Tryd.prog E)) dKey Q t H := by
  have u2 := Hp.at_lt b2
  have u5 := Hp.at_lt b5
  obtain ⟨w, rest, rfl⟩ : ∃ w rest, ws = w :: rest := by
    cases ws with
    | nil => exact absurd rfl hw1
    | cons w rest => exact ⟨w, rest, rfl⟩
  have dk : dKeyed k = (decide (k = 1) || decide (k = 2)) := by simp [dKeyed]
  have hws : Strs H (.sl ow 0 (w :: rest).length) (w :: rest) := .inr (.inr ⟨ow, 0, _, by simp, bw, rfl, by simp, by rw [List.drop_zero, List.take_of_length_le (by simp)]; rfl⟩)
  simp [dKey, t0, t2, t5, t4, b2, b5, bw]
  refine cutG_from hws 1 rfl (by simp) (fun u w1 w2 => ?_)
  have hu : Strs H u rest := w1
  simp [t5, b5]
  refine g_split (fun hq => ?_) (fun hq => ?_) (by simp)
  · rw [← dk] at hq
    cases hrest : rest with
    | nil =>
      subst hrest
      have hl : lenV u = .int .i64 0 := by simpa using hu.len
      simp [hl, hu.slc]
      refine dCnt_ok (H0 := H0) hE (by simp [t0]) (by simp [t2]) (by simp [t5]) (by simp) hu (by simp) hle n2 n5 n25 b2 b5 (by decide) hs0 hs (fun e h1 h2 => ?_) hQ
      simpa [keyD, restD] using hc e h1 h2
    | cons x xs =>
      subst hrest
      obtain ⟨o, i, ob, rfl, a1, a2, a3⟩ := hu.get (j := 0) (by simp)
      have hl := hu.len
      simp at hl a3
      simp [hl, a1, a2, a3]
      refine cg_use (TrimPrefix_ok x H) ?_
      simp [t5, b5]
      have hu2 := Rows.fr hu (Fr.one H o5 (some ⟨[[.int .i64 k, .str (trimP x), .int .i64 0]], 3, 23, false⟩)) (fun y hy hS => n5w (hS.symm.trans (w2 y hy).symm))
      refine cutG_from hu2 1 rfl (by simp) (fun v w3 w4 => ?_)
      simp
      have hv : Strs _ v xs := w3
      have hts := trimP_size x
      have hx := hrs x (by simp)
      refine dCnt_ok (H0 := H0) hE (by simp [t0]) (by simp [t2]) (by simp [t5]) (by simp) hv (fun y hy => hrs y (by simp [hy])) (hle.set n5 _) n2 n5 n25 (by rw [Hp.at_set_ne (Ne.symm n25)]; exact b2) (Hp.at_set _ u5) (by omega) hs0 hs (fun e h1 h2 => ?_) hQ
      simpa [keyD, restD, hq] using hc e h1 h2
  · rw [← dk] at hq
    simp
    refine dCnt_ok (H0 := H0) hE (by simp [t0]) (by simp [t2]) (by simp [t5]) (by simp) hu (fun y hy => hrs y (by simp [hy])) hle n2 n5 n25 b2 b5 (by decide) hs0 hs (fun e h1 h2 => ?_) hQ
    simpa [keyD, restD, hq] using hc e h1 h2

theorem candI_eq (w : ByteArray) (rest : List ByteArray) : candI (w :: rest) = ⟨kindN w 7, keyD (kindN w 7) rest, numD (kindN w 7) (restD (kindN w 7) rest)⟩ := rfl
theorem kSplit_size (c : UInt8) (s : ByteArray) : ∀ x ∈ kSplit c s, x.size ≤ s.size := by
  have h : ∀ (k : Nat) (s : ByteArray), ∀ x ∈ Lib.splitB ⟨#[c]⟩ 0 k s, x.size ≤ s.size := by
    intro k
    induction k with
    | zero =>
      intro s x hx
      rw [Lib.splitB_zero] at hx
      rw [List.mem_singleton.1 hx]
      exact Nat.le_refl _
    | succ k ih =>
      intro s x hx
      unfold Lib.splitB at hx
      split at hx
      · rw [List.mem_singleton.1 hx]
        exact Nat.le_refl _
      · rcases List.mem_cons.1 hx with rfl | hx
        · rw [ByteArray.size_extract]
          omega
        · have := ih _ x hx
          rw [ByteArray.size_extract] at this
          omega
  exact h _ s
def DeedV (s : ByteArray) (v : AV) : Prop := ∃ d ok, v = .tu [ddAV d, .bool ok] ∧ DeedIs s d ok
theorem implDeedRead_ok (hE : LibE E) (s : ByteArray) (H : Hp) (hs : s.size < 4294967281) : AC Tryd.prog E 13 [.str s] H (fun v H' => H' = H ∧ DeedV s v) := by
  suffices h : AC Tryd.prog E 13 [.str s] H (fun v H' => HLe H H' ∧ DeedV s v) by
    refine AC.gc (h.mono (fun v H' e => ⟨e.1, ?_, rfl, e.2⟩))
    obtain ⟨_, d, ok, rfl, _⟩ := e
    rfl
  refine AC_by fol (tC_le tabI_ok) h_impl_DeedRead ?_
  simp [e_impl_DeedRead]
  refine cg_use (Split_ok hE s 32 _ (by omega)) ?_
  have hwl := kSplit_len 32 s
  obtain ⟨w, rest, hws⟩ : ∃ w rest, kSplit 32 s = w :: rest := by
    cases h : kSplit 32 s with
    | nil => rw [h] at hwl; simp at hwl
    | cons w rest => exact ⟨w, rest, rfl⟩
  obtain ⟨H1, hH1⟩ : ∃ H1 : Hp, H1 = H ++ [some ⟨[[.int .i64 0, .str ⟨#[]⟩, .int .i64 0]], 3, 23, false⟩, some ⟨(kSplit 32 s).map strRow, 1, 9, false⟩] := ⟨_, rfl⟩
  have hl1 : H1.length = H.length + 2 := by rw [hH1]; simp
  have hle1 : HLe H H1 := by rw [hH1]; exact HLe.self _ _
  have b2 : H1.at H.length = some ⟨[[.int .i64 0, .str ⟨#[]⟩, .int .i64 0]], 3, 23, false⟩ := by rw [hH1, Hp.at_app_0, Hp.at_0]
  have bw : H1.at (H.length + 1) = some ⟨(kSplit 32 s).map strRow, 1, 9, false⟩ := by rw [hH1, Hp.at_app_ge, Hp.at_s, Hp.at_0]
  have u2 := Hp.at_lt b2
  have none1 : (s.size = 0 ∨ 40 < s.size) → DeedIs s dd0 false := fun h => .inr ⟨rfl, rfl, fun e he h40 => by omega⟩
  have none2 : (s.size = 0 ∨ 40 < s.size) → DeedV s (.tu [.ag [.int .i64 0, .str ⟨#[]⟩, .int .i64 0], .bool false]) := fun h => ⟨dd0, false, rfl, none1 h⟩
  simp [← hH1]
  refine g_split (fun hq => ?_) (fun hq => ?_) (by simp) <;> simp at hq
  · simp [b2, Hp.at_set _ u2]
    exact ⟨hle1.set (Nat.le_refl _) _, none2 (.inl (by rw [hq]; rfl))⟩
  simp
  refine c_split (fun hq2 => ?_) (fun hq2 => ?_) <;> simp at hq2
  · simp [b2, Hp.at_set _ u2]
    exact ⟨hle1.set (Nat.le_refl _) _, none2 (.inr (by omega))⟩
  have hs0 : s.size ≠ 0 := fun h => hq (ls_inj (List.eq_nil_of_length_eq_zero (by rw [Array.length_toList]; exact h)))
  simp
  obtain ⟨H2, hH2⟩ : ∃ H2 : Hp, H2 = H1 ++ [some ⟨[[.int .i64 0, .str ⟨#[]⟩, .int .i64 0]], 3, 23, false⟩] := ⟨_, rfl⟩
  have hle2 : HLe H1 H2 := by rw [hH2]; exact HLe.self _ _
  have b5 : H2.at H1.length = some ⟨[[.int .i64 0, .str ⟨#[]⟩, .int .i64 0]], 3, 23, false⟩ := by rw [hH2, Hp.at_app_0, Hp.at_0]
  simp [← hH2]
  refine cg_use (deedWords_ok H2) ?_
  obtain ⟨H3, hH3⟩ : ∃ H3 : Hp, H3 = H2 ++ [some ⟨dWords.map strRow, 1, 9, false⟩] := ⟨_, rfl⟩
  have hle3 : HLe H2 H3 := by rw [hH3]; exact HLe.self _ _
  have b19 : H3.at H2.length = some ⟨dWords.map strRow, 1, 9, false⟩ := by rw [hH3, Hp.at_app_0, Hp.at_0]
  have hl2 : H2.length = H.length + 3 := by rw [hH2]; simp [hl1]
  have hl3 : H3.length = H.length + 4 := by rw [hH3]; simp [hl2]
  simp [← hH3]
  rw [hws] at bw ⊢
  refine W_for (fun m t H' => ∃ i : Nat, i + m = 7 ∧ t 0 = .str s ∧ t 2 = .pt H.length 0 0 ∧ t 4 = .sl (H.length + 1) 0 (w :: rest).length ∧ t 5 = .pt H1.length 0 0 ∧ t 19 = .sl H2.length 0 7 ∧ t 20 = .int .i64 7 ∧ t 21 = .int .i64 i ∧
    Fr (fun o => o = H1.length) H3 H' ∧ H'.at H1.length = some ⟨[[.int .i64 (kindN w i), .str ⟨#[]⟩, .int .i64 0]], 3, 23, false⟩) 7 ?_ (tC_mono AC_mono) ?_
  · exact ⟨0, by omega, by simp, by simp, by simp, by simp, by simp, by simp, by simp, Fr.refl _ _, hle3.2 _ _ b5⟩
  rintro m t H' ⟨i, him, h0, h2, h4, h5, h19, h20, h21, hfr, c5⟩
  have d2 : H'.at H.length = some ⟨[[.int .i64 0, .str ⟨#[]⟩, .int .i64 0]], 3, 23, false⟩ := hfr.2 _ _ (by omega) (hle3.2 _ _ (hle2.2 _ _ b2))
  have dw : H'.at (H.length + 1) = some ⟨(w :: rest).map strRow, 1, 9, false⟩ := hfr.2 _ _ (by omega) (hle3.2 _ _ (hle2.2 _ _ bw))
  have d19 : H'.at H2.length = some ⟨dWords.map strRow, 1, 9, false⟩ := hfr.2 _ _ (by omega) b19
  have u5 := Hp.at_lt c5
  simp [h0, h2, h4, h5, h19, h20, h21]
  refine c_split (fun hq3 => ?_) (fun hq3 => ?_) <;> simp at hq3
  · have hi : i < 7 := by omega
    have rk : (dWords.map strRow)[i]? = some [.str (dWord i)] := by
      have : i = 0 ∨ i = 1 ∨ i = 2 ∨ i = 3 ∨ i = 4 ∨ i = 5 ∨ i = 6 := by omega
      rcases this with rfl | rfl | rfl | rfl | rfl | rfl | rfl <;> rfl
    have hw := wrapN (i := i) (by omega)
    obtain ⟨m, rfl⟩ : ∃ k, m = k + 1 := ⟨m - 1, by omega⟩
    simp [h0, h2, h4, h5, h19, h20, h21, d19, dw, rk, hi, strRow]
    refine ⟨by omega, ?_⟩
    refine c_split (fun hq4 => ?_) (fun hq4 => ?_) <;> simp at hq4
    · simp [h0, h2, h4, h5, h19, h20, h21, c5, hw]
      refine ⟨m, by omega, i + 1, by omega, by omega, hfr.set (.inl rfl) _, ?_⟩
      rw [Hp.at_set _ u5, kindN, if_pos hq4]
    · simp [h0, h2, h4, h5, h19, h20, h21, c5, hw]
      refine ⟨m, by omega, i + 1, by omega, by omega, hfr, ?_⟩
      rw [kindN, if_neg hq4]
  · have : i = 7 := by omega
    subst this
    simp [h0, h2, h4, h5, h19, h20, h21]
    refine dKey_ok (H0 := H) (o2 := H.length) (o5 := H1.length) (ow := H.length + 1) (ws := w :: rest) (k := kindN w 7) hE (by simp [h0]) (by simp [h2]) (by simp [h5]) (by simp [h4]) (fun x hx => by have := kSplit_size 32 s x (by rw [hws]; exact hx); omega) (((hle1.trans hle2).trans hle3).fr_le hfr (fun o ho => by omega)) (Nat.le_refl _) (by omega) (by omega) (by omega) (by simp) d2 c5 dw hs0 (by omega) (fun e g1 g2 => ?_) (fun t' H4 d' ok g1 g2 g3 g4 g5 => ?_)
    · rw [List.tail_cons, ← candI_eq, ← hws]
      exact candI_deed g1 (by rw [kSplit_ls, g2])
    · simp [g1, g2, g4]
      exact ⟨g3, d', ok, rfl, g5⟩

end Go.Proofs.YtiecldkihdebiaaDoor.B

namespace Go.Proofs.YtiecldkihdebiaaDoor.B
open Go.RowKit Go.Proofs
set_option linter.unusedVariables false
set_option linter.unusedSimpArgs false
variable {E : Env}

def rEnd : CC := (.seq (.seq (.plan (.st (some 55) (.lda 3 (.t 5)) none [] (.st (some 56) (.call 17 [(.t 55)]) none [] (.st (some 57) (.mv (.t 0)) none [] (.st (some 58) (.bin .neq (.t 56) (.t 57)) none [] (.st (some 59) (.mv (.t 58)) none [] (.st (some 60) (.mv (.t 0)) (some (59, false)) [] (.st (some 61) (.bin .eql (.t 60) (.c (.str ⟨#[]⟩))) (some (59, false)) [] (.st (some 62) (.pick (.t 59) (.c (.bool true)) (.t 61)) none [] .fin))))))))) (.cond (.t 62) (.seq (.plan (.st (some 63) (.build [(.int .i64 0), (.str ⟨#[]⟩), (.int .i64 0)] []) none [] (.st none (.st 3 (.t 2) (.t 63)) none [] (.st (some 3) (.mv (.c (.bool false))) none [] .fin)))) .ret) .skip)) (.seq (.plan (.st (some 64) (.lda 3 (.t 5)) none [] (.st none (.st 3 (.t 2) (.t 64)) none [] (.st (some 3) (.mv (.c (.bool true))) none [] .fin)))) .ret))
theorem e_spec_DeedRead : c_spec_DeedRead = ⟨65, (.seq (.plan (.st (some 2) (.alloc 23 [(.int .i64 0), (.str ⟨#[]⟩), (.int .i64 0)]) none [] (.st (some 3) (.mv (.c (.bool false))) none [] .fin))) (.seq (.plan (.st (some 7) (.mv (.t 0)) none [] (.st (some 8) (.call 30 [(.t 7), (.c (.int .u8 32))]) none [] (.st (some 4) (.mv (.t 8)) none [] .fin)))) (.seq (.seq (.plan (.st (some 9) (.mv (.t 0)) none [] (.st (some 10) (.lns (.t 9)) none [] (.st (some 11) (.bin .gtr (.t 10) (.c (.int .i64 40))) none [] .fin)))) (.cond (.t 11) (.seq (.plan (.st (some 12) (.build [(.int .i64 0), (.str ⟨#[]⟩), (.int .i64 0)] []) none [] (.st none (.st 3 (.t 2) (.t 12)) none [] (.st (some 3) (.mv (.c (.bool false))) none [] .fin)))) .ret) .skip)) (.seq (.plan (.st (some 13) (.build [(.int .i64 0), (.str ⟨#[]⟩), (.int .i64 0)] []) none [] (.st (some 5) (.alloc 23 [(.int .i64 0), (.str ⟨#[]⟩), (.int .i64 0)]) none [] (.st none (.st 3 (.t 5) (.t 13)) none [] .fin)))) (.seq (.seq (.plan (.st (some 6) (.mv (.c (.int .i64 1))) none [] .fin)) (.block 0 (.loop (.seq (.seq (.plan (.st (some 14) (.mv (.t 6)) none [] (.st (some 15) (.bin .leq (.t 14) (.c (.int .i64 6))) none [] .fin))) (.cond (.t 15) .skip (.exit 0))) (.seq (.block 1 (.seq (.plan (.st (some 19) (.mv (.t 6)) none [] (.st (some 22) (.mv (.t 4)) none [] (.st (some 23) (.ia 1 (.t 22) (.c (.int .i64 0))) none [] (.st (some 24) (.ld (.t 23)) none [] (.st (some 18) (.call 31 []) none [((some 24), ((.ld (.t 23)), none)), ((some 23), ((.ia 1 (.t 22) (.c (.int .i64 0))), none))] (.st (some 20) (.ia 1 (.t 18) (.t 19)) none [] (.st (some 21) (.ld (.t 20)) none [] (.st (some 25) (.bin .eql (.t 21) (.t 24)) none [] .fin))))))))) (.cond (.t 25) (.plan (.st (some 26) (.mv (.t 6)) none [] (.st (some 27) (.fa 0 (.t 5)) none [] (.st none (.st 1 (.t 27) (.t 26)) none [] .fin)))) .skip))) (.plan (.st (some 16) (.mv (.t 6)) none [] (.st (some 17) (.bin .add (.t 16) (.c (.int .i64 1))) none [] (.st (some 6) (.mv (.t 17)) none [] .fin))))))))) (.seq (.seq (.plan (.st (some 28) (.mv (.t 4)) none [] (.st (some 29) (.len (.t 28)) none [] (.st (some 30) (.bin .gtr (.t 29) (.c (.int .i64 1))) none [] .fin)))) (.cond (.t 30) (.seq (.seq (.plan (.st (some 31) (.fa 0 (.t 5)) none [] (.st (some 32) (.ld (.t 31)) none [] (.st (some 33) (.bin .eql (.t 32) (.c (.int .i64 1))) none [] (.st (some 34) (.mv (.t 33)) none [] (.st (some 35) (.fa 0 (.t 5)) (some (34, false)) [] (.st (some 36) (.ld (.t 35)) (some (34, false)) [] (.st (some 37) (.bin .eql (.t 36) (.c (.int .i64 2))) (some (34, false)) [] (.st (some 38) (.pick (.t 34) (.c (.bool true)) (.t 37)) none [] .fin))))))))) (.cond (.t 38) (.plan (.st (some 39) (.mv (.t 4)) none [] (.st (some 40) (.ia 1 (.t 39) (.c (.int .i64 1))) none [] (.st (some 41) (.ld (.t 40)) none [] (.st (some 42) (.call 32 [(.t 41)]) none [] (.st (some 43) (.fa 1 (.t 5)) none [] (.st none (.st 1 (.t 43) (.t 42)) none [] .fin))))))) .skip)) (.seq (.plan (.st (some 44) (.fa 0 (.t 5)) none [] (.st (some 45) (.ld (.t 44)) none [] (.st (some 46) (.bin .neq (.t 45) (.c (.int .i64 2))) none [] .fin)))) (.cond (.t 46) (.plan (.st (some 47) (.mv (.t 4)) none [] (.st (some 48) (.mv (.t 4)) none [] (.st (some 49) (.len (.t 48)) none [] (.st (some 50) (.bin .sub (.t 49) (.c (.int .i64 1))) none [] (.st (some 51) (.ia 1 (.t 47) (.t 50)) none [] (.st (some 52) (.ld (.t 51)) none [] (.st (some 53) (.call 33 [(.t 52)]) none [] (.st (some 54) (.fa 2 (.t 5)) none [] (.st none (.st 1 (.t 54) (.t 53)) none [] .fin)))))))))) .skip))) .skip)) rEnd)))))), [(.ca 2 3), (.t 3)]⟩ := rfl
theorem rEnd_ok {Q : Ex → Tm → Hp → Prop} {t : Tm} {H H0 : Hp} {o2 o5 : Nat} {s : ByteArray} (d : Dd)
    (t0 : t 0 = .str s) (t2 : t 2 = .pt o2 0 0) (t5 : t 5 = .pt o5 0 0) (hle : HLe H0 H) (n2 : H0.length ≤ o2) (n25 : o2 ≠ o5)
    (b2 : H.at o2 = some ⟨[[.int .i64 0, .str ⟨#[]⟩, .int .i64 0]], 3, 23, false⟩)
    (b5 : H.at o5 = some ⟨[[.int .i64 d.kind, .str d.key, .int .i64 d.num]], 3, 23, false⟩)
    (hk : d.key.size < 4611686018427387904) (hs : s.size ≤ 40) (hc : ∀ e, deedOk e = true → deedT e = s → d = e)
    (hQ : ∀ t' H' d' ok, t' 2 = .pt o2 0 0 → t' 3 = .bool ok → HLe H0 H' → H'.at o2 = some ⟨[[.int .i64 d'.kind, .str d'.key, .int .i64 d'.num]], 3, 23, false⟩ → DeedIs s d' ok → Q .ret t' H') :
    W (tC tab2 (AC Tryd.prog E)) rEnd Q t H := by
  have u2 := Hp.at_lt b2
  simp [rEnd, t0, t2, t5, b2, b5]
  refine cg_use (specDeedText_ok d H hk) ?_
  simp [t0, t2, t5]
  refine g_split (fun hq => ?_) (fun hq => ?_) (by simp) <;> simp at hq
  · simp [t0, t2, t5, b2, b5, hq]
    exact hQ _ _ dd0 false (by simp [t2]) (by simp) (hle.set n2 _) (Hp.at_set _ u2) (DeedIs.no hc hq)
  · simp [t0, t2, t5, b2, b5, hq]
    refine c_split (fun hq2 => ?_) (fun hq2 => ?_) <;> simp at hq2
    · simp [t0, t2, t5, b2, b5]
      exact hQ _ _ dd0 false (by simp [t2]) (by simp) (hle.set n2 _) (Hp.at_set _ u2) (.inr ⟨rfl, rfl, fun _ _ _ => by rw [hq2]; rfl⟩)
    · simp [t0, t2, t5, b2, b5]
      exact hQ _ _ d true (by simp [t2]) (by simp) (hle.set n2 _) (Hp.at_set _ u2) (.inl ⟨rfl, fun h => hq2 (ls_inj (List.eq_nil_of_length_eq_zero (by rw [Array.length_toList]; exact h))), hs, hq⟩)
theorem l31Key_ok (s : ByteArray) (H : Hp) (hs : s.size < 1099511627776) : AC Tryd.prog E 32 [.str s] H (fun v H' => v = .str (keyR s) ∧ H' = H) := by
  refine AC_byp (tC_le tab2_ok) h_spec_l31Key (by simp) ?_
  simp [c_spec_l31Key]
  refine g_split (fun hq => ?_) (fun hq => ?_) (by simp) <;> simp at hq
  · simp [hq, keyR]
    exact fun h => absurd rfl h
  · have h0 : 0 < s.size := by
      rcases Nat.eq_zero_or_pos s.size with h | h
      · exact absurd (ls_inj (List.eq_nil_of_length_eq_zero (by rw [Array.length_toList]; exact h))) hq
      · exact h
    simp [hq, h0]
    refine c_split (fun hq2 => ?_) (fun hq2 => ?_) <;> simp at hq2
    · simp
      unfold keyR
      rw [if_pos (.inr (by simpa using hq2))]
    · simp
      refine ⟨by omega, ?_⟩
      unfold keyR
      rw [if_neg (fun h => h.elim (fun h => by omega) (fun h => h (by simpa using hq2)))]
theorem keyR_size (s : ByteArray) : (keyR s).size ≤ s.size + 1 := by
  unfold keyR
  split
  · have : (⟨#[63]⟩ : ByteArray).size = 1 := rfl
    omega
  · rw [ByteArray.size_extract]
    omega
theorem specDeedRead_ok (s : ByteArray) (H : Hp) (hs : s.size < 1099511627776) : AC Tryd.prog E 12 [.str s] H (fun v H' => H' = H ∧ DeedV s v) := by
  suffices h : AC Tryd.prog E 12 [.str s] H (fun v H' => HLe H H' ∧ DeedV s v) by
    refine AC.gc (h.mono (fun v H' e => ⟨e.1, ?_, rfl, e.2⟩))
    obtain ⟨_, d, ok, rfl, _⟩ := e
    rfl
  refine AC_by fol (tC_le tab2_ok) h_spec_DeedRead ?_
  simp [e_spec_DeedRead]
  refine cg_ex (l21Split_ok s 32 _ hs) ?_
  rintro wv H1 ⟨hle1', hw⟩
  have hsl := splitB_len 32 s
  obtain ⟨w, rest, hws⟩ : ∃ w rest, splitB 32 s = w :: rest := by
    cases h : splitB 32 s with
    | nil => rw [h] at hsl; simp at hsl
    | cons w rest => exact ⟨w, rest, rfl⟩
  have b2 : H1.at H.length = some ⟨[[.int .i64 0, .str ⟨#[]⟩, .int .i64 0]], 3, 23, false⟩ := hle1'.2 _ _ (by rw [Hp.at_app_0, Hp.at_0])
  have hle1 : HLe H H1 := (HLe.self H _).trans hle1'
  have hl1 := Hp.at_lt b2
  have u2 := Hp.at_lt b2
  have none1 : 40 < s.size → DeedV s (.tu [.ag [.int .i64 0, .str ⟨#[]⟩, .int .i64 0], .bool false]) := fun h => ⟨dd0, false, rfl, .inr ⟨rfl, rfl, fun e he h40 => by omega⟩⟩
  simp
  refine c_split (fun hq2 => ?_) (fun hq2 => ?_) <;> simp at hq2
  · simp [b2, Hp.at_set _ u2]
    exact ⟨hle1.set (Nat.le_refl _) _, none1 (by omega)⟩
  simp
  obtain ⟨H2, hH2⟩ : ∃ H2 : Hp, H2 = H1 ++ [some ⟨[[.int .i64 0, .str ⟨#[]⟩, .int .i64 0]], 3, 23, false⟩] := ⟨_, rfl⟩
  have hle2 : HLe H1 H2 := by rw [hH2]; exact HLe.self _ _
  have b5 : H2.at H1.length = some ⟨[[.int .i64 0, .str ⟨#[]⟩, .int .i64 0]], 3, 23, false⟩ := by rw [hH2, Hp.at_app_0, Hp.at_0]
  have u5 := Hp.at_lt b5
  have hwS : Strs H1 wv (w :: rest) := hws ▸ hw.strs
  simp [← hH2, b5]
  refine W_for (fun m t H' => ∃ i : Nat, i + m = 7 ∧ 1 ≤ i ∧ t 0 = .str s ∧ t 2 = .pt H.length 0 0 ∧ t 4 = wv ∧ t 5 = .pt H1.length 0 0 ∧ t 6 = .int .i64 i ∧
    Fr (fun o => o = H1.length) H2 H' ∧ H'.at H1.length = some ⟨[[.int .i64 (kindN w i), .str ⟨#[]⟩, .int .i64 0]], 3, 23, false⟩) 6 ?_ (tC_mono AC_mono) ?_
  · exact ⟨1, by omega, by omega, by simp, by simp, by simp, by simp, by simp, Fr.refl _ _, by
      have : kindN w (1 : Nat) = 0 := by
        show (if dWord 0 = w then ((0 : Nat) : Int) else 0) = 0
        split <;> rfl
      rw [this]
      exact b5⟩
  rintro m t H' ⟨i, him, hi1, h0, h2, h4, h5, h6, hfr, c5⟩
  have d2 : H'.at H.length = some ⟨[[.int .i64 0, .str ⟨#[]⟩, .int .i64 0]], 3, 23, false⟩ := hfr.2 _ _ (by omega) (hle2.2 _ _ b2)
  have dw : Strs H' wv (w :: rest) := (hwS.le hle2).fr hfr (fun o ho hS => by
    obtain ⟨o', i', ob', e1, e2, _, _⟩ := hwS.get (j := 0) (by simp)
    subst e1
    have := Hp.at_lt e2
    have ho : o' = o := ho
    omega)
  have u5 := Hp.at_lt c5
  obtain ⟨ow, iw, obw, rfl, a1, a2, a3⟩ := dw.get (j := 0) (by simp)
  have dl := dw.len
  simp at a3 dl
  simp [h0, h2, h4, h5, h6]
  refine c_split (fun hq3 => ?_) (fun hq3 => ?_) <;> simp at hq3
  · have hi : i < 7 := by omega
    have rk : (dWords.map strRow)[i]? = some [.str (dWord i)] := by
      have : i = 1 ∨ i = 2 ∨ i = 3 ∨ i = 4 ∨ i = 5 ∨ i = 6 := by omega
      rcases this with rfl | rfl | rfl | rfl | rfl | rfl <;> rfl
    have hw' := wrapN (i := i) (by omega)
    obtain ⟨m, rfl⟩ : ∃ k, m = k + 1 := ⟨m - 1, by omega⟩
    simp [h0, h2, h4, h5, h6, a1, a2, a3]
    refine cg_use (l31Names_ok H') ?_
    obtain ⟨H3, hH3⟩ : ∃ H3 : Hp, H3 = H' ++ [some ⟨dWords.map strRow, 1, 9, false⟩] := ⟨_, rfl⟩
    have hle3 : HLe H' H3 := by rw [hH3]; exact HLe.self _ _
    have e1 := hle3.2 _ _ a1
    have e5 := hle3.2 _ _ c5
    have e18 : H3.at H'.length = some ⟨dWords.map strRow, 1, 9, false⟩ := by rw [hH3, Hp.at_app_0, Hp.at_0]
    simp [← hH3, h0, h2, h4, h5, h6, e1, a2, a3, e18, rk, hi]
    refine ⟨by omega, ?_⟩
    refine c_split (fun hq4 => ?_) (fun hq4 => ?_) <;> simp at hq4
    · simp [h0, h2, h4, h5, h6, e5, hw']
      refine ⟨m, by omega, i + 1, by omega, by omega, by omega, (hfr.trans (S' := fun o => o = H1.length) hle3.fr (fun _ h => .inl h)).set (.inl rfl) _, ?_⟩
      rw [Hp.at_set _ (Hp.at_lt e5), kindN, if_pos hq4]
    · simp [h0, h2, h4, h5, h6, e5, hw']
      refine ⟨m, by omega, i + 1, by omega, by omega, by omega, hfr.trans (S' := fun o => o = H1.length) hle3.fr (fun _ h => .inl h), ?_⟩
      rw [kindN, if_neg hq4]
  · have : i = 7 := by omega
    subst this
    obtain ⟨k, hk⟩ : ∃ k, kindN w 7 = k := ⟨_, rfl⟩
    have hleF : HLe H H' := (hle1.trans hle2).fr_le hfr (fun o ho => by omega)
    have cand : ∀ e, deedOk e = true → deedT e = s → candR (w :: rest) = e := fun e g1 g2 => by
      rw [← hws]
      exact candR_deed g1 (by rw [← g2]; exact splitB_ls 32 (deedT e))
    have hsz : ∀ x ∈ w :: rest, x.size ≤ s.size := fun x hx => splitB_size 32 s x (by rw [hws]; exact hx)
    have hln : rest.length + 1 ≤ s.size + 1 := by
      have := hsl.1
      rw [hws] at this
      simpa using this
    rw [hk] at c5
    unfold candR at cand
    simp only [List.headD_cons, hk] at cand
    have hrn : IntKind.i64.wrap ((rest.length : Int) + 1) = (rest.length : Int) + 1 := wrap64 (by omega) (by omega)
    simp [h0, h2, h4, h5, h6]
    refine c_split (fun hq4 => ?_) (fun hq4 => ?_) <;> simp at hq4
    · cases rest with
      | nil => simp at hq4
      | cons x xs =>
        obtain ⟨_, _, _, e1, f1, f2, f3⟩ := dw.get (j := 1) (by simp)
        obtain ⟨_, _, _, e2, g1, g2, g3⟩ := dw.get (j := xs.length + 1) (by simp)
        cases e1
        cases e2
        cases a1.symm.trans f1
        cases a1.symm.trans g1
        simp at f3 g3
        rw [if_pos (by simp)] at cand
        obtain ⟨l, hl⟩ : ∃ l, l = (x :: xs)[xs.length]'(by simp) := ⟨_, rfl⟩
        have hlast : (w :: x :: xs).getLastD ⟨#[]⟩ = l := by
          rw [List.getLastD_cons, hl]
          simp [List.getLastD_eq_getLast?, List.getLast?_eq_getElem?]
        have hlm : l ∈ w :: x :: xs := by rw [hl]; exact List.mem_cons_of_mem _ (List.getElem_mem _)
        rw [← hl] at g3
        rw [hlast] at cand
        simp only [List.tail_cons, List.headD_cons] at cand
        have hxs := hsz x (by simp)
        have hlS := hsz l hlm
        have hkx := keyR_size x
        simp only [List.length_cons] at hln
        have hsub : IntKind.i64.wrap ((xs.length : Int) + 1) = (xs.length : Int) + 1 := wrap64 (by omega) (by omega)
        have htn : ((xs.length : Int) + 1).toNat = xs.length + 1 := by omega
        have hpos : (0 : Int) ≤ (xs.length : Int) + 1 := by omega
        have hQ : ∀ t' H4 d' ok, t' 2 = .pt H.length 0 0 → t' 3 = .bool ok → HLe H H4 → H4.at H.length = some ⟨[[.int .i64 d'.kind, .str d'.key, .int .i64 d'.num]], 3, 23, false⟩ → DeedIs s d' ok → endX [RV.ca 2 3, RV.t 3] (fun v H' => HLe H H' ∧ DeedV s v) .ret t' H4 := fun t' H4 d' ok g1 g2 g3 g4 g5 => by
          simp [g1, g2, g4]
          exact ⟨g3, d', ok, rfl, g5⟩
        have n5 : H.length ≤ H1.length := by omega
        have n25 : H1.length ≠ H.length := by omega
        by_cases hk2 : k = 2
        · subst hk2
          simp [h0, h2, h4, h5, c5, f1, f2, f3]
          refine ⟨by omega, cg_use (l31Key_ok x H' (by omega)) ?_⟩
          simp [h0, h2, h4, h5, c5, Hp.at_set _ u5]
          refine rEnd_ok (H0 := H) (o2 := H.length) (o5 := H1.length) ⟨2, keyR x, 0⟩ (by simp [h0]) (by simp [h2]) (by simp [h5]) (hleF.set n5 _) (Nat.le_refl _) (Ne.symm n25) (by rw [Hp.at_set_ne n25]; exact d2) (Hp.at_set _ u5) (by simp only; omega) (by omega) (fun e q1 q2 => by simpa [dKeyed] using cand e q1 q2) hQ
        by_cases hk1 : k = 1
        · subst hk1
          simp [h0, h2, h4, h5, c5, f1, f2, f3]
          refine ⟨by omega, cg_use (l31Key_ok x H' (by omega)) ?_⟩
          have np : ow ≠ H1.length := fun h => by rw [h, c5] at f1; cases f1; cases f2
          have ff := Hp.at_set_ne (H := H') (x := some ⟨[[.int .i64 1, .str (keyR x), .int .i64 0]], 3, 23, false⟩) (Ne.symm np)
          rw [f1] at ff
          simp [h0, h2, h4, h5, c5, Hp.at_set _ u5, ff, f2, g3, hsub, htn, hpos]
          refine ⟨by omega, cg_use (l21Num_ok l _ (by omega)) ?_⟩
          simp [h0, h2, h4, h5, c5, Hp.at_set _ u5]
          refine rEnd_ok (H0 := H) (o2 := H.length) (o5 := H1.length) ⟨1, keyR x, numB l⟩ (by simp [h0]) (by simp [h2]) (by simp [h5]) (hleF.set n5 _) (Nat.le_refl _) (Ne.symm n25) (by rw [Hp.at_set_ne n25]; exact d2) (Hp.at_set _ u5) (by simp only; omega) (by omega) (fun e q1 q2 => by simpa [dKeyed] using cand e q1 q2) hQ
        · simp [h0, h2, h4, h5, c5, f1, f2, f3, g3, hk1, hk2, hsub, htn, hpos]
          refine ⟨by omega, cg_use (l21Num_ok l _ (by omega)) ?_⟩
          simp [h0, h2, h4, h5, c5, Hp.at_set _ u5]
          refine rEnd_ok (H0 := H) (o2 := H.length) (o5 := H1.length) ⟨k, ⟨#[]⟩, numB l⟩ (by simp [h0]) (by simp [h2]) (by simp [h5]) (hleF.set n5 _) (Nat.le_refl _) (Ne.symm n25) (by rw [Hp.at_set_ne n25]; exact d2) (Hp.at_set _ u5) (show (⟨#[]⟩ : ByteArray).size < _ by decide) (by omega) (fun e q1 q2 => by simpa [dKeyed, hk1, hk2] using cand e q1 q2) hQ
    · rw [if_neg (by simp only [List.length_cons]; omega)] at cand
      simp
      refine rEnd_ok (H0 := H) (o2 := H.length) (o5 := H1.length) ⟨k, ⟨#[]⟩, 0⟩ (by simp [h0]) (by simp [h2]) (by simp [h5]) hleF (Nat.le_refl _) (by omega) d2 c5 (show (⟨#[]⟩ : ByteArray).size < _ by decide) (by omega) cand (fun t' H4 d' ok g1 g2 g3 g4 g5 => ?_)
      simp [g1, g2, g4]
      exact ⟨g3, d', ok, rfl, g5⟩

end Go.Proofs.YtiecldkihdebiaaDoor.B

namespace Go.Proofs.YtiecldkihdebiaaDoor.B
open Go.RowKit Go.ChangeShapes
set_option linter.unusedVariables false
set_option linter.unusedSimpArgs false

section
variable {HH : Type} {enc : TypeId × Value → HH} {P : Program}

/-- A law that returns true and leaves its arguments avs they were. -/
theorem row_of_ACE (hl : laidOutB P = true) {f : Nat} {fn : Func} {s : ChangeSpec} {W : World} {base : Nat} {args : Array Value} {ds gs : List (DataW HH)} {before : List MemPlace} {tb : TypeId}
    (hts : (fn.params.toList.all fun t => (shT P 6 t).isSome && (P.readableRec t && decide (t < P.types.size))) = true) (hres : fn.resultTypes = #[tb]) (htb : P.underlying tb = some .bool)
    (hval : ∀ (j : Nat) t v, fn.params[j]? = some t → args[j]? = some v → Value.okWide P W .any base t v) (hv : s.vars = [])
    (hW : DataW.Whole enc P fn.params.toList s.vars false W args.toList ds gs before)
    (hsz : (DataW.weightsEach P (fn.params.toList ++ s.plain.varTypes P) (ds ++ gs)).all (· ≤ reachBytes) = true)
    (hspec : ds.length = fn.params.size → s.fn HH (ds ++ []) = { results := [.lit (.bool true)], args := ds })
    (E : Env) (hB : E.B0 = W.heap.size) (hG : E.G W) (hac : ∀ avs H, ArgsOf P H fn.params.toList avs → AC P E f avs H (fun v _ => v = .bool true)) :
    Calls P f args W fun e W' => ∃ v, e = .returned v ∧ s.post enc P fn false true false false W args v W' := by
  have hlt := hW.lt
  have hW0 := hW
  obtain ⟨p, q, hA, hV, rfl, hfz, hnd⟩ := hW
  rw [hv] at hV
  cases gs with
  | cons g gs => exact hV.elim
  | nil =>
    have hq : q = [] := hV
    have hts1 : (fn.params.toList.all fun t => (shT P 6 t).isSome) = true := by
      rw [List.all_eq_true] at hts ⊢
      intro t ht
      have := hts t ht
      simp only [Bool.and_eq_true] at this
      exact this.1
    have hts2 : (fn.params.toList.all fun t => P.readableRec t && decide (t < P.types.size)) = true := by
      rw [List.all_eq_true] at hts ⊢
      intro t ht
      have := hts t ht
      simp only [Bool.and_eq_true] at this ⊢
      exact this.2
    have hvt : s.plain.varTypes P = [] := by simp [hv, ChangeSpec.plain, DataSpec.varTypes]
    rw [hvt] at hsz
    simp only [List.append_nil] at hsz
    have hE : HR E (fun _ => none) [] W := ⟨by simp, by simp, by simp, by simp, by rw [hB]; exact Nat.le_refl _, hG⟩
    obtain ⟨φ, K, avs, p1, h1, r1, v1, t1, l1⟩ := got_args (enc := enc) (P := P) (w := W) (E := E) (base := base) fn.params.toList args.toList ds p hts1 hA (fun j t v ht hv => hval j t v (by simpa using ht) (by simpa using hv)) hsz _ _ hE (by intro o ob ho; simp at ho)
    have hsp := hspec (by simpa using l1)
    have hcall := (hac avs ([] ++ K) t1).2 φ W args.toList v1 h1
    rw [Array.toArray_toList] at hcall
    refine hcall.mono (fun e W' he => ?_)
    cases e with
    | panicked c => exact he.elim
    | outgrown => exact he.elim
    | returned u =>
      obtain ⟨φ', H', v, _, _, bel, hvu, hvv⟩ := he
      have hu : u = .bool true := by
        rw [hvv] at hvu
        exact hvu
      subst hu
      have bel' : Below W.heap.size W W' := by rw [← hB]; exact bel
      refine ⟨_, rfl, ds, [], _, [], p, [], hW0, ?_, ?_, ?_, bel'.frame _, fun h => by cases h⟩
      · rw [hsp, hres]
        exact trodAll_mk1 (shut_bool htb true)
      · rw [hsp]
        exact args_again hl bel' _ _ _ _ hts2 hA (fun x hx => hlt x (List.mem_append_left _ hx))
      · rw [hsp, hv]
        rfl
end

/-- Where the call begins the table lies as the program lays it, and below that nothing is written. -/
def tabE (W : World) : Env := ⟨W.heap.size, fun w => Lib.TabIs Tryd.prog w "internal/strconv.uint64pow10" .u64 Lib.pow10Tab ∧ ∀ g, Tryd.prog.globalNamed "internal/strconv.uint64pow10" = some g → g < W.heap.size, fun w w' hb hg => by
  refine ⟨?_, hg.2⟩
  have h := hg.1
  unfold Lib.TabIs World.var? at h ⊢
  cases hn : Tryd.prog.globalNamed "internal/strconv.uint64pow10" with
  | none => rw [hn] at h; cases h
  | some g =>
    rw [hn] at h
    simp only [Option.bind_some] at h ⊢
    rw [hb.block g (hg.2 g hn)]
    exact h⟩
theorem tabE_tab (W : World) : Tab10 (tabE W) := fun w h => h.1
theorem tabE_G {W : World} (h : Lib.TabIs Tryd.prog W "internal/strconv.uint64pow10" .u64 Lib.pow10Tab) : (tabE W).G W := by
  refine ⟨h, fun g hg => ?_⟩
  unfold Lib.TabIs World.var? at h
  rw [hg] at h
  simp only [Option.bind_some] at h
  rcases Nat.lt_or_ge g W.heap.size with h' | h'
  · exact h'
  · rw [Array.getElem?_eq_none h'] at h; cases h

end Go.Proofs.YtiecldkihdebiaaDoor.B

namespace Go.Proofs.YtiecldkihdebiaaDoor.B
open Go.RowKit Go.Proofs
set_option linter.unusedVariables false
set_option linter.unusedSimpArgs false
variable {E : Env}

end Go.Proofs.YtiecldkihdebiaaDoor.B

namespace Go.Proofs.YtiecldkihdebiaaDoor.B
open Go.RowKit Go.Proofs
set_option linter.unusedVariables false
set_option linter.unusedSimpArgs false
variable {E : Env}

/-- A box is written behind a reader. -/
theorem Rd.box {H : Hp} {o N n : Nat} (h : Rd H o N) (X : Option Ob) (hne : n ≠ o) (h1 : ∀ ob, H.at n = some ob → ob.esz ≠ 1) : Rd (List.set H n X) o N :=
  h.fr (Fr.one H n X) (fun e => hne e.symm) (fun x ob hx ho => by subst hx; exact h1 ob ho)

theorem l71Deed_ok (o N : Nat) (kv : AV) (ks : List ByteArray) (H : Hp) (hr : Rd H o N) (hk : Strs H kv ks) (hkl : ks.length < 1099511627776) (hks : ∀ s ∈ ks, s.size ≤ 5) (hN : N < 137438953472) :
    AC Tryd.prog E 41 [.pt o 0 0, kv] H (fun v H' => ∃ d, v = ddAV d ∧ d.key.size ≤ 5 ∧ Dr o H H' ∧ Rd H' o (N + 9)) := by
  refine AC_by fol (tC_le tab2_ok) h_spec_l71Deed ?_
  have hol := hr.lt
  have m0 : H.length ≠ o := by omega
  simp [c_spec_l71Deed]
  refine cg_ex (pick_ok o N 10 _ (hr.le (HLe.self _ _)) (by omega) (by omega)) ?_
  rintro v H1 ⟨n, rfl, hn, hd1, hr1, hlen⟩
  have b1 := hd1.2 H.length ⟨[[.int .i64 0, .str ⟨#[]⟩, .int .i64 0]], 3, 23, false⟩ (by omega) (by simp)
  have hD : Dr o H H1 := (Fr.app (Fr.refl _ H) _).same hd1
  have hk1 : Strs H1 kv ks := (Rows.dr (hr.le (HLe.self _ _)) (hk.le (HLe.self _ _)) (by decide) hd1)
  have fin : ∀ (H2 : Hp) (d : Dd) (M : Nat), d.key.size ≤ 5 → Dr o H1 H2 → Rd H2 o M → M ≤ N + 9 → ∃ d', ddAV d = ddAV d' ∧ d'.key.size ≤ 5 ∧ Dr o H (List.set H2 H.length (some ⟨[[.int .i64 d.kind, .str d.key, .int .i64 d.num]], 3, 23, false⟩)) ∧ Rd (List.set H2 H.length (some ⟨[[.int .i64 d.kind, .str d.key, .int .i64 d.num]], 3, 23, false⟩)) o (N + 9) := by
    intro H2 d M h1 h2 h3 h4
    have b2 := h2.2 _ _ m0 b1
    exact ⟨d, rfl, h1, (hD.same h2).set (.inr (Nat.le_refl _)) _, (h3.box _ m0 (fun ob ho => by rw [b2] at ho; cases ho; simp)).mono h4⟩
  have hcase : n = 0 ∨ n = 1 ∨ n = 2 ∨ n = 3 ∨ n = 4 ∨ n = 5 ∨ n = 6 ∨ n = 7 ∨ n = 8 ∨ n = 9 := by omega
  have u1 := Hp.at_lt b1
  have put : ∀ t : Tm, True := fun _ => trivial
  simp
  refine c_split (fun q0 => ?_) (fun q0 => ?_) <;> simp at q0
  · simp [q0]
    refine cg_ex (l71Near_ok o _ kv ks _ hr1 hk1 hkl hks (by omega)) ?_
    rintro _ H2 ⟨k, rfl, hk5, hd2, hr2⟩
    simp
    refine cg_ex (pick_ok o _ 100 _ hr2 (by omega) (by omega)) ?_
    rintro _ H3 ⟨m, rfl, hm, hd3, hr3, -⟩
    have hb := (hd2.same hd3).2 _ _ m0 b1
    simp [hb, Hp.at_set, Hp.at_lt hb]
    exact fin _ ⟨1, k, m⟩ _ hk5 (hd2.same hd3) hr3 (by omega)
  simp
  refine c_split (fun q1 => ?_) (fun q1 => ?_) <;> simp at q1
  · simp [q1]
    refine cg_ex (l71Near_ok o _ kv ks _ hr1 hk1 hkl hks (by omega)) ?_
    rintro _ H2 ⟨k, rfl, hk5, hd2, hr2⟩
    simp
    refine cg_ex (pick_ok o _ 100 _ hr2 (by omega) (by omega)) ?_
    rintro _ H3 ⟨m, rfl, hm, hd3, hr3, -⟩
    have hb := (hd2.same hd3).2 _ _ m0 b1
    simp [hb, Hp.at_set, Hp.at_lt hb]
    exact fin _ ⟨1, k, m⟩ _ hk5 (hd2.same hd3) hr3 (by omega)
  simp
  refine c_split (fun q2 => ?_) (fun q2 => ?_) <;> simp at q2
  · simp [q2]
    refine cg_ex (l71Near_ok o _ kv ks _ hr1 hk1 hkl hks (by omega)) ?_
    rintro _ H2 ⟨k, rfl, hk5, hd2, hr2⟩
    simp
    refine cg_ex (pick_ok o _ 100 _ hr2 (by omega) (by omega)) ?_
    rintro _ H3 ⟨m, rfl, hm, hd3, hr3, -⟩
    have hb := (hd2.same hd3).2 _ _ m0 b1
    simp [hb, Hp.at_set, Hp.at_lt hb]
    exact fin _ ⟨1, k, m⟩ _ hk5 (hd2.same hd3) hr3 (by omega)
  simp
  refine c_split (fun q3 => ?_) (fun q3 => ?_) <;> simp at q3
  · simp [q3]
    refine cg_ex (l71Near_ok o _ kv ks _ hr1 hk1 hkl hks (by omega)) ?_
    rintro _ H2 ⟨k, rfl, hk5, hd2, hr2⟩
    simp
    refine cg_ex (pick_ok o _ 100 _ hr2 (by omega) (by omega)) ?_
    rintro _ H3 ⟨m, rfl, hm, hd3, hr3, -⟩
    have hb := (hd2.same hd3).2 _ _ m0 b1
    simp [hb, Hp.at_set, Hp.at_lt hb]
    exact fin _ ⟨1, k, m⟩ _ hk5 (hd2.same hd3) hr3 (by omega)
  simp
  refine c_split (fun q4 => ?_) (fun q4 => ?_) <;> simp at q4
  · simp [q4]
    refine cg_ex (l71Near_ok o _ kv ks _ hr1 hk1 hkl hks (by omega)) ?_
    rintro _ H2 ⟨k, rfl, hk5, hd2, hr2⟩
    simp
    refine cg_ex (pick_ok o _ 100 _ hr2 (by omega) (by omega)) ?_
    rintro _ H3 ⟨m, rfl, hm, hd3, hr3, -⟩
    have hb := (hd2.same hd3).2 _ _ m0 b1
    simp [hb, Hp.at_set, Hp.at_lt hb]
    exact fin _ ⟨1, k, m⟩ _ hk5 (hd2.same hd3) hr3 (by omega)
  simp [q4]
  refine c_split (fun q5 => ?_) (fun q5 => ?_) <;> simp at q5
  · simp
    refine cg_ex (l71Near_ok o _ kv ks _ hr1 hk1 hkl hks (by omega)) ?_
    rintro _ H2 ⟨k, rfl, hk5, hd2, hr2⟩
    have hb := hd2.2 _ _ m0 b1
    simp [hb, Hp.at_set, Hp.at_lt hb]
    exact fin _ ⟨2, k, 0⟩ _ hk5 hd2 hr2 (by omega)
  simp
  refine c_split (fun q6 => ?_) (fun q6 => ?_) <;> simp at q6
  · simp [b1, Hp.at_set, u1]
    exact fin H1 ⟨3, ⟨#[]⟩, 0⟩ _ (by decide) (Fr.refl _ _) hr1 (by omega)
  simp
  refine c_split (fun q7 => ?_) (fun q7 => ?_) <;> simp at q7
  · simp
    refine cg_ex (pick_ok o _ 20 _ hr1 (by omega) (by omega)) ?_
    rintro _ H3 ⟨m, rfl, hm, hd3, hr3, -⟩
    have hb := hd3.2 _ _ m0 b1
    simp [hb, Hp.at_set, Hp.at_lt hb]
    exact fin _ ⟨4, ⟨#[]⟩, m⟩ _ (by show 0 ≤ 5; omega) hd3 hr3 (by omega)
  simp
  refine c_split (fun q8 => ?_) (fun q8 => ?_) <;> simp at q8
  · simp [b1, Hp.at_set, u1]
    exact fin H1 ⟨5, ⟨#[]⟩, 0⟩ _ (by decide) (Fr.refl _ _) hr1 (by omega)
  simp
  refine cg_ex (pick_ok o _ 3 _ hr1 (by omega) (by omega)) ?_
  rintro _ H3 ⟨m, rfl, hm, hd3, hr3, -⟩
  have hb := hd3.2 _ _ m0 b1
  simp [hb, Hp.at_set, Hp.at_lt hb]
  exact fin _ ⟨6, ⟨#[]⟩, m⟩ _ (by show 0 ≤ 5; omega) hd3 hr3 (by omega)

end Go.Proofs.YtiecldkihdebiaaDoor.B

namespace Go.Proofs.YtiecldkihdebiaaDoor.B
open Go.RowKit Go.Proofs
set_option linter.unusedVariables false
set_option linter.unusedSimpArgs false
variable {E : Env}

theorem DrawDeedText_ok (c : AV) (bs : List Int) (H : Hp) (hc : Bytes H c bs) (hn : bs.length < 4611686018427387904) :
    AC Tryd.prog E 15 [c] H (fun v H' => ∃ d, v = ddAV d ∧ d.key.size ≤ 5 ∧ HLe H H') := by
  refine AC_by fol (tC_le tab2_ok) h_spec_DrawDeedText ?_
  obtain ⟨H1, hH1⟩ : ∃ H1 : Hp, H1 = H ++ [some ⟨[[.int .i64 0, .str ⟨#[]⟩, .int .i64 0]], 3, 23, false⟩] := ⟨_, rfl⟩
  have hle1 : HLe H H1 := by rw [hH1]; exact HLe.self _ _
  have b0 : H1.at H.length = some ⟨[[.int .i64 0, .str ⟨#[]⟩, .int .i64 0]], 3, 23, false⟩ := by rw [hH1]; simp
  simp [c_spec_DrawDeedText, ← hH1]
  refine cg_ex (l6Open_ok c bs H1 ⟨Rows.le hc.1 hle1, hc.2⟩ hn) ?_
  rintro v H2 ⟨r, rfl, hr1, hle2, hr2⟩
  simp
  have b02 := hle2.2 _ _ b0
  have l1 := hle1.1
  have l1' := Hp.at_lt b0
  have hrl := hr2.lt
  refine cg_ex (l71Deed_ok r 0 _ [] _ (hr2.le (HLe.self _ _)) (by exact .inr (.inr ⟨_, 0, _, rfl, Hp.at_app_0.trans Hp.at_0, rfl, by simp, by simp⟩)) (by simp) (by simp) (by omega)) ?_
  rintro v H3 ⟨d, rfl, hdk, hd3, hr3⟩
  have b03 := hd3.2 _ _ (show ¬ H.length = r by omega) ((HLe.self _ _).2 _ _ b02)
  have hl3 := hd3.len
  simp at hl3
  obtain ⟨H4, hH4⟩ : ∃ H4 : Hp, H4 = H3 ++ [some ⟨[[.int .i64 d.kind, .str d.key, .int .i64 d.num]], 3, 23, false⟩] := ⟨_, rfl⟩
  have hle4 : HLe H3 H4 := by rw [hH4]; exact HLe.self _ _
  have b1 : H4.at H3.length = some ⟨[[.int .i64 d.kind, .str d.key, .int .i64 d.num]], 3, 23, false⟩ := by rw [hH4]; simp
  have b04 := hle4.2 _ _ b03
  have hr4 := hr3.le hle4
  have hleD : HLe H H4 := by
    refine (((hle1.trans hle2).app _).fr_le hd3 (fun x hx => by omega)).trans hle4
  simp [ddAV, ← hH4]
  refine cg_ex (pick_ok r _ 12 H4 hr4 (by omega) (by omega)) ?_
  rintro v H5 ⟨k, rfl, hk, hd5, hr5, hlen5⟩
  have b05 := hd5.2 _ _ (show ¬ H.length = r by omega) b04
  have b15 := hd5.2 _ _ (show ¬ H3.length = r by omega) b1
  have hleE : HLe H H5 := hleD.fr_le hd5 (fun x hx => by omega)
  have u0 := Hp.at_lt b05
  have u1 := Hp.at_lt b15
  have n01 : H.length ≠ H3.length := by omega
  have fin : ∀ (G : Hp) (e : Dd) (X : Option Ob), HLe H G → HLe H (List.set G H.length X) := fun G e X h => h.set (Nat.le_refl _) X
  simp
  refine c_split (fun hq => ?_) (fun hq => ?_) <;> simp at hq
  · simp
    obtain ⟨L, hL⟩ : ∃ L : Hp, L = [some ⟨[[.int .i64 (-1)], [.int .i64 1000], [.int .i64 5]], 1, 3, false⟩] := ⟨_, rfl⟩
    rw [← hL]
    refine cg_ex (pick_ok r _ 3 _ (hr5.le (HLe.self H5 L)) (by omega) (by omega)) ?_
    rintro v H6 ⟨n2, rfl, hn2, hd6, hr6, hlen6⟩
    have b3 := hd6.2 H5.length _ (show ¬ H5.length = r by omega) (Hp.at_app_0.trans (by rw [hL]; exact Hp.at_0))
    have c0 := hd6.2 _ _ (show ¬ H.length = r by omega) ((HLe.self H5 L).2 _ _ b05)
    have c1 := hd6.2 _ _ (show ¬ H3.length = r by omega) ((HLe.self H5 L).2 _ _ b15)
    have hrow : ∃ k, ([[.int .i64 (-1)], [.int .i64 1000], [.int .i64 5]] : List (List AV))[n2]? = some [.int .i64 k] := by
      have : n2 = 0 ∨ n2 = 1 ∨ n2 = 2 := by omega
      rcases this with rfl | rfl | rfl <;> exact ⟨_, rfl⟩
    obtain ⟨k2, hk2⟩ := hrow
    have hI : (n2 : Int) < 3 := by omega
    have w0 := Hp.at_lt c0
    have w1 := Hp.at_lt c1
    simp [b3, hk2, hI, c0, c1, Hp.at_set, Hp.at_set_ne, List.length_set, w0, w1, n01, n01.symm]
    exact ⟨⟨d.kind, d.key, k2⟩, ⟨rfl, rfl, rfl⟩, hdk, (((hleE.app L).fr_le hd6 (fun x hx => by omega)).set (o := H3.length) (by omega) _).set (o := H.length) (Nat.le_refl _) _⟩
  · simp
    refine c_split (fun hq2 => ?_) (fun hq2 => ?_) <;> simp at hq2
    · simp
      have hl : Strs (H5 ++ [some ⟨[[.str ⟨#[120]⟩], [.str ⟨#[97]⟩]], 1, 9, false⟩]) (.sl H5.length 0 2) [⟨#[120]⟩, ⟨#[97]⟩] := Strs.at (e := 9) (ro := false) (by simp [strRow]) rfl
      refine cg_ex (of_ok r _ _ _ _ (hr5.le (HLe.self _ _)) hl (by simp) (by simp) (by omega)) ?_
      rintro v H6 ⟨s, hs, rfl, hd6, hr6, hlen6⟩
      have c0 := hd6.2 _ _ (show ¬ H.length = r by omega) ((HLe.self H5 _).2 _ _ b05)
      have c1 := hd6.2 _ _ (show ¬ H3.length = r by omega) ((HLe.self H5 _).2 _ _ b15)
      have hss : s.size ≤ 5 := by
        simp at hs
        rcases hs with h | h <;> rw [h] <;> decide
      have w0 := Hp.at_lt c0
      have w1 := Hp.at_lt c1
      simp [c0, c1, Hp.at_set, Hp.at_set_ne, List.length_set, w0, w1, n01, n01.symm]
      exact ⟨⟨d.kind, s, d.num⟩, ⟨rfl, rfl, rfl⟩, hss, (((hleE.app _).fr_le hd6 (fun x hx => by omega)).set (o := H3.length) (by omega) _).set (o := H.length) (Nat.le_refl _) _⟩
    · simp
      refine c_split (fun hq3 => ?_) (fun hq3 => ?_) <;> simp at hq3
      · simp
        refine cg_ex (pick_ok r _ 9 _ hr5 (by omega) (by omega)) ?_
        rintro v H6 ⟨n2, rfl, hn2, hd6, hr6, hlen6⟩
        have c0 := hd6.2 _ _ (show ¬ H.length = r by omega) b05
        have c1 := hd6.2 _ _ (show ¬ H3.length = r by omega) b15
        have w0 := Hp.at_lt c0
        have w1 := Hp.at_lt c1
        simp [c0, c1, Hp.at_set, Hp.at_set_ne, List.length_set, w0, w1, n01, n01.symm]
        exact ⟨⟨IntKind.i64.wrap ((n2 : Int) - 1), d.key, d.num⟩, ⟨rfl, rfl, rfl⟩, hdk, ((hleE.fr_le hd6 (fun x hx => by omega)).set (o := H3.length) (by omega) _).set (o := H.length) (Nat.le_refl _) _⟩
      · simp [b05, b15, Hp.at_set, Hp.at_set_ne, List.length_set, u0, u1, n01, n01.symm]
        exact ⟨⟨d.kind, d.key, d.num⟩, ⟨rfl, rfl, rfl⟩, hdk, hleE.set (o := H.length) (Nat.le_refl _) _⟩

end Go.Proofs.YtiecldkihdebiaaDoor.B

namespace Go.Proofs.YtiecldkihdebiaaDoor.B
open Go.RowKit Go.ChangeShapes
set_option linter.unusedVariables false
set_option linter.unusedSimpArgs false

/-- Where the call begins variables hold what they hold, and below that nothing is written. -/
def sameE (W : World) : Env := ⟨W.heap.size, fun w => ∀ k, k < W.heap.size → w.heap[k]? = W.heap[k]?, fun w w' hb hg k hk => (hb.block k hk).trans (hg k hk)⟩
theorem sameE_G (W : World) : (sameE W).G W := fun _ _ => rfl
theorem sameE_var {W w : World} (h : (sameE W).G w) {P : Program} {n : String} {cs : Array Value} (hv : W.var? P n = some cs) : w.var? P n = some cs := by
  unfold World.var? at hv ⊢
  cases hg : P.globalNamed n with
  | none => rw [hg] at hv; cases hv
  | some g =>
    rw [hg] at hv
    simp only [Option.bind_some] at hv ⊢
    have hlt : g < W.heap.size := by
      rcases Nat.lt_or_ge g W.heap.size with h' | h'
      · exact h'
      · rw [Array.getElem?_eq_none h'] at hv
        cases hv
    rw [h g hlt]
    exact hv
theorem sameE_cell {W w : World} (h : (sameE W).G w) {a : Addr} {v : Value} (hv : W.cell? a = some v) : w.cell? a = some v := by
  rw [← hv]
  exact World.cell?_of_block (w := W) (h a.block (World.block_lt_of_cell? _ _ hv))
theorem sameE_lib {W : World} (h1 : Lib.TabIs Tryd.prog W "internal/strconv.uint64pow10" .u64 Lib.pow10Tab)
    (h2 : ∃ m, W.cell? ⟨Tryd.laysCut_ren.g 1, 0, none⟩ = some (.int .i64 m)) (h3 : ∃ m, W.cell? ⟨Tryd.laysSplit_ren.g 1, 0, none⟩ = some (.int .i64 m))
    (h4 : ∃ tp p, W.var? Tryd.prog "strconv.ErrSyntax" = some #[.iface tp p]) (h5 : ∃ tp p, W.var? Tryd.prog "strconv.ErrRange" = some #[.iface tp p]) : LibE (sameE W) where
  tab := fun w h => by
    unfold Lib.TabIs at h1 ⊢
    exact sameE_var h h1
  cut := fun w h => by
    obtain ⟨m, hm⟩ := h2
    exact ⟨m, sameE_cell h hm⟩
  split := fun w h => by
    obtain ⟨m, hm⟩ := h3
    exact ⟨m, sameE_cell h hm⟩
  syn := fun w h => by
    obtain ⟨tp, p, hv⟩ := h4
    exact ⟨tp, p, sameE_var h hv⟩
  rng := fun w h => by
    obtain ⟨tp, p, hv⟩ := h5
    exact ⟨tp, p, sameE_var h hv⟩
end Go.Proofs.YtiecldkihdebiaaDoor.B

namespace Go.Proofs.YtiecldkihdebiaaDoor.B
open Go.RowKit Go.Proofs
set_option linter.unusedVariables false
set_option linter.unusedSimpArgs false
variable {E : Env}

theorem eqDeed_ok (d e : Dd) (H : Hp) : AC Tryd.prog E 14 [ddAV d, ddAV e] H (fun v H' => v = .bool (decide (d = e)) ∧ H' = H) := by
  refine AC_byp (tC_le tabI_ok) h_laws_eqDeed (by simp) ?_
  obtain ⟨k, a, m⟩ := d
  obtain ⟨l, b, n⟩ := e
  obtain ⟨H1, hH1⟩ : ∃ H1 : Hp, H1 = H ++ [some ⟨[[.int .i64 k, .str a, .int .i64 m]], 3, 23, false⟩, some ⟨[[.int .i64 l, .str b, .int .i64 n]], 3, 23, false⟩] := ⟨_, rfl⟩
  have b0 : H1.at H.length = some ⟨[[.int .i64 k, .str a, .int .i64 m]], 3, 23, false⟩ := by rw [hH1, Hp.at_app_0, Hp.at_0]
  have b1 : H1.at (H.length + 1) = some ⟨[[.int .i64 l, .str b, .int .i64 n]], 3, 23, false⟩ := by rw [hH1, Hp.at_app_ge, Hp.at_s, Hp.at_0]
  have hle : HLe H H1 := by rw [hH1]; exact HLe.self _ _
  simp [c_laws_eqDeed, ddAV, ← hH1, b0, b1]
  refine c_split (fun hq => ?_) (fun hq => ?_) <;> simp at hq <;> simp [hq, b0, b1, hle]
  refine c_split (fun hq2 => ?_) (fun hq2 => ?_) <;> simp at hq2 <;> simp [hq2, b0, b1, hle]
  refine c_split (fun hq3 => ?_) (fun hq3 => ?_) <;> simp at hq3 <;> simp [hq3, hle]
theorem lawExactDeedRead_ok (hE : LibE E) (s : ByteArray) (H : Hp) (hs : s.size < 4611686018427387904) : AC Tryd.prog E 3 [.str s] H (fun v H' => v = .bool true) := by
  refine AC_by fol (tC_le tabI_ok) h_laws_FnExactDeedRead ?_
  simp [c_laws_FnExactDeedRead]
  refine c_split (fun hq => ?_) (fun hq => ?_) <;> simp at hq <;> simp
  refine cg_ex (specDeedRead_ok s _ (by omega)) ?_
  rintro v H1 ⟨rfl, d, ok, rfl, hd⟩
  simp [ddAV]
  refine cg_ex (implDeedRead_ok hE s _ (by omega)) ?_
  rintro v H1 ⟨rfl, e, ok2, rfl, he⟩
  obtain ⟨rfl, rfl⟩ := hd.one he
  simp [ddAV]
  refine cg_use (eqDeed_ok d d _) ?_
  simp

end Go.Proofs.YtiecldkihdebiaaDoor.B

namespace Go.Proofs.YtiecldkihdebiaaDoor.B
open Go.RowKit Go.Proofs
set_option linter.unusedVariables false
set_option linter.unusedSimpArgs false
variable {E : Env}

theorem size_ne {s : ByteArray} (h : ¬ s = ⟨#[]⟩) : s.size ≠ 0 := fun h0 => h (ls_inj (List.eq_nil_of_length_eq_zero (by rw [Array.length_toList]; exact h0)))
theorem DrawDeedRead_ok (c : AV) (bs : List Int) (H : Hp) (hc : Bytes H c bs) (hn : bs.length < 4611686018427387904) :
    AC Tryd.prog E 18 [c] H (fun v H' => ∃ s : ByteArray, v = .str s ∧ s.size ≤ 1000 ∧ HLe H H') := by
  refine AC_by fol (tC_le tab2_ok) h_spec_DrawDeedRead ?_
  simp [c_spec_DrawDeedRead]
  refine cg_ex (l6Open_ok c bs H hc hn) ?_
  rintro v H1 ⟨r, rfl, hr1, hle1, hrd1⟩
  simp
  refine cg_ex (l71Deed_ok r 0 _ [] _ (hrd1.le (HLe.self _ _)) (by exact .inr (.inr ⟨_, 0, _, rfl, Hp.at_app_0.trans Hp.at_0, rfl, by simp, by simp⟩)) (by simp) (by simp) (by omega)) ?_
  rintro v H2 ⟨d, rfl, hdk, hd2, hrd2⟩
  have hds := deedT_size d
  simp
  refine cg_use (specDeedText_ok d H2 (by omega)) ?_
  simp
  refine cg_ex (pick_ok r _ 2 H2 hrd2 (by omega) (by omega)) ?_
  rintro v H3 ⟨k, rfl, hk, hd3, hrd3, hl3⟩
  have hle3 : HLe H H3 := ((hle1.app _).fr_le hd2 (fun x hx => by omega)).fr_le hd3 (fun x hx => by omega)
  simp
  refine g_split (fun hq => ?_) (fun hq => ?_) (by simp) <;> simp at hq
  · simp [hq]
    exact ⟨by omega, hle3⟩
  simp [hq]
  refine c_split (fun hq2 => ?_) (fun hq2 => ?_) <;> simp at hq2
  · simp
    exact ⟨by omega, hle3⟩
  have hs0 := size_ne hq2
  obtain ⟨s, hs⟩ : ∃ s, s = deedT d := ⟨_, rfl⟩
  rw [← hs] at hds hs0
  simp [← hs]
  refine cg_ex (pick_ok r _ s.size H3 hrd3 (by omega) (by omega)) ?_
  rintro v H4 ⟨i, rfl, hi, hd4, hrd4, hl4⟩
  have hi : i < s.size := by omega
  have hle4 := hle3.fr_le hd4 (fun x hx => by omega)
  simp
  refine cg_ex (pick_ok r _ 4 H4 hrd4 (by omega) (by omega)) ?_
  rintro v H5 ⟨j, rfl, hj, hd5, hrd5, hl5⟩
  have hle5 := hle4.fr_le hd5 (fun x hx => by omega)
  have hw := wrapN (i := i) (by omega)
  simp
  refine c_split (fun hq3 => ?_) (fun hq3 => ?_) <;> simp at hq3
  · simp [hw]
    exact ⟨by omega, ⟨by omega, by omega⟩, by omega, by omega, hle5⟩
  simp
  refine c_split (fun hq4 => ?_) (fun hq4 => ?_) <;> simp at hq4
  · simp
    have hl : Strs (H5 ++ [some ⟨[[.str ⟨#[32]⟩], [.str ⟨#[48]⟩], [.str ⟨#[46]⟩], [.str ⟨#[97]⟩], [.str ⟨#[112, 117, 116, 32]⟩]], 1, 9, false⟩]) (.sl H5.length 0 5) [⟨#[32]⟩, ⟨#[48]⟩, ⟨#[46]⟩, ⟨#[97]⟩, ⟨#[112, 117, 116, 32]⟩] := Strs.at (e := 9) (ro := false) (by simp [strRow]) rfl
    have hb : ∀ x ∈ ([⟨#[32]⟩, ⟨#[48]⟩, ⟨#[46]⟩, ⟨#[97]⟩, ⟨#[112, 117, 116, 32]⟩] : List ByteArray), x.size ≤ 40 := by decide
    refine ⟨by omega, cg_ex (of_ok r _ _ _ _ (hrd5.le (HLe.self _ _)) hl (by simp) (by simp) (by omega)) ?_⟩
    rintro v H6 ⟨x, hx, rfl, hd6, hrd6, hl6⟩
    have hxs := hb x hx
    have hle6 := (hle5.app _).fr_le hd6 (fun x hx => by omega)
    simp
    exact ⟨by omega, by omega, by omega, hle6⟩
  simp
  refine c_split (fun hq5 => ?_) (fun hq5 => ?_) <;> simp at hq5
  · simp
    have hl : Strs (H5 ++ [some ⟨[[.str ⟨#[]⟩], [.str ⟨#[112, 117, 116]⟩], [.str ⟨#[112, 117, 116, 32, 46, 32, 49]⟩], [.str ⟨#[112, 117, 116, 32, 46, 120, 32, 49]⟩], [.str ⟨#[116, 97, 107, 101, 32, 46]⟩], [.str ⟨#[106, 111, 105, 110]⟩], [.str ⟨#[104, 111, 108, 100, 32, 49]⟩], [.str ⟨#[100, 111, 119, 110, 32, 46, 97]⟩], [.str ⟨#[102, 114, 101, 101, 32, 49, 48, 48, 48]⟩]], 1, 9, false⟩]) (.sl H5.length 0 9) [⟨#[]⟩, ⟨#[112, 117, 116]⟩, ⟨#[112, 117, 116, 32, 46, 32, 49]⟩, ⟨#[112, 117, 116, 32, 46, 120, 32, 49]⟩, ⟨#[116, 97, 107, 101, 32, 46]⟩, ⟨#[106, 111, 105, 110]⟩, ⟨#[104, 111, 108, 100, 32, 49]⟩, ⟨#[100, 111, 119, 110, 32, 46, 97]⟩, ⟨#[102, 114, 101, 101, 32, 49, 48, 48, 48]⟩] := Strs.at (e := 9) (ro := false) (by simp [strRow]) rfl
    have hb : ∀ x ∈ ([⟨#[]⟩, ⟨#[112, 117, 116]⟩, ⟨#[112, 117, 116, 32, 46, 32, 49]⟩, ⟨#[112, 117, 116, 32, 46, 120, 32, 49]⟩, ⟨#[116, 97, 107, 101, 32, 46]⟩, ⟨#[106, 111, 105, 110]⟩, ⟨#[104, 111, 108, 100, 32, 49]⟩, ⟨#[100, 111, 119, 110, 32, 46, 97]⟩, ⟨#[102, 114, 101, 101, 32, 49, 48, 48, 48]⟩] : List ByteArray), x.size ≤ 40 := by decide
    refine cg_ex (of_ok r _ _ _ _ (hrd5.le (HLe.self _ _)) hl (by simp) (by simp) (by omega)) ?_
    rintro v H6 ⟨x, hx, rfl, hd6, hrd6, hl6⟩
    have hxs := hb x hx
    have hle6 := (hle5.app _).fr_le hd6 (fun x hx => by omega)
    simp
    exact ⟨by omega, hle6⟩
  simp
  exact ⟨by omega, by omega, hle5⟩

theorem lawDeedBack_ok (hE : LibE E) (a : AV) (xs : List Int) (H : Hp) (ha : Bytes H a xs) (hx : xs.length < 4611686018427387904) :
    AC Tryd.prog E 4 [a] H (fun v H' => v = .bool true) := by
  refine AC_by fol (tC_le tabI_ok) h_laws_FnDeedBack ?_
  have l1 := ha.len
  simp [c_laws_FnDeedBack, l1, ha.1.slc]
  refine c_split (fun hq => ?_) (fun hq => ?_) <;> simp at hq <;> simp
  refine cg_ex (DrawDeedText_ok a xs H ha hx) ?_
  rintro v H1 ⟨d, rfl, hdk, hle1⟩
  obtain ⟨H3, hH3⟩ : ∃ H3 : Hp, H3 = H1 ++ [some ⟨[[.int .i64 d.kind, .str d.key, .int .i64 d.num]], 3, 23, false⟩] := ⟨_, rfl⟩
  have b1 : H3.at H1.length = some ⟨[[.int .i64 d.kind, .str d.key, .int .i64 d.num]], 3, 23, false⟩ := by rw [hH3]; simp
  simp [ddAV, ← hH3, b1]
  refine cg_use (implDeedText_ok hE.tab d H3 (by omega)) ?_
  simp [b1]
  refine cg_use (specDeedText_ok d H3 (by omega)) ?_
  simp [b1]
  refine c_split (fun hq4 => ?_) (fun hq4 => ?_) <;> simp at hq4
  · simp [hq4, b1]
    refine cg_use (specDeedText_ok d H3 (by omega)) ?_
    simp [hq4, b1]
  have hds := deedT_size d
  simp [b1]
  refine cg_ex (implDeedRead_ok hE (deedT d) H3 (by omega)) ?_
  rintro v H4 ⟨rfl, e, ok, rfl, he⟩
  obtain ⟨rfl, rfl⟩ := he.one (DeedIs.back (size_ne hq4))
  have b2 := (HLe.self H4 [some ⟨[[.int .i64 e.kind, .str e.key, .int .i64 e.num]], 3, 23, false⟩]).2 _ _ b1
  simp [ddAV, b1, b2]

theorem lawDeedStrict_ok (hE : LibE E) (a : AV) (xs : List Int) (H : Hp) (ha : Bytes H a xs) (hx : xs.length < 4611686018427387904) :
    AC Tryd.prog E 5 [a] H (fun v H' => v = .bool true) := by
  refine AC_by fol (tC_le tabI_ok) h_laws_FnDeedStrict ?_
  have l1 := ha.len
  simp [c_laws_FnDeedStrict, l1, ha.1.slc]
  refine c_split (fun hq => ?_) (fun hq => ?_) <;> simp at hq <;> simp
  refine cg_ex (DrawDeedRead_ok a xs H ha hx) ?_
  rintro v H1 ⟨s, rfl, hs, hle1⟩
  simp
  refine cg_ex (specDeedRead_ok s _ (by omega)) ?_
  rintro v H2 ⟨rfl, d, ok, rfl, hd⟩
  simp [ddAV]
  refine cg_ex (implDeedRead_ok hE s _ (by omega)) ?_
  rintro v H3 ⟨rfl, e, ok2, rfl, he⟩
  obtain ⟨rfl, rfl⟩ := hd.one he
  rcases he with ⟨rfl, h0, h40, ht⟩ | ⟨rfl, rfl, hno⟩
  · simp [ddAV]
    have hk : d.key.size < 4611686018427387904 := by
      have := deedT_ok (d := d) (by rw [ht]; exact h0)
      simp only [deedOk, Bool.and_eq_true] at this
      have := keyOk_size this.2.1.1.1
      omega
    refine cg_use (implDeedText_ok hE.tab d _ hk) ?_
    simp [ht]
  · simp [ddAV, dd0]

end Go.Proofs.YtiecldkihdebiaaDoor.B

namespace Go.Proofs.YtiecldkihdebiaaDoor.B
open Go.RowKit Go.Proofs
set_option linter.unusedVariables false
set_option linter.unusedSimpArgs false
variable {E : Env}

theorem blockT_size (r : List Ent) : (blockT r).size ≤ 400 := by
  rcases Nat.eq_zero_or_pos (blockT r).size with h | h
  · omega
  · exact (blockT_form (by omega)).2.2
theorem sealT_size' (x : ByteArray) (hx : x.size ≤ 1000) : (sealT x).size ≤ 1100 := by
  have hb := sumB_bound x
  have hd := dec_size (sumB x) ⟨by omega, by omega⟩
  unfold sealT
  rw [ByteArray.size_append, ByteArray.size_append]
  have : (lit1 33).size = 1 := rfl
  omega
theorem DrawBlockRead_ok (c : AV) (bs : List Int) (H : Hp) (hc : Bytes H c bs) (hn : bs.length < 4611686018427387904) :
    AC Tryd.prog E 28 [c] H (fun v H' => ∃ s : ByteArray, v = .str s ∧ s.size ≤ 2000 ∧ HLe H H') := by
  refine AC_by fol (tC_le tab2_ok) h_spec_DrawBlockRead ?_
  simp [c_spec_DrawBlockRead]
  refine cg_ex (l6Open_ok c bs H hc hn) ?_
  rintro v H1 ⟨r, rfl, hr1, hle1, hrd1⟩
  simp
  refine cg_ex (l71Run_ok r 0 8 H1 hrd1 (by omega) (by omega)) ?_
  rintro v H2 ⟨es, hv, hok, hd2, hrd2⟩
  obtain ⟨f1, f2, f3⟩ := runOk_fits hok
  have hds := blockT_size es
  simp
  refine cg_use (BlockText_ok v es H2 hv.ents (fun e he => by have := f3 e he; omega) (by omega)) ?_
  simp
  refine cg_ex (pick_ok r _ 2 H2 hrd2 (by omega) (by omega)) ?_
  rintro v H3 ⟨k, rfl, hk, hd3, hrd3, hl3⟩
  have hle3 : HLe H H3 := (hle1.fr_le hd2 (fun x hx => by omega)).fr_le hd3 (fun x hx => by omega)
  simp
  refine g_split (fun hq => ?_) (fun hq => ?_) (by simp) <;> simp at hq
  · simp [hq]
    exact ⟨by omega, hle3⟩
  simp [hq]
  refine c_split (fun hq2 => ?_) (fun hq2 => ?_) <;> simp at hq2
  · simp
    exact ⟨by omega, hle3⟩
  have hs0 := size_ne hq2
  obtain ⟨s, hs⟩ : ∃ s, s = blockT es := ⟨_, rfl⟩
  rw [← hs] at hds hs0
  simp [← hs]
  refine cg_ex (pick_ok r _ s.size H3 hrd3 (by omega) (by omega)) ?_
  rintro v H4 ⟨i, rfl, hi, hd4, hrd4, hl4⟩
  have hi : i < s.size := by omega
  have hle4 := hle3.fr_le hd4 (fun x hx => by omega)
  simp
  refine cg_ex (pick_ok r _ 5 H4 hrd4 (by omega) (by omega)) ?_
  rintro v H5 ⟨j, rfl, hj, hd5, hrd5, hl5⟩
  have hle5 := hle4.fr_le hd5 (fun x hx => by omega)
  have hw := wrapN (i := i) (by omega)
  simp
  refine c_split (fun hq3 => ?_) (fun hq3 => ?_) <;> simp at hq3
  · simp [hw]
    exact ⟨by omega, ⟨by omega, by omega⟩, by omega, by omega, hle5⟩
  simp
  refine c_split (fun hq4 => ?_) (fun hq4 => ?_) <;> simp at hq4
  · simp
    have hl : Strs (H5 ++ [some ⟨[[.str ⟨#[48]⟩], [.str ⟨#[97]⟩], [.str ⟨#[59]⟩], [.str ⟨#[45]⟩], [.str ⟨#[61]⟩], [.str ⟨#[33]⟩]], 1, 9, false⟩]) (.sl H5.length 0 6) [⟨#[48]⟩, ⟨#[97]⟩, ⟨#[59]⟩, ⟨#[45]⟩, ⟨#[61]⟩, ⟨#[33]⟩] := Strs.at (e := 9) (ro := false) (by simp [strRow]) rfl
    have hb : ∀ x ∈ ([⟨#[48]⟩, ⟨#[97]⟩, ⟨#[59]⟩, ⟨#[45]⟩, ⟨#[61]⟩, ⟨#[33]⟩] : List ByteArray), x.size ≤ 40 := by decide
    refine ⟨by omega, cg_ex (of_ok r _ _ _ _ (hrd5.le (HLe.self _ _)) hl (by simp) (by simp) (by omega)) ?_⟩
    rintro v H6 ⟨x, hx, rfl, hd6, hrd6, hl6⟩
    have hxs := hb x hx
    have hle6 := (hle5.app _).fr_le hd6 (fun x hx => by omega)
    simp
    exact ⟨by omega, by omega, by omega, hle6⟩
  simp
  refine c_split (fun hq5 => ?_) (fun hq5 => ?_) <;> simp at hq5
  · simp
    have hl : Strs (H5 ++ [some ⟨[[.str ⟨#[]⟩], [.str ⟨#[97, 61, 49, 45, 48, 59]⟩], [.str ⟨#[120, 61, 49, 45, 49, 59]⟩], [.str ⟨#[97, 61, 49, 48, 48, 45, 49, 59]⟩], [.str ⟨#[97, 61, 48, 49, 45, 49, 59]⟩], [.str ⟨#[97, 45, 49, 59, 97, 45, 50, 59]⟩], [.str ⟨#[97, 45, 49]⟩], [.str ⟨#[98, 45, 49, 59, 97, 45, 49, 59]⟩]], 1, 9, false⟩]) (.sl H5.length 0 8) [⟨#[]⟩, ⟨#[97, 61, 49, 45, 48, 59]⟩, ⟨#[120, 61, 49, 45, 49, 59]⟩, ⟨#[97, 61, 49, 48, 48, 45, 49, 59]⟩, ⟨#[97, 61, 48, 49, 45, 49, 59]⟩, ⟨#[97, 45, 49, 59, 97, 45, 50, 59]⟩, ⟨#[97, 45, 49]⟩, ⟨#[98, 45, 49, 59, 97, 45, 49, 59]⟩] := Strs.at (e := 9) (ro := false) (by simp [strRow]) rfl
    have hb : ∀ x ∈ ([⟨#[]⟩, ⟨#[97, 61, 49, 45, 48, 59]⟩, ⟨#[120, 61, 49, 45, 49, 59]⟩, ⟨#[97, 61, 49, 48, 48, 45, 49, 59]⟩, ⟨#[97, 61, 48, 49, 45, 49, 59]⟩, ⟨#[97, 45, 49, 59, 97, 45, 50, 59]⟩, ⟨#[97, 45, 49]⟩, ⟨#[98, 45, 49, 59, 97, 45, 49, 59]⟩] : List ByteArray), x.size ≤ 40 := by decide
    refine cg_ex (of_ok r _ _ _ _ (hrd5.le (HLe.self _ _)) hl (by simp) (by simp) (by omega)) ?_
    rintro v H6 ⟨x, hx, rfl, hd6, hrd6, hl6⟩
    have hxs := hb x hx
    have hle6 := (hle5.app _).fr_le hd6 (fun x hx => by omega)
    simp
    refine cg_use (l21Seal_ok x H6 (by omega)) ?_
    have := sealT_size' x (by omega)
    simp
    exact ⟨by omega, hle6⟩
  simp
  refine c_split (fun hq6 => ?_) (fun hq6 => ?_) <;> simp at hq6
  · simp
    exact ⟨by omega, by omega, hle5⟩
  simp
  exact ⟨by omega, by omega, hle5⟩

theorem lawBlockBack_ok (hE : LibE E) (a : AV) (xs : List Int) (H : Hp) (ha : Bytes H a xs) (hx : xs.length < 4611686018427387904) :
    AC Tryd.prog E 9 [a] H (fun v H' => v = .bool true) := by
  refine AC_by fol (tC_le tabI_ok) h_laws_FnBlockBack ?_
  have l1 := ha.len
  simp [c_laws_FnBlockBack, l1, ha.1.slc]
  refine c_split (fun hq => ?_) (fun hq => ?_) <;> simp at hq <;> simp
  refine cg_ex (DrawBlockText_ok a xs H ha hx) ?_
  rintro rv H1 ⟨r, hr, hsm, hle1⟩
  have hrl := hsm.2
  simp
  refine cg_use (implBlockText_ok hE.tab rv r H1 hr.ents hsm.short (by omega)) ?_
  simp
  refine cg_use (BlockText_ok rv r H1 hr.ents hsm.short (by omega)) ?_
  simp
  refine c_split (fun hq4 => ?_) (fun hq4 => ?_) <;> simp at hq4
  · simp [hq4]
    refine cg_use (BlockText_ok rv r H1 hr.ents hsm.short (by omega)) ?_
    simp [hq4]
  have hds := blockT_size r
  simp
  refine cg_ex (implBlockRead_ok hE (blockT r) H1 (by omega)) ?_
  rintro v H2 ⟨hle2, w, q, ok, rfl, hb, hw⟩
  obtain ⟨rfl, rfl⟩ := hb.one (BlockIs.back (size_ne hq4))
  simp
  refine cg_use (ltRuns_ok w rv q q H2 hw.ents (Rows.le hr.ents hle2) (by omega)) ?_
  simp
  omega

theorem tmodN (n m : Nat) : (n : Int).tmod (m : Int) = ((n % m : Nat) : Int) := by
  rw [Int.tmod_eq_emod_of_nonneg (by omega)]
  exact (Int.natCast_emod _ _).symm
theorem lawBlockTorn_ok (hE : LibE E) (a b : AV) (xs ys : List Int) (H : Hp) (ha : Bytes H a xs) (hb : Bytes H b ys) (hx : xs.length < 4611686018427387904) (hy : ys.length < 4611686018427387904) :
    AC Tryd.prog E 8 [a, b] H (fun v H' => v = .bool true) := by
  refine AC_by fol (tC_le tabI_ok) h_laws_FnBlockTorn ?_
  have l1 := ha.len
  have l2 := hb.len
  simp [c_laws_FnBlockTorn, l1, l2, ha.1.slc, hb.1.slc]
  refine g_split (fun hq => ?_) (fun hq => ?_) (by simp) <;> simp at hq <;> simp [hq, l1, l2, ha.1.slc, hb.1.slc]
  refine c_split (fun hq2 => ?_) (fun hq2 => ?_) <;> simp at hq2 <;> simp
  refine cg_ex (DrawBlockText_ok a xs H ha hx) ?_
  rintro rv H1 ⟨r, hr, hsm, hle1⟩
  have hrl := hsm.2
  simp
  refine cg_use (implBlockText_ok hE.tab rv r H1 hr.ents hsm.short (by omega)) ?_
  simp
  refine cg_use (BlockText_ok rv r H1 hr.ents hsm.short (by omega)) ?_
  simp
  refine c_split (fun hq4 => ?_) (fun hq4 => ?_) <;> simp at hq4
  · simp [hq4]
    refine cg_use (BlockText_ok rv r H1 hr.ents hsm.short (by omega)) ?_
    simp [hq4]
  have hds := blockT_size r
  have hs0 := size_ne hq4
  have hi : ys.length % (blockT r).size < (blockT r).size := Nat.mod_lt _ (by omega)
  have hm := tmodN ys.length (blockT r).size
  generalize hn : ys.length % (blockT r).size = n at hi hm
  simp [l2, hb.1.slc, hm, hq4]
  refine ⟨hq4, by omega, ?_⟩
  refine cg_ex (implBlockRead_ok hE ((blockT r).extract 0 n) H1 (by rw [ByteArray.size_extract]; omega)) ?_
  rintro v H2 ⟨hle2, w, q, ok, rfl, hbk, hw⟩
  have hno : BlockIs ((blockT r).extract 0 n) [] false := .inr ⟨rfl, rfl, fun q hq => torn hs0 hi hq⟩
  obtain ⟨rfl, rfl⟩ := hbk.one hno
  simp

theorem lawBlockByte_ok (hE : LibE E) (a b : AV) (xs ys : List Int) (H : Hp) (ha : Bytes H a xs) (hb : Bytes H b ys) (hx : xs.length < 4611686018427387904) (hy : ys.length < 4611686018427387904) :
    AC Tryd.prog E 7 [a, b] H (fun v H' => v = .bool true) := by
  refine AC_by fol (tC_le tabI_ok) h_laws_FnBlockByte ?_
  have l1 := ha.len
  have l2 := hb.len
  simp [c_laws_FnBlockByte, l1, l2, ha.1.slc, hb.1.slc]
  refine g_split (fun hq => ?_) (fun hq => ?_) (by simp) <;> simp at hq <;> simp [hq, l1, l2, ha.1.slc, hb.1.slc]
  refine c_split (fun hq2 => ?_) (fun hq2 => ?_) <;> simp at hq2 <;> simp
  refine cg_ex (DrawBlockText_ok a xs H ha hx) ?_
  rintro rv H1 ⟨r, hr, hsm, hle1⟩
  have hrl := hsm.2
  simp
  refine cg_use (implBlockText_ok hE.tab rv r H1 hr.ents hsm.short (by omega)) ?_
  simp
  refine cg_use (BlockText_ok rv r H1 hr.ents hsm.short (by omega)) ?_
  simp
  refine c_split (fun hq4 => ?_) (fun hq4 => ?_) <;> simp at hq4
  · simp [hq4]
    refine cg_use (BlockText_ok rv r H1 hr.ents hsm.short (by omega)) ?_
    simp [hq4]
  have hds := blockT_size r
  have hs0 := size_ne hq4
  have hi : ys.length % (blockT r).size < (blockT r).size := Nat.mod_lt _ (by omega)
  have hm := tmodN ys.length (blockT r).size
  generalize hn : ys.length % (blockT r).size = n at hi hm
  have hw2 : IntKind.i64.wrap ((n : Int) + 1) = (n : Int) + 1 := wrap64 (by omega) (by omega)
  have ht : ((n : Int) + 1).toNat = n + 1 := by omega
  have e1 : ∀ c : UInt8, (⟨#[c]⟩ : ByteArray).size = 1 := fun _ => rfl
  have fin : ∀ c : UInt8, 97 ≤ c.toNat → (c.toNat : Int) ≠ bt (blockT r) n → BlockIs ((blockT r).extract 0 n ++ ⟨#[c]⟩ ++ (blockT r).extract (n + 1) (blockT r).size) [] false := fun c h1 h2 => .inr ⟨rfl, rfl, fun q hq => other hs0 hi h1 h2 hq⟩
  have siz : ∀ c : UInt8, ((blockT r).extract 0 n ++ ⟨#[c]⟩ ++ (blockT r).extract (n + 1) (blockT r).size).size < 4294967281 := fun c => by
    simp only [ByteArray.size_append, ByteArray.size_extract, e1]
    omega
  simp [l2, hb.1.slc, hm, hq4, hi]
  refine ⟨hq4, ?_⟩
  refine c_split (fun hq5 => ?_) (fun hq5 => ?_) <;> simp at hq5
  · simp [l2, hb.1.slc, hm, hq4, hi, hw2, ht, e1]
    refine ⟨by omega, by omega, ⟨by omega, by omega⟩, by omega, ?_⟩
    refine cg_ex (implBlockRead_ok hE _ H1 (siz 99)) ?_
    rintro v H2 ⟨hle2, w, q, ok, rfl, hbk, hw⟩
    obtain ⟨rfl, rfl⟩ := hbk.one (fin 99 (by decide) (by rw [hq5]; decide))
    simp
  · simp [l2, hb.1.slc, hm, hq4, hi, hw2, ht, e1]
    refine ⟨by omega, by omega, ⟨by omega, by omega⟩, by omega, ?_⟩
    refine cg_ex (implBlockRead_ok hE _ H1 (siz 97)) ?_
    rintro v H2 ⟨hle2, w, q, ok, rfl, hbk, hw⟩
    obtain ⟨rfl, rfl⟩ := hbk.one (fin 97 (by decide) (fun h => hq5 h.symm))
    simp

theorem lawBlockStrict_ok (hE : LibE E) (a : AV) (xs : List Int) (H : Hp) (ha : Bytes H a xs) (hx : xs.length < 4611686018427387904) :
    AC Tryd.prog E 11 [a] H (fun v H' => v = .bool true) := by
  refine AC_by fol (tC_le tabI_ok) h_laws_FnBlockStrict ?_
  have l1 := ha.len
  simp [c_laws_FnBlockStrict, l1, ha.1.slc]
  refine c_split (fun hq => ?_) (fun hq => ?_) <;> simp at hq <;> simp
  refine cg_ex (DrawBlockRead_ok a xs H ha hx) ?_
  rintro v H1 ⟨s, rfl, hs, hle1⟩
  simp
  refine cg_ex (BlockRead_ok s H1 (by omega)) ?_
  rintro v H2 ⟨hle2, w, rfl, hw⟩
  simp
  refine cg_ex (implBlockRead_ok hE s H2 (by omega)) ?_
  rintro v H3 ⟨hle3, w2, q, ok, rfl, hbk, hw2⟩
  obtain ⟨e1, e2⟩ := (BlockIs.of_blockR s).one hbk
  rw [e1] at hw
  have hql : q.length ≤ 1000 := by
    rcases hbk with ⟨h1, h2, h3⟩ | ⟨_, h2, _⟩
    · have := (runOk_fits (blockT_form (r := q) (by rw [h3]; exact h2)).1).2.1
      omega
    · rw [h2]; simp
  simp [e2]
  refine cg_use (ltRuns_ok w2 w q q H3 hw2.ents (Rows.le hw.ents hle3) (by omega)) ?_
  rcases hbk with ⟨rfl, h0, h3⟩ | ⟨rfl, rfl, _⟩
  · have hro := (blockT_form (r := q) (by rw [h3]; exact h0)).1
    have hsh : Short q := fun e he => by have := (runOk_fits hro).2.2 e he; omega
    simp
    refine cg_use (implBlockText_ok hE.tab w2 q H3 hw2.ents hsh (by omega)) ?_
    simp [h3]
    refine cg_use (implRunOk_ok w2 q H3 hw2.ents hsh (by omega)) ?_
    simp [hro]
  · have l2 := hw2.ents.len
    simp [hw2.ents.slc] at l2 ⊢
    simp [l2]

theorem blockT_nil : (blockT []).size ≠ 0 := by
  have hb := sumB_bound (runText [])
  have hd := dec_size (sumB (runText [])) ⟨by omega, by omega⟩
  have h1 : (lit1 33).size = 1 := rfl
  have h2 : (runText []).size = 0 := rfl
  have hs : (sealT (runText [])).size = 0 + 1 + (dec (sumB (runText []))).size := by
    unfold sealT
    rw [ByteArray.size_append, ByteArray.size_append, h1, h2]
  unfold blockT
  rw [if_pos (by decide), if_pos (by omega), hs]
  omega
theorem lawBlockNone_ok (hE : LibE E) (a : AV) (xs : List Int) (H : Hp) (ha : Bytes H a xs) (hx : xs.length < 4611686018427387904) :
    AC Tryd.prog E 10 [a] H (fun v H' => v = .bool true) := by
  refine AC_by fol (tC_le tabI_ok) h_laws_FnBlockNone ?_
  have l1 := ha.len
  simp [c_laws_FnBlockNone, l1, ha.1.slc]
  refine c_split (fun hq => ?_) (fun hq => ?_) <;> simp at hq <;> simp
  refine cg_ex (DrawBlockRead_ok a xs H ha hx) ?_
  rintro v H1 ⟨s, rfl, hs, hle1⟩
  simp
  refine cg_ex (BlockRead_ok s H1 (by omega)) ?_
  rintro v H2 ⟨hle2, w, rfl, hw⟩
  simp
  refine cg_ex (implBlockRead_ok hE s H2 (by omega)) ?_
  rintro v H3 ⟨hle3, w2, q, ok, rfl, hbk, hw2⟩
  obtain ⟨e1, e2⟩ := (BlockIs.of_blockR s).one hbk
  rw [e1] at hw
  simp
  refine cg_use (implBlockText_ok hE.tab .nils [] H3 (.inl ⟨rfl, rfl⟩) (fun e he => by cases he) (by simp)) ?_
  simp
  have hnl := blockT_size []
  refine cg_ex (implBlockRead_ok hE (blockT []) H3 (by omega)) ?_
  rintro v H4 ⟨hle4, w3, q3, ok3, rfl, hbk3, hw3⟩
  obtain ⟨rfl, rfl⟩ := hbk3.one (BlockIs.back blockT_nil)
  simp
  refine cg_ex (implBlockRead_ok hE ⟨#[]⟩ H4 (by decide)) ?_
  rintro v H5 ⟨hle5, w4, q4, ok4, rfl, hbk4, hw4⟩
  obtain ⟨rfl, rfl⟩ := hbk4.one (.inr ⟨rfl, rfl, fun _ _ => rfl⟩ : BlockIs ⟨#[]⟩ [] false)
  simp [e2]
  have hql : q.length ≤ 1000 := by
    rcases hbk with ⟨h1, h2, h3⟩ | ⟨_, h2, _⟩
    · have := (runOk_fits (blockT_form (r := q) (by rw [h3]; exact h2)).1).2.1
      omega
    · rw [h2]; simp
  refine cg_use (ltRuns_ok w2 w q q H5 (Rows.le hw2.ents (hle4.trans hle5)) (Rows.le hw.ents (hle3.trans (hle4.trans hle5))) (by omega)) ?_
  have l3 := (hw3.ents.le hle5).len
  have s3 := (hw3.ents.le hle5).slc
  simp at l3
  simp [l3, s3]
  refine cg_use (implBlockText_ok hE.tab .nils [] H5 (.inl ⟨rfl, rfl⟩) (fun e he => by cases he) (by simp)) ?_
  simp
  exact fun h => blockT_nil (by rw [h]; rfl)

end Go.Proofs.YtiecldkihdebiaaDoor.B

namespace Go.Proofs.YtiecldkihdebiaaDoor.B
open Go.RowKit Go.Proofs
set_option linter.unusedVariables false
set_option linter.unusedSimpArgs false
variable {E : Env}

theorem impl_in_ok (n l h : Int) (H : Hp) : AC Tryd.prog E 44 [.int .i64 n, .int .i64 l, .int .i64 h] H (fun v H' => v = .bool (decide (l ≤ n ∧ n ≤ h)) ∧ H' = H) := by
  refine AC_by fol (CLe.refl (AC Tryd.prog E)) h_impl_in ?_
  simp [c_impl_in]
  refine g_split (fun hq => ?_) (fun hq => ?_) (by simp) <;> simp at hq <;> simp [hq]
  omega

/-- The size of strings. -/
def szL (xs : List ByteArray) : Nat := (xs.map ByteArray.size).sum
theorem szL_take (xs : List ByteArray) {i : Nat} (h : i < xs.length) : szL (xs.take (i + 1)) = szL (xs.take i) + xs[i].size := by
  unfold szL
  rw [List.take_succ_eq_append_getElem h, List.map_append, List.sum_append]
  simp
theorem szL_le (xs : List ByteArray) (i : Nat) : szL (xs.take i) ≤ szL xs := by
  have h : szL xs = szL (xs.take i) + szL (xs.drop i) := by
    unfold szL
    rw [← List.sum_append, ← List.map_append, List.take_append_drop]
  omega

/-- Moves. -/
abbrev Mv := Int × ByteArray
def mvRow (m : Mv) : List AV := [.int .i64 m.1, .str m.2]
def Mvs (H : Hp) (v : AV) (ms : List Mv) : Prop := Rows 2 H v (ms.map mvRow)
theorem Mvs.le {H H' : Hp} {v : AV} {xs : List Mv} (h : Mvs H v xs) (hle : HLe H H') : Mvs H' v xs := Rows.le h hle
theorem Mvs.len {H : Hp} {v : AV} {xs : List Mv} (h : Mvs H v xs) : lenV v = .int .i64 xs.length := by simpa using Rows.len h
theorem Mvs.slc {H : Hp} {v : AV} {xs : List Mv} (h : Mvs H v xs) : slC v := Rows.slc h
theorem Mvs.get {H : Hp} {v : AV} {xs : List Mv} (h : Mvs H v xs) {j : Nat} (hj : j < xs.length) :
    ∃ o i ob, v = .sl o i xs.length ∧ H.at o = some ob ∧ ob.esz = 2 ∧ ob.rows[i + j]? = some [.int .i64 xs[j].1, .str xs[j].2] := by
  obtain ⟨o, i, ob, h1, h2, h3, h4⟩ := Rows.get h (j := j) (by simpa using hj)
  exact ⟨o, i, ob, by simpa using h1, h2, h3, by simpa [mvRow] using h4⟩

def szM (xs : List Mv) : Nat := szL (xs.map (·.2))
theorem szM_take (xs : List Mv) {i : Nat} (h : i < xs.length) : szM (xs.take (i + 1)) = szM (xs.take i) + xs[i].2.size := by
  have := szL_take (xs.map (·.2)) (i := i) (by simpa using h)
  simpa [szM, List.map_take] using this
theorem szM_le (xs : List Mv) (i : Nat) : szM (xs.take i) ≤ szM xs := by
  have := szL_le (xs.map (·.2)) i
  simpa [szM, List.map_take] using this

/-- The digits of a mark. -/
def markB (k : Int) : ByteArray := strOf [IntKind.u8.wrap (IntKind.i64.wrap (48 + k.tmod 10))]
def markL : Nat → Int → ByteArray → ByteArray
  | 0, _, out => out
  | f + 1, k, out => if 0 < k then markL f (IntKind.i64.wrap (k.tdiv 10)) (markB k ++ out) else out
def markT (k : Int) : ByteArray := if k ≤ 0 then ⟨#[109, 48]⟩ else ⟨#[109]⟩ ++ markL k.toNat k ⟨#[]⟩
theorem markB_size (k : Int) : (markB k).size = 1 := by simp [markB, strOf, ByteArray.size_push]
theorem markL_size : ∀ (f : Nat) (k : Int) (out : ByteArray), (markL f k out).size ≤ out.size + f
  | 0, k, out => by simp [markL]
  | f + 1, k, out => by
    simp only [markL]
    split
    · have := markL_size f (IntKind.i64.wrap (k.tdiv 10)) (markB k ++ out)
      rw [ByteArray.size_append, markB_size] at this
      omega
    · omega
theorem tdiv10 {k : Int} (h : 0 < k) (h2 : k < 9223372036854775807) : IntKind.i64.wrap (k.tdiv 10) = k / 10 := by
  have e : k.tdiv 10 = k / 10 := Int.tdiv_eq_ediv_of_nonneg (by omega)
  rw [e, wrap64 (by omega) (by omega)]

theorem markText_ok (K : Int) (H : Hp) (hK : K < 4611686018427387904) : AC Tryd.prog E 54 [.int .i64 K] H (fun v H' => v = .str (markT K) ∧ H' = H) := by
  refine AC_byp (CLe.refl _) h_laws_markText (by simp) ?_
  simp [c_laws_markText]
  refine c_split (fun hq => ?_) (fun hq => ?_) <;> simp at hq <;> simp
  · simp [markT, hq]
  · refine W_for (fun f t H' => ∃ kt out, t 0 = .int .i64 kt ∧ t 3 = .str out ∧ markL f kt out = markL K.toNat K ⟨#[]⟩ ∧ kt ≤ f ∧ 0 ≤ kt ∧ (out.size : Int) + kt ≤ K ∧ HLe H H') K.toNat ?_ AC_mono ?_
    · exact ⟨K, ⟨#[]⟩, by simp, by simp, rfl, by omega, by omega, by simp [ByteArray.size], HLe.refl _⟩
    rintro f t H' ⟨kt, out, h0, h3, hm, hf, hk0, hsz, hle⟩
    simp [h0, h3]
    refine c_split (fun hq2 => ?_) (fun hq2 => ?_) <;> simp at hq2
    · obtain ⟨f, rfl⟩ : ∃ g, f = g + 1 := ⟨f - 1, by omega⟩
      have e1 : strOf [IntKind.u8.wrap (IntKind.i64.wrap (48 + kt.tmod 10))] = markB kt := rfl
      simp only [markL, if_pos hq2] at hm
      simp [h0, h3, e1]
      have hd := tdiv10 (k := kt) hq2 (by omega)
      have hb := markB_size kt
      exact ⟨by omega, f, by omega, hm, by omega, by omega, by omega, hle.app _⟩
    · have : kt = 0 := by omega
      subst this
      have hend : markL f 0 out = out := by cases f <;> simp [markL]
      have hs2 := markL_size K.toNat K ⟨#[]⟩
      rw [hend] at hm
      simp [h0, h3, hle]
      have e0 : (⟨#[109]⟩ : ByteArray).size = 1 := rfl
      refine ⟨by omega, ?_⟩
      unfold markT
      rw [if_neg (by omega), hm]

def markR (k : Int) (j : Nat) : List AV := [.str (markT (k + j))]
end Go.Proofs.YtiecldkihdebiaaDoor.B

namespace Go.Proofs.YtiecldkihdebiaaDoor.B
open Go.RowKit Go.Proofs
set_option linter.unusedVariables false
set_option linter.unusedSimpArgs false
variable {E : Env}

def szE (xs : List Ent) : Nat := szL (xs.map (·.key))
theorem szE_take (xs : List Ent) {i : Nat} (h : i < xs.length) : szE (xs.take (i + 1)) = szE (xs.take i) + xs[i].key.size := by
  have := szL_take (xs.map (·.key)) (i := i) (by simpa using h)
  simpa [szE, List.map_take] using this
theorem szE_le (xs : List Ent) (i : Nat) : szE (xs.take i) ≤ szE xs := by
  have := szL_le (xs.map (·.key)) i
  simpa [szE, List.map_take] using this

theorem eqEntry_ok (m n : Ent) (H : Hp) :
    AC Tryd.prog E 53 [.ag (entRow m), .ag (entRow n)] H (fun v H' => v = .bool (decide (m = n)) ∧ H' = H) := by
  refine AC_byp (CLe.refl _) h_laws_eqEntry (by simp) ?_
  obtain ⟨m1, m2, m3, m4⟩ := m
  obtain ⟨n1, n2, n3, n4⟩ := n
  simp [c_laws_eqEntry, entRow]
  refine c_split (fun hq => ?_) (fun hq => ?_) <;> simp at hq <;> simp
  · intro h
    exact absurd h hq
  · refine c_split (fun hq2 => ?_) (fun hq2 => ?_) <;> simp at hq2 <;> simp [hq, hq2]
    refine c_split (fun hq3 => ?_) (fun hq3 => ?_) <;> simp at hq3 <;> simp [hq, hq2, hq3]
    refine c_split (fun hq4 => ?_) (fun hq4 => ?_) <;> simp at hq4 <;> simp [hq, hq2, hq3, hq4]

theorem eqEntryS_ok (a b : AV) (xs ys : List Ent) (H : Hp) (ha : Ents H a xs) (hb : Ents H b ys) (hx : xs.length < 9223372036854775807) : AC Tryd.prog E 21 [a, b] H (fun v H' => v = .bool (decide (xs = ys)) ∧ H' = H) := by
  refine AC_byp (CLe.refl _) h_laws_eqEntryS (by simp) ?_
  have l1 := ha.len
  have l2 := hb.len
  simp [c_laws_eqEntryS, l1, l2, ha.slc, hb.slc]
  refine c_split (fun hq => ?_) (fun hq => ?_) <;> simp at hq <;> simp
  · intro h
    subst h
    exact hq rfl
  · refine W_for (fun k t H' => ∃ i : Nat, i + k = xs.length ∧ t 0 = a ∧ t 1 = b ∧ t 5 = .int .i64 i ∧ (∀ j : Nat, j < i → xs[j]? = ys[j]?) ∧ HLe H H') xs.length ?_ AC_mono ?_
    · exact ⟨0, by simp⟩
    rintro k t H' ⟨i, hik, h0, h1, h5, hI, hle⟩
    simp [h0, h1, h5, l1, ha.slc]
    refine c_split (fun hq2 => ?_) (fun hq2 => ?_) <;> simp at hq2
    · have hw := wrapN (i := i) (by omega)
      obtain ⟨o1, i1, ob1, rfl, a1, a2, a3⟩ := (ha.le hle).get hq2
      obtain ⟨o2, i2, ob2, rfl, b1, b2, b3⟩ := (hb.le hle).get (j := i) (by omega)
      simp [h0, h1, h5, a1, a2, a3, b1, b2, b3, hq2, ← hq]
      refine callG_use (eqEntry_ok xs[i] ys[i] H') ?_
      simp
      refine c_split (fun hq3 => ?_) (fun hq3 => ?_) <;> simp at hq3 <;> simp [h0, h1, h5, hw, hle]
      · intro h
        subst h
        exact hq3 rfl
      · refine ⟨k - 1, by omega, i + 1, by omega, by omega, fun j hj => ?_⟩
        rcases Nat.lt_or_ge j i with h | h
        · exact hI j h
        · have : j = i := by omega
          subst this
          rw [List.getElem?_eq_getElem hq2, List.getElem?_eq_getElem (by omega), hq3]
    · simp [hle]
      apply List.ext_getElem?
      intro j
      rcases Nat.lt_or_ge j i with h | h
      · exact hI j h
      · rw [List.getElem?_eq_none (by omega), List.getElem?_eq_none (by omega)]

theorem Ty.ents {H : Hp} {v : AV} (h : Ty H (.kl [.ks, .ki .i64, .kb, .ki .i64]) v) : ∃ xs : List Ent, Ents H v xs ∧ xs.length ≤ 140737488351232 ∧ ∀ s ∈ xs, s.key.size ≤ 140737488351232 := by
  obtain ⟨rows, h1, h2, h3⟩ := h.sl
  obtain ⟨xs, rfl, hq⟩ := rows_map (f := entRow) (Q := fun s => s.key.size ≤ 140737488351232) (fun r hr => by
    obtain ⟨v, us, rfl, a1, a2⟩ := (h3 r hr).cons
    obtain ⟨w, us, rfl, b1, b2⟩ := a2.cons
    obtain ⟨x, us, rfl, c1, c2⟩ := b2.cons
    obtain ⟨y, us, rfl, d1, d2⟩ := c2.cons
    obtain ⟨s, rfl, hs⟩ := a1.str
    obtain ⟨n, rfl, _⟩ := b1.int
    obtain ⟨g, rfl⟩ := c1.bool
    obtain ⟨m, rfl, _⟩ := d1.int
    rw [d2.nil]
    exact ⟨⟨s, n, g, m⟩, rfl, hs⟩)
  exact ⟨xs, h1, by simpa using h2, hq⟩

end Go.Proofs.YtiecldkihdebiaaDoor.B

namespace Go.Proofs.YtiecldkihdebiaaDoor.B
open Go.RowKit Go.Proofs
set_option linter.unusedVariables false
set_option linter.unusedSimpArgs false
variable {E : Env}

/-- The mark of an entry. -/
def mkE (K : Int) (j : Nat) : Ent := ⟨markT (K + 4 * j), K + 4 * j + 1, decide ((K + 4 * j + 2).tmod 3 = 0), K + 4 * j + 3⟩
theorem markEntryS_ok (o e : Nat) (F : List (List AV)) (xs : List Ent) (K : Int) (H : Hp) (ho : H.at o = some ⟨F, 4, e, false⟩) (hn : xs.length ≤ F.length) (hF : F.take xs.length = xs.map entRow) (hK : 0 ≤ K ∧ K < 1152921504606846976) (hx : xs.length < 1099511627776) :
    AC Tryd.prog E 22 [.sl o 0 xs.length, .int .i64 K] H (fun v H' => v = .int .i64 (K + 4 * xs.length) ∧ H' = List.set H o (some ⟨overR (fun j => entRow (mkE K j)) F xs.length, 4, e, false⟩)) := by
  refine AC_by fol (CLe.refl _) h_laws_markEntryS ?_
  have hlt := Hp.at_lt ho
  simp [c_laws_markEntryS]
  refine W_for (fun k t H' => ∃ i : Nat, i + k = xs.length ∧ t 0 = .sl o 0 xs.length ∧ t 1 = .int .i64 (K + 4 * i) ∧ t 5 = .int .i64 i ∧ H' = List.set H o (some ⟨overR (fun j => entRow (mkE K j)) F i, 4, e, false⟩)) xs.length ?_ AC_mono ?_
  · exact ⟨0, by simp [overR_0, Hp.set_self ho]⟩
  rintro k t H' ⟨i, hik, h0, h1, h5, rfl⟩
  simp [h0, h1, h5]
  refine c_split (fun hq2 => ?_) (fun hq2 => ?_) <;> simp at hq2
  · have hw := wrapN (i := i) (by omega)
    have w1 : IntKind.i64.wrap (K + 4 * (i : Int) + 1) = K + 4 * (i : Int) + 1 := wrap64 (by omega) (by omega)
    have w2 : IntKind.i64.wrap (K + 4 * (i : Int) + 1 + 1) = K + 4 * (i : Int) + 2 := by rw [wrap64 (by omega) (by omega)]; omega
    have w3 : IntKind.i64.wrap (K + 4 * (i : Int) + 2 + 1) = K + 4 * (i : Int) + 3 := by rw [wrap64 (by omega) (by omega)]; omega
    have w4 : IntKind.i64.wrap (K + 4 * (i : Int) + 3 + 1) = K + 4 * ((i + 1 : Nat) : Int) := by rw [wrap64 (by omega) (by omega)]; omega
    have hiF : i < F.length := by omega
    have hrow : F[i] = entRow xs[i] := by
      have : (F.take xs.length)[i]? = (xs.map entRow)[i]? := by rw [hF]
      rw [List.getElem?_take_of_lt hq2, List.getElem?_eq_getElem hiF, List.getElem?_map, List.getElem?_eq_getElem hq2] at this
      exact Option.some.inj this
    have hs := overR_set (f := fun j => entRow (mkE K j)) hiF
    have hg := overR_get (f := fun j => entRow (mkE K j)) hiF
    rw [hrow] at hg
    obtain ⟨m, hm⟩ : ∃ m, m = xs[i] := ⟨_, rfl⟩
    rw [← hm] at hg
    obtain ⟨R, hR⟩ : ∃ R, R = overR (fun j => entRow (mkE K j)) F i := ⟨_, rfl⟩
    rw [← hR] at hg hs ⊢
    have hRl : i < R.length := (List.getElem?_eq_some_iff.1 hg).1
    have gs : ∀ row : List AV, (R.set i row)[i]? = some row := fun row => by rw [List.getElem?_set_self hRl]
    simp only [entRow] at hg
    simp [h0, h1, h5]
    refine callG_use (markText_ok _ _ (by omega)) ?_
    simp [h0, h1, h5, Hp.at_set _ hlt, hg, gs, hq2, hw, w1, w2, w3, w4]
    refine ⟨k - 1, by omega, i + 1, by omega, by omega, by omega, ?_⟩
    rw [← hs]
    rfl
  · have : i = xs.length := by omega
    subst this
    simp [h1]

theorem heldEntryS_ok (a : AV) (xs : List Ent) (K : Int) (H : Hp) (ha : Ents H a xs) (hK : 0 ≤ K ∧ K < 1152921504606846976) (hn : xs.length < 1099511627776) (hx : ∀ (j : Nat) (h : j < xs.length), xs[j] = mkE K j) :
    AC Tryd.prog E 23 [a, .int .i64 K] H (fun v H' => v = .int .i64 (K + 4 * xs.length) ∧ H' = H) := by
  refine AC_byp (CLe.refl _) h_laws_heldEntryS (by simp) ?_
  have l1 := ha.len
  simp [c_laws_heldEntryS]
  refine W_for (fun k t H' => ∃ i : Nat, i + k = xs.length ∧ t 0 = a ∧ t 1 = .int .i64 (K + 4 * i) ∧ t 5 = .int .i64 i ∧ HLe H H') xs.length ?_ AC_mono ?_
  · exact ⟨0, by simp⟩
  rintro k t H' ⟨i, hik, h0, h1, h5, hle⟩
  simp [h0, h1, h5, l1, ha.slc]
  refine c_split (fun hq2 => ?_) (fun hq2 => ?_) <;> simp at hq2
  · have hw := wrapN (i := i) (by omega)
    have w1 : IntKind.i64.wrap (K + 4 * (i : Int) + 1) = K + 4 * (i : Int) + 1 := wrap64 (by omega) (by omega)
    have w2 : IntKind.i64.wrap (K + 4 * (i : Int) + 1 + 1) = K + 4 * (i : Int) + 2 := by rw [wrap64 (by omega) (by omega)]; omega
    have w3 : IntKind.i64.wrap (K + 4 * (i : Int) + 2 + 1) = K + 4 * (i : Int) + 3 := by rw [wrap64 (by omega) (by omega)]; omega
    have w4 : IntKind.i64.wrap (K + 4 * (i : Int) + 3 + 1) = K + 4 * ((i + 1 : Nat) : Int) := by rw [wrap64 (by omega) (by omega)]; omega
    obtain ⟨o1, i1, ob1, rfl, a1, a2, a3⟩ := (ha.le hle).get hq2
    rw [hx i hq2] at a3
    simp only [entRow, mkE] at a3
    simp [h0, h1, h5, a1, a2, a3, hq2]
    refine callG_use (markText_ok _ _ (by omega)) ?_
    simp [h0, h1, h5, a1, a2, a3, hq2, hw, w1, w2, w3, w4, hle]
    exact ⟨k - 1, by omega, i + 1, by omega, by omega, by omega⟩
  · have : i = xs.length := by omega
    subst this
    simp [h1, hle]
theorem markEntryS_own (g : AV) (q : List Ent) (K : Int) (H1 H : Hp) (hg : OwnE H1 H g q) (hle : HLe H1 H) (hK : 0 ≤ K ∧ K < 1152921504606846976) (hx : q.length < 1099511627776) :
    AC Tryd.prog E 22 [g, .int .i64 K] H (fun v H' => v = .int .i64 (K + 4 * q.length) ∧ HLe H1 H' ∧ OwnE H1 H' g ((List.range q.length).map (mkE K))) := by
  obtain ⟨ho, hb⟩ := hg
  rcases ho with ⟨rfl, hq⟩ | ⟨rfl, hq⟩ | ⟨o, ob, rfl, h2, h3, h4, h5, h6, h7⟩
  · have hq : q = [] := by simpa using hq
    subst hq
    refine AC_by fol (CLe.refl _) h_laws_markEntryS ?_
    simp [c_laws_markEntryS]
    refine W_for (fun k t H' => t 0 = .nils ∧ t 1 = .int .i64 K ∧ t 5 = .int .i64 0 ∧ H' = H) 0 (by simp) AC_mono ?_
    rintro k t H' ⟨h0, h1, h5, rfl⟩
    simp [h0, h1, h5]
    exact ⟨hle, OwnM.nils⟩
  · have hq : q = [] := by simpa using hq
    subst hq
    refine AC_by fol (CLe.refl _) h_laws_markEntryS ?_
    simp [c_laws_markEntryS]
    refine W_for (fun k t H' => t 0 = .sz ∧ t 1 = .int .i64 K ∧ t 5 = .int .i64 0 ∧ H' = H) 0 (by simp) AC_mono ?_
    rintro k t H' ⟨h0, h1, h5, rfl⟩
    simp [h0, h1, h5]
    exact ⟨hle, .inr (.inl ⟨rfl, rfl⟩), hb⟩
  · obtain ⟨F, z1, z2, z3⟩ := ob
    simp only at h3 h4 h5 h6 h7
    subst h3
    subst h4
    subst h5
    rw [List.length_map] at h6 h7 hb ⊢
    have hlt := Hp.at_lt h2
    have hoH : H1.length ≤ o := hb o rfl
    refine (markEntryS_ok o _ F q K H h2 h6 h7 hK hx).mono (fun v H' e => ⟨e.1, ?_, ?_⟩)
    · rw [e.2]
      exact hle.set hoH _
    · rw [e.2]
      refine ⟨.inr (.inr ⟨o, _, by simp, Hp.at_set _ hlt, rfl, rfl, rfl, ?_, ?_⟩), hb⟩
      · simp [overR]
      · simp only [List.length_map, List.length_range, overR]
        rw [List.take_append_of_le_length (by simp), List.take_of_length_le (by simp), List.map_map]
        rfl
theorem lawExactBlockRead_ok (hE : LibE E) (s : ByteArray) (H : Hp) (hs : s.size < 4611686018427387904) : AC Tryd.prog E 6 [.str s] H (fun v H' => v = .bool true) := by
  refine AC_by fol (tC_le tabI_ok) h_laws_FnExactBlockRead ?_
  simp [c_laws_FnExactBlockRead]
  refine c_split (fun hq => ?_) (fun hq => ?_) <;> simp at hq <;> simp
  refine cg_ex (BlockRead_ok s H (by omega)) ?_
  rintro v H1 ⟨hle1, w, rfl, hw⟩
  simp
  refine cg_ex (implBlockRead_ok hE s H1 (by omega)) ?_
  rintro v H2 ⟨hle2, g, q, ok, rfl, hbk, hg⟩
  obtain ⟨e1, e2⟩ := (BlockIs.of_blockR s).one hbk
  rw [e1] at hw
  have hql : q.length ≤ 1000 := by
    rcases hbk with ⟨h1, h2, h3⟩ | ⟨_, h2, _⟩
    · have := (runOk_fits (blockT_form (r := q) (by rw [h3]; exact h2)).1).2.1
      omega
    · rw [h2]; simp
  have hw2 : Ents H2 w q := Rows.le hw.ents hle2
  simp [e2]
  refine cg_use (eqEntryS_ok g w q q H2 hg.ents hw2 (by omega)) ?_
  simp
  have hmk : ∀ (j : Nat) (h : j < ((List.range q.length).map (mkE 1)).length), ((List.range q.length).map (mkE 1))[j] = mkE 1 j := fun j h => by simp
  have hml : ((List.range q.length).map (mkE 1)).length = q.length := by simp
  have hneg : ¬ (1 + 4 * (q.length : Int) < 0) := by omega
  refine cg_ex (markEntryS_own g q 1 H1 H2 hg hle2 ⟨by omega, by omega⟩ (by omega)) ?_
  rintro v H3 ⟨rfl, hle3, hg3⟩
  simp
  refine cg_use (heldEntryS_ok g _ 1 H3 hg3.ents ⟨by omega, by omega⟩ (by omega) hmk) ?_
  simp [hneg]
  refine cg_ex (implBlockRead_ok hE s H3 (by omega)) ?_
  rintro v H4 ⟨hle4, g2, q2, ok2, rfl, hbk2, hg2⟩
  obtain ⟨rfl, rfl⟩ := hbk2.one hbk
  simp
  refine cg_use (eqEntryS_ok g2 w q2 q2 H4 hg2.ents (Rows.le hw.ents (hle3.trans hle4)) (by omega)) ?_
  simp
  refine cg_use (heldEntryS_ok g _ 1 H4 (Rows.le hg3.ents hle4) ⟨by omega, by omega⟩ (by omega) hmk) ?_
  simp [hneg]

end Go.Proofs.YtiecldkihdebiaaDoor.B

namespace Go.Proofs.YtiecldkihdebiaaDoor.B
end Go.Proofs.YtiecldkihdebiaaDoor.B
