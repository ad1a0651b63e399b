/- strings.Builder: a string is written. -/
import Derived.Test.YtkdnijiipegabaaDoorIk
namespace Go.Proofs.YtkdnijiipegabaaDoor.B
open Go.RowKit Go.Proofs
set_option linter.unusedVariables false
set_option linter.unusedSimpArgs false
variable {E : Env}

theorem wpList_app_run {P : Program} {ops : Array Oper} {rest : List Oper} {o : Oper} {a : Act} {Q : Exit → Act → World → Prop} {w w' : World} {v' : Value} (hgd : o.guard = none) (sl x : Operand) (t u : TypeId)
    (ho : o.op = .call { callee := .builtin .append, args := #[sl, x], argTypes := #[t, u] }) (hr : (Builtin.append_ #[t, u] o.type #[a.eval sl, a.eval x]).run P w = .ok v' w')
    (h : wpList P ops Q rest (a.put o.dst v') w') : wpList P ops Q (o :: rest) a w := by
  refine wpList_plain hgd fun K hK => ?_
  unfold Oper.wp execOp
  simp only [ho, resolve, invoke, builtin, Sem.run_bind, Sem.run_pure, Result.andThen_ok, List.map_toArray, List.map_cons, List.map_nil, hr]
  exact hK _ _ h

/-- A builder that holds bytes. -/
def Bld (H : Hp) (o : Nat) (x : AV) (bs : List Int) : Prop := ∃ a, H.at o = some ⟨[[a, x]], 2, 67, false⟩ ∧ (a = .nilp ∨ a = .pt o 0 0) ∧ BufA 5 H x bs ∧ (bs = [] → x = .nils)
theorem bufA_ne {e : Nat} {H : Hp} {x : AV} {bs : List Int} (h : BufA e H x bs) {o : Nat} {ob : Ob} (ho : H.at o = some ob) (he : ob.esz ≠ 1) : ¬ x.of o := by
  rcases h with ⟨rfl, _⟩ | ⟨o', rfl, h2⟩
  · exact fun h => h
  · intro h
    have : o' = o := h
    subst this
    rw [ho] at h2
    cases h2
    exact he rfl
theorem bufO_of {x : AV} {y : Nat} (h : bufO x = some y) : x.of y := by
  cases x <;> simp [bufO] at h
  exact h
theorem BufA.fr {e : Nat} {S : Nat → Prop} {H H' : Hp} {x : AV} {bs : List Int} (h : BufA e H x bs) (hf : Fr S H H') (hs : ∀ y, x.of y → ¬ S y) : BufA e H' x bs := by
  rcases h with h | ⟨o, rfl, h2⟩
  · exact .inl h
  · exact .inr ⟨o, rfl, hf.2 _ _ (hs o rfl) h2⟩
/-- What an append to a builder's bytes makes. -/
theorem bufH_ok {e : Nat} {H : Hp} {x : AV} {bs cs : List Int} (h : BufA e H x bs) : BufA e (bufH e H x bs cs).1 (bufH e H x bs cs).2 (bs ++ cs) ∧ Fr x.of H (bufH e H x bs cs).1 ∧ (∀ y, (bufH e H x bs cs).2.of y → x.of y ∨ H.length ≤ y) ∧ one (bufH e H x bs cs).2 = true := by
  unfold bufH
  split
  · rename_i hw
    have e1 : x = .nils ∧ cs = [] := by
      unfold bufW at hw
      split at hw
      · exact ⟨rfl, rfl⟩
      · cases hw
    obtain ⟨rfl, rfl⟩ := e1
    rcases h with ⟨_, h2⟩ | ⟨o, h1, _⟩
    · exact ⟨.inl ⟨rfl, by rw [h2]; rfl⟩, Fr.refl _ _, fun y hy => hy.elim, rfl⟩
    · cases h1
  · have hl : (killO H (bufO x)).length = H.length := by cases bufO x <;> simp [killO]
    refine ⟨.inr ⟨H.length, rfl, by rw [← hl]; exact Hp.at_app_0.trans Hp.at_0⟩, ?_, fun y hy => .inr (by have hy' : H.length = y := hy; omega), rfl⟩
    refine Fr.app ?_ _
    cases hb : bufO x with
    | none => exact Fr.refl _ _
    | some y => exact (Fr.refl _ _).set (.inl (bufO_of hb)) _

set_option maxRecDepth 100000 in
theorem WriteString_ok (o : Nat) (x : AV) (bs : List Int) (s : ByteArray) (H : Hp) (hb : Bld H o x bs) (hl : bs.length + s.size ≤ 140737488355328) :
    AC Tryd.prog E 46 [.pt o 0 0, .str s] H (fun u H' => u = .tu [.int .i64 s.size, .nili] ∧ ∃ x', Bld H' o x' (bs ++ bytesOf s) ∧ Fr (fun y => y = o ∨ x.of y) H H' ∧ ∀ y, x'.of y → x.of y ∨ H.length ≤ y) := by
  obtain ⟨a, ho, ha, hx, hxn⟩ := hb
  refine ⟨⟨_, _, Tryd.func46, by kernel_rfl, rfl⟩, fun φ w vals hv hH => ?_⟩
  obtain ⟨v, vs, rfl, hv1, v2, vs2, rfl, hv2, h3⟩ := hv
  have hv2 : v2 = .string s := hv2
  have h3 : vs2 = [] := h3
  subst hv2 h3
  obtain ⟨p, cells, va, vx, hp, rfl, hbase, hpe, hblk, hsz, c0, c1, ra, rx, hB⟩ := bld_parts hH ho hv1
  have cc := copy_HR hH ho ha hp hbase hpe
  obtain ⟨H1, hH1⟩ : ∃ H1 : Hp, H1 = List.set H o (some ⟨[[.pt o 0 0, x]], 2, 67, false⟩) := ⟨_, rfl⟩
  rw [← hH1] at cc
  have uo := Hp.at_lt ho
  have ho1 : H1.at o = some ⟨[[.pt o 0 0, x]], 2, 67, false⟩ := by rw [hH1]; exact Hp.at_set _ uo
  have hF1 : Fr (fun y => y = o) H H1 := by rw [hH1]; exact Fr.one _ _ _
  have hxo : ¬ x.of o := bufA_ne hx ho (by simp)
  have hx1 : BufA 5 H1 x bs := hx.fr hF1 (fun y hy e => hxo (e ▸ hy))
  have e51 : ∀ args w, (callFunc 51 args).run Tryd.prog w = .ok (.enter 51 args) w := enters_of Tryd.func51 (by kernel_rfl) rfl
  show Calls Tryd.prog 46 #[.pointer (some ⟨p.b, 0, none⟩), .string s] w _
  go_enter Tryd.func46, Tryd.ntmps46
  go_wp2_with (go_at_fn 51; refine cc.mono ?_)
  rintro e w1 ⟨rfl, hbel1, hHR1⟩
  obtain ⟨p1, cells1, va1, vx1, hp1, _, _, _, hblk1, hsz1, d0, d1, ra1, rx1, _⟩ := bld_parts hHR1 ho1 hv1
  obtain rfl := Option.some.inj (hp.symm.trans hp1)
  have k1 : w1.cell? ⟨p.b, 1, none⟩ = some vx1 := by simp [World.cell?, hblk1, d1]
  obtain ⟨i, hi, hi2⟩ := Option.map_eq_some_iff.1 (show (Tryd.prog.info? 5).map (fun i => (i.zero, i.size, i.bytes)) = some (some (Value.int .u8 0), 1, 1) by kernel_rfl)
  simp only [Prod.mk.injEq] at hi2
  obtain ⟨hz, hs1, hs2⟩ := hi2
  obtain ⟨v', w2, φ2, hr, hle2, hHR2, hbel2, hv'⟩ := HR.appStr (ty := 29) Tryd.underlying29 Tryd.underlying9 hi hz hs1 hs2 hHR1 rx1 s hx1 hl
  obtain ⟨q1, q2, q3, q4⟩ := bufH_ok (cs := bytesOf s) hx1
  obtain ⟨H2, hH2⟩ : ∃ H2 : Hp, H2 = (bufH 5 H1 x bs (bytesOf s)).1 := ⟨_, rfl⟩
  obtain ⟨x2, hx2⟩ : ∃ x2 : AV, x2 = (bufH 5 H1 x bs (bytesOf s)).2 := ⟨_, rfl⟩
  rw [← hH2] at q1 q2 hHR2
  rw [← hx2] at q1 q3 q4 hv'
  have ho2 := q2.2 _ _ hxo ho1
  have hp2 := hle2 o p hp
  obtain ⟨⟨u, hu⟩, hfz, hbel3, hHR3⟩ := hHR2.set1 (Hp.at_some ho2) rfl hp2 (i := 0) (row := [.pt o 0 0, x]) rfl (f := 1) (by simp) (a := x2) (v := v') q4 hv'
  rw [hbase] at hu hfz hbel3 hHR3
  simp only [Nat.zero_mul, Nat.zero_add] at hu hfz hbel3 hHR3
  obtain ⟨ao, n', cap, rfl⟩ : ∃ ao n' cap, v' = .slice ao n' cap := by
    rcases q1 with ⟨e1, _⟩ | ⟨o', e1, _⟩
    · rw [e1] at hv'
      exact ⟨_, _, _, hv'⟩
    · rw [e1] at hv'
      obtain ⟨p', a', c', _, e2, _⟩ := hv'
      exact ⟨_, _, _, e2⟩
  go_wp2_with (at_builtin; refine wpList_app_run rfl _ _ 29 9 rfl hr ?_)
  go_wp2
  go_ret2
  have uo2 := Hp.at_lt ho2
  have hS := Fr.one H2 o (some ⟨[[.pt o 0 0, x2]], 2, 67, false⟩)
  have hl1 := hF1.1
  have hxo2 : ¬ x2.of o := bufA_ne q1 ho2 (by simp)
  refine ⟨φ2, List.set H2 o (some ⟨[[.pt o 0 0, x2]], 2, 67, false⟩), .tu [.int .i64 s.size, .nili], hle2, hHR3, (hbel1.trans hbel2).trans hbel3, ⟨[.int .i64 s.size, .nilIface], rfl, _, _, rfl, rfl, _, _, rfl, rfl, rfl⟩, rfl, x2, ⟨.pt o 0 0, Hp.at_set _ uo2, .inr rfl, q1.fr hS (fun y hy e => hxo2 (e ▸ hy)), fun hnil => ?_⟩, ?_, ?_⟩
  · obtain ⟨h1, h2⟩ := List.append_eq_nil_iff.1 hnil
    rw [hx2, h2, hxn h1]
    rfl
  · exact ((hF1.mono (fun y hy => .inl (.inl hy))).trans q2 (fun y hy => .inl (.inr hy))).trans hS (fun y hy => .inl (.inl hy))
  · intro y hy
    have hlen : H1.length = H.length := by rw [hH1]; simp
    rcases q3 y hy with h | h
    · exact .inl h
    · exact .inr (by omega)

end Go.Proofs.YtkdnijiipegabaaDoor.B
