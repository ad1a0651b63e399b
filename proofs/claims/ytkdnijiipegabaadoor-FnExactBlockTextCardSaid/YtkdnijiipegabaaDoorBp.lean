/- The program logic: the rules by which functions are proved, in words for simp. -/
import Derived.Test.YtkdnijiipegabaaDoorBo
namespace Go.Proofs.YtkdnijiipegabaaDoor.B
open Go.RowKit
set_option linter.unusedVariables false
set_option linter.unusedSimpArgs false
variable {P : Program} {E : Env} {C : CallP}

/-! ### Memory that has grown -/

/-- What was there is there. -/
def HLe (H H' : Hp) : Prop := H.length ≤ H'.length ∧ ∀ o ob, H.at o = some ob → H'.at o = some ob
theorem HLe.refl (H : Hp) : HLe H H := ⟨Nat.le_refl _, fun _ _ h => h⟩
theorem HLe.trans {a b c : Hp} (h : HLe a b) (k : HLe b c) : HLe a c := ⟨Nat.le_trans h.1 k.1, fun o ob hh => k.2 o ob (h.2 o ob hh)⟩
theorem Hp.at_lt {H : Hp} {o : Nat} {ob : Ob} (h : H.at o = some ob) : o < H.length := (List.getElem?_eq_some_iff.1 (Hp.at_some h)).1
theorem Hp.at_app {H : Hp} {o : Nat} (l : Hp) (h : o < H.length) : Hp.at (H ++ l) o = H.at o := by simp only [Hp.at]; rw [List.getElem?_append_left h]
theorem Hp.at_app_ge {H l : Hp} (k : Nat) : Hp.at (H ++ l) (H.length + k) = l.at k := by simp only [Hp.at]; rw [List.getElem?_append_right (by omega)]; congr 1; simp
theorem Hp.at_app_0 {H l : Hp} : Hp.at (H ++ l) H.length = l.at 0 := Hp.at_app_ge (H := H) (l := l) 0
theorem Hp.at_0 {x : Option Ob} {l : Hp} : Hp.at (x :: l) 0 = x := by simp [Hp.at]
theorem Hp.at_s {x : Option Ob} {l : Hp} {k : Nat} : Hp.at (x :: l) (k + 1) = Hp.at l k := by simp [Hp.at]
theorem Hp.set_app {H l : Hp} {x : Option Ob} (k : Nat) : List.set (H ++ l) (H.length + k) x = H ++ List.set l k x := by rw [List.set_append_right _ _ (by omega)]; congr 2; omega
theorem Hp.set_app_0 {H l : Hp} {x : Option Ob} : List.set (H ++ l) H.length x = H ++ List.set l 0 x := Hp.set_app (H := H) (l := l) 0
theorem HLe.app {H H' : Hp} (h : HLe H H') (l : Hp) : HLe H (H' ++ l) := ⟨by rw [List.length_append]; have := h.1; omega, fun o ob hh => by
  have := h.2 o ob hh
  rw [Hp.at_app l (Hp.at_lt this)]
  exact this⟩
theorem HLe.self (H : Hp) (l : Hp) : HLe H (H ++ l) := (HLe.refl H).app l
theorem Hp.at_set_ne {H : Hp} {o o' : Nat} {x : Option Ob} (h : o' ≠ o) : Hp.at (List.set H o' x) o = H.at o := by simp only [Hp.at]; rw [List.getElem?_set_ne h]
theorem HLe.set {H H' : Hp} (h : HLe H H') {o : Nat} (ho : H.length ≤ o) (x : Option Ob) : HLe H (List.set H' o x) := ⟨by rw [List.length_set]; exact h.1, fun o' ob hh => by
  rw [Hp.at_set_ne (by have := Hp.at_lt hh; omega)]
  exact h.2 o' ob hh⟩

/-! ### Values without memory -/
mutual
def AV.plain : AV → Bool
  | .int _ _ | .bool _ | .str _ | .nilp | .nils | .sz | .nilf | .nili | .un => true
  | .ag cs => AV.plains cs
  | .tu cs => AV.plains cs
  | _ => false
def AV.plains : List AV → Bool
  | [] => true
  | v :: vs => v.plain && AV.plains vs
end

mutual
theorem VR.plain {φ φ' : Phi} : ∀ (a : AV) (v : Value), a.plain = true → VR φ' a v → VR φ a v
  | .int _ _, _, _, h => h
  | .bool _, _, _, h => h
  | .str _, _, _, h => h
  | .nilp, _, _, h => h
  | .nils, _, _, h => h
  | .sz, _, _, h => h
  | .nilf, _, _, h => h
  | .nili, _, _, h => h
  | .un, _, _, h => h
  | .any, _, hp, _ => by simp [AV.plain] at hp
  | .sl _ _ _, _, hp, _ => by simp [AV.plain] at hp
  | .pt _ _ _, _, hp, _ => by simp [AV.plain] at hp
  | .fn _ _, _, hp, _ => by simp [AV.plain] at hp
  | .er _, _, hp, _ => by simp [AV.plain] at hp
  | .ag cs, v, hp, h => by
    obtain ⟨l, h1, h2⟩ := h
    exact ⟨l, h1, VRs.plain cs l (by simpa [AV.plain] using hp) h2⟩
  | .tu cs, v, hp, h => by
    obtain ⟨l, h1, h2⟩ := h
    exact ⟨l, h1, VRs.plain cs l (by simpa [AV.plain] using hp) h2⟩
theorem VRs.plain {φ φ' : Phi} : ∀ (as : List AV) (l : List Value), AV.plains as = true → VRs φ' as l → VRs φ as l
  | [], _, _, h => h
  | a :: as, l, hp, h => by
    obtain ⟨v, vs, h1, h2, h3⟩ := h
    simp only [AV.plains, Bool.and_eq_true] at hp
    exact ⟨v, vs, h1, VR.plain a v hp.1 h2, VRs.plain as vs hp.2 h3⟩
end

mutual
/-- What was told of in old words is told of in old words. -/
theorem VR.back {φ φ' : Phi} (hp : PLe φ φ') : ∀ (a : AV) (u v : Value), VR φ a u → VR φ' a v → VR φ a v
  | .int _ _, _, _, _, h => h
  | .bool _, _, _, _, h => h
  | .str _, _, _, _, h => h
  | .nilp, _, _, _, h => h
  | .nils, _, _, _, h => h
  | .sz, _, _, _, h => h
  | .nilf, _, _, _, h => h
  | .nili, _, _, _, h => h
  | .un, _, _, _, h => h
  | .any, _, _, _, _ => trivial
  | .er _, _, _, _, h => h
  | .sl o i n, u, v, h0, h => by
    obtain ⟨p0, _, _, e0, _⟩ := h0
    obtain ⟨p, a, c, e, h⟩ := h
    have := hp o p0 e0
    rw [this] at e
    cases e
    exact ⟨p0, a, c, e0, h⟩
  | .pt o i f, u, v, h0, h => by
    obtain ⟨p0, e0, _⟩ := h0
    obtain ⟨p, e, h⟩ := h
    have := hp o p0 e0
    rw [this] at e
    cases e
    exact ⟨p0, e0, h⟩
  | .ag cs, u, v, h0, h => by
    obtain ⟨l0, _, h0⟩ := h0
    obtain ⟨l, h1, h2⟩ := h
    exact ⟨l, h1, VRs.back hp cs l0 l h0 h2⟩
  | .tu cs, u, v, h0, h => by
    obtain ⟨l0, _, h0⟩ := h0
    obtain ⟨l, h1, h2⟩ := h
    exact ⟨l, h1, VRs.back hp cs l0 l h0 h2⟩
  | .fn f cs, u, v, h0, h => by
    obtain ⟨l0, _, h0⟩ := h0
    obtain ⟨l, h1, h2⟩ := h
    exact ⟨l, h1, VRs.back hp cs l0 l h0 h2⟩
theorem VRs.back {φ φ' : Phi} (hp : PLe φ φ') : ∀ (as : List AV) (l0 l : List Value), VRs φ as l0 → VRs φ' as l → VRs φ as l
  | [], _, _, _, h => h
  | a :: as, l0, l, h0, h => by
    obtain ⟨u, us, _, h1, h2⟩ := h0
    obtain ⟨v, vs, e, h3, h4⟩ := h
    exact ⟨v, vs, e, VR.back hp a u v h1 h3, VRs.back hp as us vs h2 h4⟩
end

/-- What a call has made and does not hand out is told of no more. -/
theorem HR.back {φ φ' : Phi} {H H' : Hp} {w w' : World} (h : HR E φ H w) (hp : PLe φ φ') (h' : HR E φ' H' w') (hb : Below E.B0 w w') (hle : HLe H H') : HR E φ H w' where
  obj := fun o ob ho p hpo => by
    have hat : H.at o = some ob := by simp [Hp.at, ho]
    obtain ⟨a1, a2, cells, e, fr, hbl, h1, hc⟩ := h'.obj o ob (Hp.at_some (hle.2 o ob hat)) p (hp o p hpo)
    obtain ⟨_, _, cells0, _, _, _, _, hc0⟩ := h.obj o ob ho p hpo
    refine ⟨a1, a2, cells, e, fr, hbl, h1, fun i row hr => ⟨(hc i row hr).1, fun f a ha => ?_⟩⟩
    obtain ⟨k1, v, hv, hR⟩ := (hc i row hr).2 f a ha
    obtain ⟨_, v0, _, hR0⟩ := (hc0 i row hr).2 f a ha
    exact ⟨k1, v, hv, VR.back hp a v0 v hR0 hR⟩
  inj := h.inj
  dom := h.dom
  blk := fun o p hpo => Nat.lt_of_lt_of_le (h.blk o p hpo) hb.size
  base := Nat.le_trans h.base hb.size
  glob := E.st w w' hb h.glob

theorem AC.gc {f : Nat} {args : List AV} {H : Hp} {R : AV → Hp → Prop} (h : AC P E f args H (fun v H' => HLe H H' ∧ v.plain = true ∧ R v H)) : AC P E f args H R :=
  ⟨h.1, fun φ w vals hv hH => Calls.mono (h.2 φ w vals hv hH) (fun e w' he => by
    cases e with
    | returned u =>
      obtain ⟨φ', H', v, p1, p2, p3, p4, p5, p6, p7⟩ := he
      exact ⟨φ, H, v, PLe.refl _, hH.back p1 p2 p3 p5, p3, VR.plain v u p6 p4, p7⟩
    | panicked c => exact he
    | outgrown => exact he)⟩

/-! ### W -/

theorem pend1_def (t : Tm) (H : Hp) (r : RO) : pend1 t H r = ∃ v, roA t H r = some v ∧ ∀ d, r.d = some d → t d = v := rfl

def CLe (C C' : CallP) : Prop := ∀ f args H K, C f args H K → C' f args H K
def CMono (C : CallP) : Prop := ∀ f args H K K', (∀ v H', K v H' → K' v H') → C f args H K → C f args H K'

theorem stepK_C {C' : CallP} (h : CLe C C') {t : Tm} {H : Hp} {op : AOp} {K : AV → Hp → Prop} (hk : stepK C t H op K) : stepK C' t H op K := by
  unfold stepK at hk ⊢
  split at hk
  · exact h _ _ _ _ hk
  · split at hk
    · exact h _ _ _ _ hk
    · exact hk
  · exact hk
theorem roK_C {C' : CallP} (h : CLe C C') (hm : CMono C') {t : Tm} {H : Hp} {r : RO} {K K' : Tm → Hp → Prop} (hK : ∀ t H, K t H → K' t H) (hk : roK C t H r K) : roK C' t H r K' := by
  refine roK_mono hm hK ?_
  unfold roK at hk ⊢
  split at hk
  · exact stepK_C h hk
  · exact hk
  · exact hk
theorem RgP_C {C' : CallP} (h : CLe C C') (hm : CMono C') : ∀ (p : Plan) (t : Tm) (H : Hp) (K : Tm → Hp → Prop), RgP C p t H K → RgP C' p t H K
  | .fin, t, H, K, hk => hk
  | .st d op g ag p, t, H, K, hk => roK_C h hm (fun t H hk => ⟨hk.1, RgP_C h hm p t H K hk.2⟩) hk
  | .both a b, t, H, K, hk => ⟨RgP_C h hm a t H K hk.1, RgP_C h hm b t H K hk.2⟩
  | .bad, t, H, K, hk => hk.elim
theorem RgP_mono (hm : CMono C) : ∀ (p : Plan) (t : Tm) (H : Hp) (K K' : Tm → Hp → Prop), (∀ t H, K t H → K' t H) → RgP C p t H K → RgP C p t H K'
  | .fin, t, H, K, K', hK, hk => hK _ _ hk
  | .st d op g ag p, t, H, K, K', hK, hk => roK_mono hm (fun t H hk => ⟨hk.1, RgP_mono hm p t H K K' hK hk.2⟩) hk
  | .both a b, t, H, K, K', hK, hk => ⟨RgP_mono hm a t H K K' hK hk.1, RgP_mono hm b t H K K' hK hk.2⟩
  | .bad, t, H, K, K', hK, hk => hk.elim

theorem W_mono (hm : CMono C) : ∀ (c : CC) (Q Q' : Ex → Tm → Hp → Prop) (t : Tm) (H : Hp), (∀ e t H, Q e t H → Q' e t H) → W C c Q t H → W C c Q' t H := by
  intro c
  induction c with
  | skip => intro Q Q' t H hq h; exact hq _ _ _ h
  | plan p => intro Q Q' t H hq h; exact RgP_mono hm p t H _ _ (hq .normal) h
  | seq a b iha ihb =>
    intro Q Q' t H hq h
    refine iha _ _ t H (fun e t H hh => ?_) h
    cases e with
    | normal => exact ihb _ _ t H hq hh
    | exit id => exact hq _ _ _ hh
    | ret => exact hq _ _ _ hh
  | cond x a b iha ihb =>
    intro Q Q' t H hq h
    simp only [W] at h ⊢
    split at h
    · exact iha _ _ t H hq h
    · exact ihb _ _ t H hq h
    · exact h
  | block id c ih =>
    intro Q Q' t H hq h
    refine ih _ _ t H (fun e t H hh => ?_) h
    cases e with
    | normal => exact hq _ _ _ hh
    | exit id' =>
      simp only [inB] at hh ⊢
      split at hh
      · rename_i e; rw [if_pos e]; exact hq _ _ _ hh
      · rename_i e; rw [if_neg e]; exact hq _ _ _ hh
    | ret => exact hq _ _ _ hh
  | loop c ih =>
    intro Q Q' t H hq h
    obtain ⟨I, μ, h0, hr⟩ := h
    refine ⟨I, μ, h0, fun t H hI => ih _ _ t H (fun e t H hh => ?_) (hr t H hI)⟩
    cases e with
    | normal => exact hh
    | exit id => exact hq _ _ _ hh
    | ret => exact hq _ _ _ hh
  | exit id => intro Q Q' t H hq h; exact hq _ _ _ h
  | ret => intro Q Q' t H hq h; exact hq _ _ _ h

theorem W_C {C' : CallP} (h : CLe C C') (hm : CMono C') : ∀ (c : CC) (Q : Ex → Tm → Hp → Prop) (t : Tm) (H : Hp), W C c Q t H → W C' c Q t H := by
  intro c
  induction c with
  | skip => intro Q t H h; exact h
  | plan p => intro Q t H hh; exact RgP_C h hm p t H _ hh
  | seq a b iha ihb =>
    intro Q t H hh
    refine W_mono hm a _ _ t H (fun e t H hh => ?_) (iha _ t H hh)
    cases e with
    | normal => exact ihb _ t H hh
    | exit id => exact hh
    | ret => exact hh
  | cond x a b iha ihb =>
    intro Q t H hh
    simp only [W] at hh ⊢
    split at hh
    · exact iha _ t H hh
    · exact ihb _ t H hh
    · exact hh
  | block id c ih => intro Q t H hh; exact ih _ t H hh
  | loop c ih =>
    intro Q t H hh
    obtain ⟨I, μ, h0, hr⟩ := hh
    exact ⟨I, μ, h0, fun t H hI => ih _ t H (hr t H hI)⟩
  | exit id => intro Q t H hh; exact hh
  | ret => intro Q t H hh; exact hh

theorem AC_mono : CMono (AC P E) := fun f args H K K' hk h => AC.mono h hk

/-- A function by its body, the calls in it by what is known of them. -/
theorem AC_by (hm : P.follows .mixedOrders = true) (hC : CLe C (AC P E)) {f : Nat} {cf : CF} (hc : compF P f = some cf) {args : List AV} {H : Hp} {R : AV → Hp → Prop} (h : W C cf.body (endX cf.res R) (initT args) H) : AC P E f args H R :=
  AC_intro hm hc (W_C hC AC_mono _ _ _ _ h)

theorem least {p : Nat → Prop} (h : ∃ k, p k) : ∃ k, p k ∧ ∀ m, p m → k ≤ m := by
  obtain ⟨k, hk⟩ := h
  induction k using Nat.strongRecOn with
  | _ k ih =>
    rcases Classical.em (∃ m, m < k ∧ p m) with ⟨m, hm, hp⟩ | hn
    · exact ih m hm hp
    · exact ⟨k, hk, fun m hp => Nat.le_of_not_lt (fun hlt => hn ⟨m, hlt, hp⟩)⟩

/-- A loop, counted down. -/
theorem W_for {id : Nat} {c : CC} {Q : Ex → Tm → Hp → Prop} {t : Tm} {H : Hp} (I : Nat → Tm → Hp → Prop) (k : Nat) (h0 : I k t H) (hm : CMono C)
    (hs : ∀ k t H, I k t H → W C c (thenX (fun t' H' => ∃ k', k' < k ∧ I k' t' H') (inB id Q)) t H) : W C (.block id (.loop c)) Q t H := by
  classical
  refine ⟨fun t H => ∃ k, I k t H, fun t H => if h : ∃ k, I k t H then Classical.choose (least h) else 0, ⟨k, h0⟩, fun t H hI => ?_⟩
  have hc := Classical.choose_spec (least hI)
  refine W_mono hm c _ _ t H (fun e t' H' hh => ?_) (hs _ t H hc.1)
  cases e with
  | normal =>
    obtain ⟨k', hlt, hI'⟩ := hh
    have hI2 : ∃ k, I k t' H' := ⟨k', hI'⟩
    refine ⟨hI2, ?_⟩
    show (if h : ∃ k, I k t' H' then Classical.choose (least h) else 0) < (if h : ∃ k, I k t H then Classical.choose (least h) else 0)
    rw [dif_pos hI, dif_pos hI2]
    exact Nat.lt_of_le_of_lt ((Classical.choose_spec (least hI2)).2 _ hI') hlt
  | exit id => exact hh
  | ret => exact hh

end Go.Proofs.YtkdnijiipegabaaDoor.B
