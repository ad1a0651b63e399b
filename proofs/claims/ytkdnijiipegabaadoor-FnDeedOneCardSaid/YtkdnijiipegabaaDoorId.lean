/- The texts of deeds: of the program. -/
import Derived.Test.YtkdnijiipegabaaDoorIb
import Derived.Test.YtkdnijiipegabaaDoorIc
namespace Go.Proofs.YtkdnijiipegabaaDoor.B
open Go.RowKit Go.Proofs
set_option linter.unusedVariables false
set_option linter.unusedSimpArgs false
variable {E : Env}

def tabI (f : Nat) (args : List AV) : Option AV :=
  match f, args with
  | 20, [.int .i64 n, .int .i64 l, .int .i64 h] => some (.bool (decide (l ≤ n ∧ n ≤ h)))
  | 21, [.str k] => if k.size < 4611686018427387904 then some (.bool (keyOk k)) else none
  | 22, [.int .i64 n] => some (.bool (decide (n = 1 ∨ n = 2)))
  | 23, [.int .i64 n] => some (.bool (decide (n = 1 ∨ n = 4 ∨ n = 6)))
  | _, _ => none
theorem tabI_ok : TabOK tabI Tryd.prog E := by
  intro f args r H h
  unfold tabI at h
  split at h
  · cases h
    exact in_ok _ _ _ _
  · split at h
    · cases h
      exact implKey_ok _ _ (by assumption)
    · cases h
  · cases h
    exact keyed_ok _ _
  · cases h
    exact counted_ok _ _
  · cases h
section
variable (C : CallP) (d : Option Nat) (ag : List (Option Nat × AOp × Option (Nat × Bool))) (p : Plan) (t : Tm) (H : Hp) (K : Tm → Hp → Prop)
@[simp] theorem tabI_in (n l h : Int) : callG (tC tabI C) 20 [.int .i64 n, .int .i64 l, .int .i64 h] d ag p t H K =
  (againG ag (updO t d (.bool (decide (l ≤ n ∧ n ≤ h)))) H ∧ RgP (tC tabI C) p (updO t d (.bool (decide (l ≤ n ∧ n ≤ h)))) H K) := rfl
@[simp] theorem tabI_keyed (n : Int) : callG (tC tabI C) 22 [.int .i64 n] d ag p t H K =
  (againG ag (updO t d (.bool (decide (n = 1 ∨ n = 2)))) H ∧ RgP (tC tabI C) p (updO t d (.bool (decide (n = 1 ∨ n = 2)))) H K) := rfl
@[simp] theorem tabI_counted (n : Int) : callG (tC tabI C) 23 [.int .i64 n] d ag p t H K =
  (againG ag (updO t d (.bool (decide (n = 1 ∨ n = 4 ∨ n = 6)))) H ∧ RgP (tC tabI C) p (updO t d (.bool (decide (n = 1 ∨ n = 4 ∨ n = 6)))) H K) := rfl
theorem tabI_key (k : ByteArray) (hk : k.size < 4611686018427387904) : callG (tC tabI C) 21 [.str k] d ag p t H K =
  (againG ag (updO t d (.bool (keyOk k))) H ∧ RgP (tC tabI C) p (updO t d (.bool (keyOk k))) H K) := callG_tab (if_pos hk)
end
theorem deedWords_ok (H : Hp) : AC Tryd.prog E 24 [] H (fun v H' => v = .sl H.length 0 7 ∧ H' = H ++ [some ⟨dWords.map strRow, 1, 9, false⟩]) := by
  refine AC_by fol (tC_le tab2_ok) h_impl_deedWords ?_
  simp [c_impl_deedWords, dWords, strRow]

theorem implDeedText_ok (hE : Tab10 E) (d : Dd) (H : Hp) (hk : d.key.size < 4611686018427387904) : AC Tryd.prog E 9 [ddAV d] H (fun v H' => v = .str (deedT d) ∧ H' = H) := by
  refine AC_byp (tC_le tabI_ok) h_impl_DeedText (by simp) ?_
  obtain ⟨kind, key, num⟩ := d
  simp only at hk
  have hkey : ∀ {C : CallP} {d : Option Nat} {ag} {p : Plan} {t : Tm} {H : Hp} {K : Tm → Hp → Prop}, _ := @fun C d ag p t H K => tabI_key C d ag p t H K key hk
  obtain ⟨H1, hH1⟩ : ∃ H1 : Hp, H1 = H ++ [some ⟨[[.int .i64 kind, .str key, .int .i64 num]], 3, 26, false⟩] := ⟨_, rfl⟩
  have hle1 : HLe H H1 := by rw [hH1]; exact HLe.self _ _
  have b0 : H1.at H.length = some ⟨[[.int .i64 kind, .str key, .int .i64 num]], 3, 26, false⟩ := by rw [hH1]; simp
  have b1 := (HLe.self H1 [some ⟨dWords.map strRow, 1, 9, false⟩]).2 _ _ b0
  have b2 : Hp.at (H1 ++ [some ⟨dWords.map strRow, 1, 9, false⟩]) H1.length = some ⟨dWords.map strRow, 1, 9, false⟩ := Hp.at_app_0.trans Hp.at_0
  have hleF : HLe H (H1 ++ [some ⟨dWords.map strRow, 1, 9, false⟩]) := hle1.app _
  have bad : deedOk ⟨kind, key, num⟩ = false → (⟨#[]⟩ : ByteArray) = deedT ⟨kind, key, num⟩ := fun h => by
    unfold deedT
    rw [h]
    rfl
  by_cases hr : 1 ≤ kind ∧ kind ≤ 6
  · cases hko : keyOk key with
    | false =>
      simp [c_impl_DeedText, ddAV, ← hH1, b0, hkey, hr.1, hr.2, hko]
      exact ⟨bad (by simp [deedOk, hko]), hle1⟩
    | true =>
    have hks := keyOk_size hko
    by_cases hnm : 0 ≤ num ∧ num ≤ 999
    case neg =>
      have hnm' : (!decide (0 ≤ num) || !decide (num ≤ 999)) = true := by simp; omega
      simp [c_impl_DeedText, ddAV, ← hH1, b0, hkey, hr.1, hr.2, hko]
      refine g_split (fun hq => ?_) (fun hq => ?_) (by simp)
      · simp
        exact ⟨bad (by simp [deedOk, hnm]), hle1⟩
      · rw [hnm'] at hq
        cases hq
    have hds := dec_size num ⟨by omega, by omega⟩
    have h6 : kind = 1 ∨ kind = 2 ∨ kind = 3 ∨ kind = 4 ∨ kind = 5 ∨ kind = 6 := by omega
    rcases h6 with rfl | rfl | rfl | rfl | rfl | rfl
    · simp [c_impl_DeedText, ddAV, ← hH1, b0, hkey, hko, hnm.1, hnm.2]
      refine cg_use (deedWords_ok H1) ?_
      have rk : (dWords.map strRow)[1]? = some [.str ⟨#[112, 117, 116]⟩] := rfl
      have w1 : (⟨#[112, 117, 116]⟩ : ByteArray).size = 3 := rfl
      have w2 : (⟨#[32, 46]⟩ : ByteArray).size = 2 := rfl
      have w3 : (⟨#[32]⟩ : ByteArray).size = 1 := rfl
      simp [b1, b2, rk]
      have hn : deedT ⟨1, key, num⟩ = ⟨#[112, 117, 116]⟩ ++ (⟨#[32, 46]⟩ ++ key) ++ (⟨#[32]⟩ ++ dec num) := by
        have e : deedT ⟨1, key, num⟩ = ⟨#[112, 117, 116]⟩ ++ (⟨#[32, 46]⟩ ++ key) ++ (⟨#[32]⟩ ++ dec num) := by
          unfold deedT
          rw [if_pos (by simp [deedOk, dKeyed, dCounted, hko, hnm.1, hnm.2])]
          rfl
        rw [e]
      refine ⟨by omega, by omega, cg_use (Itoa_ok hE num _ ⟨by omega, by omega⟩) ?_⟩
      simp [hn, hleF]
      omega
    · simp [c_impl_DeedText, ddAV, ← hH1, b0, hkey, hko, hnm.1, hnm.2]
      by_cases hn0 : num = 0
      case neg =>
        simp [hn0, b0]
        exact ⟨bad (by simp [deedOk, dCounted, hn0]), hle1⟩
      subst hn0
      simp [b0]
      refine cg_use (deedWords_ok H1) ?_
      have rk : (dWords.map strRow)[2]? = some [.str ⟨#[116, 97, 107, 101]⟩] := rfl
      have w1 : (⟨#[116, 97, 107, 101]⟩ : ByteArray).size = 4 := rfl
      have w2 : (⟨#[32, 46]⟩ : ByteArray).size = 2 := rfl
      have w3 : (⟨#[32]⟩ : ByteArray).size = 1 := rfl
      simp [b1, b2, rk]
      have hn : deedT ⟨2, key, 0⟩ = ⟨#[116, 97, 107, 101]⟩ ++ (⟨#[32, 46]⟩ ++ key) := by
        have e : deedT ⟨2, key, 0⟩ = ⟨#[116, 97, 107, 101]⟩ ++ (⟨#[32, 46]⟩ ++ key) ++ ⟨#[]⟩ := by
          unfold deedT
          rw [if_pos (by simp [deedOk, dKeyed, dCounted, hko])]
          rfl
        rw [e]
        simp only [ba_nil]
      exact ⟨by omega, by omega, hn.symm, hleF⟩
    · simp [c_impl_DeedText, ddAV, ← hH1, b0, hkey, hko, hnm.1, hnm.2]
      by_cases hky : key = ⟨#[]⟩
      case neg =>
        simp [hky, b0]
        exact ⟨bad (by simp [deedOk, dKeyed, hky]), hle1⟩
      subst hky
      simp [b0]
      by_cases hn0 : num = 0
      case neg =>
        simp [hn0, b0]
        exact ⟨bad (by simp [deedOk, dCounted, hn0]), hle1⟩
      subst hn0
      simp [b0]
      refine cg_use (deedWords_ok H1) ?_
      have rk : (dWords.map strRow)[3]? = some [.str ⟨#[104, 111, 108, 100]⟩] := rfl
      have w1 : (⟨#[104, 111, 108, 100]⟩ : ByteArray).size = 4 := rfl
      have w2 : (⟨#[32, 46]⟩ : ByteArray).size = 2 := rfl
      have w3 : (⟨#[32]⟩ : ByteArray).size = 1 := rfl
      simp [b1, b2, rk]
      have hn : deedT ⟨3, ⟨#[]⟩, 0⟩ = ⟨#[104, 111, 108, 100]⟩ := by
        have e : deedT ⟨3, ⟨#[]⟩, 0⟩ = ⟨#[104, 111, 108, 100]⟩ ++ ⟨#[]⟩ ++ ⟨#[]⟩ := by
          unfold deedT
          rw [if_pos (by simp [deedOk, dKeyed, dCounted, hko])]
          rfl
        rw [e]
        simp only [ba_nil]
      exact ⟨hn.symm, hleF⟩
    · simp [c_impl_DeedText, ddAV, ← hH1, b0, hkey, hko, hnm.1, hnm.2]
      by_cases hky : key = ⟨#[]⟩
      case neg =>
        simp [hky, b0]
        exact ⟨bad (by simp [deedOk, dKeyed, hky]), hle1⟩
      subst hky
      simp [b0]
      refine cg_use (deedWords_ok H1) ?_
      have rk : (dWords.map strRow)[4]? = some [.str ⟨#[102, 114, 101, 101]⟩] := rfl
      have w1 : (⟨#[102, 114, 101, 101]⟩ : ByteArray).size = 4 := rfl
      have w2 : (⟨#[32, 46]⟩ : ByteArray).size = 2 := rfl
      have w3 : (⟨#[32]⟩ : ByteArray).size = 1 := rfl
      simp [b1, b2, rk]
      have hn : deedT ⟨4, ⟨#[]⟩, num⟩ = ⟨#[102, 114, 101, 101]⟩ ++ (⟨#[32]⟩ ++ dec num) := by
        have e : deedT ⟨4, ⟨#[]⟩, num⟩ = ⟨#[102, 114, 101, 101]⟩ ++ ⟨#[]⟩ ++ (⟨#[32]⟩ ++ dec num) := by
          unfold deedT
          rw [if_pos (by simp [deedOk, dKeyed, dCounted, hko, hnm.1, hnm.2])]
          rfl
        rw [e]
        simp only [ba_nil]
      refine cg_use (Itoa_ok hE num _ ⟨by omega, by omega⟩) ?_
      simp [hn, hleF]
      omega
    · simp [c_impl_DeedText, ddAV, ← hH1, b0, hkey, hko, hnm.1, hnm.2]
      by_cases hky : key = ⟨#[]⟩
      case neg =>
        simp [hky, b0]
        exact ⟨bad (by simp [deedOk, dKeyed, hky]), hle1⟩
      subst hky
      simp [b0]
      by_cases hn0 : num = 0
      case neg =>
        simp [hn0, b0]
        exact ⟨bad (by simp [deedOk, dCounted, hn0]), hle1⟩
      subst hn0
      simp [b0]
      refine cg_use (deedWords_ok H1) ?_
      have rk : (dWords.map strRow)[5]? = some [.str ⟨#[100, 111, 119, 110]⟩] := rfl
      have w1 : (⟨#[100, 111, 119, 110]⟩ : ByteArray).size = 4 := rfl
      have w2 : (⟨#[32, 46]⟩ : ByteArray).size = 2 := rfl
      have w3 : (⟨#[32]⟩ : ByteArray).size = 1 := rfl
      simp [b1, b2, rk]
      have hn : deedT ⟨5, ⟨#[]⟩, 0⟩ = ⟨#[100, 111, 119, 110]⟩ := by
        have e : deedT ⟨5, ⟨#[]⟩, 0⟩ = ⟨#[100, 111, 119, 110]⟩ ++ ⟨#[]⟩ ++ ⟨#[]⟩ := by
          unfold deedT
          rw [if_pos (by simp [deedOk, dKeyed, dCounted, hko])]
          rfl
        rw [e]
        simp only [ba_nil]
      exact ⟨hn.symm, hleF⟩
    · simp [c_impl_DeedText, ddAV, ← hH1, b0, hkey, hko, hnm.1, hnm.2]
      by_cases hky : key = ⟨#[]⟩
      case neg =>
        simp [hky, b0]
        exact ⟨bad (by simp [deedOk, dKeyed, hky]), hle1⟩
      subst hky
      simp [b0]
      refine cg_use (deedWords_ok H1) ?_
      have rk : (dWords.map strRow)[6]? = some [.str ⟨#[106, 111, 105, 110]⟩] := rfl
      have w1 : (⟨#[106, 111, 105, 110]⟩ : ByteArray).size = 4 := rfl
      have w2 : (⟨#[32, 46]⟩ : ByteArray).size = 2 := rfl
      have w3 : (⟨#[32]⟩ : ByteArray).size = 1 := rfl
      simp [b1, b2, rk]
      have hn : deedT ⟨6, ⟨#[]⟩, num⟩ = ⟨#[106, 111, 105, 110]⟩ ++ (⟨#[32]⟩ ++ dec num) := by
        have e : deedT ⟨6, ⟨#[]⟩, num⟩ = ⟨#[106, 111, 105, 110]⟩ ++ ⟨#[]⟩ ++ (⟨#[32]⟩ ++ dec num) := by
          unfold deedT
          rw [if_pos (by simp [deedOk, dKeyed, dCounted, hko, hnm.1, hnm.2])]
          rfl
        rw [e]
        simp only [ba_nil]
      refine cg_use (Itoa_ok hE num _ ⟨by omega, by omega⟩) ?_
      simp [hn, hleF]
      omega
  · have hr' : (!decide (1 ≤ kind) || !decide (kind ≤ 6)) = true := by simp; omega
    simp [c_impl_DeedText, ddAV, ← hH1, b0]
    refine g_split (fun hq => ?_) (fun hq => ?_) (by simp)
    · simp [hle1]
      exact bad (by simp [deedOk, decide_eq_false hr])
    · rw [hr'] at hq
      cases hq

end Go.Proofs.YtkdnijiipegabaaDoor.B
