/- The texts of deeds: of the reference. -/
import Derived.Test.YtkdnijiipegabaaDoorGa
import Derived.Test.YtkdnijiipegabaaDoorIa
namespace Go.Proofs.YtkdnijiipegabaaDoor.B
open Go.RowKit Go.Proofs
set_option linter.unusedVariables false
set_option linter.unusedSimpArgs false
variable {E : Env}

/-- The words of deeds. -/
def dWords : List ByteArray := [⟨#[]⟩, ⟨#[112, 117, 116]⟩, ⟨#[116, 97, 107, 101]⟩, ⟨#[104, 111, 108, 100]⟩, ⟨#[102, 114, 101, 101]⟩, ⟨#[100, 111, 119, 110]⟩, ⟨#[106, 111, 105, 110]⟩]
def dWord (k : Int) : ByteArray := (dWords[k.toNat]?).getD ⟨#[]⟩
def dKeyed (k : Int) : Bool := decide (k = 1 ∨ k = 2)
def dCounted (k : Int) : Bool := decide (k = 1 ∨ k = 4 ∨ k = 6)
def deedOk (d : Dd) : Bool := decide (1 ≤ d.kind ∧ d.kind ≤ 6) && (keyOk d.key && decide (0 ≤ d.num ∧ d.num ≤ 999) && (dKeyed d.kind || decide (d.key = ⟨#[]⟩)) && (dCounted d.kind || decide (d.num = 0)))
def deedT (d : Dd) : ByteArray := if deedOk d = true then dWord d.kind ++ (if dKeyed d.kind = true then ⟨#[32, 46]⟩ ++ d.key else ⟨#[]⟩) ++ (if dCounted d.kind = true then ⟨#[32]⟩ ++ dec d.num else ⟨#[]⟩) else ⟨#[]⟩
theorem ba_nil (b : ByteArray) : b ++ (⟨#[]⟩ : ByteArray) = b := ByteArray.append_empty
theorem keyOk_nil : keyOk ⟨#[]⟩ = true := by
  simp only [keyOk, decide_eq_true_eq]
  exact ⟨fun i h => absurd h (Nat.not_lt_zero _), Nat.zero_le _⟩
theorem keyOk_size {k : ByteArray} (h : keyOk k = true) : k.size ≤ 5 := by
  simp only [keyOk, decide_eq_true_eq] at h
  exact h.2
theorem l31Names_ok (H : Hp) : AC Tryd.prog E 18 [] H (fun v H' => v = .sl H.length 0 7 ∧ H' = H ++ [some ⟨dWords.map strRow, 1, 9, false⟩]) := by
  refine AC_by fol (tC_le tab2_ok) h_spec_l31Names ?_
  simp [c_spec_l31Names, dWords, strRow]

theorem specDeedText_ok (d : Dd) (H : Hp) (hk : d.key.size < 4611686018427387904) : AC Tryd.prog E 7 [ddAV d] H (fun v H' => v = .str (deedT d) ∧ H' = H) := by
  refine AC_byp (tC_le tab2_ok) h_spec_DeedText (by simp) ?_
  obtain ⟨kind, key, num⟩ := d
  simp only at hk
  have hkey : ∀ {C : CallP} {d : Option Nat} {ag} {p : Plan} {t : Tm} {H : Hp} {K : Tm → Hp → Prop}, _ := @fun C d ag p t H K => tab2_key C d ag p t H K key hk
  obtain ⟨H1, hH1⟩ : ∃ H1 : Hp, H1 = H ++ [some ⟨[[.int .i64 kind, .str key, .int .i64 num]], 3, 26, false⟩] := ⟨_, rfl⟩
  have hle1 : HLe H H1 := by rw [hH1]; exact HLe.self _ _
  have b0 : H1.at H.length = some ⟨[[.int .i64 kind, .str key, .int .i64 num]], 3, 26, false⟩ := by rw [hH1]; simp
  have b1 := (HLe.self H1 [some ⟨dWords.map strRow, 1, 9, false⟩]).2 _ _ b0
  have b2 : Hp.at (H1 ++ [some ⟨dWords.map strRow, 1, 9, false⟩]) H1.length = some ⟨dWords.map strRow, 1, 9, false⟩ := Hp.at_app_0.trans Hp.at_0
  have hleF : HLe H (H1 ++ [some ⟨dWords.map strRow, 1, 9, false⟩]) := hle1.app _
  by_cases hr : 1 ≤ kind ∧ kind ≤ 6
  · have h6 : kind = 1 ∨ kind = 2 ∨ kind = 3 ∨ kind = 4 ∨ kind = 5 ∨ kind = 6 := by omega
    rcases h6 with rfl | rfl | rfl | rfl | rfl | rfl
    · simp [c_spec_DeedText, ddAV, ← hH1, b0, hkey]
      cases hko : keyOk key with
      | false => simp [hko, b0, hle1, deedT, deedOk]
      | true =>
      have hks := keyOk_size hko
      by_cases hnm : 0 ≤ num ∧ num ≤ 999
      case neg =>
        have hnm' : 0 ≤ num → 999 < num := by omega
        simp [hnm, hko, b0, hle1, deedT, deedOk]
      have hds := dec_size num ⟨by omega, by omega⟩
      simp [hko, b0, hnm.1, hnm.2]
      refine cg_use (l31Names_ok H1) ?_
      have rk : (dWords.map strRow)[1]? = some [.str ⟨#[112, 117, 116]⟩] := rfl
      have w1 : (⟨#[112, 117, 116]⟩ : ByteArray).size = 3 := rfl
      have w2 : (⟨#[32, 46]⟩ : ByteArray).size = 2 := rfl
      have w3 : (⟨#[32]⟩ : ByteArray).size = 1 := rfl
      simp [b1, b2, rk]
      have hn : deedT ⟨1, key, num⟩ = ⟨#[112, 117, 116]⟩ ++ ⟨#[32, 46]⟩ ++ key ++ ⟨#[32]⟩ ++ dec num := by
        have e : deedT ⟨1, key, num⟩ = ⟨#[112, 117, 116]⟩ ++ (⟨#[32, 46]⟩ ++ key) ++ (⟨#[32]⟩ ++ dec num) := by
          unfold deedT
          rw [if_pos (by simp [deedOk, dKeyed, dCounted, hko, hnm.1, hnm.2])]
          rfl
        rw [e]
        simp only [← ByteArray.append_assoc, ba_nil]
      refine ⟨by omega, by omega, by omega, cg_use (l6Dec_ok num _ ⟨by omega, by omega⟩) ?_⟩
      simp [hn, hleF]
      omega
    · simp [c_spec_DeedText, ddAV, ← hH1, b0, hkey]
      cases hko : keyOk key with
      | false => simp [hko, b0, hle1, deedT, deedOk]
      | true =>
      have hks := keyOk_size hko
      by_cases hnm : num = 0
      case neg => simp [hnm, hko, b0, hle1, deedT, deedOk, dCounted]
      subst hnm
      simp [hko, b0]
      refine cg_use (l31Names_ok H1) ?_
      have rk : (dWords.map strRow)[2]? = some [.str ⟨#[116, 97, 107, 101]⟩] := rfl
      have w1 : (⟨#[116, 97, 107, 101]⟩ : ByteArray).size = 4 := rfl
      have w2 : (⟨#[32, 46]⟩ : ByteArray).size = 2 := rfl
      have w3 : (⟨#[32]⟩ : ByteArray).size = 1 := rfl
      simp [b1, b2, rk]
      have hn : deedT ⟨2, key, 0⟩ = ⟨#[116, 97, 107, 101]⟩ ++ ⟨#[32, 46]⟩ ++ key := by
        have e : deedT ⟨2, key, 0⟩ = ⟨#[116, 97, 107, 101]⟩ ++ (⟨#[32, 46]⟩ ++ key) ++ ⟨#[]⟩ := by
          unfold deedT
          rw [if_pos (by simp [deedOk, dKeyed, dCounted, hko])]
          rfl
        rw [e]
        simp only [← ByteArray.append_assoc, ba_nil]
        try rfl
      exact ⟨by omega, by omega, hn.symm, hleF⟩
    · simp [c_spec_DeedText, ddAV, ← hH1, b0, hkey]
      by_cases hky : key = ⟨#[]⟩
      case neg => simp [hky, b0, hle1, deedT, deedOk, dKeyed]
      subst hky
      have hko := keyOk_nil
      by_cases hnm : num = 0
      case neg => simp [hnm, hko, b0, hle1, deedT, deedOk, dCounted]
      subst hnm
      simp [hko, b0]
      refine cg_use (l31Names_ok H1) ?_
      have rk : (dWords.map strRow)[3]? = some [.str ⟨#[104, 111, 108, 100]⟩] := rfl
      have w1 : (⟨#[104, 111, 108, 100]⟩ : ByteArray).size = 4 := rfl
      have w2 : (⟨#[32, 46]⟩ : ByteArray).size = 2 := rfl
      have w3 : (⟨#[32]⟩ : ByteArray).size = 1 := rfl
      simp [b1, b2, rk]
      have hn : deedT ⟨3, ⟨#[]⟩, 0⟩ = ⟨#[104, 111, 108, 100]⟩ := by
        have e : deedT ⟨3, ⟨#[]⟩, 0⟩ = ⟨#[104, 111, 108, 100]⟩ ++ ⟨#[]⟩ ++ ⟨#[]⟩ := by
          unfold deedT
          rw [if_pos (by simp [deedOk, dKeyed, dCounted, hko])]
          rfl
        rw [e]
        simp only [← ByteArray.append_assoc, ba_nil]
        try rfl
      exact ⟨hn.symm, hleF⟩
    · simp [c_spec_DeedText, ddAV, ← hH1, b0, hkey]
      by_cases hky : key = ⟨#[]⟩
      case neg => simp [hky, b0, hle1, deedT, deedOk, dKeyed]
      subst hky
      have hko := keyOk_nil
      by_cases hnm : 0 ≤ num ∧ num ≤ 999
      case neg =>
        have hnm' : 0 ≤ num → 999 < num := by omega
        simp [hnm, hko, b0, hle1, deedT, deedOk]
      have hds := dec_size num ⟨by omega, by omega⟩
      simp [hko, b0, hnm.1, hnm.2]
      refine cg_use (l31Names_ok H1) ?_
      have rk : (dWords.map strRow)[4]? = some [.str ⟨#[102, 114, 101, 101]⟩] := rfl
      have w1 : (⟨#[102, 114, 101, 101]⟩ : ByteArray).size = 4 := rfl
      have w2 : (⟨#[32, 46]⟩ : ByteArray).size = 2 := rfl
      have w3 : (⟨#[32]⟩ : ByteArray).size = 1 := rfl
      simp [b1, b2, rk]
      have hn : deedT ⟨4, ⟨#[]⟩, num⟩ = ⟨#[102, 114, 101, 101]⟩ ++ ⟨#[32]⟩ ++ dec num := by
        have e : deedT ⟨4, ⟨#[]⟩, num⟩ = ⟨#[102, 114, 101, 101]⟩ ++ ⟨#[]⟩ ++ (⟨#[32]⟩ ++ dec num) := by
          unfold deedT
          rw [if_pos (by simp [deedOk, dKeyed, dCounted, hko, hnm.1, hnm.2])]
          rfl
        rw [e]
        simp only [← ByteArray.append_assoc, ba_nil]
        try rfl
      refine ⟨by omega, cg_use (l6Dec_ok num _ ⟨by omega, by omega⟩) ?_⟩
      simp [hn, hleF]
      omega
    · simp [c_spec_DeedText, ddAV, ← hH1, b0, hkey]
      by_cases hky : key = ⟨#[]⟩
      case neg => simp [hky, b0, hle1, deedT, deedOk, dKeyed]
      subst hky
      have hko := keyOk_nil
      by_cases hnm : num = 0
      case neg => simp [hnm, hko, b0, hle1, deedT, deedOk, dCounted]
      subst hnm
      simp [hko, b0]
      refine cg_use (l31Names_ok H1) ?_
      have rk : (dWords.map strRow)[5]? = some [.str ⟨#[100, 111, 119, 110]⟩] := rfl
      have w1 : (⟨#[100, 111, 119, 110]⟩ : ByteArray).size = 4 := rfl
      have w2 : (⟨#[32, 46]⟩ : ByteArray).size = 2 := rfl
      have w3 : (⟨#[32]⟩ : ByteArray).size = 1 := rfl
      simp [b1, b2, rk]
      have hn : deedT ⟨5, ⟨#[]⟩, 0⟩ = ⟨#[100, 111, 119, 110]⟩ := by
        have e : deedT ⟨5, ⟨#[]⟩, 0⟩ = ⟨#[100, 111, 119, 110]⟩ ++ ⟨#[]⟩ ++ ⟨#[]⟩ := by
          unfold deedT
          rw [if_pos (by simp [deedOk, dKeyed, dCounted, hko])]
          rfl
        rw [e]
        simp only [← ByteArray.append_assoc, ba_nil]
        try rfl
      exact ⟨hn.symm, hleF⟩
    · simp [c_spec_DeedText, ddAV, ← hH1, b0, hkey]
      by_cases hky : key = ⟨#[]⟩
      case neg => simp [hky, b0, hle1, deedT, deedOk, dKeyed]
      subst hky
      have hko := keyOk_nil
      by_cases hnm : 0 ≤ num ∧ num ≤ 999
      case neg =>
        have hnm' : 0 ≤ num → 999 < num := by omega
        simp [hnm, hko, b0, hle1, deedT, deedOk]
      have hds := dec_size num ⟨by omega, by omega⟩
      simp [hko, b0, hnm.1, hnm.2]
      refine cg_use (l31Names_ok H1) ?_
      have rk : (dWords.map strRow)[6]? = some [.str ⟨#[106, 111, 105, 110]⟩] := rfl
      have w1 : (⟨#[106, 111, 105, 110]⟩ : ByteArray).size = 4 := rfl
      have w2 : (⟨#[32, 46]⟩ : ByteArray).size = 2 := rfl
      have w3 : (⟨#[32]⟩ : ByteArray).size = 1 := rfl
      simp [b1, b2, rk]
      have hn : deedT ⟨6, ⟨#[]⟩, num⟩ = ⟨#[106, 111, 105, 110]⟩ ++ ⟨#[32]⟩ ++ dec num := by
        have e : deedT ⟨6, ⟨#[]⟩, num⟩ = ⟨#[106, 111, 105, 110]⟩ ++ ⟨#[]⟩ ++ (⟨#[32]⟩ ++ dec num) := by
          unfold deedT
          rw [if_pos (by simp [deedOk, dKeyed, dCounted, hko, hnm.1, hnm.2])]
          rfl
        rw [e]
        simp only [← ByteArray.append_assoc, ba_nil]
        try rfl
      refine ⟨by omega, cg_use (l6Dec_ok num _ ⟨by omega, by omega⟩) ?_⟩
      simp [hn, hleF]
      omega
  · have hn : deedT ⟨kind, key, num⟩ = ⟨#[]⟩ := by
      unfold deedT deedOk
      rw [decide_eq_false hr]
      rfl
    have n1 : ¬ kind = 1 := by omega
    have n2 : ¬ kind = 2 := by omega
    have n4 : ¬ kind = 4 := by omega
    have n6 : ¬ kind = 6 := by omega
    have hr' : (!decide (1 ≤ kind) || !decide (kind ≤ 6)) = true := by simp; omega
    simp [c_spec_DeedText, ddAV, ← hH1, b0, n1, n2, n4, n6]
    refine g_split (fun hq => ?_) (fun hq => ?_) (by simp)
    · simp [hn, hle1]
    · rw [hr'] at hq
      cases hq

end Go.Proofs.YtkdnijiipegabaaDoor.B
