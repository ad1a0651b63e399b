/- The reference's blocks: texts. -/
import Derived.Test.YtkdnijiipegabaaDoorEf
namespace Go.Proofs.YtkdnijiipegabaaDoor.B
open Go.RowKit Go.Proofs
set_option linter.unusedVariables false
set_option linter.unusedSimpArgs false
variable {E : Env}

def sealT (t : ByteArray) : ByteArray := t ++ lit1 33 ++ dec (sumB t)
def blockT (r : List Ent) : ByteArray := if runOk r = true then (if (sealT (runText r)).size ≤ 400 then sealT (runText r) else ⟨#[]⟩) else ⟨#[]⟩
theorem l21Seal_ok (t : ByteArray) (H : Hp) (ht : t.size < 1099511627776) : AC Tryd.prog E 32 [.str t] H (fun v H' => v = .str (sealT t) ∧ H' = H) := by
  refine AC_byp (tC_le tab2_ok) h_spec_l21Seal (by simp) ?_
  simp [c_spec_l21Seal]
  have h1 : (ByteArray.mk #[33]).size = 1 := rfl
  refine ⟨by omega, ?_⟩
  refine cg_use (specSum_ok t H (by omega)) ?_
  simp
  refine cg_use (l6Dec_ok (sumB t) H (by have := sumB_bound t; omega)) ?_
  have h2 := dec_size (sumB t) (by have := sumB_bound t; omega)
  simp [sealT, lit1]
  omega
theorem BlockText_ok (a : AV) (r : List Ent) (H : Hp) (ha : Ents H a r) (hs : Short r) (hn : r.length < 1099511627776) : AC Tryd.prog E 12 [a] H (fun v H' => v = .str (blockT r) ∧ H' = H) := by
  refine AC_byp (tC_le tab2_ok) h_spec_BlockText (by simp) ?_
  simp [c_spec_BlockText]
  refine cg_use (RunOk_ok a r H ha hs (by omega)) ?_
  cases hro : runOk r with
  | false => simp [blockT, hro]
  | true =>
  have hf := runOk_fits hro
  have hrs := runText_size r (fun e he => ⟨hf.1 e he, by have := hf.2.2 e he; omega⟩) r.length (Nat.le_refl _)
  rw [List.take_of_length_le (Nat.le_refl _)] at hrs
  simp
  refine cg_use (l21Run_ok a r H ha (fun e he => ⟨hf.1 e he, by have := hf.2.2 e he; omega⟩) hn) ?_
  simp
  refine cg_use (l21Seal_ok (runText r) H (by omega)) ?_
  simp
  refine c_split (fun hq => ?_) (fun hq => ?_) <;> simp at hq
  · simp [blockT, hro]
    intro h
    omega
  · simp [blockT, hro]
    intro h
    omega

end Go.Proofs.YtkdnijiipegabaaDoor.B
