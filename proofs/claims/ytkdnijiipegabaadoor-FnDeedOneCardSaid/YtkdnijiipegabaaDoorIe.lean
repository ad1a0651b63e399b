/- The law FnExactDeedText. -/
import Derived.Test.YtkdnijiipegabaaDoorId
import Derived.Test.YtkdnijiipegabaaDoorIf
namespace Go.Proofs.YtkdnijiipegabaaDoor.B
open Go.RowKit Go.Proofs
set_option linter.unusedVariables false
set_option linter.unusedSimpArgs false
variable {E : Env}

theorem szDeed_ok (d : Dd) (left : Int) (H : Hp) (hl : 0 ≤ left ∧ left ≤ 1048576) (hs : d.key.size < 4611686018427387904) :
    AC Tryd.prog E 6 [ddAV d, .int .i64 left] H (fun v H' => v = .int .i64 (if left - d.key.size < 0 then -1 else left - d.key.size) ∧ H' = H) := by
  refine AC_byp (CLe.refl (AC Tryd.prog E)) h_laws_szDeed (by simp) ?_
  have hw : IntKind.i64.wrap (left - (d.key.size : Int)) = left - d.key.size := wrap64 (by omega) (by omega)
  simp [c_laws_szDeed, ddAV, hw]
  refine c_split (fun hq => ?_) (fun hq => ?_) <;> simp at hq
  · rw [if_pos (by omega)]
    simp
  · rw [if_neg (by omega)]
    simp
theorem toDeed_ok (d : Dd) (H : Hp) : AC Tryd.prog E 8 [ddAV d] H (fun v H' => v = ddAV d ∧ H' = H) := by
  refine AC_byp (CLe.refl (AC Tryd.prog E)) h_laws_toDeed (by simp [ddAV]) ?_
  simp [c_laws_toDeed, ddAV]

theorem lawExactDeedText_ok (hE : Tab10 E) (d : Dd) (H : Hp) (hs : d.key.size < 4611686018427387904) : AC Tryd.prog E 3 [ddAV d] H (fun v H' => v = .bool true) := by
  refine AC_by fol (tC_le tabI_ok) h_laws_FnExactDeedText ?_
  simp [c_laws_FnExactDeedText, ddAV]
  refine cg_use (szDeed_ok d 1048576 _ (by omega) hs) ?_
  simp
  refine c_split (fun hq => ?_) (fun hq => ?_) <;> simp at hq <;> simp
  refine cg_use (toDeed_ok d _) ?_
  simp
  refine cg_use (specDeedText_ok d _ hs) ?_
  simp
  refine cg_use (toDeed_ok d _) ?_
  simp
  refine cg_use (implDeedText_ok hE d _ hs) ?_
  simp

end Go.Proofs.YtkdnijiipegabaaDoor.B
