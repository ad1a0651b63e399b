/- The law FnDiskDo returns true whatever its arguments are, and leaves them as they were. There is no condition. -/
import Derived.Test.YtkdnijiipegabaaRows
import Derived.Test.YtkdnijiipegabaaM4
import Derived.SizedLaws
import Derived.OpenShut
namespace Go.Proofs.Ytkdnijiipegabaa.fnDiskDo
open Go.ChangeShapes Go.RowKit Go.Proofs.Ytkdnijiipegabaa.B
set_option linter.unusedVariables false
set_option linter.unusedSimpArgs false
theorem own : ownKnob Try.prog.godebug = none := by kernel_rfl
theorem laid : laidOutB Try.prog = true := by kernel_rfl
theorem walk (vs : List AV) (H : Hp) (W : World) (hA : ArgsOf Try.prog H Try.f7.params.toList vs) : AC Try.prog (topE W) 7 vs H (fun v _ => v = .bool true) := by
  rw [Try.params7] at hA
  obtain ⟨a, us, rfl, ha, hA⟩ := hA.cons (sh := [.kl [.ki .u8]]) (b := false) (by kernel_rfl) (by kernel_rfl)
  obtain rfl := hA.nil
  obtain ⟨xs, hx, hxl⟩ := ha.one.bytes
  exact lawDiskDo_ok a xs H hx (by omega)

set_option maxRecDepth 100000 in
theorem lifted (os : Os) (started : os.Started) (H : Type) (enc : TypeId × Value → H) :
    ReturnsInHanded {} Try.checked os 7 .any (Rows.fnDiskDoSpec.pre6 enc Try.prog Try.f7 Rows.fnDiskDoRow.domain false) (Rows.fnDiskDoSpec.post enc Try.prog Try.f7 false true false false) := by
  refine returnsInHanded_of_change_sized (C := Try.checked) own started (by kernel_rfl) Try.func7
    (ChangeSpec.witness6 (enc := enc) (C := Try.checked) false ⟨#[], #[.slice none 0 0], []⟩ 8 (by kernel_rfl) (by kernel_rfl) (by kernel_rfl) (by kernel_rfl)) ?_
  intro W base args ds gs before hval hW _ hsz _
  exact row_of_AC (tb := 4) laid (by kernel_rfl) rfl Try.underlying4 hval rfl hW hsz (fun h => by
    match ds, h with
    | [d0], _ => rfl) (fun vs H hA => walk vs H W hA)
theorem over : Rows.fnDiskDoRow.holds Try.pinned (OpenSpec.ofChange Rows.fnDiskDoSpec) :=
  OpenClaim.holds_of_wide 7 Try.f7 rfl rfl rfl rfl rfl rfl rfl ⟨rfl, rfl, rfl, rfl, rfl⟩ rfl rfl rfl rfl rfl (by kernel_rfl) Try.func7 (by kernel_rfl)
    (of_decide_eq_true (by kernel_rfl)) (by unfold Func.isWrapper; first | (rw [if_pos (by decide +kernel)]; kernel_rfl) | (rw [if_neg (by decide +kernel)]; exact ⟨rfl, rfl⟩))
    (fun os started H enc _ => lifted os started H enc)
theorem proved : Rows.FnDiskDoSaid := over
#print axioms proved
end Go.Proofs.Ytkdnijiipegabaa.fnDiskDo
namespace Go.Proofs.Ytkdnijiipegabaa
/-- The row, under a short name, for the claim. -/
theorem fnDiskDo_holds : Rows.FnDiskDoSaid := fnDiskDo.proved
end Go.Proofs.Ytkdnijiipegabaa
