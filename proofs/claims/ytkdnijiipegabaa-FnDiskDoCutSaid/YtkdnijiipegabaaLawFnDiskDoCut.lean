/- The law FnDiskDoCut returns true whatever its arguments are, and leaves them as they were. There is no condition. -/
import Derived.Test.YtkdnijiipegabaaRows
import Derived.Test.YtkdnijiipegabaaM4
import Derived.SizedLaws
import Derived.OpenShut
namespace Go.Proofs.Ytkdnijiipegabaa.fnDiskDoCut
open Go.ChangeShapes Go.RowKit Go.Proofs.Ytkdnijiipegabaa.B
set_option linter.unusedVariables false
set_option linter.unusedSimpArgs false
theorem own : ownKnob Try.prog.godebug = none := by kernel_rfl
theorem laid : laidOutB Try.prog = true := by kernel_rfl
theorem walk (vs : List AV) (H : Hp) (W : World) (hA : ArgsOf Try.prog H Try.f8.params.toList vs) : AC Try.prog (topE W) 8 vs H (fun v _ => v = .bool true) := by
  rw [Try.params8] at hA
  obtain ⟨a, us, rfl, ha, hA⟩ := hA.cons (sh := [.kl [.ki .u8]]) (b := false) (by kernel_rfl) (by kernel_rfl)
  obtain ⟨b, us, rfl, hb, hA⟩ := hA.cons (sh := [.kl [.ki .u8]]) (b := false) (by kernel_rfl) (by kernel_rfl)
  obtain rfl := hA.nil
  obtain ⟨xs, hx, hxl⟩ := ha.one.bytes
  obtain ⟨ys, hy, hyl⟩ := hb.one.bytes
  exact lawDiskDoCut_ok a b xs ys H hx hy (by omega) (by omega)

set_option maxRecDepth 100000 in
theorem lifted (os : Os) (started : os.Started) (H : Type) (enc : TypeId × Value → H) :
    ReturnsInHanded {} Try.checked os 8 .any (Rows.fnDiskDoCutSpec.pre6 enc Try.prog Try.f8 Rows.fnDiskDoCutRow.domain false) (Rows.fnDiskDoCutSpec.post enc Try.prog Try.f8 false true false false) := by
  refine returnsInHanded_of_change_sized (C := Try.checked) own started (by kernel_rfl) Try.func8
    (ChangeSpec.witness6 (enc := enc) (C := Try.checked) false ⟨#[], #[.slice none 0 0, .slice none 0 0], []⟩ 8 (by kernel_rfl) (by kernel_rfl) (by kernel_rfl) (by kernel_rfl)) ?_
  intro W base args ds gs before hval hW _ hsz _
  exact row_of_AC (tb := 4) laid (by kernel_rfl) rfl Try.underlying4 hval rfl hW hsz (fun h => by
    match ds, h with
    | [d0, d1], _ => rfl) (fun vs H hA => walk vs H W hA)
theorem over : Rows.fnDiskDoCutRow.holds Try.pinned (OpenSpec.ofChange Rows.fnDiskDoCutSpec) :=
  OpenClaim.holds_of_wide 8 Try.f8 rfl rfl rfl rfl rfl rfl rfl ⟨rfl, rfl, rfl, rfl, rfl⟩ rfl rfl rfl rfl rfl (by kernel_rfl) Try.func8 (by kernel_rfl)
    (of_decide_eq_true (by kernel_rfl)) (by unfold Func.isWrapper; first | (rw [if_pos (by decide +kernel)]; kernel_rfl) | (rw [if_neg (by decide +kernel)]; exact ⟨rfl, rfl⟩))
    (fun os started H enc _ => lifted os started H enc)
theorem proved : Rows.FnDiskDoCutSaid := over
#print axioms proved
end Go.Proofs.Ytkdnijiipegabaa.fnDiskDoCut
namespace Go.Proofs.Ytkdnijiipegabaa
/-- The row, under a short name, for the claim. -/
theorem fnDiskDoCut_holds : Rows.FnDiskDoCutSaid := fnDiskDoCut.proved
end Go.Proofs.Ytkdnijiipegabaa
