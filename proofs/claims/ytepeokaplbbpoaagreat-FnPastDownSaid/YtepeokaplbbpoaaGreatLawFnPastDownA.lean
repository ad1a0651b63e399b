/- The law FnPastDown returns true whatever its arguments are, and leaves them as they were. There is no condition. -/
import Derived.Test.YtepeokaplbbpoaaGreatRows
import Derived.Test.YtepeokaplbbpoaaGreatM6
import Derived.SizedLaws
import Derived.OpenShut
namespace Go.Proofs.YtepeokaplbbpoaaGreat.fnPastDown
open Go.ChangeShapes Go.RowKit Go.Proofs.YtepeokaplbbpoaaGreat.B
set_option linter.unusedVariables false
set_option linter.unusedSimpArgs false
theorem own : ownKnob Tryz.prog.godebug = none := by kernel_rfl
theorem laid : laidOutB Tryz.prog = true := by kernel_rfl
theorem walk (vs : List AV) (H : Hp) (W : World) (hA : ArgsOf Tryz.prog H Tryz.f11.params.toList vs) : AC Tryz.prog (topE W) 11 vs H (fun v _ => v = .bool true) := by
  rw [Tryz.params11] at hA
  obtain ⟨a, us, rfl, ha, hA⟩ := hA.cons (sh := [.kl [.ki .u8]]) (b := false) (by kernel_rfl) (by kernel_rfl)
  obtain rfl := hA.nil
  obtain ⟨xs, hx, hxl⟩ := ha.one.bytes
  exact lawPastDown_ok a xs H hx (by omega)

set_option maxRecDepth 100000 in
theorem lifted (os : Os) (started : os.Started) (H : Type) (enc : TypeId × Value → H) :
    ReturnsInHanded {} Tryz.checked os 11 .any (Rows.fnPastDownSpec.pre6 enc Tryz.prog Tryz.f11 Rows.fnPastDownRow.domain false) (Rows.fnPastDownSpec.post enc Tryz.prog Tryz.f11 false true false false) := by
  refine returnsInHanded_of_change_sized (C := Tryz.checked) own started (by kernel_rfl) Tryz.func11
    (ChangeSpec.witness6 (enc := enc) (C := Tryz.checked) false ⟨#[], #[.slice none 0 0], []⟩ 8 (by kernel_rfl) (by kernel_rfl) (by kernel_rfl) (by kernel_rfl)) ?_
  intro W base args ds gs before hval hW _ hsz _
  exact row_of_AC (tb := 4) laid (by kernel_rfl) rfl Tryz.underlying4 hval rfl hW hsz (fun h => by
    match ds, h with
    | [d0], _ => rfl) (fun vs H hA => walk vs H W hA)
end Go.Proofs.YtepeokaplbbpoaaGreat.fnPastDown
