/- The law FnStoreFreeAll returns true whatever its arguments are, and leaves them as they were. There is no condition. -/
import Derived.Test.YtepeokaplbbpoaaGreatRows
import Derived.Test.YtepeokaplbbpoaaGreatM5
import Derived.SizedLaws
import Derived.OpenShut
namespace Go.Proofs.YtepeokaplbbpoaaGreat.fnStoreFreeAll
open Go.ChangeShapes Go.RowKit Go.Proofs.YtepeokaplbbpoaaGreat.B
set_option linter.unusedVariables false
set_option linter.unusedSimpArgs false
theorem own : ownKnob Tryz.prog.godebug = none := by kernel_rfl
theorem laid : laidOutB Tryz.prog = true := by kernel_rfl
theorem walk (vs : List AV) (H : Hp) (W : World) (hA : ArgsOf Tryz.prog H Tryz.f8.params.toList vs) : AC Tryz.prog (topE W) 8 vs H (fun v _ => v = .bool true) := by
  rw [Tryz.params8] at hA
  obtain ⟨a, us, rfl, ha, hA⟩ := hA.cons (sh := [.kl [.ki .u8]]) (b := false) (by kernel_rfl) (by kernel_rfl)
  obtain rfl := hA.nil
  obtain ⟨xs, hx, hxl⟩ := ha.one.bytes
  exact lawStoreFreeAll_ok a xs H hx (by omega)

set_option maxRecDepth 100000 in
theorem lifted (os : Os) (started : os.Started) (H : Type) (enc : TypeId × Value → H) :
    ReturnsInHanded {} Tryz.checked os 8 .any (Rows.fnStoreFreeAllSpec.pre6 enc Tryz.prog Tryz.f8 Rows.fnStoreFreeAllRow.domain false) (Rows.fnStoreFreeAllSpec.post enc Tryz.prog Tryz.f8 false true false false) := by
  refine returnsInHanded_of_change_sized (C := Tryz.checked) own started (by kernel_rfl) Tryz.func8
    (ChangeSpec.witness6 (enc := enc) (C := Tryz.checked) false ⟨#[], #[.slice none 0 0], []⟩ 8 (by kernel_rfl) (by kernel_rfl) (by kernel_rfl) (by kernel_rfl)) ?_
  intro W base args ds gs before hval hW _ hsz _
  exact row_of_AC (tb := 4) laid (by kernel_rfl) rfl Tryz.underlying4 hval rfl hW hsz (fun h => by
    match ds, h with
    | [d0], _ => rfl) (fun vs H hA => walk vs H W hA)
end Go.Proofs.YtepeokaplbbpoaaGreat.fnStoreFreeAll
