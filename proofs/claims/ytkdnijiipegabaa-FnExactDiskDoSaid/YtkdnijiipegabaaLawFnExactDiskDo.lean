/- The law FnExactDiskDo returns true whatever its arguments are, and leaves them as they were. There is no condition. -/
import Derived.Test.YtkdnijiipegabaaRows
import Derived.Test.YtkdnijiipegabaaDd
import Derived.Test.YtkdnijiipegabaaBu
import Derived.SizedLaws
import Derived.OpenShut
namespace Go.Proofs.Ytkdnijiipegabaa.fnExactDiskDo
open Go.ChangeShapes Go.RowKit Go.Proofs.Ytkdnijiipegabaa.B
set_option linter.unusedVariables false
set_option linter.unusedSimpArgs false
theorem own : ownKnob Try.prog.godebug = none := by kernel_rfl
theorem laid : laidOutB Try.prog = true := by kernel_rfl
theorem walk (vs : List AV) (H : Hp) (W : World) (hA : ArgsOf Try.prog H Try.f5.params.toList vs) : AC Try.prog (topE W) 5 vs H (fun v _ => v = .bool true) := by
  rw [Try.params5] at hA
  obtain ⟨a, us, rfl, ha, hA⟩ := hA.cons (sh := [.kl [.ks]]) (b := false) (by kernel_rfl) (by kernel_rfl)
  obtain ⟨b, us, rfl, hb, hA⟩ := hA.cons (sh := [.kl [.ki .i64, .ks]]) (b := false) (by kernel_rfl) (by kernel_rfl)
  obtain ⟨c, us, rfl, hc, hA⟩ := hA.cons (sh := [.ki .i64]) (b := false) (by kernel_rfl) (by kernel_rfl)
  obtain rfl := hA.nil
  obtain ⟨n, rfl, _⟩ := hc.one.int
  obtain ⟨xs, hx, hxl, hxs⟩ := ha.one.strs
  obtain ⟨ms, hm, hml, hms⟩ := Ty.mvs hb.one
  exact exactDiskDo_ok a b xs ms n H hx hm (by omega) (fun s hs => by have := hxs s hs; omega) (by omega) (fun s hs => by have := hms s hs; omega)

set_option maxRecDepth 100000 in
theorem lifted (os : Os) (started : os.Started) (H : Type) (enc : TypeId × Value → H) :
    ReturnsInHanded {} Try.checked os 5 .any (Rows.fnExactDiskDoSpec.pre6 enc Try.prog Try.f5 Rows.fnExactDiskDoRow.domain false) (Rows.fnExactDiskDoSpec.post enc Try.prog Try.f5 false true false false) := by
  refine returnsInHanded_of_change_sized (C := Try.checked) own started (by kernel_rfl) Try.func5
    (ChangeSpec.witness6 (enc := enc) (C := Try.checked) false ⟨#[], #[.slice none 0 0, .slice none 0 0, .int .i64 0], []⟩ 8 (by kernel_rfl) (by kernel_rfl) (by kernel_rfl) (by kernel_rfl)) ?_
  intro W base args ds gs before hval hW _ hsz _
  exact row_of_AC (tb := 4) laid (by kernel_rfl) rfl Try.underlying4 hval rfl hW hsz (fun h => by
    match ds, h with
    | [d0, d1, d2], _ => rfl) (fun vs H hA => walk vs H W hA)
theorem over : Rows.fnExactDiskDoRow.holds Try.pinned (OpenSpec.ofChange Rows.fnExactDiskDoSpec) :=
  OpenClaim.holds_of_wide 5 Try.f5 rfl rfl rfl rfl rfl rfl rfl ⟨rfl, rfl, rfl, rfl, rfl⟩ rfl rfl rfl rfl rfl (by kernel_rfl) Try.func5 (by kernel_rfl)
    (of_decide_eq_true (by kernel_rfl)) (by unfold Func.isWrapper; first | (rw [if_pos (by decide +kernel)]; kernel_rfl) | (rw [if_neg (by decide +kernel)]; exact ⟨rfl, rfl⟩))
    (fun os started H enc _ => lifted os started H enc)
theorem proved : Rows.FnExactDiskDoSaid := over
#print axioms proved
end Go.Proofs.Ytkdnijiipegabaa.fnExactDiskDo
namespace Go.Proofs.Ytkdnijiipegabaa
/-- The row, under a short name, for the claim. -/
theorem fnExactDiskDo_holds : Rows.FnExactDiskDoSaid := fnExactDiskDo.proved
end Go.Proofs.Ytkdnijiipegabaa
