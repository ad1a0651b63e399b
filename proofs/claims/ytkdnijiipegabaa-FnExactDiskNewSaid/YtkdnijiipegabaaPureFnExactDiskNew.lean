/- The program's DiskNew and the reference's DiskNew return the same ten empty blocks, in new memory; there is no condition. -/
import Derived.Test.YtkdnijiipegabaaPFnExactDiskNewx1
namespace Go.Proofs.Ytkdnijiipegabaa.Pure
open Go.RowKit Go.Proofs.Ytkdnijiipegabaa.PFnExactDiskNew Go.Proofs.YtkdnijiipegabaaW.PrintWords Go.Proofs.YtkdnijiipegabaaW.PrintLast

theorem FnExactDiskNew : laws_FnExactDiskNew.Pure := by
  refine ⟨40, ?_⟩
  decide +kernel

end Go.Proofs.Ytkdnijiipegabaa.Pure
