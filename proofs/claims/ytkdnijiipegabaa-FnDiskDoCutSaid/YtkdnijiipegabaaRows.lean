/-
  No cell of these rows narrows 'for every input' (looked for: loops, veiled, ifaces, maps, wideKeys, modest, calm, conditions, laid).
  DERIVED. THE GIVEN ROWS OF THIS SEAT. 6 by the template 'for every input the law returns true; each argument reads behind the call as it read before'; 0 by the template 'total and deterministic' (their statements: YtkdnijiipegabaaTotals.lean).
  GIVEN WITH THE SEED: the statements are not yours to turn. If you find one false, say at which input.
  Laid BY PROGRAM, IN A SANDBOX (cutbox-rows.mjs): the forced cells as the released guide's own fill.sh prints them over the translation 5b18c035227fd47d… (all of the seat's roots in one cut). By AI agents, Wed Nov 11 2026. No macro, syntax, notation, axiom, sorry.
-/
import Derived.Test.YtkdnijiipegabaaChecked
import GoSem.Claim
import GoSem.ClaimJoined
import GoSem.ClaimMapViews
import Derived.JoinedTies
import Derived.KernelRfl
namespace Go.Proofs.Ytkdnijiipegabaa
/- THE CELL 'sum', in the pinned program and in every row, IS THE sha256 OF THE DUMP (.gsa) THAT YtkdnijiipegabaaProg.lean LOADS. Nothing in Lean hashes anything: it is a label: what it is worth is what the hold of that sum in a sandbox is worth. -/
noncomputable def Try.pinned : Pinned := { name := "ytkdnijiipegabaa", sum := "5b18c035227fd47d5a2b98eef257342f7a38c00733a1691ae7731cd834be6913", checked := Try.checked }
namespace Rows
def none {H : Type} : Left H := { results := [], args := [] }

/-- 'laws.FnExactBlockSum': WHATEVER THE INPUT: true; the input reads as it did. -/
def fnExactBlockSumSpec : ChangeSpec := { name := "fnExactBlockSum", fn := fun _ => fun
  | [d] => { results := [.lit (.bool true)], args := [d] }
  | _ => none }
def fnExactBlockSumRow : OpenClaim := { program := "ytkdnijiipegabaa", sum := "5b18c035227fd47d5a2b98eef257342f7a38c00733a1691ae7731cd834be6913", func := "loop.example/temse/laws.FnExactBlockSum", spec := "fnExactBlockSum", apart := false }
def FnExactBlockSumSaid : Prop := fnExactBlockSumRow.holds Try.pinned (OpenSpec.ofChange fnExactBlockSumSpec)

/-- ITS FALSE NEIGHBOUR: 'it returns false'. Refute it at one input. -/
def fnExactBlockSumWrong : ChangeSpec := { name := "fnExactBlockSum", fn := fun _ => fun
  | [d] => { results := [.lit (.bool false)], args := [d] }
  | _ => none }
def FnExactBlockSumWrongFalsely : Prop := fnExactBlockSumRow.holds Try.pinned (OpenSpec.ofChange fnExactBlockSumWrong)

/-- 'laws.FnExactDiskNew': WHATEVER THE INPUT: true; the input reads as it did. -/
def fnExactDiskNewSpec : ChangeSpec := { name := "fnExactDiskNew", fn := fun _ => fun
  | [] => { results := [.lit (.bool true)], args := [] }
  | _ => none }
def fnExactDiskNewRow : OpenClaim := { program := "ytkdnijiipegabaa", sum := "5b18c035227fd47d5a2b98eef257342f7a38c00733a1691ae7731cd834be6913", func := "loop.example/temse/laws.FnExactDiskNew", spec := "fnExactDiskNew", apart := false }
def FnExactDiskNewSaid : Prop := fnExactDiskNewRow.holds Try.pinned (OpenSpec.ofChange fnExactDiskNewSpec)

/-- ITS FALSE NEIGHBOUR: 'it returns false'. Refute it at one input. -/
def fnExactDiskNewWrong : ChangeSpec := { name := "fnExactDiskNew", fn := fun _ => fun
  | [] => { results := [.lit (.bool false)], args := [] }
  | _ => none }
def FnExactDiskNewWrongFalsely : Prop := fnExactDiskNewRow.holds Try.pinned (OpenSpec.ofChange fnExactDiskNewWrong)

/-- 'laws.FnExactDiskDo': WHATEVER THE INPUT: true; the input reads as it did. -/
def fnExactDiskDoSpec : ChangeSpec := { name := "fnExactDiskDo", fn := fun _ => fun
  | [d1, d2, d3] => { results := [.lit (.bool true)], args := [d1, d2, d3] }
  | _ => none }
def fnExactDiskDoRow : OpenClaim := { program := "ytkdnijiipegabaa", sum := "5b18c035227fd47d5a2b98eef257342f7a38c00733a1691ae7731cd834be6913", func := "loop.example/temse/laws.FnExactDiskDo", spec := "fnExactDiskDo", apart := false }
def FnExactDiskDoSaid : Prop := fnExactDiskDoRow.holds Try.pinned (OpenSpec.ofChange fnExactDiskDoSpec)

/-- ITS FALSE NEIGHBOUR: 'it returns false'. Refute it at one input. -/
def fnExactDiskDoWrong : ChangeSpec := { name := "fnExactDiskDo", fn := fun _ => fun
  | [d1, d2, d3] => { results := [.lit (.bool false)], args := [d1, d2, d3] }
  | _ => none }
def FnExactDiskDoWrongFalsely : Prop := fnExactDiskDoRow.holds Try.pinned (OpenSpec.ofChange fnExactDiskDoWrong)

/-- 'laws.FnBlockSum': WHATEVER THE INPUT: true; the input reads as it did. -/
def fnBlockSumSpec : ChangeSpec := { name := "fnBlockSum", fn := fun _ => fun
  | [d1, d2] => { results := [.lit (.bool true)], args := [d1, d2] }
  | _ => none }
def fnBlockSumRow : OpenClaim := { program := "ytkdnijiipegabaa", sum := "5b18c035227fd47d5a2b98eef257342f7a38c00733a1691ae7731cd834be6913", func := "loop.example/temse/laws.FnBlockSum", spec := "fnBlockSum", recurses := true, apart := false }
def FnBlockSumSaid : Prop := fnBlockSumRow.holds Try.pinned (OpenSpec.ofChange fnBlockSumSpec)

/-- ITS FALSE NEIGHBOUR: 'it returns false'. Refute it at one input. -/
def fnBlockSumWrong : ChangeSpec := { name := "fnBlockSum", fn := fun _ => fun
  | [d1, d2] => { results := [.lit (.bool false)], args := [d1, d2] }
  | _ => none }
def FnBlockSumWrongFalsely : Prop := fnBlockSumRow.holds Try.pinned (OpenSpec.ofChange fnBlockSumWrong)

/-- 'laws.FnDiskDo': WHATEVER THE INPUT: true; the input reads as it did. -/
def fnDiskDoSpec : ChangeSpec := { name := "fnDiskDo", fn := fun _ => fun
  | [d] => { results := [.lit (.bool true)], args := [d] }
  | _ => none }
def fnDiskDoRow : OpenClaim := { program := "ytkdnijiipegabaa", sum := "5b18c035227fd47d5a2b98eef257342f7a38c00733a1691ae7731cd834be6913", func := "loop.example/temse/laws.FnDiskDo", spec := "fnDiskDo", recurses := true, apart := false }
def FnDiskDoSaid : Prop := fnDiskDoRow.holds Try.pinned (OpenSpec.ofChange fnDiskDoSpec)

/-- ITS FALSE NEIGHBOUR: 'it returns false'. Refute it at one input. -/
def fnDiskDoWrong : ChangeSpec := { name := "fnDiskDo", fn := fun _ => fun
  | [d] => { results := [.lit (.bool false)], args := [d] }
  | _ => none }
def FnDiskDoWrongFalsely : Prop := fnDiskDoRow.holds Try.pinned (OpenSpec.ofChange fnDiskDoWrong)

/-- 'laws.FnDiskDoCut': WHATEVER THE INPUT: true; the input reads as it did. -/
def fnDiskDoCutSpec : ChangeSpec := { name := "fnDiskDoCut", fn := fun _ => fun
  | [d1, d2] => { results := [.lit (.bool true)], args := [d1, d2] }
  | _ => none }
def fnDiskDoCutRow : OpenClaim := { program := "ytkdnijiipegabaa", sum := "5b18c035227fd47d5a2b98eef257342f7a38c00733a1691ae7731cd834be6913", func := "loop.example/temse/laws.FnDiskDoCut", spec := "fnDiskDoCut", recurses := true, apart := false }
def FnDiskDoCutSaid : Prop := fnDiskDoCutRow.holds Try.pinned (OpenSpec.ofChange fnDiskDoCutSpec)

/-- ITS FALSE NEIGHBOUR: 'it returns false'. Refute it at one input. -/
def fnDiskDoCutWrong : ChangeSpec := { name := "fnDiskDoCut", fn := fun _ => fun
  | [d1, d2] => { results := [.lit (.bool false)], args := [d1, d2] }
  | _ => none }
def FnDiskDoCutWrongFalsely : Prop := fnDiskDoCutRow.holds Try.pinned (OpenSpec.ofChange fnDiskDoCutWrong)

/- THE SECOND FORM. 'bulk': how many values and letters a reading holds, each counted each time it is reached (what is shared counts as often as it is met; a slice's spare places count too). A statement '..UptoSaid' is the law's where the arguments, and the package variables that the reading takes, are together of bulk at most 1048576: NARROWER than '..Said'. Prove '..Said' where nothing that the law and all that it calls make is longer than what came in: it says more and counts as full. Else prove '..UptoSaid'. A law counts once. -/
mutual
def uptoBulk {H : Type} : DataW H → Nat
  | .lit (.string bytes) => bytes.length + 1
  | .lit _ => 1
  | .nil => 1
  | .ptr d => uptoBulk d + 1
  | .slice elems spare => uptoBulkAll elems + uptoBulkAll spare + 1
  | .agg parts => uptoBulkAll parts + 1
  | .iface _ d => uptoBulk d + 1
  | .map entries => uptoBulkEntries entries + 1
  | .held _ => 1
def uptoBulkAll {H : Type} : List (DataW H) → Nat
  | [] => 0
  | d :: r => uptoBulk d + uptoBulkAll r
def uptoBulkEntries {H : Type} : List (Lit × DataW H) → Nat
  | [] => 0
  | x :: r => uptoBulkEntry x + uptoBulkEntries r
def uptoBulkEntry {H : Type} : Lit × DataW H → Nat
  | (.string bytes, d) => bytes.length + uptoBulk d + 1
  | (_, d) => uptoBulk d + 1
 end
def uptoSmall : (H : Type) → List (DataW H) → Bool := fun _ ds => decide (uptoBulkAll ds ≤ 1048576)
def OpenSpec.upto (s : _root_.Go.ChangeSpec) : _root_.Go.OpenSpec := { _root_.Go.OpenSpec.ofChange s with cond := some uptoSmall }

/-- 'laws.FnExactBlockSum', WHERE WHAT IT READS IS OF BULK AT MOST 1048576: true; the input reads as it did. -/
def fnExactBlockSumUptoRow : OpenClaim := { program := "ytkdnijiipegabaa", sum := "5b18c035227fd47d5a2b98eef257342f7a38c00733a1691ae7731cd834be6913", func := "loop.example/temse/laws.FnExactBlockSum", spec := "fnExactBlockSum", apart := false, narrowed := true }
def FnExactBlockSumUptoSaid : Prop := fnExactBlockSumUptoRow.holds Try.pinned (OpenSpec.upto fnExactBlockSumSpec)

/-- 'laws.FnExactDiskNew', WHERE WHAT IT READS IS OF BULK AT MOST 1048576: true; the input reads as it did. -/
def fnExactDiskNewUptoRow : OpenClaim := { program := "ytkdnijiipegabaa", sum := "5b18c035227fd47d5a2b98eef257342f7a38c00733a1691ae7731cd834be6913", func := "loop.example/temse/laws.FnExactDiskNew", spec := "fnExactDiskNew", apart := false, narrowed := true }
def FnExactDiskNewUptoSaid : Prop := fnExactDiskNewUptoRow.holds Try.pinned (OpenSpec.upto fnExactDiskNewSpec)

/-- 'laws.FnExactDiskDo', WHERE WHAT IT READS IS OF BULK AT MOST 1048576: true; the input reads as it did. -/
def fnExactDiskDoUptoRow : OpenClaim := { program := "ytkdnijiipegabaa", sum := "5b18c035227fd47d5a2b98eef257342f7a38c00733a1691ae7731cd834be6913", func := "loop.example/temse/laws.FnExactDiskDo", spec := "fnExactDiskDo", apart := false, narrowed := true }
def FnExactDiskDoUptoSaid : Prop := fnExactDiskDoUptoRow.holds Try.pinned (OpenSpec.upto fnExactDiskDoSpec)

/-- 'laws.FnBlockSum', WHERE WHAT IT READS IS OF BULK AT MOST 1048576: true; the input reads as it did. -/
def fnBlockSumUptoRow : OpenClaim := { program := "ytkdnijiipegabaa", sum := "5b18c035227fd47d5a2b98eef257342f7a38c00733a1691ae7731cd834be6913", func := "loop.example/temse/laws.FnBlockSum", spec := "fnBlockSum", recurses := true, apart := false, narrowed := true }
def FnBlockSumUptoSaid : Prop := fnBlockSumUptoRow.holds Try.pinned (OpenSpec.upto fnBlockSumSpec)

/-- 'laws.FnDiskDo', WHERE WHAT IT READS IS OF BULK AT MOST 1048576: true; the input reads as it did. -/
def fnDiskDoUptoRow : OpenClaim := { program := "ytkdnijiipegabaa", sum := "5b18c035227fd47d5a2b98eef257342f7a38c00733a1691ae7731cd834be6913", func := "loop.example/temse/laws.FnDiskDo", spec := "fnDiskDo", recurses := true, apart := false, narrowed := true }
def FnDiskDoUptoSaid : Prop := fnDiskDoUptoRow.holds Try.pinned (OpenSpec.upto fnDiskDoSpec)

/-- 'laws.FnDiskDoCut', WHERE WHAT IT READS IS OF BULK AT MOST 1048576: true; the input reads as it did. -/
def fnDiskDoCutUptoRow : OpenClaim := { program := "ytkdnijiipegabaa", sum := "5b18c035227fd47d5a2b98eef257342f7a38c00733a1691ae7731cd834be6913", func := "loop.example/temse/laws.FnDiskDoCut", spec := "fnDiskDoCut", recurses := true, apart := false, narrowed := true }
def FnDiskDoCutUptoSaid : Prop := fnDiskDoCutUptoRow.holds Try.pinned (OpenSpec.upto fnDiskDoCutSpec)

end Rows
end Go.Proofs.Ytkdnijiipegabaa
