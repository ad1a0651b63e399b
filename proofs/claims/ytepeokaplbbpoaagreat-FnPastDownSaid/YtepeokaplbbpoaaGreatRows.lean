/-
  No cell of these rows narrows 'for every input' (looked for: loops, veiled, ifaces, maps, wideKeys, modest, calm, conditions, laid).
  DERIVED. THE GIVEN ROWS OF THIS SEAT. 12 by the template 'for every input the law returns true; each argument reads behind the call as it read before'; 0 by the template 'total and deterministic' (their statements: YtepeokaplbbpoaaGreatTotals.lean).
  GIVEN WITH THE SEED: the statements are not yours to turn. If you find one false, say at which input.
  Laid BY PROGRAM, IN A SANDBOX (cutbox-rows.mjs): the forced cells as the released guide's own fill.sh prints them over the translation d504fa5e706d032d… (all of the seat's roots in one cut). By AI agents, Wed Nov 11 2026. No macro, syntax, notation, axiom, sorry.
-/
import Derived.Test.YtepeokaplbbpoaaGreatChecked
import GoSem.Claim
import GoSem.ClaimJoined
import GoSem.ClaimMapViews
import Derived.JoinedTies
import Derived.KernelRfl
namespace Go.Proofs.YtepeokaplbbpoaaGreat
/- THE CELL 'sum', in the pinned program and in every row, IS THE sha256 OF THE DUMP (.gsa) THAT YtepeokaplbbpoaaGreatProg.lean LOADS. Nothing in Lean hashes anything: it is a label: what it is worth is what the hold of that sum in a sandbox is worth. -/
noncomputable def Tryz.pinned : Pinned := { name := "ytepeokaplbbpoaagreat", sum := "d504fa5e706d032d8c170f07c9b887622c145dc5795b54c598ec2639cc729323", checked := Tryz.checked }
namespace Rows
def none {H : Type} : Left H := { results := [], args := [] }

/-- 'laws.FnStoreDownTwice': WHATEVER THE INPUT: true; the input reads as it did. -/
def fnStoreDownTwiceSpec : ChangeSpec := { name := "fnStoreDownTwice", fn := fun _ => fun
  | [d] => { results := [.lit (.bool true)], args := [d] }
  | _ => none }
def fnStoreDownTwiceRow : OpenClaim := { program := "ytepeokaplbbpoaagreat", sum := "d504fa5e706d032d8c170f07c9b887622c145dc5795b54c598ec2639cc729323", func := "loop.example/temse/laws.FnStoreDownTwice", spec := "fnStoreDownTwice", inPlace := ["internal/abi.NoEscape", "internal/bytealg.CountString", "internal/bytealg.IndexByteString", "internal/bytealg.IndexString"], unfollowed := true, recurses := true, named := ["internal/bytealg.MaxLen"], apart := false }
def FnStoreDownTwiceSaid : Prop := fnStoreDownTwiceRow.holds Tryz.pinned (OpenSpec.ofChange fnStoreDownTwiceSpec)

/-- ITS FALSE NEIGHBOUR: 'it returns false'. Refute it at one input. -/
def fnStoreDownTwiceWrong : ChangeSpec := { name := "fnStoreDownTwice", fn := fun _ => fun
  | [d] => { results := [.lit (.bool false)], args := [d] }
  | _ => none }
def FnStoreDownTwiceWrongFalsely : Prop := fnStoreDownTwiceRow.holds Tryz.pinned (OpenSpec.ofChange fnStoreDownTwiceWrong)

/-- 'laws.FnStoreJoin': WHATEVER THE INPUT: true; the input reads as it did. -/
def fnStoreJoinSpec : ChangeSpec := { name := "fnStoreJoin", fn := fun _ => fun
  | [d] => { results := [.lit (.bool true)], args := [d] }
  | _ => none }
def fnStoreJoinRow : OpenClaim := { program := "ytepeokaplbbpoaagreat", sum := "d504fa5e706d032d8c170f07c9b887622c145dc5795b54c598ec2639cc729323", func := "loop.example/temse/laws.FnStoreJoin", spec := "fnStoreJoin", inPlace := ["internal/abi.NoEscape", "internal/bytealg.CountString", "internal/bytealg.IndexByteString", "internal/bytealg.IndexString"], unfollowed := true, recurses := true, named := ["internal/bytealg.MaxLen"], apart := false }
def FnStoreJoinSaid : Prop := fnStoreJoinRow.holds Tryz.pinned (OpenSpec.ofChange fnStoreJoinSpec)

/-- ITS FALSE NEIGHBOUR: 'it returns false'. Refute it at one input. -/
def fnStoreJoinWrong : ChangeSpec := { name := "fnStoreJoin", fn := fun _ => fun
  | [d] => { results := [.lit (.bool false)], args := [d] }
  | _ => none }
def FnStoreJoinWrongFalsely : Prop := fnStoreJoinRow.holds Tryz.pinned (OpenSpec.ofChange fnStoreJoinWrong)

/-- 'laws.FnStoreDown': WHATEVER THE INPUT: true; the input reads as it did. -/
def fnStoreDownSpec : ChangeSpec := { name := "fnStoreDown", fn := fun _ => fun
  | [d] => { results := [.lit (.bool true)], args := [d] }
  | _ => none }
def fnStoreDownRow : OpenClaim := { program := "ytepeokaplbbpoaagreat", sum := "d504fa5e706d032d8c170f07c9b887622c145dc5795b54c598ec2639cc729323", func := "loop.example/temse/laws.FnStoreDown", spec := "fnStoreDown", inPlace := ["internal/abi.NoEscape", "internal/bytealg.CountString", "internal/bytealg.IndexByteString", "internal/bytealg.IndexString"], unfollowed := true, recurses := true, named := ["internal/bytealg.MaxLen"], apart := false }
def FnStoreDownSaid : Prop := fnStoreDownRow.holds Tryz.pinned (OpenSpec.ofChange fnStoreDownSpec)

/-- ITS FALSE NEIGHBOUR: 'it returns false'. Refute it at one input. -/
def fnStoreDownWrong : ChangeSpec := { name := "fnStoreDown", fn := fun _ => fun
  | [d] => { results := [.lit (.bool false)], args := [d] }
  | _ => none }
def FnStoreDownWrongFalsely : Prop := fnStoreDownRow.holds Tryz.pinned (OpenSpec.ofChange fnStoreDownWrong)

/-- 'laws.FnStoreTakeList': WHATEVER THE INPUT: true; the input reads as it did. -/
def fnStoreTakeListSpec : ChangeSpec := { name := "fnStoreTakeList", fn := fun _ => fun
  | [d] => { results := [.lit (.bool true)], args := [d] }
  | _ => none }
def fnStoreTakeListRow : OpenClaim := { program := "ytepeokaplbbpoaagreat", sum := "d504fa5e706d032d8c170f07c9b887622c145dc5795b54c598ec2639cc729323", func := "loop.example/temse/laws.FnStoreTakeList", spec := "fnStoreTakeList", inPlace := ["internal/abi.NoEscape", "internal/bytealg.CountString", "internal/bytealg.IndexByteString", "internal/bytealg.IndexString"], unfollowed := true, recurses := true, named := ["internal/bytealg.MaxLen"], apart := false }
def FnStoreTakeListSaid : Prop := fnStoreTakeListRow.holds Tryz.pinned (OpenSpec.ofChange fnStoreTakeListSpec)

/-- ITS FALSE NEIGHBOUR: 'it returns false'. Refute it at one input. -/
def fnStoreTakeListWrong : ChangeSpec := { name := "fnStoreTakeList", fn := fun _ => fun
  | [d] => { results := [.lit (.bool false)], args := [d] }
  | _ => none }
def FnStoreTakeListWrongFalsely : Prop := fnStoreTakeListRow.holds Tryz.pinned (OpenSpec.ofChange fnStoreTakeListWrong)

/-- 'laws.FnStoreTwice': WHATEVER THE INPUT: true; the input reads as it did. -/
def fnStoreTwiceSpec : ChangeSpec := { name := "fnStoreTwice", fn := fun _ => fun
  | [d] => { results := [.lit (.bool true)], args := [d] }
  | _ => none }
def fnStoreTwiceRow : OpenClaim := { program := "ytepeokaplbbpoaagreat", sum := "d504fa5e706d032d8c170f07c9b887622c145dc5795b54c598ec2639cc729323", func := "loop.example/temse/laws.FnStoreTwice", spec := "fnStoreTwice", inPlace := ["internal/abi.NoEscape", "internal/bytealg.CountString", "internal/bytealg.IndexByteString", "internal/bytealg.IndexString"], unfollowed := true, recurses := true, named := ["internal/bytealg.MaxLen"], apart := false }
def FnStoreTwiceSaid : Prop := fnStoreTwiceRow.holds Tryz.pinned (OpenSpec.ofChange fnStoreTwiceSpec)

/-- ITS FALSE NEIGHBOUR: 'it returns false'. Refute it at one input. -/
def fnStoreTwiceWrong : ChangeSpec := { name := "fnStoreTwice", fn := fun _ => fun
  | [d] => { results := [.lit (.bool false)], args := [d] }
  | _ => none }
def FnStoreTwiceWrongFalsely : Prop := fnStoreTwiceRow.holds Tryz.pinned (OpenSpec.ofChange fnStoreTwiceWrong)

/-- 'laws.FnStoreFreeAll': WHATEVER THE INPUT: true; the input reads as it did. -/
def fnStoreFreeAllSpec : ChangeSpec := { name := "fnStoreFreeAll", fn := fun _ => fun
  | [d] => { results := [.lit (.bool true)], args := [d] }
  | _ => none }
def fnStoreFreeAllRow : OpenClaim := { program := "ytepeokaplbbpoaagreat", sum := "d504fa5e706d032d8c170f07c9b887622c145dc5795b54c598ec2639cc729323", func := "loop.example/temse/laws.FnStoreFreeAll", spec := "fnStoreFreeAll", inPlace := ["internal/abi.NoEscape", "internal/bytealg.CountString", "internal/bytealg.IndexByteString", "internal/bytealg.IndexString"], unfollowed := true, recurses := true, named := ["internal/bytealg.MaxLen"], apart := false }
def FnStoreFreeAllSaid : Prop := fnStoreFreeAllRow.holds Tryz.pinned (OpenSpec.ofChange fnStoreFreeAllSpec)

/-- ITS FALSE NEIGHBOUR: 'it returns false'. Refute it at one input. -/
def fnStoreFreeAllWrong : ChangeSpec := { name := "fnStoreFreeAll", fn := fun _ => fun
  | [d] => { results := [.lit (.bool false)], args := [d] }
  | _ => none }
def FnStoreFreeAllWrongFalsely : Prop := fnStoreFreeAllRow.holds Tryz.pinned (OpenSpec.ofChange fnStoreFreeAllWrong)

/-- 'laws.FnStoreTake': WHATEVER THE INPUT: true; the input reads as it did. -/
def fnStoreTakeSpec : ChangeSpec := { name := "fnStoreTake", fn := fun _ => fun
  | [d] => { results := [.lit (.bool true)], args := [d] }
  | _ => none }
def fnStoreTakeRow : OpenClaim := { program := "ytepeokaplbbpoaagreat", sum := "d504fa5e706d032d8c170f07c9b887622c145dc5795b54c598ec2639cc729323", func := "loop.example/temse/laws.FnStoreTake", spec := "fnStoreTake", inPlace := ["internal/abi.NoEscape", "internal/bytealg.CountString", "internal/bytealg.IndexByteString", "internal/bytealg.IndexString"], unfollowed := true, recurses := true, named := ["internal/bytealg.MaxLen"], apart := false }
def FnStoreTakeSaid : Prop := fnStoreTakeRow.holds Tryz.pinned (OpenSpec.ofChange fnStoreTakeSpec)

/-- ITS FALSE NEIGHBOUR: 'it returns false'. Refute it at one input. -/
def fnStoreTakeWrong : ChangeSpec := { name := "fnStoreTake", fn := fun _ => fun
  | [d] => { results := [.lit (.bool false)], args := [d] }
  | _ => none }
def FnStoreTakeWrongFalsely : Prop := fnStoreTakeRow.holds Tryz.pinned (OpenSpec.ofChange fnStoreTakeWrong)

/-- 'laws.FnStorePut': WHATEVER THE INPUT: true; the input reads as it did. -/
def fnStorePutSpec : ChangeSpec := { name := "fnStorePut", fn := fun _ => fun
  | [d] => { results := [.lit (.bool true)], args := [d] }
  | _ => none }
def fnStorePutRow : OpenClaim := { program := "ytepeokaplbbpoaagreat", sum := "d504fa5e706d032d8c170f07c9b887622c145dc5795b54c598ec2639cc729323", func := "loop.example/temse/laws.FnStorePut", spec := "fnStorePut", inPlace := ["internal/abi.NoEscape", "internal/bytealg.CountString", "internal/bytealg.IndexByteString", "internal/bytealg.IndexString"], unfollowed := true, recurses := true, named := ["internal/bytealg.MaxLen"], apart := false }
def FnStorePutSaid : Prop := fnStorePutRow.holds Tryz.pinned (OpenSpec.ofChange fnStorePutSpec)

/-- ITS FALSE NEIGHBOUR: 'it returns false'. Refute it at one input. -/
def fnStorePutWrong : ChangeSpec := { name := "fnStorePut", fn := fun _ => fun
  | [d] => { results := [.lit (.bool false)], args := [d] }
  | _ => none }
def FnStorePutWrongFalsely : Prop := fnStorePutRow.holds Tryz.pinned (OpenSpec.ofChange fnStorePutWrong)

/-- 'laws.FnPastDown': WHATEVER THE INPUT: true; the input reads as it did. -/
def fnPastDownSpec : ChangeSpec := { name := "fnPastDown", fn := fun _ => fun
  | [d] => { results := [.lit (.bool true)], args := [d] }
  | _ => none }
def fnPastDownRow : OpenClaim := { program := "ytepeokaplbbpoaagreat", sum := "d504fa5e706d032d8c170f07c9b887622c145dc5795b54c598ec2639cc729323", func := "loop.example/temse/laws.FnPastDown", spec := "fnPastDown", inPlace := ["internal/abi.NoEscape", "internal/bytealg.CountString", "internal/bytealg.IndexByteString", "internal/bytealg.IndexString"], unfollowed := true, recurses := true, named := ["internal/bytealg.MaxLen"], apart := false }
def FnPastDownSaid : Prop := fnPastDownRow.holds Tryz.pinned (OpenSpec.ofChange fnPastDownSpec)

/-- ITS FALSE NEIGHBOUR: 'it returns false'. Refute it at one input. -/
def fnPastDownWrong : ChangeSpec := { name := "fnPastDown", fn := fun _ => fun
  | [d] => { results := [.lit (.bool false)], args := [d] }
  | _ => none }
def FnPastDownWrongFalsely : Prop := fnPastDownRow.holds Tryz.pinned (OpenSpec.ofChange fnPastDownWrong)

/-- 'laws.FnStoreListAll': WHATEVER THE INPUT: true; the input reads as it did. -/
def fnStoreListAllSpec : ChangeSpec := { name := "fnStoreListAll", fn := fun _ => fun
  | [d] => { results := [.lit (.bool true)], args := [d] }
  | _ => none }
def fnStoreListAllRow : OpenClaim := { program := "ytepeokaplbbpoaagreat", sum := "d504fa5e706d032d8c170f07c9b887622c145dc5795b54c598ec2639cc729323", func := "loop.example/temse/laws.FnStoreListAll", spec := "fnStoreListAll", inPlace := ["internal/abi.NoEscape", "internal/bytealg.CountString", "internal/bytealg.IndexByteString", "internal/bytealg.IndexString"], unfollowed := true, recurses := true, named := ["internal/bytealg.MaxLen"], apart := false }
def FnStoreListAllSaid : Prop := fnStoreListAllRow.holds Tryz.pinned (OpenSpec.ofChange fnStoreListAllSpec)

/-- ITS FALSE NEIGHBOUR: 'it returns false'. Refute it at one input. -/
def fnStoreListAllWrong : ChangeSpec := { name := "fnStoreListAll", fn := fun _ => fun
  | [d] => { results := [.lit (.bool false)], args := [d] }
  | _ => none }
def FnStoreListAllWrongFalsely : Prop := fnStoreListAllRow.holds Tryz.pinned (OpenSpec.ofChange fnStoreListAllWrong)

/-- 'laws.FnStoreListCut': WHATEVER THE INPUT: true; the input reads as it did. -/
def fnStoreListCutSpec : ChangeSpec := { name := "fnStoreListCut", fn := fun _ => fun
  | [d1, d2] => { results := [.lit (.bool true)], args := [d1, d2] }
  | _ => none }
def fnStoreListCutRow : OpenClaim := { program := "ytepeokaplbbpoaagreat", sum := "d504fa5e706d032d8c170f07c9b887622c145dc5795b54c598ec2639cc729323", func := "loop.example/temse/laws.FnStoreListCut", spec := "fnStoreListCut", inPlace := ["internal/abi.NoEscape", "internal/bytealg.CountString", "internal/bytealg.IndexByteString", "internal/bytealg.IndexString"], unfollowed := true, recurses := true, named := ["internal/bytealg.MaxLen"], apart := false }
def FnStoreListCutSaid : Prop := fnStoreListCutRow.holds Tryz.pinned (OpenSpec.ofChange fnStoreListCutSpec)

/-- ITS FALSE NEIGHBOUR: 'it returns false'. Refute it at one input. -/
def fnStoreListCutWrong : ChangeSpec := { name := "fnStoreListCut", fn := fun _ => fun
  | [d1, d2] => { results := [.lit (.bool false)], args := [d1, d2] }
  | _ => none }
def FnStoreListCutWrongFalsely : Prop := fnStoreListCutRow.holds Tryz.pinned (OpenSpec.ofChange fnStoreListCutWrong)

/-- 'laws.FnStoreList': WHATEVER THE INPUT: true; the input reads as it did. -/
def fnStoreListSpec : ChangeSpec := { name := "fnStoreList", fn := fun _ => fun
  | [d] => { results := [.lit (.bool true)], args := [d] }
  | _ => none }
def fnStoreListRow : OpenClaim := { program := "ytepeokaplbbpoaagreat", sum := "d504fa5e706d032d8c170f07c9b887622c145dc5795b54c598ec2639cc729323", func := "loop.example/temse/laws.FnStoreList", spec := "fnStoreList", inPlace := ["internal/abi.NoEscape", "internal/bytealg.CountString", "internal/bytealg.IndexByteString", "internal/bytealg.IndexString"], unfollowed := true, recurses := true, named := ["internal/bytealg.MaxLen"], apart := false }
def FnStoreListSaid : Prop := fnStoreListRow.holds Tryz.pinned (OpenSpec.ofChange fnStoreListSpec)

/-- ITS FALSE NEIGHBOUR: 'it returns false'. Refute it at one input. -/
def fnStoreListWrong : ChangeSpec := { name := "fnStoreList", fn := fun _ => fun
  | [d] => { results := [.lit (.bool false)], args := [d] }
  | _ => none }
def FnStoreListWrongFalsely : Prop := fnStoreListRow.holds Tryz.pinned (OpenSpec.ofChange fnStoreListWrong)

/- THE SECOND FORM. 'bulk': how many values and letters a reading holds, each counted each time it is reached (what is shared counts as often as it is met; a slice's spare places count too). A statement '..UptoSaid' is the law's where the arguments, and the package variables that the reading takes, are together of bulk at most 1048576: NARROWER than '..Said'. Prove '..Said' where nothing that the law and all that it calls make is longer than what came in: it says more and counts as full. Else prove '..UptoSaid'. A law counts once. -/
mutual
def uptoBulk {H : Type} : DataW H → Nat
  | .lit (.string bytes) => bytes.length + 1
  | .lit _ => 1
  | .nil => 1
  | .ptr d => uptoBulk d + 1
  | .slice elems spare => uptoBulkAll elems + uptoBulkAll spare + 1
  | .agg parts => uptoBulkAll parts + 1
  | .iface _ d => uptoBulk d + 1
  | .map entries => uptoBulkEntries entries + 1
  | .held _ => 1
def uptoBulkAll {H : Type} : List (DataW H) → Nat
  | [] => 0
  | d :: r => uptoBulk d + uptoBulkAll r
def uptoBulkEntries {H : Type} : List (Lit × DataW H) → Nat
  | [] => 0
  | x :: r => uptoBulkEntry x + uptoBulkEntries r
def uptoBulkEntry {H : Type} : Lit × DataW H → Nat
  | (.string bytes, d) => bytes.length + uptoBulk d + 1
  | (_, d) => uptoBulk d + 1
 end
def uptoSmall : (H : Type) → List (DataW H) → Bool := fun _ ds => decide (uptoBulkAll ds ≤ 1048576)
def OpenSpec.upto (s : _root_.Go.ChangeSpec) : _root_.Go.OpenSpec := { _root_.Go.OpenSpec.ofChange s with cond := some uptoSmall }

/-- 'laws.FnStoreDownTwice', WHERE WHAT IT READS IS OF BULK AT MOST 1048576: true; the input reads as it did. -/
def fnStoreDownTwiceUptoRow : OpenClaim := { program := "ytepeokaplbbpoaagreat", sum := "d504fa5e706d032d8c170f07c9b887622c145dc5795b54c598ec2639cc729323", func := "loop.example/temse/laws.FnStoreDownTwice", spec := "fnStoreDownTwice", inPlace := ["internal/abi.NoEscape", "internal/bytealg.CountString", "internal/bytealg.IndexByteString", "internal/bytealg.IndexString"], unfollowed := true, recurses := true, named := ["internal/bytealg.MaxLen"], apart := false, narrowed := true }
def FnStoreDownTwiceUptoSaid : Prop := fnStoreDownTwiceUptoRow.holds Tryz.pinned (OpenSpec.upto fnStoreDownTwiceSpec)

/-- 'laws.FnStoreJoin', WHERE WHAT IT READS IS OF BULK AT MOST 1048576: true; the input reads as it did. -/
def fnStoreJoinUptoRow : OpenClaim := { program := "ytepeokaplbbpoaagreat", sum := "d504fa5e706d032d8c170f07c9b887622c145dc5795b54c598ec2639cc729323", func := "loop.example/temse/laws.FnStoreJoin", spec := "fnStoreJoin", inPlace := ["internal/abi.NoEscape", "internal/bytealg.CountString", "internal/bytealg.IndexByteString", "internal/bytealg.IndexString"], unfollowed := true, recurses := true, named := ["internal/bytealg.MaxLen"], apart := false, narrowed := true }
def FnStoreJoinUptoSaid : Prop := fnStoreJoinUptoRow.holds Tryz.pinned (OpenSpec.upto fnStoreJoinSpec)

/-- 'laws.FnStoreDown', WHERE WHAT IT READS IS OF BULK AT MOST 1048576: true; the input reads as it did. -/
def fnStoreDownUptoRow : OpenClaim := { program := "ytepeokaplbbpoaagreat", sum := "d504fa5e706d032d8c170f07c9b887622c145dc5795b54c598ec2639cc729323", func := "loop.example/temse/laws.FnStoreDown", spec := "fnStoreDown", inPlace := ["internal/abi.NoEscape", "internal/bytealg.CountString", "internal/bytealg.IndexByteString", "internal/bytealg.IndexString"], unfollowed := true, recurses := true, named := ["internal/bytealg.MaxLen"], apart := false, narrowed := true }
def FnStoreDownUptoSaid : Prop := fnStoreDownUptoRow.holds Tryz.pinned (OpenSpec.upto fnStoreDownSpec)

/-- 'laws.FnStoreTakeList', WHERE WHAT IT READS IS OF BULK AT MOST 1048576: true; the input reads as it did. -/
def fnStoreTakeListUptoRow : OpenClaim := { program := "ytepeokaplbbpoaagreat", sum := "d504fa5e706d032d8c170f07c9b887622c145dc5795b54c598ec2639cc729323", func := "loop.example/temse/laws.FnStoreTakeList", spec := "fnStoreTakeList", inPlace := ["internal/abi.NoEscape", "internal/bytealg.CountString", "internal/bytealg.IndexByteString", "internal/bytealg.IndexString"], unfollowed := true, recurses := true, named := ["internal/bytealg.MaxLen"], apart := false, narrowed := true }
def FnStoreTakeListUptoSaid : Prop := fnStoreTakeListUptoRow.holds Tryz.pinned (OpenSpec.upto fnStoreTakeListSpec)

/-- 'laws.FnStoreTwice', WHERE WHAT IT READS IS OF BULK AT MOST 1048576: true; the input reads as it did. -/
def fnStoreTwiceUptoRow : OpenClaim := { program := "ytepeokaplbbpoaagreat", sum := "d504fa5e706d032d8c170f07c9b887622c145dc5795b54c598ec2639cc729323", func := "loop.example/temse/laws.FnStoreTwice", spec := "fnStoreTwice", inPlace := ["internal/abi.NoEscape", "internal/bytealg.CountString", "internal/bytealg.IndexByteString", "internal/bytealg.IndexString"], unfollowed := true, recurses := true, named := ["internal/bytealg.MaxLen"], apart := false, narrowed := true }
def FnStoreTwiceUptoSaid : Prop := fnStoreTwiceUptoRow.holds Tryz.pinned (OpenSpec.upto fnStoreTwiceSpec)

/-- 'laws.FnStoreFreeAll', WHERE WHAT IT READS IS OF BULK AT MOST 1048576: true; the input reads as it did. -/
def fnStoreFreeAllUptoRow : OpenClaim := { program := "ytepeokaplbbpoaagreat", sum := "d504fa5e706d032d8c170f07c9b887622c145dc5795b54c598ec2639cc729323", func := "loop.example/temse/laws.FnStoreFreeAll", spec := "fnStoreFreeAll", inPlace := ["internal/abi.NoEscape", "internal/bytealg.CountString", "internal/bytealg.IndexByteString", "internal/bytealg.IndexString"], unfollowed := true, recurses := true, named := ["internal/bytealg.MaxLen"], apart := false, narrowed := true }
def FnStoreFreeAllUptoSaid : Prop := fnStoreFreeAllUptoRow.holds Tryz.pinned (OpenSpec.upto fnStoreFreeAllSpec)

/-- 'laws.FnStoreTake', WHERE WHAT IT READS IS OF BULK AT MOST 1048576: true; the input reads as it did. -/
def fnStoreTakeUptoRow : OpenClaim := { program := "ytepeokaplbbpoaagreat", sum := "d504fa5e706d032d8c170f07c9b887622c145dc5795b54c598ec2639cc729323", func := "loop.example/temse/laws.FnStoreTake", spec := "fnStoreTake", inPlace := ["internal/abi.NoEscape", "internal/bytealg.CountString", "internal/bytealg.IndexByteString", "internal/bytealg.IndexString"], unfollowed := true, recurses := true, named := ["internal/bytealg.MaxLen"], apart := false, narrowed := true }
def FnStoreTakeUptoSaid : Prop := fnStoreTakeUptoRow.holds Tryz.pinned (OpenSpec.upto fnStoreTakeSpec)

/-- 'laws.FnStorePut', WHERE WHAT IT READS IS OF BULK AT MOST 1048576: true; the input reads as it did. -/
def fnStorePutUptoRow : OpenClaim := { program := "ytepeokaplbbpoaagreat", sum := "d504fa5e706d032d8c170f07c9b887622c145dc5795b54c598ec2639cc729323", func := "loop.example/temse/laws.FnStorePut", spec := "fnStorePut", inPlace := ["internal/abi.NoEscape", "internal/bytealg.CountString", "internal/bytealg.IndexByteString", "internal/bytealg.IndexString"], unfollowed := true, recurses := true, named := ["internal/bytealg.MaxLen"], apart := false, narrowed := true }
def FnStorePutUptoSaid : Prop := fnStorePutUptoRow.holds Tryz.pinned (OpenSpec.upto fnStorePutSpec)

/-- 'laws.FnPastDown', WHERE WHAT IT READS IS OF BULK AT MOST 1048576: true; the input reads as it did. -/
def fnPastDownUptoRow : OpenClaim := { program := "ytepeokaplbbpoaagreat", sum := "d504fa5e706d032d8c170f07c9b887622c145dc5795b54c598ec2639cc729323", func := "loop.example/temse/laws.FnPastDown", spec := "fnPastDown", inPlace := ["internal/abi.NoEscape", "internal/bytealg.CountString", "internal/bytealg.IndexByteString", "internal/bytealg.IndexString"], unfollowed := true, recurses := true, named := ["internal/bytealg.MaxLen"], apart := false, narrowed := true }
def FnPastDownUptoSaid : Prop := fnPastDownUptoRow.holds Tryz.pinned (OpenSpec.upto fnPastDownSpec)

/-- 'laws.FnStoreListAll', WHERE WHAT IT READS IS OF BULK AT MOST 1048576: true; the input reads as it did. -/
def fnStoreListAllUptoRow : OpenClaim := { program := "ytepeokaplbbpoaagreat", sum := "d504fa5e706d032d8c170f07c9b887622c145dc5795b54c598ec2639cc729323", func := "loop.example/temse/laws.FnStoreListAll", spec := "fnStoreListAll", inPlace := ["internal/abi.NoEscape", "internal/bytealg.CountString", "internal/bytealg.IndexByteString", "internal/bytealg.IndexString"], unfollowed := true, recurses := true, named := ["internal/bytealg.MaxLen"], apart := false, narrowed := true }
def FnStoreListAllUptoSaid : Prop := fnStoreListAllUptoRow.holds Tryz.pinned (OpenSpec.upto fnStoreListAllSpec)

/-- 'laws.FnStoreListCut', WHERE WHAT IT READS IS OF BULK AT MOST 1048576: true; the input reads as it did. -/
def fnStoreListCutUptoRow : OpenClaim := { program := "ytepeokaplbbpoaagreat", sum := "d504fa5e706d032d8c170f07c9b887622c145dc5795b54c598ec2639cc729323", func := "loop.example/temse/laws.FnStoreListCut", spec := "fnStoreListCut", inPlace := ["internal/abi.NoEscape", "internal/bytealg.CountString", "internal/bytealg.IndexByteString", "internal/bytealg.IndexString"], unfollowed := true, recurses := true, named := ["internal/bytealg.MaxLen"], apart := false, narrowed := true }
def FnStoreListCutUptoSaid : Prop := fnStoreListCutUptoRow.holds Tryz.pinned (OpenSpec.upto fnStoreListCutSpec)

/-- 'laws.FnStoreList', WHERE WHAT IT READS IS OF BULK AT MOST 1048576: true; the input reads as it did. -/
def fnStoreListUptoRow : OpenClaim := { program := "ytepeokaplbbpoaagreat", sum := "d504fa5e706d032d8c170f07c9b887622c145dc5795b54c598ec2639cc729323", func := "loop.example/temse/laws.FnStoreList", spec := "fnStoreList", inPlace := ["internal/abi.NoEscape", "internal/bytealg.CountString", "internal/bytealg.IndexByteString", "internal/bytealg.IndexString"], unfollowed := true, recurses := true, named := ["internal/bytealg.MaxLen"], apart := false, narrowed := true }
def FnStoreListUptoSaid : Prop := fnStoreListUptoRow.holds Tryz.pinned (OpenSpec.upto fnStoreListSpec)

end Rows
end Go.Proofs.YtepeokaplbbpoaaGreat
