/-
  No cell of these rows narrows 'for every input' (looked for: loops, veiled, ifaces, maps, wideKeys, modest, calm, conditions, laid).
  DERIVED. THE GIVEN ROWS OF THIS SEAT. 12 by the template 'for every input the law returns true; each argument reads behind the call as it read before'; 0 by the template 'total and deterministic' (their statements: YtgoeenodllmdpaaGreatTotals.lean).
  GIVEN WITH THE SEED: the statements are not yours to turn. If you find one false, say at which input.
  Laid BY PROGRAM, IN A SANDBOX (cutbox-rows.mjs): the forced cells as the released guide's own fill.sh prints them over the translation da66a900cf6f8ce2… (all of the seat's roots in one cut). By AI agents, Wed Nov 11 2026. No macro, syntax, notation, axiom, sorry.
-/
import Derived.Test.YtgoeenodllmdpaaGreatChecked
import GoSem.Claim
import GoSem.ClaimJoined
import GoSem.ClaimMapViews
import Derived.JoinedTies
import Derived.KernelRfl
namespace Go.Proofs.YtgoeenodllmdpaaGreat
/- THE CELL 'sum', in the pinned program and in every row, IS THE sha256 OF THE DUMP (.gsa) THAT YtgoeenodllmdpaaGreatProg.lean LOADS. Nothing in Lean hashes anything: it is a label: what it is worth is what the hold of that sum in a sandbox is worth. -/
noncomputable def Tryz.pinned : Pinned := { name := "ytgoeenodllmdpaagreat", sum := "da66a900cf6f8ce2eebd9f28fe59d943ec377bc86a1e7d3731153dc4ba7e459c", checked := Tryz.checked }
namespace Rows
def none {H : Type} : Left H := { results := [], args := [] }

/-- 'laws.FnPastKeep': WHATEVER THE INPUT: true; the input reads as it did. -/
def fnPastKeepSpec : ChangeSpec := { name := "fnPastKeep", fn := fun _ => fun
  | [d1, d2] => { results := [.lit (.bool true)], args := [d1, d2] }
  | _ => none }
def fnPastKeepRow : OpenClaim := { program := "ytgoeenodllmdpaagreat", sum := "da66a900cf6f8ce2eebd9f28fe59d943ec377bc86a1e7d3731153dc4ba7e459c", func := "loop.example/temse/laws.FnPastKeep", spec := "fnPastKeep", inPlace := ["internal/abi.NoEscape", "internal/bytealg.CountString", "internal/bytealg.IndexByteString", "internal/bytealg.IndexString"], unfollowed := true, recurses := true, named := ["internal/bytealg.MaxLen"], apart := false }
def FnPastKeepSaid : Prop := fnPastKeepRow.holds Tryz.pinned (OpenSpec.ofChange fnPastKeepSpec)

/-- ITS FALSE NEIGHBOUR: 'it returns false'. Refute it at one input. -/
def fnPastKeepWrong : ChangeSpec := { name := "fnPastKeep", fn := fun _ => fun
  | [d1, d2] => { results := [.lit (.bool false)], args := [d1, d2] }
  | _ => none }
def FnPastKeepWrongFalsely : Prop := fnPastKeepRow.holds Tryz.pinned (OpenSpec.ofChange fnPastKeepWrong)

/-- 'laws.FnPastTop': WHATEVER THE INPUT: true; the input reads as it did. -/
def fnPastTopSpec : ChangeSpec := { name := "fnPastTop", fn := fun _ => fun
  | [d] => { results := [.lit (.bool true)], args := [d] }
  | _ => none }
def fnPastTopRow : OpenClaim := { program := "ytgoeenodllmdpaagreat", sum := "da66a900cf6f8ce2eebd9f28fe59d943ec377bc86a1e7d3731153dc4ba7e459c", func := "loop.example/temse/laws.FnPastTop", spec := "fnPastTop", inPlace := ["internal/abi.NoEscape", "internal/bytealg.CountString", "internal/bytealg.IndexByteString", "internal/bytealg.IndexString"], unfollowed := true, recurses := true, named := ["internal/bytealg.MaxLen"], apart := false }
def FnPastTopSaid : Prop := fnPastTopRow.holds Tryz.pinned (OpenSpec.ofChange fnPastTopSpec)

/-- ITS FALSE NEIGHBOUR: 'it returns false'. Refute it at one input. -/
def fnPastTopWrong : ChangeSpec := { name := "fnPastTop", fn := fun _ => fun
  | [d] => { results := [.lit (.bool false)], args := [d] }
  | _ => none }
def FnPastTopWrongFalsely : Prop := fnPastTopRow.holds Tryz.pinned (OpenSpec.ofChange fnPastTopWrong)

/-- 'laws.FnStoreHoldPut': WHATEVER THE INPUT: true; the input reads as it did. -/
def fnStoreHoldPutSpec : ChangeSpec := { name := "fnStoreHoldPut", fn := fun _ => fun
  | [d1, d2] => { results := [.lit (.bool true)], args := [d1, d2] }
  | _ => none }
def fnStoreHoldPutRow : OpenClaim := { program := "ytgoeenodllmdpaagreat", sum := "da66a900cf6f8ce2eebd9f28fe59d943ec377bc86a1e7d3731153dc4ba7e459c", func := "loop.example/temse/laws.FnStoreHoldPut", spec := "fnStoreHoldPut", inPlace := ["internal/abi.NoEscape", "internal/bytealg.CountString", "internal/bytealg.IndexByteString", "internal/bytealg.IndexString"], unfollowed := true, recurses := true, named := ["internal/bytealg.MaxLen"], apart := false }
def FnStoreHoldPutSaid : Prop := fnStoreHoldPutRow.holds Tryz.pinned (OpenSpec.ofChange fnStoreHoldPutSpec)

/-- ITS FALSE NEIGHBOUR: 'it returns false'. Refute it at one input. -/
def fnStoreHoldPutWrong : ChangeSpec := { name := "fnStoreHoldPut", fn := fun _ => fun
  | [d1, d2] => { results := [.lit (.bool false)], args := [d1, d2] }
  | _ => none }
def FnStoreHoldPutWrongFalsely : Prop := fnStoreHoldPutRow.holds Tryz.pinned (OpenSpec.ofChange fnStoreHoldPutWrong)

/-- 'laws.FnPastIdle': WHATEVER THE INPUT: true; the input reads as it did. -/
def fnPastIdleSpec : ChangeSpec := { name := "fnPastIdle", fn := fun _ => fun
  | [d] => { results := [.lit (.bool true)], args := [d] }
  | _ => none }
def fnPastIdleRow : OpenClaim := { program := "ytgoeenodllmdpaagreat", sum := "da66a900cf6f8ce2eebd9f28fe59d943ec377bc86a1e7d3731153dc4ba7e459c", func := "loop.example/temse/laws.FnPastIdle", spec := "fnPastIdle", inPlace := ["internal/abi.NoEscape"], unfollowed := true, recurses := true, apart := false }
def FnPastIdleSaid : Prop := fnPastIdleRow.holds Tryz.pinned (OpenSpec.ofChange fnPastIdleSpec)

/-- ITS FALSE NEIGHBOUR: 'it returns false'. Refute it at one input. -/
def fnPastIdleWrong : ChangeSpec := { name := "fnPastIdle", fn := fun _ => fun
  | [d] => { results := [.lit (.bool false)], args := [d] }
  | _ => none }
def FnPastIdleWrongFalsely : Prop := fnPastIdleRow.holds Tryz.pinned (OpenSpec.ofChange fnPastIdleWrong)

/-- 'laws.FnStoreSpans': WHATEVER THE INPUT: true; the input reads as it did. -/
def fnStoreSpansSpec : ChangeSpec := { name := "fnStoreSpans", fn := fun _ => fun
  | [d] => { results := [.lit (.bool true)], args := [d] }
  | _ => none }
def fnStoreSpansRow : OpenClaim := { program := "ytgoeenodllmdpaagreat", sum := "da66a900cf6f8ce2eebd9f28fe59d943ec377bc86a1e7d3731153dc4ba7e459c", func := "loop.example/temse/laws.FnStoreSpans", spec := "fnStoreSpans", inPlace := ["internal/abi.NoEscape", "internal/bytealg.CountString", "internal/bytealg.IndexByteString", "internal/bytealg.IndexString"], unfollowed := true, recurses := true, named := ["internal/bytealg.MaxLen"], apart := false }
def FnStoreSpansSaid : Prop := fnStoreSpansRow.holds Tryz.pinned (OpenSpec.ofChange fnStoreSpansSpec)

/-- ITS FALSE NEIGHBOUR: 'it returns false'. Refute it at one input. -/
def fnStoreSpansWrong : ChangeSpec := { name := "fnStoreSpans", fn := fun _ => fun
  | [d] => { results := [.lit (.bool false)], args := [d] }
  | _ => none }
def FnStoreSpansWrongFalsely : Prop := fnStoreSpansRow.holds Tryz.pinned (OpenSpec.ofChange fnStoreSpansWrong)

/-- 'laws.FnStoreSieve': WHATEVER THE INPUT: true; the input reads as it did. -/
def fnStoreSieveSpec : ChangeSpec := { name := "fnStoreSieve", fn := fun _ => fun
  | [d] => { results := [.lit (.bool true)], args := [d] }
  | _ => none }
def fnStoreSieveRow : OpenClaim := { program := "ytgoeenodllmdpaagreat", sum := "da66a900cf6f8ce2eebd9f28fe59d943ec377bc86a1e7d3731153dc4ba7e459c", func := "loop.example/temse/laws.FnStoreSieve", spec := "fnStoreSieve", inPlace := ["internal/abi.NoEscape", "internal/bytealg.CountString", "internal/bytealg.IndexByteString", "internal/bytealg.IndexString"], unfollowed := true, recurses := true, named := ["internal/bytealg.MaxLen"], apart := false }
def FnStoreSieveSaid : Prop := fnStoreSieveRow.holds Tryz.pinned (OpenSpec.ofChange fnStoreSieveSpec)

/-- ITS FALSE NEIGHBOUR: 'it returns false'. Refute it at one input. -/
def fnStoreSieveWrong : ChangeSpec := { name := "fnStoreSieve", fn := fun _ => fun
  | [d] => { results := [.lit (.bool false)], args := [d] }
  | _ => none }
def FnStoreSieveWrongFalsely : Prop := fnStoreSieveRow.holds Tryz.pinned (OpenSpec.ofChange fnStoreSieveWrong)

/-- 'laws.FnStorePutOther': WHATEVER THE INPUT: true; the input reads as it did. -/
def fnStorePutOtherSpec : ChangeSpec := { name := "fnStorePutOther", fn := fun _ => fun
  | [d1, d2] => { results := [.lit (.bool true)], args := [d1, d2] }
  | _ => none }
def fnStorePutOtherRow : OpenClaim := { program := "ytgoeenodllmdpaagreat", sum := "da66a900cf6f8ce2eebd9f28fe59d943ec377bc86a1e7d3731153dc4ba7e459c", func := "loop.example/temse/laws.FnStorePutOther", spec := "fnStorePutOther", inPlace := ["internal/abi.NoEscape", "internal/bytealg.CountString", "internal/bytealg.IndexByteString", "internal/bytealg.IndexString"], unfollowed := true, recurses := true, named := ["internal/bytealg.MaxLen"], apart := false }
def FnStorePutOtherSaid : Prop := fnStorePutOtherRow.holds Tryz.pinned (OpenSpec.ofChange fnStorePutOtherSpec)

/-- ITS FALSE NEIGHBOUR: 'it returns false'. Refute it at one input. -/
def fnStorePutOtherWrong : ChangeSpec := { name := "fnStorePutOther", fn := fun _ => fun
  | [d1, d2] => { results := [.lit (.bool false)], args := [d1, d2] }
  | _ => none }
def FnStorePutOtherWrongFalsely : Prop := fnStorePutOtherRow.holds Tryz.pinned (OpenSpec.ofChange fnStorePutOtherWrong)

/-- 'laws.FnPastGetTop': WHATEVER THE INPUT: true; the input reads as it did. -/
def fnPastGetTopSpec : ChangeSpec := { name := "fnPastGetTop", fn := fun _ => fun
  | [d1, d2] => { results := [.lit (.bool true)], args := [d1, d2] }
  | _ => none }
def fnPastGetTopRow : OpenClaim := { program := "ytgoeenodllmdpaagreat", sum := "da66a900cf6f8ce2eebd9f28fe59d943ec377bc86a1e7d3731153dc4ba7e459c", func := "loop.example/temse/laws.FnPastGetTop", spec := "fnPastGetTop", inPlace := ["internal/abi.NoEscape", "internal/bytealg.CountString", "internal/bytealg.IndexByteString", "internal/bytealg.IndexString"], unfollowed := true, recurses := true, named := ["internal/bytealg.MaxLen"], apart := false }
def FnPastGetTopSaid : Prop := fnPastGetTopRow.holds Tryz.pinned (OpenSpec.ofChange fnPastGetTopSpec)

/-- ITS FALSE NEIGHBOUR: 'it returns false'. Refute it at one input. -/
def fnPastGetTopWrong : ChangeSpec := { name := "fnPastGetTop", fn := fun _ => fun
  | [d1, d2] => { results := [.lit (.bool false)], args := [d1, d2] }
  | _ => none }
def FnPastGetTopWrongFalsely : Prop := fnPastGetTopRow.holds Tryz.pinned (OpenSpec.ofChange fnPastGetTopWrong)

/-- 'laws.FnExactPastAll': WHATEVER THE INPUT: true; the input reads as it did. -/
def fnExactPastAllSpec : ChangeSpec := { name := "fnExactPastAll", fn := fun _ => fun
  | [d1, d2] => { results := [.lit (.bool true)], args := [d1, d2] }
  | _ => none }
def fnExactPastAllRow : OpenClaim := { program := "ytgoeenodllmdpaagreat", sum := "da66a900cf6f8ce2eebd9f28fe59d943ec377bc86a1e7d3731153dc4ba7e459c", func := "loop.example/temse/laws.FnExactPastAll", spec := "fnExactPastAll", inPlace := ["internal/abi.NoEscape"], unfollowed := true, recurses := true, apart := false }
def FnExactPastAllSaid : Prop := fnExactPastAllRow.holds Tryz.pinned (OpenSpec.ofChange fnExactPastAllSpec)

/-- ITS FALSE NEIGHBOUR: 'it returns false'. Refute it at one input. -/
def fnExactPastAllWrong : ChangeSpec := { name := "fnExactPastAll", fn := fun _ => fun
  | [d1, d2] => { results := [.lit (.bool false)], args := [d1, d2] }
  | _ => none }
def FnExactPastAllWrongFalsely : Prop := fnExactPastAllRow.holds Tryz.pinned (OpenSpec.ofChange fnExactPastAllWrong)

/-- 'laws.FnExactPastDo': WHATEVER THE INPUT: true; the input reads as it did. -/
def fnExactPastDoSpec : ChangeSpec := { name := "fnExactPastDo", fn := fun _ => fun
  | [d1, d2] => { results := [.lit (.bool true)], args := [d1, d2] }
  | _ => none }
def fnExactPastDoRow : OpenClaim := { program := "ytgoeenodllmdpaagreat", sum := "da66a900cf6f8ce2eebd9f28fe59d943ec377bc86a1e7d3731153dc4ba7e459c", func := "loop.example/temse/laws.FnExactPastDo", spec := "fnExactPastDo", inPlace := ["internal/abi.NoEscape"], unfollowed := true, recurses := true, apart := false }
def FnExactPastDoSaid : Prop := fnExactPastDoRow.holds Tryz.pinned (OpenSpec.ofChange fnExactPastDoSpec)

/-- ITS FALSE NEIGHBOUR: 'it returns false'. Refute it at one input. -/
def fnExactPastDoWrong : ChangeSpec := { name := "fnExactPastDo", fn := fun _ => fun
  | [d1, d2] => { results := [.lit (.bool false)], args := [d1, d2] }
  | _ => none }
def FnExactPastDoWrongFalsely : Prop := fnExactPastDoRow.holds Tryz.pinned (OpenSpec.ofChange fnExactPastDoWrong)

/-- 'laws.FnStoreHold': WHATEVER THE INPUT: true; the input reads as it did. -/
def fnStoreHoldSpec : ChangeSpec := { name := "fnStoreHold", fn := fun _ => fun
  | [d] => { results := [.lit (.bool true)], args := [d] }
  | _ => none }
def fnStoreHoldRow : OpenClaim := { program := "ytgoeenodllmdpaagreat", sum := "da66a900cf6f8ce2eebd9f28fe59d943ec377bc86a1e7d3731153dc4ba7e459c", func := "loop.example/temse/laws.FnStoreHold", spec := "fnStoreHold", inPlace := ["internal/abi.NoEscape", "internal/bytealg.CountString", "internal/bytealg.IndexByteString", "internal/bytealg.IndexString"], unfollowed := true, recurses := true, named := ["internal/bytealg.MaxLen"], apart := false }
def FnStoreHoldSaid : Prop := fnStoreHoldRow.holds Tryz.pinned (OpenSpec.ofChange fnStoreHoldSpec)

/-- ITS FALSE NEIGHBOUR: 'it returns false'. Refute it at one input. -/
def fnStoreHoldWrong : ChangeSpec := { name := "fnStoreHold", fn := fun _ => fun
  | [d] => { results := [.lit (.bool false)], args := [d] }
  | _ => none }
def FnStoreHoldWrongFalsely : Prop := fnStoreHoldRow.holds Tryz.pinned (OpenSpec.ofChange fnStoreHoldWrong)

/-- 'laws.FnStoreFree': WHATEVER THE INPUT: true; the input reads as it did. -/
def fnStoreFreeSpec : ChangeSpec := { name := "fnStoreFree", fn := fun _ => fun
  | [d] => { results := [.lit (.bool true)], args := [d] }
  | _ => none }
def fnStoreFreeRow : OpenClaim := { program := "ytgoeenodllmdpaagreat", sum := "da66a900cf6f8ce2eebd9f28fe59d943ec377bc86a1e7d3731153dc4ba7e459c", func := "loop.example/temse/laws.FnStoreFree", spec := "fnStoreFree", inPlace := ["internal/abi.NoEscape", "internal/bytealg.CountString", "internal/bytealg.IndexByteString", "internal/bytealg.IndexString"], unfollowed := true, recurses := true, named := ["internal/bytealg.MaxLen"], apart := false }
def FnStoreFreeSaid : Prop := fnStoreFreeRow.holds Tryz.pinned (OpenSpec.ofChange fnStoreFreeSpec)

/-- ITS FALSE NEIGHBOUR: 'it returns false'. Refute it at one input. -/
def fnStoreFreeWrong : ChangeSpec := { name := "fnStoreFree", fn := fun _ => fun
  | [d] => { results := [.lit (.bool false)], args := [d] }
  | _ => none }
def FnStoreFreeWrongFalsely : Prop := fnStoreFreeRow.holds Tryz.pinned (OpenSpec.ofChange fnStoreFreeWrong)

/- THE SECOND FORM. 'bulk': how many values and letters a reading holds, each counted each time it is reached (what is shared counts as often as it is met; a slice's spare places count too). A statement '..UptoSaid' is the law's where the arguments, and the package variables that the reading takes, are together of bulk at most 1048576: NARROWER than '..Said'. Prove '..Said' where nothing that the law and all that it calls make is longer than what came in: it says more and counts as full. Else prove '..UptoSaid'. A law counts once. -/
mutual
def uptoBulk {H : Type} : DataW H → Nat
  | .lit (.string bytes) => bytes.length + 1
  | .lit _ => 1
  | .nil => 1
  | .ptr d => uptoBulk d + 1
  | .slice elems spare => uptoBulkAll elems + uptoBulkAll spare + 1
  | .agg parts => uptoBulkAll parts + 1
  | .iface _ d => uptoBulk d + 1
  | .map entries => uptoBulkEntries entries + 1
  | .held _ => 1
def uptoBulkAll {H : Type} : List (DataW H) → Nat
  | [] => 0
  | d :: r => uptoBulk d + uptoBulkAll r
def uptoBulkEntries {H : Type} : List (Lit × DataW H) → Nat
  | [] => 0
  | x :: r => uptoBulkEntry x + uptoBulkEntries r
def uptoBulkEntry {H : Type} : Lit × DataW H → Nat
  | (.string bytes, d) => bytes.length + uptoBulk d + 1
  | (_, d) => uptoBulk d + 1
 end
def uptoSmall : (H : Type) → List (DataW H) → Bool := fun _ ds => decide (uptoBulkAll ds ≤ 1048576)
def OpenSpec.upto (s : _root_.Go.ChangeSpec) : _root_.Go.OpenSpec := { _root_.Go.OpenSpec.ofChange s with cond := some uptoSmall }

/-- 'laws.FnPastKeep', WHERE WHAT IT READS IS OF BULK AT MOST 1048576: true; the input reads as it did. -/
def fnPastKeepUptoRow : OpenClaim := { program := "ytgoeenodllmdpaagreat", sum := "da66a900cf6f8ce2eebd9f28fe59d943ec377bc86a1e7d3731153dc4ba7e459c", func := "loop.example/temse/laws.FnPastKeep", spec := "fnPastKeep", inPlace := ["internal/abi.NoEscape", "internal/bytealg.CountString", "internal/bytealg.IndexByteString", "internal/bytealg.IndexString"], unfollowed := true, recurses := true, named := ["internal/bytealg.MaxLen"], apart := false, narrowed := true }
def FnPastKeepUptoSaid : Prop := fnPastKeepUptoRow.holds Tryz.pinned (OpenSpec.upto fnPastKeepSpec)

/-- 'laws.FnPastTop', WHERE WHAT IT READS IS OF BULK AT MOST 1048576: true; the input reads as it did. -/
def fnPastTopUptoRow : OpenClaim := { program := "ytgoeenodllmdpaagreat", sum := "da66a900cf6f8ce2eebd9f28fe59d943ec377bc86a1e7d3731153dc4ba7e459c", func := "loop.example/temse/laws.FnPastTop", spec := "fnPastTop", inPlace := ["internal/abi.NoEscape", "internal/bytealg.CountString", "internal/bytealg.IndexByteString", "internal/bytealg.IndexString"], unfollowed := true, recurses := true, named := ["internal/bytealg.MaxLen"], apart := false, narrowed := true }
def FnPastTopUptoSaid : Prop := fnPastTopUptoRow.holds Tryz.pinned (OpenSpec.upto fnPastTopSpec)

/-- 'laws.FnStoreHoldPut', WHERE WHAT IT READS IS OF BULK AT MOST 1048576: true; the input reads as it did. -/
def fnStoreHoldPutUptoRow : OpenClaim := { program := "ytgoeenodllmdpaagreat", sum := "da66a900cf6f8ce2eebd9f28fe59d943ec377bc86a1e7d3731153dc4ba7e459c", func := "loop.example/temse/laws.FnStoreHoldPut", spec := "fnStoreHoldPut", inPlace := ["internal/abi.NoEscape", "internal/bytealg.CountString", "internal/bytealg.IndexByteString", "internal/bytealg.IndexString"], unfollowed := true, recurses := true, named := ["internal/bytealg.MaxLen"], apart := false, narrowed := true }
def FnStoreHoldPutUptoSaid : Prop := fnStoreHoldPutUptoRow.holds Tryz.pinned (OpenSpec.upto fnStoreHoldPutSpec)

/-- 'laws.FnPastIdle', WHERE WHAT IT READS IS OF BULK AT MOST 1048576: true; the input reads as it did. -/
def fnPastIdleUptoRow : OpenClaim := { program := "ytgoeenodllmdpaagreat", sum := "da66a900cf6f8ce2eebd9f28fe59d943ec377bc86a1e7d3731153dc4ba7e459c", func := "loop.example/temse/laws.FnPastIdle", spec := "fnPastIdle", inPlace := ["internal/abi.NoEscape"], unfollowed := true, recurses := true, apart := false, narrowed := true }
def FnPastIdleUptoSaid : Prop := fnPastIdleUptoRow.holds Tryz.pinned (OpenSpec.upto fnPastIdleSpec)

/-- 'laws.FnStoreSpans', WHERE WHAT IT READS IS OF BULK AT MOST 1048576: true; the input reads as it did. -/
def fnStoreSpansUptoRow : OpenClaim := { program := "ytgoeenodllmdpaagreat", sum := "da66a900cf6f8ce2eebd9f28fe59d943ec377bc86a1e7d3731153dc4ba7e459c", func := "loop.example/temse/laws.FnStoreSpans", spec := "fnStoreSpans", inPlace := ["internal/abi.NoEscape", "internal/bytealg.CountString", "internal/bytealg.IndexByteString", "internal/bytealg.IndexString"], unfollowed := true, recurses := true, named := ["internal/bytealg.MaxLen"], apart := false, narrowed := true }
def FnStoreSpansUptoSaid : Prop := fnStoreSpansUptoRow.holds Tryz.pinned (OpenSpec.upto fnStoreSpansSpec)

/-- 'laws.FnStoreSieve', WHERE WHAT IT READS IS OF BULK AT MOST 1048576: true; the input reads as it did. -/
def fnStoreSieveUptoRow : OpenClaim := { program := "ytgoeenodllmdpaagreat", sum := "da66a900cf6f8ce2eebd9f28fe59d943ec377bc86a1e7d3731153dc4ba7e459c", func := "loop.example/temse/laws.FnStoreSieve", spec := "fnStoreSieve", inPlace := ["internal/abi.NoEscape", "internal/bytealg.CountString", "internal/bytealg.IndexByteString", "internal/bytealg.IndexString"], unfollowed := true, recurses := true, named := ["internal/bytealg.MaxLen"], apart := false, narrowed := true }
def FnStoreSieveUptoSaid : Prop := fnStoreSieveUptoRow.holds Tryz.pinned (OpenSpec.upto fnStoreSieveSpec)

/-- 'laws.FnStorePutOther', WHERE WHAT IT READS IS OF BULK AT MOST 1048576: true; the input reads as it did. -/
def fnStorePutOtherUptoRow : OpenClaim := { program := "ytgoeenodllmdpaagreat", sum := "da66a900cf6f8ce2eebd9f28fe59d943ec377bc86a1e7d3731153dc4ba7e459c", func := "loop.example/temse/laws.FnStorePutOther", spec := "fnStorePutOther", inPlace := ["internal/abi.NoEscape", "internal/bytealg.CountString", "internal/bytealg.IndexByteString", "internal/bytealg.IndexString"], unfollowed := true, recurses := true, named := ["internal/bytealg.MaxLen"], apart := false, narrowed := true }
def FnStorePutOtherUptoSaid : Prop := fnStorePutOtherUptoRow.holds Tryz.pinned (OpenSpec.upto fnStorePutOtherSpec)

/-- 'laws.FnPastGetTop', WHERE WHAT IT READS IS OF BULK AT MOST 1048576: true; the input reads as it did. -/
def fnPastGetTopUptoRow : OpenClaim := { program := "ytgoeenodllmdpaagreat", sum := "da66a900cf6f8ce2eebd9f28fe59d943ec377bc86a1e7d3731153dc4ba7e459c", func := "loop.example/temse/laws.FnPastGetTop", spec := "fnPastGetTop", inPlace := ["internal/abi.NoEscape", "internal/bytealg.CountString", "internal/bytealg.IndexByteString", "internal/bytealg.IndexString"], unfollowed := true, recurses := true, named := ["internal/bytealg.MaxLen"], apart := false, narrowed := true }
def FnPastGetTopUptoSaid : Prop := fnPastGetTopUptoRow.holds Tryz.pinned (OpenSpec.upto fnPastGetTopSpec)

/-- 'laws.FnExactPastAll', WHERE WHAT IT READS IS OF BULK AT MOST 1048576: true; the input reads as it did. -/
def fnExactPastAllUptoRow : OpenClaim := { program := "ytgoeenodllmdpaagreat", sum := "da66a900cf6f8ce2eebd9f28fe59d943ec377bc86a1e7d3731153dc4ba7e459c", func := "loop.example/temse/laws.FnExactPastAll", spec := "fnExactPastAll", inPlace := ["internal/abi.NoEscape"], unfollowed := true, recurses := true, apart := false, narrowed := true }
def FnExactPastAllUptoSaid : Prop := fnExactPastAllUptoRow.holds Tryz.pinned (OpenSpec.upto fnExactPastAllSpec)

/-- 'laws.FnExactPastDo', WHERE WHAT IT READS IS OF BULK AT MOST 1048576: true; the input reads as it did. -/
def fnExactPastDoUptoRow : OpenClaim := { program := "ytgoeenodllmdpaagreat", sum := "da66a900cf6f8ce2eebd9f28fe59d943ec377bc86a1e7d3731153dc4ba7e459c", func := "loop.example/temse/laws.FnExactPastDo", spec := "fnExactPastDo", inPlace := ["internal/abi.NoEscape"], unfollowed := true, recurses := true, apart := false, narrowed := true }
def FnExactPastDoUptoSaid : Prop := fnExactPastDoUptoRow.holds Tryz.pinned (OpenSpec.upto fnExactPastDoSpec)

/-- 'laws.FnStoreHold', WHERE WHAT IT READS IS OF BULK AT MOST 1048576: true; the input reads as it did. -/
def fnStoreHoldUptoRow : OpenClaim := { program := "ytgoeenodllmdpaagreat", sum := "da66a900cf6f8ce2eebd9f28fe59d943ec377bc86a1e7d3731153dc4ba7e459c", func := "loop.example/temse/laws.FnStoreHold", spec := "fnStoreHold", inPlace := ["internal/abi.NoEscape", "internal/bytealg.CountString", "internal/bytealg.IndexByteString", "internal/bytealg.IndexString"], unfollowed := true, recurses := true, named := ["internal/bytealg.MaxLen"], apart := false, narrowed := true }
def FnStoreHoldUptoSaid : Prop := fnStoreHoldUptoRow.holds Tryz.pinned (OpenSpec.upto fnStoreHoldSpec)

/-- 'laws.FnStoreFree', WHERE WHAT IT READS IS OF BULK AT MOST 1048576: true; the input reads as it did. -/
def fnStoreFreeUptoRow : OpenClaim := { program := "ytgoeenodllmdpaagreat", sum := "da66a900cf6f8ce2eebd9f28fe59d943ec377bc86a1e7d3731153dc4ba7e459c", func := "loop.example/temse/laws.FnStoreFree", spec := "fnStoreFree", inPlace := ["internal/abi.NoEscape", "internal/bytealg.CountString", "internal/bytealg.IndexByteString", "internal/bytealg.IndexString"], unfollowed := true, recurses := true, named := ["internal/bytealg.MaxLen"], apart := false, narrowed := true }
def FnStoreFreeUptoSaid : Prop := fnStoreFreeUptoRow.holds Tryz.pinned (OpenSpec.upto fnStoreFreeSpec)

end Rows
end Go.Proofs.YtgoeenodllmdpaaGreat
