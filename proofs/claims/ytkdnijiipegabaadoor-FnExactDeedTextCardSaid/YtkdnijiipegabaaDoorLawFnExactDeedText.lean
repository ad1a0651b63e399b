/- The law FnExactDeedText returns true whatever its arguments are, and leaves them as they were; the tables of the library that it reads are as the program's text lays them, which the given tie shows. There is no other condition. -/
import Derived.Test.YtkdnijiipegabaaDoorRows
import Derived.Test.YtkdnijiipegabaaDoorTie
import Derived.Test.YtkdnijiipegabaaDoorCards
import Derived.Test.YtkdnijiipegabaaDoorIe
import Derived.SizedLaws
import Derived.OpenShut
import Derived.LaidLaws
import Derived.Handed
import Derived.Lib.LaidTab
import Derived.Stop.LaidErr
import Derived.SevenTiedAt
namespace Go.Proofs.YtkdnijiipegabaaDoor.fnExactDeedText
open Go.ChangeShapes Go.RowKit Go.Proofs.YtkdnijiipegabaaDoor.B
set_option linter.unusedVariables false
set_option linter.unusedSimpArgs false
theorem own : ownKnob Tryd.prog.godebug = none := by kernel_rfl
theorem laidB : laidOutB Tryd.prog = true := by kernel_rfl
theorem walk (vs : List AV) (H : Hp) (W : World) (hA : ArgsOf Tryd.prog H Tryd.f3.params.toList vs) : AC Tryd.prog (tabE W) 3 vs H (fun v _ => v = .bool true) := by
  rw [Tryd.params3] at hA
  have hE := tabE_tab W
  obtain ⟨a, us, rfl, ha, hA⟩ := hA.cons (sh := [.ki .i64, .ks, .ki .i64]) (b := true) (by kernel_rfl) (by kernel_rfl)
  obtain rfl := hA.nil
  obtain ⟨avs, rfl, ht⟩ := ha.ag
  obtain ⟨v1, us, rfl, h1, ht⟩ := ht.cons
  obtain ⟨v2, us, rfl, h2, ht⟩ := ht.cons
  obtain ⟨v3, us, rfl, h3, ht⟩ := ht.cons
  obtain rfl := ht.nil
  obtain ⟨n1, rfl, _⟩ := h1.int
  obtain ⟨s, rfl, hs⟩ := h2.str
  obtain ⟨n3, rfl, _⟩ := h3.int
  exact lawExactDeedText_ok hE ⟨n1, s, n3⟩ H (show s.size < 4611686018427387904 by omega)

/-- The cells of a table. -/
def cellsOf : DataW Unit → Array Value
  | .agg ps => (ps.map fun d => match d with
    | .lit (.int k n) => Value.int k n
    | _ => .int .i64 0).toArray
  | _ => #[]
/-- A world that meets the condition: the settled one, the tables laid. -/
noncomputable def laidWorld (os : Os) : World :=
  let w0 := World.holding Tryd.prog os ⟨#[], #[], []⟩
  let put (h : Array Obj) (g : Nat) (cs : Array Value) : Array Obj := h.modify g fun
    | .cells _ t frozen => .cells cs t frozen
    | o => o
  { w0 with heap := put (put (put (w0.heap) 1 (cellsOf Rows.laid_math_bits_deBruijn32tab)) 2 (cellsOf Rows.laid_math_bits_deBruijn64tab)) 0 (cellsOf Rows.laid_internal_strconv_uint64pow10) }
theorem laid_met (os : Os) (args : Array Value) : laidMetH Tryd.prog Rows.fnExactDeedTextRow.laid ((laidWorld os).forCall (fun _ _ => 0) ⟨#[], args, []⟩).memory :=
  show laidMet Tryd.prog Rows.fnExactDeedTextRow.laid _ from laidMet_of_run' 8 (by kernel_rfl) (by kernel_rfl)
theorem tab_of {W : World} (h : laidMetH Tryd.prog Rows.fnExactDeedTextRow.laid W) : Lib.TabIs Tryd.prog W "internal/strconv.uint64pow10" .u64 Lib.pow10Tab := by
  have h1 : laidMet Tryd.prog [("math/bits.deBruijn32tab", Rows.laid_math_bits_deBruijn32tab), ("math/bits.deBruijn64tab", Rows.laid_math_bits_deBruijn64tab), ("internal/strconv.uint64pow10", Rows.laid_internal_strconv_uint64pow10)] W := h
  have h2 : laidMet Tryd.prog (("internal/strconv.uint64pow10", Lib.tabData .u64 Lib.pow10Tab) :: []) W := h1.tail.tail
  exact Lib.tabIs_of_head (g := 0) (t := 85) (e := 77) (n := 20) (by kernel_rfl) (by kernel_rfl) (by kernel_rfl) (by kernel_rfl) (by kernel_rfl) (by kernel_rfl) h2
set_option maxRecDepth 100000 in
theorem lifted (os : Os) (started : os.Started) (H : Type) (enc : TypeId × Value → H) :
    ReturnsInHanded {} Tryd.checked os 3 .any (fun w args => (Rows.fnExactDeedTextSpec.pre enc Tryd.prog Tryd.f3 Rows.fnExactDeedTextRow.domain false w args ∧ laidMetH Tryd.prog Rows.fnExactDeedTextRow.laid w) ∧ sizedMet enc Tryd.prog Tryd.f3 (OpenSpec.ofChange Rows.fnExactDeedTextSpec) false w args)
      (Rows.fnExactDeedTextSpec.post enc Tryd.prog Tryd.f3 false true false false) := by
  refine returnsInHanded_of_change_and (C := Tryd.checked) (X := fun w _ => laidMetH Tryd.prog Rows.fnExactDeedTextRow.laid w) (fun _ _ _ hh h => h.of_heap hh) own started (by kernel_rfl) Tryd.func3
    (ChangeSpec.witness_at (enc := enc) (C := Tryd.checked) (os := os) (X := fun w _ => laidMetH Tryd.prog Rows.fnExactDeedTextRow.laid w) false (laidWorld os) #[.agg #[.int .i64 0, .string ByteArray.empty, .int .i64 0]] 8 rfl (by kernel_rfl) (by kernel_rfl) (by kernel_rfl) (by kernel_rfl) (by kernel_rfl) (laid_met os _)) ?_
  intro W base args ds gs before hval hW _ hsz hL _
  exact row_of_ACE (tb := 4) laidB (by kernel_rfl) rfl Tryd.underlying4 hval rfl hW hsz (fun h => by
    match ds, h with
    | [d0], _ => rfl) (tabE W) rfl (tabE_G (tab_of hL)) (fun vs H hA => walk vs H W hA)
theorem over : Rows.fnExactDeedTextRow.holds Tryd.pinned (OpenSpec.ofChange Rows.fnExactDeedTextSpec) :=
  OpenClaim.holds_of_wide 3 Tryd.f3 rfl rfl rfl rfl rfl rfl rfl ⟨rfl, rfl, rfl, rfl, rfl⟩ rfl rfl rfl rfl rfl (by kernel_rfl) Tryd.func3 (by kernel_rfl)
    (of_decide_eq_true (by kernel_rfl)) (by unfold Func.isWrapper; first | (rw [if_pos (by decide +kernel)]; kernel_rfl) | (rw [if_neg (by decide +kernel)]; exact ⟨rfl, rfl⟩))
    (fun os started H enc _ => lifted os started H enc)
theorem proved : Rows.FnExactDeedTextCardSaid :=
  Claim7.holds_tied_plain_at .later [] [.data, .data, .data] true (true, "ee16a7452d7f2307a3b80639a260f4785e06bfd7560c925fa582c25b4053599e") false
    over (fun _ h => by cases h) (by kernel_rfl) (fun _ h => by cases h) fnExactDeedText_row_tie rfl ⟨rfl, rfl⟩ (by kernel_rfl) rfl
    (fun f fn hf hfn => by
      obtain rfl : f = 3 := Option.some.inj ((show Tryd.prog.funcNamed "loop.example/temse/laws.FnExactDeedText" = some 3 by kernel_rfl).symm.trans hf) |>.symm
      obtain rfl : fn = Tryd.f3 := (Option.some.inj (Tryd.func3.symm.trans hfn)).symm
      exact ⟨by kernel_rfl, fun j t ht => by
        have hall : (Tryd.f3.params.toList.all fun t => Tryd.prog.wantsStandIn t == false) = true := by kernel_rfl
        have hm : t ∈ Tryd.f3.params.toList := by
          have := Array.mem_of_getElem? ht
          simpa using this
        have := List.all_eq_true.1 hall t hm
        exact (show Tryd.prog.wantsStandIn t = false by simpa using this)⟩)
    (by kernel_rfl)
#print axioms proved
end Go.Proofs.YtkdnijiipegabaaDoor.fnExactDeedText
namespace Go.Proofs.YtkdnijiipegabaaDoor
/-- The card, under a short name, for the claim. -/
theorem fnExactDeedText_holds : Rows.FnExactDeedTextCardSaid := fnExactDeedText.proved
end Go.Proofs.YtkdnijiipegabaaDoor
