/- The law FnDeedDo returns true whatever its arguments are, and leaves them as they were; the tables of the library that it reads are as the program's text lays them, which the given tie shows. There is no other condition. -/
import Derived.Test.YtdncpcghiooeoaaGreatDoorRows
import Derived.Test.YtdncpcghiooeoaaGreatDoorTie
import Derived.Test.YtdncpcghiooeoaaGreatDoorCards
import Derived.Test.YtdncpcghiooeoaaGreatDoorM5
import Derived.SizedLaws
import Derived.OpenShut
import Derived.LaidLaws
import Derived.Handed
import Derived.Lib.LaidTab
import Derived.Stop.LaidErr
import Derived.SevenTiedAt
namespace Go.Proofs.YtdncpcghiooeoaaGreatDoor.fnDeedDo
open Go.ChangeShapes Go.RowKit Go.Proofs.YtdncpcghiooeoaaGreatDoor.B
set_option linter.unusedVariables false
set_option linter.unusedSimpArgs false
theorem own : ownKnob Tryz.prog.godebug = none := by kernel_rfl
theorem laidB : laidOutB Tryz.prog = true := by kernel_rfl
theorem walk (vs : List AV) (H : Hp) (W : World) (hA : ArgsOf Tryz.prog H Tryz.f3.params.toList vs) : AC Tryz.prog (tabE W) 3 vs H (fun v _ => v = .bool true) := by
  rw [Tryz.params3] at hA
  have hE := tabE_tab W
  obtain ⟨a, us, rfl, ha, hA⟩ := hA.cons (sh := [.kl [.ki .u8]]) (b := false) (by kernel_rfl) (by kernel_rfl)
  obtain ⟨b, us, rfl, hb, hA⟩ := hA.cons (sh := [.kl [.ki .u8]]) (b := false) (by kernel_rfl) (by kernel_rfl)
  obtain rfl := hA.nil
  obtain ⟨xs, hx, hxl⟩ := ha.one.bytes
  obtain ⟨ys, hy, hyl⟩ := hb.one.bytes
  exact lawDeedDo_ok hE a b xs ys H hx hy (by omega) (by omega)

/-- The cells of a table. -/
def cellsOf : DataW Unit → Array Value
  | .agg ps => (ps.map fun d => match d with
    | .lit (.int k n) => Value.int k n
    | _ => .int .i64 0).toArray
  | _ => #[]
/-- A world that meets the condition: the settled one, the tables laid. -/
noncomputable def laidWorld (os : Os) : World :=
  let w0 := World.holding Tryz.prog os ⟨#[], #[], []⟩
  let put (h : Array Obj) (g : Nat) (cs : Array Value) : Array Obj := h.modify g fun
    | .cells _ t frozen => .cells cs t frozen
    | o => o
  { w0 with heap := put (put (put (w0.heap) 1 (cellsOf Rows.laid_math_bits_deBruijn32tab)) 2 (cellsOf Rows.laid_math_bits_deBruijn64tab)) 0 (cellsOf Rows.laid_internal_strconv_uint64pow10) }
theorem laid_met (os : Os) (args : Array Value) : laidMetH Tryz.prog Rows.fnDeedDoRow.laid ((laidWorld os).forCall (fun _ _ => 0) ⟨#[], args, []⟩).memory :=
  show laidMet Tryz.prog Rows.fnDeedDoRow.laid _ from laidMet_of_run' 8 (by kernel_rfl) (by kernel_rfl)
theorem tab_of {W : World} (h : laidMetH Tryz.prog Rows.fnDeedDoRow.laid W) : Lib.TabIs Tryz.prog W "internal/strconv.uint64pow10" .u64 Lib.pow10Tab := by
  have h1 : laidMet Tryz.prog [("math/bits.deBruijn32tab", Rows.laid_math_bits_deBruijn32tab), ("math/bits.deBruijn64tab", Rows.laid_math_bits_deBruijn64tab), ("internal/strconv.uint64pow10", Rows.laid_internal_strconv_uint64pow10)] W := h
  have h2 : laidMet Tryz.prog (("internal/strconv.uint64pow10", Lib.tabData .u64 Lib.pow10Tab) :: []) W := h1.tail.tail
  exact Lib.tabIs_of_head (g := 0) (t := 132) (e := 116) (n := 20) (by kernel_rfl) (by kernel_rfl) (by kernel_rfl) (by kernel_rfl) (by kernel_rfl) (by kernel_rfl) h2
set_option maxRecDepth 100000 in
theorem lifted (os : Os) (started : os.Started) (H : Type) (enc : TypeId × Value → H) :
    ReturnsInHanded {} Tryz.checked os 3 .any (fun w args => (Rows.fnDeedDoSpec.pre enc Tryz.prog Tryz.f3 Rows.fnDeedDoRow.domain false w args ∧ laidMetH Tryz.prog Rows.fnDeedDoRow.laid w) ∧ sizedMet enc Tryz.prog Tryz.f3 (OpenSpec.ofChange Rows.fnDeedDoSpec) false w args)
      (Rows.fnDeedDoSpec.post enc Tryz.prog Tryz.f3 false true false false) := by
  refine returnsInHanded_of_change_and (C := Tryz.checked) (X := fun w _ => laidMetH Tryz.prog Rows.fnDeedDoRow.laid w) (fun _ _ _ hh h => h.of_heap hh) own started (by kernel_rfl) Tryz.func3
    (ChangeSpec.witness_at (enc := enc) (C := Tryz.checked) (os := os) (X := fun w _ => laidMetH Tryz.prog Rows.fnDeedDoRow.laid w) false (laidWorld os) #[.slice none 0 0, .slice none 0 0] 8 rfl (by kernel_rfl) (by kernel_rfl) (by kernel_rfl) (by kernel_rfl) (by kernel_rfl) (laid_met os _)) ?_
  intro W base args ds gs before hval hW _ hsz hL _
  exact row_of_ACE (tb := 4) laidB (by kernel_rfl) rfl Tryz.underlying4 hval rfl hW hsz (fun h => by
    match ds, h with
    | [d0, d1], _ => rfl) (tabE W) rfl (tabE_G (tab_of hL)) (fun vs H hA => walk vs H W hA)
theorem over : Rows.fnDeedDoRow.holds Tryz.pinned (OpenSpec.ofChange Rows.fnDeedDoSpec) :=
  OpenClaim.holds_of_wide 3 Tryz.f3 rfl rfl rfl rfl rfl rfl rfl ⟨rfl, rfl, rfl, rfl, rfl⟩ rfl rfl rfl rfl rfl (by kernel_rfl) Tryz.func3 (by kernel_rfl)
    (of_decide_eq_true (by kernel_rfl)) (by unfold Func.isWrapper; first | (rw [if_pos (by decide +kernel)]; kernel_rfl) | (rw [if_neg (by decide +kernel)]; exact ⟨rfl, rfl⟩))
    (fun os started H enc _ => lifted os started H enc)
theorem proved : Rows.FnDeedDoCardSaid :=
  Claim7.holds_tied_plain_at .later [] [.data, .data, .data] true (true, "77e8ba3f82bf2618af79383d88cd6c5067cb32006f5ed3329e8ae1457dec65f7") false
    over (fun _ h => by cases h) (by kernel_rfl) (fun _ h => by cases h) fnDeedDo_row_tie rfl ⟨rfl, rfl⟩ (by kernel_rfl) rfl
    (fun f fn hf hfn => by
      obtain rfl : f = 3 := Option.some.inj ((show Tryz.prog.funcNamed "loop.example/temse/laws.FnDeedDo" = some 3 by kernel_rfl).symm.trans hf) |>.symm
      obtain rfl : fn = Tryz.f3 := (Option.some.inj (Tryz.func3.symm.trans hfn)).symm
      exact ⟨by kernel_rfl, fun j t ht => by
        have hall : (Tryz.f3.params.toList.all fun t => Tryz.prog.wantsStandIn t == false) = true := by kernel_rfl
        have hm : t ∈ Tryz.f3.params.toList := by
          have := Array.mem_of_getElem? ht
          simpa using this
        have := List.all_eq_true.1 hall t hm
        exact (show Tryz.prog.wantsStandIn t = false by simpa using this)⟩)
    (by kernel_rfl)
#print axioms proved
end Go.Proofs.YtdncpcghiooeoaaGreatDoor.fnDeedDo
namespace Go.Proofs.YtdncpcghiooeoaaGreatDoor
/-- The card, under a short name, for the claim. -/
theorem fnDeedDo_holds : Rows.FnDeedDoCardSaid := fnDeedDo.proved
end Go.Proofs.YtdncpcghiooeoaaGreatDoor
