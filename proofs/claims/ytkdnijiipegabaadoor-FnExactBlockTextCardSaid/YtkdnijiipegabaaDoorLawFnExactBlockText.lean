/- The law FnExactBlockText returns true whatever its arguments are, and leaves them as they were; the tables of the library that it reads are as the program's text lays them, which the given tie shows. There is no other condition. -/
import Derived.Test.YtkdnijiipegabaaDoorRows
import Derived.Test.YtkdnijiipegabaaDoorTie
import Derived.Test.YtkdnijiipegabaaDoorCards
import Derived.Test.YtkdnijiipegabaaDoorIp
import Derived.SizedLaws
import Derived.OpenShut
import Derived.LaidLaws
import Derived.Handed
import Derived.Lib.LaidTab
import Derived.Stop.LaidErr
import Derived.SevenTiedAt
namespace Go.Proofs.YtkdnijiipegabaaDoor.fnExactBlockText
open Go.ChangeShapes Go.RowKit Go.Proofs.YtkdnijiipegabaaDoor.B
set_option linter.unusedVariables false
set_option linter.unusedSimpArgs false
theorem own : ownKnob Tryd.prog.godebug = none := by kernel_rfl
theorem laidB : laidOutB Tryd.prog = true := by kernel_rfl
theorem walk (vs : List AV) (H : Hp) (W : World) (hA : ArgsOf Tryd.prog H Tryd.f5.params.toList vs) : AC Tryd.prog (tabE W) 5 vs H (fun v _ => v = .bool true) := by
  rw [Tryd.params5] at hA
  have hE := tabE_tab W
  obtain ⟨a, us, rfl, ha, hA⟩ := hA.cons (sh := [.kl [.ks, .ki .i64, .kb, .ki .i64]]) (b := false) (by kernel_rfl) (by kernel_rfl)
  obtain rfl := hA.nil
  obtain ⟨xs, hx, hxl, hxs⟩ := Ty.ents ha.one
  exact lawExactBlockText_ok hE a xs H hx (by omega) (fun e he => by have := hxs e he; omega)

/-- The cells of a table. -/
def cellsOf : DataW Unit → Array Value
  | .agg ps => (ps.map fun d => match d with
    | .lit (.int k n) => Value.int k n
    | _ => .int .i64 0).toArray
  | _ => #[]
/-- A world that meets the condition: the settled one, the tables laid. -/
noncomputable def laidWorld (os : Os) : World :=
  let w0 := World.holding Tryd.prog os ⟨#[], #[], []⟩
  let put (h : Array Obj) (g : Nat) (cs : Array Value) : Array Obj := h.modify g fun
    | .cells _ t frozen => .cells cs t frozen
    | o => o
  { w0 with heap := put (put (put (w0.heap) 1 (cellsOf Rows.laid_math_bits_deBruijn32tab)) 2 (cellsOf Rows.laid_math_bits_deBruijn64tab)) 0 (cellsOf Rows.laid_internal_strconv_uint64pow10) }
theorem laid_met (os : Os) (args : Array Value) : laidMetH Tryd.prog Rows.fnExactBlockTextRow.laid ((laidWorld os).forCall (fun _ _ => 0) ⟨#[], args, []⟩).memory :=
  show laidMet Tryd.prog Rows.fnExactBlockTextRow.laid _ from laidMet_of_run' 8 (by kernel_rfl) (by kernel_rfl)
theorem tab_of {W : World} (h : laidMetH Tryd.prog Rows.fnExactBlockTextRow.laid W) : Lib.TabIs Tryd.prog W "internal/strconv.uint64pow10" .u64 Lib.pow10Tab := by
  have h1 : laidMet Tryd.prog [("math/bits.deBruijn32tab", Rows.laid_math_bits_deBruijn32tab), ("math/bits.deBruijn64tab", Rows.laid_math_bits_deBruijn64tab), ("internal/strconv.uint64pow10", Rows.laid_internal_strconv_uint64pow10)] W := h
  have h2 : laidMet Tryd.prog (("internal/strconv.uint64pow10", Lib.tabData .u64 Lib.pow10Tab) :: []) W := h1.tail.tail
  exact Lib.tabIs_of_head (g := 0) (t := 85) (e := 77) (n := 20) (by kernel_rfl) (by kernel_rfl) (by kernel_rfl) (by kernel_rfl) (by kernel_rfl) (by kernel_rfl) h2
set_option maxRecDepth 100000 in
theorem lifted (os : Os) (started : os.Started) (H : Type) (enc : TypeId × Value → H) :
    ReturnsInHanded {} Tryd.checked os 5 .any (fun w args => (Rows.fnExactBlockTextSpec.pre enc Tryd.prog Tryd.f5 Rows.fnExactBlockTextRow.domain false w args ∧ laidMetH Tryd.prog Rows.fnExactBlockTextRow.laid w) ∧ sizedMet enc Tryd.prog Tryd.f5 (OpenSpec.ofChange Rows.fnExactBlockTextSpec) false w args)
      (Rows.fnExactBlockTextSpec.post enc Tryd.prog Tryd.f5 false true false false) := by
  refine returnsInHanded_of_change_and (C := Tryd.checked) (X := fun w _ => laidMetH Tryd.prog Rows.fnExactBlockTextRow.laid w) (fun _ _ _ hh h => h.of_heap hh) own started (by kernel_rfl) Tryd.func5
    (ChangeSpec.witness_at (enc := enc) (C := Tryd.checked) (os := os) (X := fun w _ => laidMetH Tryd.prog Rows.fnExactBlockTextRow.laid w) false (laidWorld os) #[.slice none 0 0] 8 rfl (by kernel_rfl) (by kernel_rfl) (by kernel_rfl) (by kernel_rfl) (by kernel_rfl) (laid_met os _)) ?_
  intro W base args ds gs before hval hW _ hsz hL _
  exact row_of_ACE (tb := 4) laidB (by kernel_rfl) rfl Tryd.underlying4 hval rfl hW hsz (fun h => by
    match ds, h with
    | [d0], _ => rfl) (tabE W) rfl (tabE_G (tab_of hL)) (fun vs H hA => walk vs H W hA)
theorem over : Rows.fnExactBlockTextRow.holds Tryd.pinned (OpenSpec.ofChange Rows.fnExactBlockTextSpec) :=
  OpenClaim.holds_of_wide 5 Tryd.f5 rfl rfl rfl rfl rfl rfl rfl ⟨rfl, rfl, rfl, rfl, rfl⟩ rfl rfl rfl rfl rfl (by kernel_rfl) Tryd.func5 (by kernel_rfl)
    (of_decide_eq_true (by kernel_rfl)) (by unfold Func.isWrapper; first | (rw [if_pos (by decide +kernel)]; kernel_rfl) | (rw [if_neg (by decide +kernel)]; exact ⟨rfl, rfl⟩))
    (fun os started H enc _ => lifted os started H enc)
theorem proved : Rows.FnExactBlockTextCardSaid :=
  Claim7.holds_tied_plain_at .later [] [.data, .data, .data] true (true, "ee16a7452d7f2307a3b80639a260f4785e06bfd7560c925fa582c25b4053599e") false
    over (fun _ h => by cases h) (by kernel_rfl) (fun _ h => by cases h) fnExactBlockText_row_tie rfl ⟨rfl, rfl⟩ (by kernel_rfl) rfl
    (fun f fn hf hfn => by
      obtain rfl : f = 5 := Option.some.inj ((show Tryd.prog.funcNamed "loop.example/temse/laws.FnExactBlockText" = some 5 by kernel_rfl).symm.trans hf) |>.symm
      obtain rfl : fn = Tryd.f5 := (Option.some.inj (Tryd.func5.symm.trans hfn)).symm
      exact ⟨by kernel_rfl, fun j t ht => by
        have hall : (Tryd.f5.params.toList.all fun t => Tryd.prog.wantsStandIn t == false) = true := by kernel_rfl
        have hm : t ∈ Tryd.f5.params.toList := by
          have := Array.mem_of_getElem? ht
          simpa using this
        have := List.all_eq_true.1 hall t hm
        exact (show Tryd.prog.wantsStandIn t = false by simpa using this)⟩)
    (by kernel_rfl)
#print axioms proved
end Go.Proofs.YtkdnijiipegabaaDoor.fnExactBlockText
namespace Go.Proofs.YtkdnijiipegabaaDoor
/-- The card, under a short name, for the claim. -/
theorem fnExactBlockText_holds : Rows.FnExactBlockTextCardSaid := fnExactBlockText.proved
end Go.Proofs.YtkdnijiipegabaaDoor
