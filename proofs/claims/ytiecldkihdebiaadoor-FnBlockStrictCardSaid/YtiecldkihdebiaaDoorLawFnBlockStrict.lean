/- The law FnBlockStrict returns true whatever its arguments are, and leaves them as they were; the tables of the library that it reads are as the program's text lays them, which the given tie shows. There is no other condition. -/
import Derived.Test.YtiecldkihdebiaaDoorRows
import Derived.Test.YtiecldkihdebiaaDoorTie
import Derived.Test.YtiecldkihdebiaaDoorCards
import Derived.Test.YtiecldkihdebiaaDoorM3
import Derived.SizedLaws
import Derived.OpenShut
import Derived.LaidLaws
import Derived.Handed
import Derived.Lib.LaidTab
import Derived.Stop.LaidErr
import Derived.Shelf.LaysM
import Derived.SevenTiedAt
namespace Go.Proofs.YtiecldkihdebiaaDoor.fnBlockStrict
open Go.ChangeShapes Go.RowKit Go.Proofs.YtiecldkihdebiaaDoor.B
set_option linter.unusedVariables false
set_option linter.unusedSimpArgs false
theorem own : ownKnob Tryd.prog.godebug = none := by kernel_rfl
theorem laidB : laidOutB Tryd.prog = true := by kernel_rfl
theorem walk (vs : List AV) (H : Hp) (W : World) (hE : LibE (sameE W)) (hA : ArgsOf Tryd.prog H Tryd.f11.params.toList vs) : AC Tryd.prog (sameE W) 11 vs H (fun v _ => v = .bool true) := by
  rw [Tryd.params11] at hA
  obtain ⟨a, us, rfl, ha, hA⟩ := hA.cons (sh := [.kl [.ki .u8]]) (b := false) (by kernel_rfl) (by kernel_rfl)
  obtain rfl := hA.nil
  obtain ⟨xs, hx, hxl⟩ := ha.one.bytes
  exact lawBlockStrict_ok hE a xs H hx (by omega)

/-- The cells of a table. -/
def cellsOf : DataW Unit → Array Value
  | .agg ps => (ps.flatMap fun d => match d with
    | .lit (.int k n) => [Value.int k n]
    | .agg qs => qs.map fun d => match d with
      | .lit (.int k n) => Value.int k n
      | _ => .int .i64 0
    | _ => [.int .i64 0]).toArray
  | _ => #[]
noncomputable def low : Nat := (World.holding Tryd.prog default ⟨#[], #[], []⟩).heap.size
/-- A world that meets the condition: the settled one, the tables laid. -/
noncomputable def laidWorld (os : Os) : World :=
  let w0 := World.holding Tryd.prog os ⟨#[.cells #[.string ⟨#[118, 97, 108, 117, 101, 32, 111, 117, 116, 32, 111, 102, 32, 114, 97, 110, 103, 101]⟩] 128, .cells #[.string ⟨#[105, 110, 118, 97, 108, 105, 100, 32, 115, 121, 110, 116, 97, 120]⟩] 128], #[], []⟩
  let put (h : Array Obj) (g : Nat) (cs : Array Value) : Array Obj := h.modify g fun
    | .cells _ t frozen => .cells cs t frozen
    | o => o
  { w0 with heap := put (put (put (put (put (put (put (w0.heap) 6 (cellsOf Rows.laid_math_bits_deBruijn32tab)) 7 (cellsOf Rows.laid_math_bits_deBruijn64tab)) 3 (cellsOf Rows.laid_internal_strconv_uint64pow10)) 5 (cellsOf Rows.laid_unicode_utf8_acceptRanges)) 2 #[.iface 126 (.pointer (some ⟨low + 0, 0, none⟩))]) 1 #[.iface 126 (.pointer (some ⟨low + 1, 0, none⟩))]) 4 (cellsOf Rows.laid_unicode_utf8_first) }
theorem laid_met (os : Os) (args : Array Value) : laidMetH Tryd.prog Rows.fnBlockStrictRow.laid ((laidWorld os).forCall (fun _ _ => 0) ⟨#[], args, []⟩).memory :=
  show laidMet Tryd.prog Rows.fnBlockStrictRow.laid _ from laidMet_of_run' 8 (by kernel_rfl) (by kernel_rfl)
theorem tab_of {W : World} (h : laidMetH Tryd.prog Rows.fnBlockStrictRow.laid W) : Lib.TabIs Tryd.prog W "internal/strconv.uint64pow10" .u64 Lib.pow10Tab := by
  have h1 : laidMet Tryd.prog [("math/bits.deBruijn32tab", Rows.laid_math_bits_deBruijn32tab), ("math/bits.deBruijn64tab", Rows.laid_math_bits_deBruijn64tab), ("internal/strconv.uint64pow10", Rows.laid_internal_strconv_uint64pow10), ("unicode/utf8.acceptRanges", Rows.laid_unicode_utf8_acceptRanges), ("strconv.ErrRange", Rows.laid_strconv_ErrRange), ("strconv.ErrSyntax", Rows.laid_strconv_ErrSyntax), ("unicode/utf8.first", Rows.laid_unicode_utf8_first)] W := h
  have h2 : laidMet Tryd.prog (("internal/strconv.uint64pow10", Lib.tabData .u64 Lib.pow10Tab) :: [("unicode/utf8.acceptRanges", Rows.laid_unicode_utf8_acceptRanges), ("strconv.ErrRange", Rows.laid_strconv_ErrRange), ("strconv.ErrSyntax", Rows.laid_strconv_ErrSyntax), ("unicode/utf8.first", Rows.laid_unicode_utf8_first)]) W := h1.tail.tail
  exact Lib.tabIs_of_head (g := 3) (t := 115) (e := 101) (n := 20) (by kernel_rfl) (by kernel_rfl) (by kernel_rfl) (by kernel_rfl) (by kernel_rfl) (by kernel_rfl) h2
theorem star : "*" ++ "errors.errorString" = "*errors.errorString" := by decide
theorem rowE (u : TypeId) (h : Tryd.prog.typeName? 3 u = some "*errors.errorString") : u = 126 :=
  typeName_ptr_named (nm := "errors.errorString") (by rw [star]; kernel_rfl) (by kernel_rfl) (by decide) u (by rw [star]; exact h)
theorem rng_of {W : World} (h : laidMetH Tryd.prog Rows.fnBlockStrictRow.laid W) : ∃ tp p, W.var? Tryd.prog "strconv.ErrRange" = some #[.iface tp p] := by
  have h1 : laidMet Tryd.prog [("math/bits.deBruijn32tab", Rows.laid_math_bits_deBruijn32tab), ("math/bits.deBruijn64tab", Rows.laid_math_bits_deBruijn64tab), ("internal/strconv.uint64pow10", Rows.laid_internal_strconv_uint64pow10), ("unicode/utf8.acceptRanges", Rows.laid_unicode_utf8_acceptRanges), ("strconv.ErrRange", Rows.laid_strconv_ErrRange), ("strconv.ErrSyntax", Rows.laid_strconv_ErrSyntax), ("unicode/utf8.first", Rows.laid_unicode_utf8_first)] W := h
  have h2 : laidMet Tryd.prog [("strconv.ErrRange", Rows.laid_strconv_ErrRange), ("strconv.ErrSyntax", Rows.laid_strconv_ErrSyntax), ("unicode/utf8.first", Rows.laid_unicode_utf8_first)] W := h1.tail.tail.tail.tail
  obtain ⟨a0, s0, hv, -⟩ := laid_sentinel (g := 2) (ti := 70) (tp := 126) (te := 128) (ts := 9) h2 (by kernel_rfl) (by kernel_rfl) Tryd.underlying70 rowE Tryd.underlying126 Tryd.underlying128 rfl rfl Tryd.underlying9 (by kernel_rfl) (by kernel_rfl)
  exact ⟨_, _, hv⟩
theorem syn_of {W : World} (h : laidMetH Tryd.prog Rows.fnBlockStrictRow.laid W) : ∃ tp p, W.var? Tryd.prog "strconv.ErrSyntax" = some #[.iface tp p] := by
  have h1 : laidMet Tryd.prog [("math/bits.deBruijn32tab", Rows.laid_math_bits_deBruijn32tab), ("math/bits.deBruijn64tab", Rows.laid_math_bits_deBruijn64tab), ("internal/strconv.uint64pow10", Rows.laid_internal_strconv_uint64pow10), ("unicode/utf8.acceptRanges", Rows.laid_unicode_utf8_acceptRanges), ("strconv.ErrRange", Rows.laid_strconv_ErrRange), ("strconv.ErrSyntax", Rows.laid_strconv_ErrSyntax), ("unicode/utf8.first", Rows.laid_unicode_utf8_first)] W := h
  have h2 : laidMet Tryd.prog [("strconv.ErrSyntax", Rows.laid_strconv_ErrSyntax), ("unicode/utf8.first", Rows.laid_unicode_utf8_first)] W := h1.tail.tail.tail.tail.tail
  obtain ⟨a0, s0, hv, -⟩ := laid_sentinel (g := 1) (ti := 70) (tp := 126) (te := 128) (ts := 9) h2 (by kernel_rfl) (by kernel_rfl) Tryd.underlying70 rowE Tryd.underlying126 Tryd.underlying128 rfl rfl Tryd.underlying9 (by kernel_rfl) (by kernel_rfl)
  exact ⟨_, _, hv⟩
theorem lib_of {W : World} (h : laidMetH Tryd.prog Rows.fnBlockStrictRow.laid W) (hs : W.ShapedOpen Tryd.prog) : LibE (sameE W) :=
  sameE_lib (tab_of h) (Tryd.laysCut.s1_3 W hs) (Tryd.laysSplit.s1_3 W hs) (syn_of h) (rng_of h)
set_option maxRecDepth 100000 in
theorem lifted (os : Os) (started : os.Started) (H : Type) (enc : TypeId × Value → H) :
    ReturnsInHanded {} Tryd.checked os 11 .any (fun w args => (Rows.fnBlockStrictSpec.pre enc Tryd.prog Tryd.f11 Rows.fnBlockStrictRow.domain false w args ∧ laidMetH Tryd.prog Rows.fnBlockStrictRow.laid w) ∧ sizedMet enc Tryd.prog Tryd.f11 (OpenSpec.ofChange Rows.fnBlockStrictSpec) false w args)
      (Rows.fnBlockStrictSpec.post enc Tryd.prog Tryd.f11 false true false false) := by
  refine returnsInHanded_of_calls own started (by kernel_rfl)
    (ChangeSpec.witness_at (enc := enc) (C := Tryd.checked) (os := os) (X := fun w _ => laidMetH Tryd.prog Rows.fnBlockStrictRow.laid w) false (laidWorld os) #[.slice none 0 0] 8 rfl (by kernel_rfl) (by kernel_rfl) (by kernel_rfl) (by kernel_rfl) (by kernel_rfl) (laid_met os _)) ?_
  intro w tape i _ hsh _ hok hpre _
  obtain ⟨_, _, _, fn', hfn', _, _, _, _, hval⟩ := hok
  obtain rfl : fn' = Tryd.f11 := Option.some.inj (hfn'.symm.trans Tryd.func11)
  obtain ⟨⟨⟨ds, gs, before, hw, hc⟩, hx⟩, hz⟩ := hpre
  have hL : laidMetH Tryd.prog Rows.fnBlockStrictRow.laid (w.forCall tape i) := hx.of_heap (by rfl)
  have hW := DataW.Whole.of_heap (w' := w.forCall tape i) (by rfl) hw
  refine (row_of_ACE (tb := 4) (W := w.forCall tape i) laidB (by kernel_rfl) rfl Tryd.underlying4 hval rfl hW (hz.weights hw) (fun h => by
    match ds, h with
    | [d0], _ => rfl) (sameE (w.forCall tape i)) rfl (sameE_G _) (fun vs H hA => walk vs H _ (lib_of hL hsh) hA)).mono fun e W' ⟨v, he, hp⟩ => ?_
  subst he
  exact ChangeSpec.post_blind hp
theorem over : Rows.fnBlockStrictRow.holds Tryd.pinned (OpenSpec.ofChange Rows.fnBlockStrictSpec) :=
  OpenClaim.holds_of_wide 11 Tryd.f11 rfl rfl rfl rfl rfl rfl rfl ⟨rfl, rfl, rfl, rfl, rfl⟩ rfl rfl rfl rfl rfl (by kernel_rfl) Tryd.func11 (by kernel_rfl)
    (of_decide_eq_true (by kernel_rfl)) (by unfold Func.isWrapper; first | (rw [if_pos (by decide +kernel)]; kernel_rfl) | (rw [if_neg (by decide +kernel)]; exact ⟨rfl, rfl⟩))
    (fun os started H enc _ => lifted os started H enc)
theorem proved : Rows.FnBlockStrictCardSaid :=
  Claim7.holds_tied_plain_at .later [] [.data, .data, .data, .data, .sentinel, .sentinel, .pinned] true (true, "5dad9d61ffc3201665a9bfa0d67bea09036c4e50af7f74f8ee04361a368d29b8") true
    over (fun _ h => by cases h) (by kernel_rfl) (fun _ h => by cases h) fnBlockStrict_row_tie rfl ⟨rfl, rfl⟩ (by kernel_rfl) rfl
    (fun f fn hf hfn => by
      obtain rfl : f = 11 := Option.some.inj ((show Tryd.prog.funcNamed "loop.example/temse/laws.FnBlockStrict" = some 11 by kernel_rfl).symm.trans hf) |>.symm
      obtain rfl : fn = Tryd.f11 := (Option.some.inj (Tryd.func11.symm.trans hfn)).symm
      exact ⟨by kernel_rfl, fun j t ht => by
        have hall : (Tryd.f11.params.toList.all fun t => Tryd.prog.wantsStandIn t == false) = true := by kernel_rfl
        have hm : t ∈ Tryd.f11.params.toList := by
          have := Array.mem_of_getElem? ht
          simpa using this
        have := List.all_eq_true.1 hall t hm
        exact (show Tryd.prog.wantsStandIn t = false by simpa using this)⟩)
    (by kernel_rfl)
#print axioms proved
end Go.Proofs.YtiecldkihdebiaaDoor.fnBlockStrict
namespace Go.Proofs.YtiecldkihdebiaaDoor
/-- The card, under a short name, for the claim. -/
theorem fnBlockStrict_holds : Rows.FnBlockStrictCardSaid := fnBlockStrict.proved
end Go.Proofs.YtiecldkihdebiaaDoor
