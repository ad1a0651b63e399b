/- The law FnStoreTake, the row. There is no condition. -/
import Derived.Test.YtepeokaplbbpoaaGreatLawFnStoreTakeA
namespace Go.Proofs.YtepeokaplbbpoaaGreat.fnStoreTake
open Go.ChangeShapes Go.RowKit Go.Proofs.YtepeokaplbbpoaaGreat.B
set_option linter.unusedVariables false
set_option linter.unusedSimpArgs false
theorem and_t {a b : Bool} (h : a = true) (k : b = true) : (a && b) = true := by rw [h, k]; rfl
theorem fact0 : (Rows.fnStoreTakeRow.wf (OpenSpec.ofChange Rows.fnStoreTakeSpec)) = true := by kernel_rfl
theorem fact1 : (laidOutB Tryz.pinned.checked.prog) = true := by kernel_rfl
theorem fact2 : (mapsRowed Tryz.pinned.checked.prog) = true := by kernel_rfl
theorem fact3 : (Tryz.f9.params.all (Tryz.pinned.checked.prog.readableRec ·)) = true := by kernel_rfl
theorem fact4 : (namedTie Tryz.pinned.checked.prog Rows.fnStoreTakeRow.named Rows.fnStoreTakeSpec.vars) = true := by kernel_rfl
theorem fact5 : ((Rows.fnStoreTakeRow.stops == [])) = true := by kernel_rfl
theorem fact6 : ((Tryz.pinned.checked.prog.stops == [])) = true := by kernel_rfl
theorem fact7 : ((Rows.fnStoreTakeRow.knobs == [])) = true := by kernel_rfl
theorem fact8 : ((Tryz.pinned.checked.prog.stopKnobs == [])) = true := by kernel_rfl
theorem fact9 : ((Rows.fnStoreTakeRow.inPlace == Tryz.pinned.checked.prog.inPlace 9)) = true := by kernel_rfl
theorem fact10 : ((Rows.fnStoreTakeRow.unfollowed == Tryz.pinned.checked.prog.unfollowed 9)) = true := by kernel_rfl
theorem fact11 : ((Rows.fnStoreTakeRow.recurses == Tryz.pinned.checked.prog.recurses 9)) = true := by kernel_rfl
theorem fact12 : ((Rows.fnStoreTakeRow.named == Tryz.pinned.checked.prog.varsNamed 9)) = true := by kernel_rfl
theorem fact13 : ((Rows.fnStoreTakeRow.maps == (Tryz.f9.params.toList ++ Rows.fnStoreTakeSpec.plain.varTypes Tryz.pinned.checked.prog).any (Tryz.pinned.checked.prog.mapsRec ·))) = true := by kernel_rfl
theorem fact14 : ((Rows.fnStoreTakeRow.ifaces == (Tryz.f9.params.toList ++ Rows.fnStoreTakeSpec.plain.varTypes Tryz.pinned.checked.prog).any (Tryz.pinned.checked.prog.ifacesRec ·))) = true := by kernel_rfl
theorem fact15 : ((Rows.fnStoreTakeRow.mapsOut == Tryz.pinned.checked.prog.mapsAmong Tryz.f9.resultTypes.toList)) = true := by kernel_rfl
theorem fact16 : ((Rows.fnStoreTakeRow.loops == (Tryz.f9.params.toList ++ Rows.fnStoreTakeSpec.plain.varTypes Tryz.pinned.checked.prog).any (Tryz.pinned.checked.prog.loopsFrom ·))) = true := by kernel_rfl
theorem fact17 : ((Rows.fnStoreTakeRow.wideKeys == (Tryz.f9.params.toList ++ Rows.fnStoreTakeSpec.plain.varTypes Tryz.pinned.checked.prog ++ Tryz.f9.resultTypes.toList).any (Tryz.pinned.checked.prog.wideKeysFrom ·))) = true := by kernel_rfl
theorem fact18 : (Rows.fnStoreTakeSpec.vars.all (Tryz.pinned.checked.prog.varReadable ·)) = true := by kernel_rfl
theorem fact19 : (Tryz.f9.resultTypes.all (fun t => Tryz.pinned.checked.prog.readableRec t && decide (t < Tryz.pinned.checked.prog.types.size))) = true := by kernel_rfl
theorem fact20 : ((Rows.fnStoreTakeRow.ifacesOut == Tryz.f9.resultTypes.toList.any (Tryz.pinned.checked.prog.ifacesRec ·))) = true := by kernel_rfl
theorem fact21 : ((Rows.fnStoreTakeRow.loopsOut == Tryz.f9.resultTypes.toList.any (Tryz.pinned.checked.prog.loopsFrom ·))) = true := by kernel_rfl
theorem fact22 : ((Rows.fnStoreTakeRow.plainKeys == Tryz.pinned.checked.prog.plainKeys)) = true := by kernel_rfl
theorem fact23 : (Rows.fnStoreTakeRow.shortTexts.isNone) = true := by kernel_rfl
theorem fact24 : (Tryz.pinned.checked.prog.stopsHeard) = true := by kernel_rfl
theorem fact25 : (Tryz.pinned.checked.prog.mayEnter) = true := by kernel_rfl
theorem fact26 : ((Rows.fnStoreTakeRow.lifted == Tryz.pinned.checked.prog.liftsFinal)) = true := by kernel_rfl
theorem fact27 : ((Tryz.pinned.checked.prog.make == some Rows.fnStoreTakeRow.make)) = true := by kernel_rfl
theorem fact28 : ((Rows.fnStoreTakeRow.kinds == (if Rows.fnStoreTakeRow.domain.isEmpty then [] else Tryz.f9.params.toList.map fun t => match Tryz.pinned.checked.prog.underlying t with | some (.int k) => some k | _ => none))) = true := by kernel_rfl
theorem fact29 : ((Rows.fnStoreTakeRow.pinned == Rows.fnStoreTakeRow.pinnedBy)) = true := by kernel_rfl
theorem fact30 : ((Rows.fnStoreTakeRow.veiled == (Tryz.f9.params.toList ++ Rows.fnStoreTakeSpec.plain.varTypes Tryz.pinned.checked.prog ++ Tryz.f9.resultTypes.toList).any (Tryz.pinned.checked.prog.veiledRec ·))) = true := by kernel_rfl
theorem fact31 : (Rows.fnStoreTakeRow.veiledFits Tryz.pinned.checked.prog Tryz.f9.params.toList (Tryz.f9.params.toList ++ Rows.fnStoreTakeSpec.plain.varTypes Tryz.pinned.checked.prog ++ Tryz.f9.resultTypes.toList)) = true := by kernel_rfl
set_option maxRecDepth 100000 in
theorem closedF : joinedFacts Tryz.pinned.checked.prog 9 Tryz.f9 Rows.fnStoreTakeSpec Rows.fnStoreTakeRow = true := by
  unfold joinedFacts
  exact and_t (and_t (and_t (and_t (and_t (and_t (and_t (and_t (and_t (and_t (and_t (and_t (and_t (and_t (and_t (and_t (and_t (and_t (and_t (and_t (and_t (and_t (and_t (and_t (and_t (and_t (and_t (and_t (and_t (and_t (and_t fact0 fact1) fact2) fact3) fact4) fact5) fact6) fact7) fact8) fact9) fact10) fact11) fact12) fact13) fact14) fact15) fact16) fact17) fact18) fact19) fact20) fact21) fact22) fact23) fact24) fact25) fact26) fact27) fact28) fact29) fact30) fact31
theorem named : Tryz.pinned.checked.prog.funcNamed Rows.fnStoreTakeRow.func = some 9 := by kernel_rfl
theorem insts : Tryz.f9.isInstance Tryz.pinned.checked.prog Rows.fnStoreTakeRow.origin Rows.fnStoreTakeRow.targs := of_decide_eq_true (by kernel_rfl)
theorem wraps : Tryz.f9.isWrapper Tryz.pinned.checked.prog Rows.fnStoreTakeRow.wrapper Rows.fnStoreTakeRow.mainSum := by unfold Func.isWrapper; first | (rw [if_pos (by decide +kernel)]; kernel_rfl) | (rw [if_neg (by decide +kernel)]; exact ⟨rfl, rfl⟩)
theorem over : Rows.fnStoreTakeRow.holds Tryz.pinned (OpenSpec.ofChange Rows.fnStoreTakeSpec) :=
  OpenClaim.holds_of_wide 9 Tryz.f9 rfl rfl rfl rfl rfl rfl rfl ⟨rfl, rfl, rfl, rfl, rfl⟩ rfl rfl rfl rfl rfl named Tryz.func9 closedF insts wraps
    (fun os started H enc _ => lifted os started H enc)
theorem proved : Rows.FnStoreTakeSaid := over
#print axioms proved
end Go.Proofs.YtepeokaplbbpoaaGreat.fnStoreTake
namespace Go.Proofs.YtepeokaplbbpoaaGreat
/-- The row, under a short name, for the claim. -/
theorem fnStoreTake_holds : Rows.FnStoreTakeSaid := fnStoreTake.proved
end Go.Proofs.YtepeokaplbbpoaaGreat
