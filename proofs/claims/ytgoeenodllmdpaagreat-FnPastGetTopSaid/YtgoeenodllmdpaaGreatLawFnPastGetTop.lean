/- The law FnPastGetTop, the row. There is no condition. -/
import Derived.Test.YtgoeenodllmdpaaGreatLawFnPastGetTopA
namespace Go.Proofs.YtgoeenodllmdpaaGreat.fnPastGetTop
open Go.ChangeShapes Go.RowKit Go.Proofs.YtgoeenodllmdpaaGreat.B
set_option linter.unusedVariables false
set_option linter.unusedSimpArgs false
theorem and_t {a b : Bool} (h : a = true) (k : b = true) : (a && b) = true := by rw [h, k]; rfl
theorem fact0 : (Rows.fnPastGetTopRow.wf (OpenSpec.ofChange Rows.fnPastGetTopSpec)) = true := by kernel_rfl
theorem fact1 : (laidOutB Tryz.pinned.checked.prog) = true := by kernel_rfl
theorem fact2 : (mapsRowed Tryz.pinned.checked.prog) = true := by kernel_rfl
theorem fact3 : (Tryz.f10.params.all (Tryz.pinned.checked.prog.readableRec ·)) = true := by kernel_rfl
theorem fact4 : (namedTie Tryz.pinned.checked.prog Rows.fnPastGetTopRow.named Rows.fnPastGetTopSpec.vars) = true := by kernel_rfl
theorem fact5 : ((Rows.fnPastGetTopRow.stops == [])) = true := by kernel_rfl
theorem fact6 : ((Tryz.pinned.checked.prog.stops == [])) = true := by kernel_rfl
theorem fact7 : ((Rows.fnPastGetTopRow.knobs == [])) = true := by kernel_rfl
theorem fact8 : ((Tryz.pinned.checked.prog.stopKnobs == [])) = true := by kernel_rfl
theorem fact9 : ((Rows.fnPastGetTopRow.inPlace == Tryz.pinned.checked.prog.inPlace 10)) = true := by kernel_rfl
theorem fact10 : ((Rows.fnPastGetTopRow.unfollowed == Tryz.pinned.checked.prog.unfollowed 10)) = true := by kernel_rfl
theorem fact11 : ((Rows.fnPastGetTopRow.recurses == Tryz.pinned.checked.prog.recurses 10)) = true := by kernel_rfl
theorem fact12 : ((Rows.fnPastGetTopRow.named == Tryz.pinned.checked.prog.varsNamed 10)) = true := by kernel_rfl
theorem fact13 : ((Rows.fnPastGetTopRow.maps == (Tryz.f10.params.toList ++ Rows.fnPastGetTopSpec.plain.varTypes Tryz.pinned.checked.prog).any (Tryz.pinned.checked.prog.mapsRec ·))) = true := by kernel_rfl
theorem fact14 : ((Rows.fnPastGetTopRow.ifaces == (Tryz.f10.params.toList ++ Rows.fnPastGetTopSpec.plain.varTypes Tryz.pinned.checked.prog).any (Tryz.pinned.checked.prog.ifacesRec ·))) = true := by kernel_rfl
theorem fact15 : ((Rows.fnPastGetTopRow.mapsOut == Tryz.pinned.checked.prog.mapsAmong Tryz.f10.resultTypes.toList)) = true := by kernel_rfl
theorem fact16 : ((Rows.fnPastGetTopRow.loops == (Tryz.f10.params.toList ++ Rows.fnPastGetTopSpec.plain.varTypes Tryz.pinned.checked.prog).any (Tryz.pinned.checked.prog.loopsFrom ·))) = true := by kernel_rfl
theorem fact17 : ((Rows.fnPastGetTopRow.wideKeys == (Tryz.f10.params.toList ++ Rows.fnPastGetTopSpec.plain.varTypes Tryz.pinned.checked.prog ++ Tryz.f10.resultTypes.toList).any (Tryz.pinned.checked.prog.wideKeysFrom ·))) = true := by kernel_rfl
theorem fact18 : (Rows.fnPastGetTopSpec.vars.all (Tryz.pinned.checked.prog.varReadable ·)) = true := by kernel_rfl
theorem fact19 : (Tryz.f10.resultTypes.all (fun t => Tryz.pinned.checked.prog.readableRec t && decide (t < Tryz.pinned.checked.prog.types.size))) = true := by kernel_rfl
theorem fact20 : ((Rows.fnPastGetTopRow.ifacesOut == Tryz.f10.resultTypes.toList.any (Tryz.pinned.checked.prog.ifacesRec ·))) = true := by kernel_rfl
theorem fact21 : ((Rows.fnPastGetTopRow.loopsOut == Tryz.f10.resultTypes.toList.any (Tryz.pinned.checked.prog.loopsFrom ·))) = true := by kernel_rfl
theorem fact22 : ((Rows.fnPastGetTopRow.plainKeys == Tryz.pinned.checked.prog.plainKeys)) = true := by kernel_rfl
theorem fact23 : (Rows.fnPastGetTopRow.shortTexts.isNone) = true := by kernel_rfl
theorem fact24 : (Tryz.pinned.checked.prog.stopsHeard) = true := by kernel_rfl
theorem fact25 : (Tryz.pinned.checked.prog.mayEnter) = true := by kernel_rfl
theorem fact26 : ((Rows.fnPastGetTopRow.lifted == Tryz.pinned.checked.prog.liftsFinal)) = true := by kernel_rfl
theorem fact27 : ((Tryz.pinned.checked.prog.make == some Rows.fnPastGetTopRow.make)) = true := by kernel_rfl
theorem fact28 : ((Rows.fnPastGetTopRow.kinds == (if Rows.fnPastGetTopRow.domain.isEmpty then [] else Tryz.f10.params.toList.map fun t => match Tryz.pinned.checked.prog.underlying t with | some (.int k) => some k | _ => none))) = true := by kernel_rfl
theorem fact29 : ((Rows.fnPastGetTopRow.pinned == Rows.fnPastGetTopRow.pinnedBy)) = true := by kernel_rfl
theorem fact30 : ((Rows.fnPastGetTopRow.veiled == (Tryz.f10.params.toList ++ Rows.fnPastGetTopSpec.plain.varTypes Tryz.pinned.checked.prog ++ Tryz.f10.resultTypes.toList).any (Tryz.pinned.checked.prog.veiledRec ·))) = true := by kernel_rfl
theorem fact31 : (Rows.fnPastGetTopRow.veiledFits Tryz.pinned.checked.prog Tryz.f10.params.toList (Tryz.f10.params.toList ++ Rows.fnPastGetTopSpec.plain.varTypes Tryz.pinned.checked.prog ++ Tryz.f10.resultTypes.toList)) = true := by kernel_rfl
set_option maxRecDepth 100000 in
theorem closedF : joinedFacts Tryz.pinned.checked.prog 10 Tryz.f10 Rows.fnPastGetTopSpec Rows.fnPastGetTopRow = true := by
  unfold joinedFacts
  exact and_t (and_t (and_t (and_t (and_t (and_t (and_t (and_t (and_t (and_t (and_t (and_t (and_t (and_t (and_t (and_t (and_t (and_t (and_t (and_t (and_t (and_t (and_t (and_t (and_t (and_t (and_t (and_t (and_t (and_t (and_t fact0 fact1) fact2) fact3) fact4) fact5) fact6) fact7) fact8) fact9) fact10) fact11) fact12) fact13) fact14) fact15) fact16) fact17) fact18) fact19) fact20) fact21) fact22) fact23) fact24) fact25) fact26) fact27) fact28) fact29) fact30) fact31
theorem named : Tryz.pinned.checked.prog.funcNamed Rows.fnPastGetTopRow.func = some 10 := by kernel_rfl
theorem insts : Tryz.f10.isInstance Tryz.pinned.checked.prog Rows.fnPastGetTopRow.origin Rows.fnPastGetTopRow.targs := of_decide_eq_true (by kernel_rfl)
theorem wraps : Tryz.f10.isWrapper Tryz.pinned.checked.prog Rows.fnPastGetTopRow.wrapper Rows.fnPastGetTopRow.mainSum := by unfold Func.isWrapper; first | (rw [if_pos (by decide +kernel)]; kernel_rfl) | (rw [if_neg (by decide +kernel)]; exact ⟨rfl, rfl⟩)
theorem over : Rows.fnPastGetTopRow.holds Tryz.pinned (OpenSpec.ofChange Rows.fnPastGetTopSpec) :=
  OpenClaim.holds_of_wide 10 Tryz.f10 rfl rfl rfl rfl rfl rfl rfl ⟨rfl, rfl, rfl, rfl, rfl⟩ rfl rfl rfl rfl rfl named Tryz.func10 closedF insts wraps
    (fun os started H enc _ => lifted os started H enc)
theorem proved : Rows.FnPastGetTopSaid := over
#print axioms proved
end Go.Proofs.YtgoeenodllmdpaaGreat.fnPastGetTop
namespace Go.Proofs.YtgoeenodllmdpaaGreat
/-- The row, under a short name, for the claim. -/
theorem fnPastGetTop_holds : Rows.FnPastGetTopSaid := fnPastGetTop.proved
end Go.Proofs.YtgoeenodllmdpaaGreat
