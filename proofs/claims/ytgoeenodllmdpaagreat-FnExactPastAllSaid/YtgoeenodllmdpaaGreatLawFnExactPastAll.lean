/- The law FnExactPastAll, the row. There is no condition. -/
import Derived.Test.YtgoeenodllmdpaaGreatLawFnExactPastAllA
namespace Go.Proofs.YtgoeenodllmdpaaGreat.fnExactPastAll
open Go.ChangeShapes Go.RowKit Go.Proofs.YtgoeenodllmdpaaGreat.B
set_option linter.unusedVariables false
set_option linter.unusedSimpArgs false
theorem and_t {a b : Bool} (h : a = true) (k : b = true) : (a && b) = true := by rw [h, k]; rfl
theorem fact0 : (Rows.fnExactPastAllRow.wf (OpenSpec.ofChange Rows.fnExactPastAllSpec)) = true := by kernel_rfl
theorem fact1 : (laidOutB Tryz.pinned.checked.prog) = true := by kernel_rfl
theorem fact2 : (mapsRowed Tryz.pinned.checked.prog) = true := by kernel_rfl
theorem fact3 : (Tryz.f11.params.all (Tryz.pinned.checked.prog.readableRec ·)) = true := by kernel_rfl
theorem fact4 : (namedTie Tryz.pinned.checked.prog Rows.fnExactPastAllRow.named Rows.fnExactPastAllSpec.vars) = true := by kernel_rfl
theorem fact5 : ((Rows.fnExactPastAllRow.stops == [])) = true := by kernel_rfl
theorem fact6 : ((Tryz.pinned.checked.prog.stops == [])) = true := by kernel_rfl
theorem fact7 : ((Rows.fnExactPastAllRow.knobs == [])) = true := by kernel_rfl
theorem fact8 : ((Tryz.pinned.checked.prog.stopKnobs == [])) = true := by kernel_rfl
theorem fact9 : ((Rows.fnExactPastAllRow.inPlace == Tryz.pinned.checked.prog.inPlace 11)) = true := by kernel_rfl
theorem fact10 : ((Rows.fnExactPastAllRow.unfollowed == Tryz.pinned.checked.prog.unfollowed 11)) = true := by kernel_rfl
theorem fact11 : ((Rows.fnExactPastAllRow.recurses == Tryz.pinned.checked.prog.recurses 11)) = true := by kernel_rfl
theorem fact12 : ((Rows.fnExactPastAllRow.named == Tryz.pinned.checked.prog.varsNamed 11)) = true := by kernel_rfl
theorem fact13 : ((Rows.fnExactPastAllRow.maps == (Tryz.f11.params.toList ++ Rows.fnExactPastAllSpec.plain.varTypes Tryz.pinned.checked.prog).any (Tryz.pinned.checked.prog.mapsRec ·))) = true := by kernel_rfl
theorem fact14 : ((Rows.fnExactPastAllRow.ifaces == (Tryz.f11.params.toList ++ Rows.fnExactPastAllSpec.plain.varTypes Tryz.pinned.checked.prog).any (Tryz.pinned.checked.prog.ifacesRec ·))) = true := by kernel_rfl
theorem fact15 : ((Rows.fnExactPastAllRow.mapsOut == Tryz.pinned.checked.prog.mapsAmong Tryz.f11.resultTypes.toList)) = true := by kernel_rfl
theorem fact16 : ((Rows.fnExactPastAllRow.loops == (Tryz.f11.params.toList ++ Rows.fnExactPastAllSpec.plain.varTypes Tryz.pinned.checked.prog).any (Tryz.pinned.checked.prog.loopsFrom ·))) = true := by kernel_rfl
theorem fact17 : ((Rows.fnExactPastAllRow.wideKeys == (Tryz.f11.params.toList ++ Rows.fnExactPastAllSpec.plain.varTypes Tryz.pinned.checked.prog ++ Tryz.f11.resultTypes.toList).any (Tryz.pinned.checked.prog.wideKeysFrom ·))) = true := by kernel_rfl
theorem fact18 : (Rows.fnExactPastAllSpec.vars.all (Tryz.pinned.checked.prog.varReadable ·)) = true := by kernel_rfl
theorem fact19 : (Tryz.f11.resultTypes.all (fun t => Tryz.pinned.checked.prog.readableRec t && decide (t < Tryz.pinned.checked.prog.types.size))) = true := by kernel_rfl
theorem fact20 : ((Rows.fnExactPastAllRow.ifacesOut == Tryz.f11.resultTypes.toList.any (Tryz.pinned.checked.prog.ifacesRec ·))) = true := by kernel_rfl
theorem fact21 : ((Rows.fnExactPastAllRow.loopsOut == Tryz.f11.resultTypes.toList.any (Tryz.pinned.checked.prog.loopsFrom ·))) = true := by kernel_rfl
theorem fact22 : ((Rows.fnExactPastAllRow.plainKeys == Tryz.pinned.checked.prog.plainKeys)) = true := by kernel_rfl
theorem fact23 : (Rows.fnExactPastAllRow.shortTexts.isNone) = true := by kernel_rfl
theorem fact24 : (Tryz.pinned.checked.prog.stopsHeard) = true := by kernel_rfl
theorem fact25 : (Tryz.pinned.checked.prog.mayEnter) = true := by kernel_rfl
theorem fact26 : ((Rows.fnExactPastAllRow.lifted == Tryz.pinned.checked.prog.liftsFinal)) = true := by kernel_rfl
theorem fact27 : ((Tryz.pinned.checked.prog.make == some Rows.fnExactPastAllRow.make)) = true := by kernel_rfl
theorem fact28 : ((Rows.fnExactPastAllRow.kinds == (if Rows.fnExactPastAllRow.domain.isEmpty then [] else Tryz.f11.params.toList.map fun t => match Tryz.pinned.checked.prog.underlying t with | some (.int k) => some k | _ => none))) = true := by kernel_rfl
theorem fact29 : ((Rows.fnExactPastAllRow.pinned == Rows.fnExactPastAllRow.pinnedBy)) = true := by kernel_rfl
theorem fact30 : ((Rows.fnExactPastAllRow.veiled == (Tryz.f11.params.toList ++ Rows.fnExactPastAllSpec.plain.varTypes Tryz.pinned.checked.prog ++ Tryz.f11.resultTypes.toList).any (Tryz.pinned.checked.prog.veiledRec ·))) = true := by kernel_rfl
theorem fact31 : (Rows.fnExactPastAllRow.veiledFits Tryz.pinned.checked.prog Tryz.f11.params.toList (Tryz.f11.params.toList ++ Rows.fnExactPastAllSpec.plain.varTypes Tryz.pinned.checked.prog ++ Tryz.f11.resultTypes.toList)) = true := by kernel_rfl
set_option maxRecDepth 100000 in
theorem closedF : joinedFacts Tryz.pinned.checked.prog 11 Tryz.f11 Rows.fnExactPastAllSpec Rows.fnExactPastAllRow = true := by
  unfold joinedFacts
  exact and_t (and_t (and_t (and_t (and_t (and_t (and_t (and_t (and_t (and_t (and_t (and_t (and_t (and_t (and_t (and_t (and_t (and_t (and_t (and_t (and_t (and_t (and_t (and_t (and_t (and_t (and_t (and_t (and_t (and_t (and_t fact0 fact1) fact2) fact3) fact4) fact5) fact6) fact7) fact8) fact9) fact10) fact11) fact12) fact13) fact14) fact15) fact16) fact17) fact18) fact19) fact20) fact21) fact22) fact23) fact24) fact25) fact26) fact27) fact28) fact29) fact30) fact31
theorem named : Tryz.pinned.checked.prog.funcNamed Rows.fnExactPastAllRow.func = some 11 := by kernel_rfl
theorem insts : Tryz.f11.isInstance Tryz.pinned.checked.prog Rows.fnExactPastAllRow.origin Rows.fnExactPastAllRow.targs := of_decide_eq_true (by kernel_rfl)
theorem wraps : Tryz.f11.isWrapper Tryz.pinned.checked.prog Rows.fnExactPastAllRow.wrapper Rows.fnExactPastAllRow.mainSum := by unfold Func.isWrapper; first | (rw [if_pos (by decide +kernel)]; kernel_rfl) | (rw [if_neg (by decide +kernel)]; exact ⟨rfl, rfl⟩)
theorem over : Rows.fnExactPastAllRow.holds Tryz.pinned (OpenSpec.ofChange Rows.fnExactPastAllSpec) :=
  OpenClaim.holds_of_wide 11 Tryz.f11 rfl rfl rfl rfl rfl rfl rfl ⟨rfl, rfl, rfl, rfl, rfl⟩ rfl rfl rfl rfl rfl named Tryz.func11 closedF insts wraps
    (fun os started H enc _ => lifted os started H enc)
theorem proved : Rows.FnExactPastAllSaid := over
#print axioms proved
end Go.Proofs.YtgoeenodllmdpaaGreat.fnExactPastAll
namespace Go.Proofs.YtgoeenodllmdpaaGreat
/-- The row, under a short name, for the claim. -/
theorem fnExactPastAll_holds : Rows.FnExactPastAllSaid := fnExactPastAll.proved
end Go.Proofs.YtgoeenodllmdpaaGreat
