/- The law FnStoreListCut, the row. There is no condition. -/
import Derived.Test.YtepeokaplbbpoaaGreatLawFnStoreListCutA
namespace Go.Proofs.YtepeokaplbbpoaaGreat.fnStoreListCut
open Go.ChangeShapes Go.RowKit Go.Proofs.YtepeokaplbbpoaaGreat.B
set_option linter.unusedVariables false
set_option linter.unusedSimpArgs false
theorem and_t {a b : Bool} (h : a = true) (k : b = true) : (a && b) = true := by rw [h, k]; rfl
theorem fact0 : (Rows.fnStoreListCutRow.wf (OpenSpec.ofChange Rows.fnStoreListCutSpec)) = true := by kernel_rfl
theorem fact1 : (laidOutB Tryz.pinned.checked.prog) = true := by kernel_rfl
theorem fact2 : (mapsRowed Tryz.pinned.checked.prog) = true := by kernel_rfl
theorem fact3 : (Tryz.f13.params.all (Tryz.pinned.checked.prog.readableRec ·)) = true := by kernel_rfl
theorem fact4 : (namedTie Tryz.pinned.checked.prog Rows.fnStoreListCutRow.named Rows.fnStoreListCutSpec.vars) = true := by kernel_rfl
theorem fact5 : ((Rows.fnStoreListCutRow.stops == [])) = true := by kernel_rfl
theorem fact6 : ((Tryz.pinned.checked.prog.stops == [])) = true := by kernel_rfl
theorem fact7 : ((Rows.fnStoreListCutRow.knobs == [])) = true := by kernel_rfl
theorem fact8 : ((Tryz.pinned.checked.prog.stopKnobs == [])) = true := by kernel_rfl
theorem fact9 : ((Rows.fnStoreListCutRow.inPlace == Tryz.pinned.checked.prog.inPlace 13)) = true := by kernel_rfl
theorem fact10 : ((Rows.fnStoreListCutRow.unfollowed == Tryz.pinned.checked.prog.unfollowed 13)) = true := by kernel_rfl
theorem fact11 : ((Rows.fnStoreListCutRow.recurses == Tryz.pinned.checked.prog.recurses 13)) = true := by kernel_rfl
theorem fact12 : ((Rows.fnStoreListCutRow.named == Tryz.pinned.checked.prog.varsNamed 13)) = true := by kernel_rfl
theorem fact13 : ((Rows.fnStoreListCutRow.maps == (Tryz.f13.params.toList ++ Rows.fnStoreListCutSpec.plain.varTypes Tryz.pinned.checked.prog).any (Tryz.pinned.checked.prog.mapsRec ·))) = true := by kernel_rfl
theorem fact14 : ((Rows.fnStoreListCutRow.ifaces == (Tryz.f13.params.toList ++ Rows.fnStoreListCutSpec.plain.varTypes Tryz.pinned.checked.prog).any (Tryz.pinned.checked.prog.ifacesRec ·))) = true := by kernel_rfl
theorem fact15 : ((Rows.fnStoreListCutRow.mapsOut == Tryz.pinned.checked.prog.mapsAmong Tryz.f13.resultTypes.toList)) = true := by kernel_rfl
theorem fact16 : ((Rows.fnStoreListCutRow.loops == (Tryz.f13.params.toList ++ Rows.fnStoreListCutSpec.plain.varTypes Tryz.pinned.checked.prog).any (Tryz.pinned.checked.prog.loopsFrom ·))) = true := by kernel_rfl
theorem fact17 : ((Rows.fnStoreListCutRow.wideKeys == (Tryz.f13.params.toList ++ Rows.fnStoreListCutSpec.plain.varTypes Tryz.pinned.checked.prog ++ Tryz.f13.resultTypes.toList).any (Tryz.pinned.checked.prog.wideKeysFrom ·))) = true := by kernel_rfl
theorem fact18 : (Rows.fnStoreListCutSpec.vars.all (Tryz.pinned.checked.prog.varReadable ·)) = true := by kernel_rfl
theorem fact19 : (Tryz.f13.resultTypes.all (fun t => Tryz.pinned.checked.prog.readableRec t && decide (t < Tryz.pinned.checked.prog.types.size))) = true := by kernel_rfl
theorem fact20 : ((Rows.fnStoreListCutRow.ifacesOut == Tryz.f13.resultTypes.toList.any (Tryz.pinned.checked.prog.ifacesRec ·))) = true := by kernel_rfl
theorem fact21 : ((Rows.fnStoreListCutRow.loopsOut == Tryz.f13.resultTypes.toList.any (Tryz.pinned.checked.prog.loopsFrom ·))) = true := by kernel_rfl
theorem fact22 : ((Rows.fnStoreListCutRow.plainKeys == Tryz.pinned.checked.prog.plainKeys)) = true := by kernel_rfl
theorem fact23 : (Rows.fnStoreListCutRow.shortTexts.isNone) = true := by kernel_rfl
theorem fact24 : (Tryz.pinned.checked.prog.stopsHeard) = true := by kernel_rfl
theorem fact25 : (Tryz.pinned.checked.prog.mayEnter) = true := by kernel_rfl
theorem fact26 : ((Rows.fnStoreListCutRow.lifted == Tryz.pinned.checked.prog.liftsFinal)) = true := by kernel_rfl
theorem fact27 : ((Tryz.pinned.checked.prog.make == some Rows.fnStoreListCutRow.make)) = true := by kernel_rfl
theorem fact28 : ((Rows.fnStoreListCutRow.kinds == (if Rows.fnStoreListCutRow.domain.isEmpty then [] else Tryz.f13.params.toList.map fun t => match Tryz.pinned.checked.prog.underlying t with | some (.int k) => some k | _ => none))) = true := by kernel_rfl
theorem fact29 : ((Rows.fnStoreListCutRow.pinned == Rows.fnStoreListCutRow.pinnedBy)) = true := by kernel_rfl
theorem fact30 : ((Rows.fnStoreListCutRow.veiled == (Tryz.f13.params.toList ++ Rows.fnStoreListCutSpec.plain.varTypes Tryz.pinned.checked.prog ++ Tryz.f13.resultTypes.toList).any (Tryz.pinned.checked.prog.veiledRec ·))) = true := by kernel_rfl
theorem fact31 : (Rows.fnStoreListCutRow.veiledFits Tryz.pinned.checked.prog Tryz.f13.params.toList (Tryz.f13.params.toList ++ Rows.fnStoreListCutSpec.plain.varTypes Tryz.pinned.checked.prog ++ Tryz.f13.resultTypes.toList)) = true := by kernel_rfl
set_option maxRecDepth 100000 in
theorem closedF : joinedFacts Tryz.pinned.checked.prog 13 Tryz.f13 Rows.fnStoreListCutSpec Rows.fnStoreListCutRow = true := by
  unfold joinedFacts
  exact and_t (and_t (and_t (and_t (and_t (and_t (and_t (and_t (and_t (and_t (and_t (and_t (and_t (and_t (and_t (and_t (and_t (and_t (and_t (and_t (and_t (and_t (and_t (and_t (and_t (and_t (and_t (and_t (and_t (and_t (and_t fact0 fact1) fact2) fact3) fact4) fact5) fact6) fact7) fact8) fact9) fact10) fact11) fact12) fact13) fact14) fact15) fact16) fact17) fact18) fact19) fact20) fact21) fact22) fact23) fact24) fact25) fact26) fact27) fact28) fact29) fact30) fact31
theorem named : Tryz.pinned.checked.prog.funcNamed Rows.fnStoreListCutRow.func = some 13 := by kernel_rfl
theorem insts : Tryz.f13.isInstance Tryz.pinned.checked.prog Rows.fnStoreListCutRow.origin Rows.fnStoreListCutRow.targs := of_decide_eq_true (by kernel_rfl)
theorem wraps : Tryz.f13.isWrapper Tryz.pinned.checked.prog Rows.fnStoreListCutRow.wrapper Rows.fnStoreListCutRow.mainSum := by unfold Func.isWrapper; first | (rw [if_pos (by decide +kernel)]; kernel_rfl) | (rw [if_neg (by decide +kernel)]; exact ⟨rfl, rfl⟩)
theorem over : Rows.fnStoreListCutRow.holds Tryz.pinned (OpenSpec.ofChange Rows.fnStoreListCutSpec) :=
  OpenClaim.holds_of_wide 13 Tryz.f13 rfl rfl rfl rfl rfl rfl rfl ⟨rfl, rfl, rfl, rfl, rfl⟩ rfl rfl rfl rfl rfl named Tryz.func13 closedF insts wraps
    (fun os started H enc _ => lifted os started H enc)
theorem proved : Rows.FnStoreListCutSaid := over
#print axioms proved
end Go.Proofs.YtepeokaplbbpoaaGreat.fnStoreListCut
namespace Go.Proofs.YtepeokaplbbpoaaGreat
/-- The row, under a short name, for the claim. -/
theorem fnStoreListCut_holds : Rows.FnStoreListCutSaid := fnStoreListCut.proved
end Go.Proofs.YtepeokaplbbpoaaGreat
