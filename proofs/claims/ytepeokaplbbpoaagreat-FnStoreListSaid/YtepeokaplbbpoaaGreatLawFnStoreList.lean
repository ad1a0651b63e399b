/- The law FnStoreList, the row. There is no condition. -/
import Derived.Test.YtepeokaplbbpoaaGreatLawFnStoreListA
namespace Go.Proofs.YtepeokaplbbpoaaGreat.fnStoreList
open Go.ChangeShapes Go.RowKit Go.Proofs.YtepeokaplbbpoaaGreat.B
set_option linter.unusedVariables false
set_option linter.unusedSimpArgs false
theorem and_t {a b : Bool} (h : a = true) (k : b = true) : (a && b) = true := by rw [h, k]; rfl
theorem fact0 : (Rows.fnStoreListRow.wf (OpenSpec.ofChange Rows.fnStoreListSpec)) = true := by kernel_rfl
theorem fact1 : (laidOutB Tryz.pinned.checked.prog) = true := by kernel_rfl
theorem fact2 : (mapsRowed Tryz.pinned.checked.prog) = true := by kernel_rfl
theorem fact3 : (Tryz.f14.params.all (Tryz.pinned.checked.prog.readableRec ·)) = true := by kernel_rfl
theorem fact4 : (namedTie Tryz.pinned.checked.prog Rows.fnStoreListRow.named Rows.fnStoreListSpec.vars) = true := by kernel_rfl
theorem fact5 : ((Rows.fnStoreListRow.stops == [])) = true := by kernel_rfl
theorem fact6 : ((Tryz.pinned.checked.prog.stops == [])) = true := by kernel_rfl
theorem fact7 : ((Rows.fnStoreListRow.knobs == [])) = true := by kernel_rfl
theorem fact8 : ((Tryz.pinned.checked.prog.stopKnobs == [])) = true := by kernel_rfl
theorem fact9 : ((Rows.fnStoreListRow.inPlace == Tryz.pinned.checked.prog.inPlace 14)) = true := by kernel_rfl
theorem fact10 : ((Rows.fnStoreListRow.unfollowed == Tryz.pinned.checked.prog.unfollowed 14)) = true := by kernel_rfl
theorem fact11 : ((Rows.fnStoreListRow.recurses == Tryz.pinned.checked.prog.recurses 14)) = true := by kernel_rfl
theorem fact12 : ((Rows.fnStoreListRow.named == Tryz.pinned.checked.prog.varsNamed 14)) = true := by kernel_rfl
theorem fact13 : ((Rows.fnStoreListRow.maps == (Tryz.f14.params.toList ++ Rows.fnStoreListSpec.plain.varTypes Tryz.pinned.checked.prog).any (Tryz.pinned.checked.prog.mapsRec ·))) = true := by kernel_rfl
theorem fact14 : ((Rows.fnStoreListRow.ifaces == (Tryz.f14.params.toList ++ Rows.fnStoreListSpec.plain.varTypes Tryz.pinned.checked.prog).any (Tryz.pinned.checked.prog.ifacesRec ·))) = true := by kernel_rfl
theorem fact15 : ((Rows.fnStoreListRow.mapsOut == Tryz.pinned.checked.prog.mapsAmong Tryz.f14.resultTypes.toList)) = true := by kernel_rfl
theorem fact16 : ((Rows.fnStoreListRow.loops == (Tryz.f14.params.toList ++ Rows.fnStoreListSpec.plain.varTypes Tryz.pinned.checked.prog).any (Tryz.pinned.checked.prog.loopsFrom ·))) = true := by kernel_rfl
theorem fact17 : ((Rows.fnStoreListRow.wideKeys == (Tryz.f14.params.toList ++ Rows.fnStoreListSpec.plain.varTypes Tryz.pinned.checked.prog ++ Tryz.f14.resultTypes.toList).any (Tryz.pinned.checked.prog.wideKeysFrom ·))) = true := by kernel_rfl
theorem fact18 : (Rows.fnStoreListSpec.vars.all (Tryz.pinned.checked.prog.varReadable ·)) = true := by kernel_rfl
theorem fact19 : (Tryz.f14.resultTypes.all (fun t => Tryz.pinned.checked.prog.readableRec t && decide (t < Tryz.pinned.checked.prog.types.size))) = true := by kernel_rfl
theorem fact20 : ((Rows.fnStoreListRow.ifacesOut == Tryz.f14.resultTypes.toList.any (Tryz.pinned.checked.prog.ifacesRec ·))) = true := by kernel_rfl
theorem fact21 : ((Rows.fnStoreListRow.loopsOut == Tryz.f14.resultTypes.toList.any (Tryz.pinned.checked.prog.loopsFrom ·))) = true := by kernel_rfl
theorem fact22 : ((Rows.fnStoreListRow.plainKeys == Tryz.pinned.checked.prog.plainKeys)) = true := by kernel_rfl
theorem fact23 : (Rows.fnStoreListRow.shortTexts.isNone) = true := by kernel_rfl
theorem fact24 : (Tryz.pinned.checked.prog.stopsHeard) = true := by kernel_rfl
theorem fact25 : (Tryz.pinned.checked.prog.mayEnter) = true := by kernel_rfl
theorem fact26 : ((Rows.fnStoreListRow.lifted == Tryz.pinned.checked.prog.liftsFinal)) = true := by kernel_rfl
theorem fact27 : ((Tryz.pinned.checked.prog.make == some Rows.fnStoreListRow.make)) = true := by kernel_rfl
theorem fact28 : ((Rows.fnStoreListRow.kinds == (if Rows.fnStoreListRow.domain.isEmpty then [] else Tryz.f14.params.toList.map fun t => match Tryz.pinned.checked.prog.underlying t with | some (.int k) => some k | _ => none))) = true := by kernel_rfl
theorem fact29 : ((Rows.fnStoreListRow.pinned == Rows.fnStoreListRow.pinnedBy)) = true := by kernel_rfl
theorem fact30 : ((Rows.fnStoreListRow.veiled == (Tryz.f14.params.toList ++ Rows.fnStoreListSpec.plain.varTypes Tryz.pinned.checked.prog ++ Tryz.f14.resultTypes.toList).any (Tryz.pinned.checked.prog.veiledRec ·))) = true := by kernel_rfl
theorem fact31 : (Rows.fnStoreListRow.veiledFits Tryz.pinned.checked.prog Tryz.f14.params.toList (Tryz.f14.params.toList ++ Rows.fnStoreListSpec.plain.varTypes Tryz.pinned.checked.prog ++ Tryz.f14.resultTypes.toList)) = true := by kernel_rfl
set_option maxRecDepth 100000 in
theorem closedF : joinedFacts Tryz.pinned.checked.prog 14 Tryz.f14 Rows.fnStoreListSpec Rows.fnStoreListRow = true := by
  unfold joinedFacts
  exact and_t (and_t (and_t (and_t (and_t (and_t (and_t (and_t (and_t (and_t (and_t (and_t (and_t (and_t (and_t (and_t (and_t (and_t (and_t (and_t (and_t (and_t (and_t (and_t (and_t (and_t (and_t (and_t (and_t (and_t (and_t fact0 fact1) fact2) fact3) fact4) fact5) fact6) fact7) fact8) fact9) fact10) fact11) fact12) fact13) fact14) fact15) fact16) fact17) fact18) fact19) fact20) fact21) fact22) fact23) fact24) fact25) fact26) fact27) fact28) fact29) fact30) fact31
theorem named : Tryz.pinned.checked.prog.funcNamed Rows.fnStoreListRow.func = some 14 := by kernel_rfl
theorem insts : Tryz.f14.isInstance Tryz.pinned.checked.prog Rows.fnStoreListRow.origin Rows.fnStoreListRow.targs := of_decide_eq_true (by kernel_rfl)
theorem wraps : Tryz.f14.isWrapper Tryz.pinned.checked.prog Rows.fnStoreListRow.wrapper Rows.fnStoreListRow.mainSum := by unfold Func.isWrapper; first | (rw [if_pos (by decide +kernel)]; kernel_rfl) | (rw [if_neg (by decide +kernel)]; exact ⟨rfl, rfl⟩)
theorem over : Rows.fnStoreListRow.holds Tryz.pinned (OpenSpec.ofChange Rows.fnStoreListSpec) :=
  OpenClaim.holds_of_wide 14 Tryz.f14 rfl rfl rfl rfl rfl rfl rfl ⟨rfl, rfl, rfl, rfl, rfl⟩ rfl rfl rfl rfl rfl named Tryz.func14 closedF insts wraps
    (fun os started H enc _ => lifted os started H enc)
theorem proved : Rows.FnStoreListSaid := over
#print axioms proved
end Go.Proofs.YtepeokaplbbpoaaGreat.fnStoreList
namespace Go.Proofs.YtepeokaplbbpoaaGreat
/-- The row, under a short name, for the claim. -/
theorem fnStoreList_holds : Rows.FnStoreListSaid := fnStoreList.proved
end Go.Proofs.YtepeokaplbbpoaaGreat
