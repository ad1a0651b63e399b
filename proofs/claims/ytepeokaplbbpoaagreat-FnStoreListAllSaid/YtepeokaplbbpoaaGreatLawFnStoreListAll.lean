/- The law FnStoreListAll, the row. There is no condition. -/
import Derived.Test.YtepeokaplbbpoaaGreatLawFnStoreListAllA
namespace Go.Proofs.YtepeokaplbbpoaaGreat.fnStoreListAll
open Go.ChangeShapes Go.RowKit Go.Proofs.YtepeokaplbbpoaaGreat.B
set_option linter.unusedVariables false
set_option linter.unusedSimpArgs false
theorem and_t {a b : Bool} (h : a = true) (k : b = true) : (a && b) = true := by rw [h, k]; rfl
theorem fact0 : (Rows.fnStoreListAllRow.wf (OpenSpec.ofChange Rows.fnStoreListAllSpec)) = true := by kernel_rfl
theorem fact1 : (laidOutB Tryz.pinned.checked.prog) = true := by kernel_rfl
theorem fact2 : (mapsRowed Tryz.pinned.checked.prog) = true := by kernel_rfl
theorem fact3 : (Tryz.f12.params.all (Tryz.pinned.checked.prog.readableRec ·)) = true := by kernel_rfl
theorem fact4 : (namedTie Tryz.pinned.checked.prog Rows.fnStoreListAllRow.named Rows.fnStoreListAllSpec.vars) = true := by kernel_rfl
theorem fact5 : ((Rows.fnStoreListAllRow.stops == [])) = true := by kernel_rfl
theorem fact6 : ((Tryz.pinned.checked.prog.stops == [])) = true := by kernel_rfl
theorem fact7 : ((Rows.fnStoreListAllRow.knobs == [])) = true := by kernel_rfl
theorem fact8 : ((Tryz.pinned.checked.prog.stopKnobs == [])) = true := by kernel_rfl
theorem fact9 : ((Rows.fnStoreListAllRow.inPlace == Tryz.pinned.checked.prog.inPlace 12)) = true := by kernel_rfl
theorem fact10 : ((Rows.fnStoreListAllRow.unfollowed == Tryz.pinned.checked.prog.unfollowed 12)) = true := by kernel_rfl
theorem fact11 : ((Rows.fnStoreListAllRow.recurses == Tryz.pinned.checked.prog.recurses 12)) = true := by kernel_rfl
theorem fact12 : ((Rows.fnStoreListAllRow.named == Tryz.pinned.checked.prog.varsNamed 12)) = true := by kernel_rfl
theorem fact13 : ((Rows.fnStoreListAllRow.maps == (Tryz.f12.params.toList ++ Rows.fnStoreListAllSpec.plain.varTypes Tryz.pinned.checked.prog).any (Tryz.pinned.checked.prog.mapsRec ·))) = true := by kernel_rfl
theorem fact14 : ((Rows.fnStoreListAllRow.ifaces == (Tryz.f12.params.toList ++ Rows.fnStoreListAllSpec.plain.varTypes Tryz.pinned.checked.prog).any (Tryz.pinned.checked.prog.ifacesRec ·))) = true := by kernel_rfl
theorem fact15 : ((Rows.fnStoreListAllRow.mapsOut == Tryz.pinned.checked.prog.mapsAmong Tryz.f12.resultTypes.toList)) = true := by kernel_rfl
theorem fact16 : ((Rows.fnStoreListAllRow.loops == (Tryz.f12.params.toList ++ Rows.fnStoreListAllSpec.plain.varTypes Tryz.pinned.checked.prog).any (Tryz.pinned.checked.prog.loopsFrom ·))) = true := by kernel_rfl
theorem fact17 : ((Rows.fnStoreListAllRow.wideKeys == (Tryz.f12.params.toList ++ Rows.fnStoreListAllSpec.plain.varTypes Tryz.pinned.checked.prog ++ Tryz.f12.resultTypes.toList).any (Tryz.pinned.checked.prog.wideKeysFrom ·))) = true := by kernel_rfl
theorem fact18 : (Rows.fnStoreListAllSpec.vars.all (Tryz.pinned.checked.prog.varReadable ·)) = true := by kernel_rfl
theorem fact19 : (Tryz.f12.resultTypes.all (fun t => Tryz.pinned.checked.prog.readableRec t && decide (t < Tryz.pinned.checked.prog.types.size))) = true := by kernel_rfl
theorem fact20 : ((Rows.fnStoreListAllRow.ifacesOut == Tryz.f12.resultTypes.toList.any (Tryz.pinned.checked.prog.ifacesRec ·))) = true := by kernel_rfl
theorem fact21 : ((Rows.fnStoreListAllRow.loopsOut == Tryz.f12.resultTypes.toList.any (Tryz.pinned.checked.prog.loopsFrom ·))) = true := by kernel_rfl
theorem fact22 : ((Rows.fnStoreListAllRow.plainKeys == Tryz.pinned.checked.prog.plainKeys)) = true := by kernel_rfl
theorem fact23 : (Rows.fnStoreListAllRow.shortTexts.isNone) = true := by kernel_rfl
theorem fact24 : (Tryz.pinned.checked.prog.stopsHeard) = true := by kernel_rfl
theorem fact25 : (Tryz.pinned.checked.prog.mayEnter) = true := by kernel_rfl
theorem fact26 : ((Rows.fnStoreListAllRow.lifted == Tryz.pinned.checked.prog.liftsFinal)) = true := by kernel_rfl
theorem fact27 : ((Tryz.pinned.checked.prog.make == some Rows.fnStoreListAllRow.make)) = true := by kernel_rfl
theorem fact28 : ((Rows.fnStoreListAllRow.kinds == (if Rows.fnStoreListAllRow.domain.isEmpty then [] else Tryz.f12.params.toList.map fun t => match Tryz.pinned.checked.prog.underlying t with | some (.int k) => some k | _ => none))) = true := by kernel_rfl
theorem fact29 : ((Rows.fnStoreListAllRow.pinned == Rows.fnStoreListAllRow.pinnedBy)) = true := by kernel_rfl
theorem fact30 : ((Rows.fnStoreListAllRow.veiled == (Tryz.f12.params.toList ++ Rows.fnStoreListAllSpec.plain.varTypes Tryz.pinned.checked.prog ++ Tryz.f12.resultTypes.toList).any (Tryz.pinned.checked.prog.veiledRec ·))) = true := by kernel_rfl
theorem fact31 : (Rows.fnStoreListAllRow.veiledFits Tryz.pinned.checked.prog Tryz.f12.params.toList (Tryz.f12.params.toList ++ Rows.fnStoreListAllSpec.plain.varTypes Tryz.pinned.checked.prog ++ Tryz.f12.resultTypes.toList)) = true := by kernel_rfl
set_option maxRecDepth 100000 in
theorem closedF : joinedFacts Tryz.pinned.checked.prog 12 Tryz.f12 Rows.fnStoreListAllSpec Rows.fnStoreListAllRow = true := by
  unfold joinedFacts
  exact and_t (and_t (and_t (and_t (and_t (and_t (and_t (and_t (and_t (and_t (and_t (and_t (and_t (and_t (and_t (and_t (and_t (and_t (and_t (and_t (and_t (and_t (and_t (and_t (and_t (and_t (and_t (and_t (and_t (and_t (and_t fact0 fact1) fact2) fact3) fact4) fact5) fact6) fact7) fact8) fact9) fact10) fact11) fact12) fact13) fact14) fact15) fact16) fact17) fact18) fact19) fact20) fact21) fact22) fact23) fact24) fact25) fact26) fact27) fact28) fact29) fact30) fact31
theorem named : Tryz.pinned.checked.prog.funcNamed Rows.fnStoreListAllRow.func = some 12 := by kernel_rfl
theorem insts : Tryz.f12.isInstance Tryz.pinned.checked.prog Rows.fnStoreListAllRow.origin Rows.fnStoreListAllRow.targs := of_decide_eq_true (by kernel_rfl)
theorem wraps : Tryz.f12.isWrapper Tryz.pinned.checked.prog Rows.fnStoreListAllRow.wrapper Rows.fnStoreListAllRow.mainSum := by unfold Func.isWrapper; first | (rw [if_pos (by decide +kernel)]; kernel_rfl) | (rw [if_neg (by decide +kernel)]; exact ⟨rfl, rfl⟩)
theorem over : Rows.fnStoreListAllRow.holds Tryz.pinned (OpenSpec.ofChange Rows.fnStoreListAllSpec) :=
  OpenClaim.holds_of_wide 12 Tryz.f12 rfl rfl rfl rfl rfl rfl rfl ⟨rfl, rfl, rfl, rfl, rfl⟩ rfl rfl rfl rfl rfl named Tryz.func12 closedF insts wraps
    (fun os started H enc _ => lifted os started H enc)
theorem proved : Rows.FnStoreListAllSaid := over
#print axioms proved
end Go.Proofs.YtepeokaplbbpoaaGreat.fnStoreListAll
namespace Go.Proofs.YtepeokaplbbpoaaGreat
/-- The row, under a short name, for the claim. -/
theorem fnStoreListAll_holds : Rows.FnStoreListAllSaid := fnStoreListAll.proved
end Go.Proofs.YtepeokaplbbpoaaGreat
