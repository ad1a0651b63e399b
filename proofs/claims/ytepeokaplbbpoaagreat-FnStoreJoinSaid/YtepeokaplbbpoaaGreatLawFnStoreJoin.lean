/- The law FnStoreJoin, the row. There is no condition. -/
import Derived.Test.YtepeokaplbbpoaaGreatLawFnStoreJoinA
namespace Go.Proofs.YtepeokaplbbpoaaGreat.fnStoreJoin
open Go.ChangeShapes Go.RowKit Go.Proofs.YtepeokaplbbpoaaGreat.B
set_option linter.unusedVariables false
set_option linter.unusedSimpArgs false
theorem and_t {a b : Bool} (h : a = true) (k : b = true) : (a && b) = true := by rw [h, k]; rfl
theorem fact0 : (Rows.fnStoreJoinRow.wf (OpenSpec.ofChange Rows.fnStoreJoinSpec)) = true := by kernel_rfl
theorem fact1 : (laidOutB Tryz.pinned.checked.prog) = true := by kernel_rfl
theorem fact2 : (mapsRowed Tryz.pinned.checked.prog) = true := by kernel_rfl
theorem fact3 : (Tryz.f4.params.all (Tryz.pinned.checked.prog.readableRec ·)) = true := by kernel_rfl
theorem fact4 : (namedTie Tryz.pinned.checked.prog Rows.fnStoreJoinRow.named Rows.fnStoreJoinSpec.vars) = true := by kernel_rfl
theorem fact5 : ((Rows.fnStoreJoinRow.stops == [])) = true := by kernel_rfl
theorem fact6 : ((Tryz.pinned.checked.prog.stops == [])) = true := by kernel_rfl
theorem fact7 : ((Rows.fnStoreJoinRow.knobs == [])) = true := by kernel_rfl
theorem fact8 : ((Tryz.pinned.checked.prog.stopKnobs == [])) = true := by kernel_rfl
theorem fact9 : ((Rows.fnStoreJoinRow.inPlace == Tryz.pinned.checked.prog.inPlace 4)) = true := by kernel_rfl
theorem fact10 : ((Rows.fnStoreJoinRow.unfollowed == Tryz.pinned.checked.prog.unfollowed 4)) = true := by kernel_rfl
theorem fact11 : ((Rows.fnStoreJoinRow.recurses == Tryz.pinned.checked.prog.recurses 4)) = true := by kernel_rfl
theorem fact12 : ((Rows.fnStoreJoinRow.named == Tryz.pinned.checked.prog.varsNamed 4)) = true := by kernel_rfl
theorem fact13 : ((Rows.fnStoreJoinRow.maps == (Tryz.f4.params.toList ++ Rows.fnStoreJoinSpec.plain.varTypes Tryz.pinned.checked.prog).any (Tryz.pinned.checked.prog.mapsRec ·))) = true := by kernel_rfl
theorem fact14 : ((Rows.fnStoreJoinRow.ifaces == (Tryz.f4.params.toList ++ Rows.fnStoreJoinSpec.plain.varTypes Tryz.pinned.checked.prog).any (Tryz.pinned.checked.prog.ifacesRec ·))) = true := by kernel_rfl
theorem fact15 : ((Rows.fnStoreJoinRow.mapsOut == Tryz.pinned.checked.prog.mapsAmong Tryz.f4.resultTypes.toList)) = true := by kernel_rfl
theorem fact16 : ((Rows.fnStoreJoinRow.loops == (Tryz.f4.params.toList ++ Rows.fnStoreJoinSpec.plain.varTypes Tryz.pinned.checked.prog).any (Tryz.pinned.checked.prog.loopsFrom ·))) = true := by kernel_rfl
theorem fact17 : ((Rows.fnStoreJoinRow.wideKeys == (Tryz.f4.params.toList ++ Rows.fnStoreJoinSpec.plain.varTypes Tryz.pinned.checked.prog ++ Tryz.f4.resultTypes.toList).any (Tryz.pinned.checked.prog.wideKeysFrom ·))) = true := by kernel_rfl
theorem fact18 : (Rows.fnStoreJoinSpec.vars.all (Tryz.pinned.checked.prog.varReadable ·)) = true := by kernel_rfl
theorem fact19 : (Tryz.f4.resultTypes.all (fun t => Tryz.pinned.checked.prog.readableRec t && decide (t < Tryz.pinned.checked.prog.types.size))) = true := by kernel_rfl
theorem fact20 : ((Rows.fnStoreJoinRow.ifacesOut == Tryz.f4.resultTypes.toList.any (Tryz.pinned.checked.prog.ifacesRec ·))) = true := by kernel_rfl
theorem fact21 : ((Rows.fnStoreJoinRow.loopsOut == Tryz.f4.resultTypes.toList.any (Tryz.pinned.checked.prog.loopsFrom ·))) = true := by kernel_rfl
theorem fact22 : ((Rows.fnStoreJoinRow.plainKeys == Tryz.pinned.checked.prog.plainKeys)) = true := by kernel_rfl
theorem fact23 : (Rows.fnStoreJoinRow.shortTexts.isNone) = true := by kernel_rfl
theorem fact24 : (Tryz.pinned.checked.prog.stopsHeard) = true := by kernel_rfl
theorem fact25 : (Tryz.pinned.checked.prog.mayEnter) = true := by kernel_rfl
theorem fact26 : ((Rows.fnStoreJoinRow.lifted == Tryz.pinned.checked.prog.liftsFinal)) = true := by kernel_rfl
theorem fact27 : ((Tryz.pinned.checked.prog.make == some Rows.fnStoreJoinRow.make)) = true := by kernel_rfl
theorem fact28 : ((Rows.fnStoreJoinRow.kinds == (if Rows.fnStoreJoinRow.domain.isEmpty then [] else Tryz.f4.params.toList.map fun t => match Tryz.pinned.checked.prog.underlying t with | some (.int k) => some k | _ => none))) = true := by kernel_rfl
theorem fact29 : ((Rows.fnStoreJoinRow.pinned == Rows.fnStoreJoinRow.pinnedBy)) = true := by kernel_rfl
theorem fact30 : ((Rows.fnStoreJoinRow.veiled == (Tryz.f4.params.toList ++ Rows.fnStoreJoinSpec.plain.varTypes Tryz.pinned.checked.prog ++ Tryz.f4.resultTypes.toList).any (Tryz.pinned.checked.prog.veiledRec ·))) = true := by kernel_rfl
theorem fact31 : (Rows.fnStoreJoinRow.veiledFits Tryz.pinned.checked.prog Tryz.f4.params.toList (Tryz.f4.params.toList ++ Rows.fnStoreJoinSpec.plain.varTypes Tryz.pinned.checked.prog ++ Tryz.f4.resultTypes.toList)) = true := by kernel_rfl
set_option maxRecDepth 100000 in
theorem closedF : joinedFacts Tryz.pinned.checked.prog 4 Tryz.f4 Rows.fnStoreJoinSpec Rows.fnStoreJoinRow = true := by
  unfold joinedFacts
  exact and_t (and_t (and_t (and_t (and_t (and_t (and_t (and_t (and_t (and_t (and_t (and_t (and_t (and_t (and_t (and_t (and_t (and_t (and_t (and_t (and_t (and_t (and_t (and_t (and_t (and_t (and_t (and_t (and_t (and_t (and_t fact0 fact1) fact2) fact3) fact4) fact5) fact6) fact7) fact8) fact9) fact10) fact11) fact12) fact13) fact14) fact15) fact16) fact17) fact18) fact19) fact20) fact21) fact22) fact23) fact24) fact25) fact26) fact27) fact28) fact29) fact30) fact31
theorem named : Tryz.pinned.checked.prog.funcNamed Rows.fnStoreJoinRow.func = some 4 := by kernel_rfl
theorem insts : Tryz.f4.isInstance Tryz.pinned.checked.prog Rows.fnStoreJoinRow.origin Rows.fnStoreJoinRow.targs := of_decide_eq_true (by kernel_rfl)
theorem wraps : Tryz.f4.isWrapper Tryz.pinned.checked.prog Rows.fnStoreJoinRow.wrapper Rows.fnStoreJoinRow.mainSum := by unfold Func.isWrapper; first | (rw [if_pos (by decide +kernel)]; kernel_rfl) | (rw [if_neg (by decide +kernel)]; exact ⟨rfl, rfl⟩)
theorem over : Rows.fnStoreJoinRow.holds Tryz.pinned (OpenSpec.ofChange Rows.fnStoreJoinSpec) :=
  OpenClaim.holds_of_wide 4 Tryz.f4 rfl rfl rfl rfl rfl rfl rfl ⟨rfl, rfl, rfl, rfl, rfl⟩ rfl rfl rfl rfl rfl named Tryz.func4 closedF insts wraps
    (fun os started H enc _ => lifted os started H enc)
theorem proved : Rows.FnStoreJoinSaid := over
#print axioms proved
end Go.Proofs.YtepeokaplbbpoaaGreat.fnStoreJoin
namespace Go.Proofs.YtepeokaplbbpoaaGreat
/-- The row, under a short name, for the claim. -/
theorem fnStoreJoin_holds : Rows.FnStoreJoinSaid := fnStoreJoin.proved
end Go.Proofs.YtepeokaplbbpoaaGreat
