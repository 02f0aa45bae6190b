/- The closed facts of the row of MachineNobody, one by one. -/
import Derived.Test.YtahoelmjfgoedaaGreatRows
import Derived.ProofKit
import Derived.KernelRfl
import Derived.JoinedOf
namespace Go.Proofs.YtahoelmjfgoedaaGreat.machineNobody
open Go.ChangeShapes Go.WideShapes Go.ChangeAt Go.RowKit
theorem andT {a b : Bool} (h : a = true) (k : b = true) : (a && b) = true := by rw [h, k]; rfl
theorem jf0 : (Rows.machineNobodyRow.wf (OpenSpec.ofChange Rows.machineNobodySpec)) = true := by kernel_rfl
theorem jf1 : (laidOutB Tryz.prog) = true := by kernel_rfl
theorem jf2 : (mapsRowed Tryz.prog) = true := by kernel_rfl
theorem jf3 : (Tryz.f13.params.all (Tryz.prog.readableRec ·)) = true := by kernel_rfl
theorem jf4 : (namedTie Tryz.prog Rows.machineNobodyRow.named Rows.machineNobodySpec.vars) = true := by kernel_rfl
theorem jf5 : ((Rows.machineNobodyRow.stops == [])) = true := by kernel_rfl
theorem jf6 : ((Tryz.prog.stops == [])) = true := by kernel_rfl
theorem jf7 : ((Rows.machineNobodyRow.knobs == [])) = true := by kernel_rfl
theorem jf8 : ((Tryz.prog.stopKnobs == [])) = true := by kernel_rfl
theorem jf9 : ((Rows.machineNobodyRow.inPlace == Tryz.prog.inPlace 13)) = true := by kernel_rfl
theorem jf10 : ((Rows.machineNobodyRow.unfollowed == Tryz.prog.unfollowed 13)) = true := by kernel_rfl
theorem jf11 : ((Rows.machineNobodyRow.recurses == Tryz.prog.recurses 13)) = true := by kernel_rfl
theorem jf12 : ((Rows.machineNobodyRow.named == Tryz.prog.varsNamed 13)) = true := by kernel_rfl
theorem jf13 : ((Rows.machineNobodyRow.maps == (Tryz.f13.params.toList ++ Rows.machineNobodySpec.plain.varTypes Tryz.prog).any (Tryz.prog.mapsRec ·))) = true := by kernel_rfl
theorem jf14 : ((Rows.machineNobodyRow.ifaces == (Tryz.f13.params.toList ++ Rows.machineNobodySpec.plain.varTypes Tryz.prog).any (Tryz.prog.ifacesRec ·))) = true := by kernel_rfl
theorem jf15 : ((Rows.machineNobodyRow.mapsOut == Tryz.prog.mapsAmong Tryz.f13.resultTypes.toList)) = true := by kernel_rfl
theorem jf16 : ((Rows.machineNobodyRow.loops == (Tryz.f13.params.toList ++ Rows.machineNobodySpec.plain.varTypes Tryz.prog).any (Tryz.prog.loopsFrom ·))) = true := by kernel_rfl
theorem jf17 : ((Rows.machineNobodyRow.wideKeys == (Tryz.f13.params.toList ++ Rows.machineNobodySpec.plain.varTypes Tryz.prog ++ Tryz.f13.resultTypes.toList).any (Tryz.prog.wideKeysFrom ·))) = true := by kernel_rfl
theorem jf18 : (Rows.machineNobodySpec.vars.all (Tryz.prog.varReadable ·)) = true := by kernel_rfl
theorem jf19 : (Tryz.f13.resultTypes.all (fun t => Tryz.prog.readableRec t && decide (t < Tryz.prog.types.size))) = true := by kernel_rfl
theorem jf20 : ((Rows.machineNobodyRow.ifacesOut == Tryz.f13.resultTypes.toList.any (Tryz.prog.ifacesRec ·))) = true := by kernel_rfl
theorem jf21 : ((Rows.machineNobodyRow.loopsOut == Tryz.f13.resultTypes.toList.any (Tryz.prog.loopsFrom ·))) = true := by kernel_rfl
theorem jf22 : ((Rows.machineNobodyRow.plainKeys == Tryz.prog.plainKeys)) = true := by kernel_rfl
theorem jf23 : (Rows.machineNobodyRow.shortTexts.isNone) = true := by kernel_rfl
theorem jf24 : (Tryz.prog.stopsHeard) = true := by kernel_rfl
theorem jf25 : (Tryz.prog.mayEnter) = true := by kernel_rfl
theorem jf26 : ((Rows.machineNobodyRow.lifted == Tryz.prog.liftsFinal)) = true := by kernel_rfl
theorem jf27 : ((Tryz.prog.make == some Rows.machineNobodyRow.make)) = true := by kernel_rfl
theorem jf28 : ((Rows.machineNobodyRow.kinds == (if Rows.machineNobodyRow.domain.isEmpty then [] else Tryz.f13.params.toList.map fun t => match Tryz.prog.underlying t with | some (.int k) => some k | _ => none))) = true := by kernel_rfl
theorem jf29 : ((Rows.machineNobodyRow.pinned == Rows.machineNobodyRow.pinnedBy)) = true := by kernel_rfl
theorem jf30 : ((Rows.machineNobodyRow.veiled == (Tryz.f13.params.toList ++ Rows.machineNobodySpec.plain.varTypes Tryz.prog ++ Tryz.f13.resultTypes.toList).any (Tryz.prog.veiledRec ·))) = true := by kernel_rfl
theorem jf31 : (Rows.machineNobodyRow.veiledFits Tryz.prog Tryz.f13.params.toList (Tryz.f13.params.toList ++ Rows.machineNobodySpec.plain.varTypes Tryz.prog ++ Tryz.f13.resultTypes.toList)) = true := by kernel_rfl
set_option maxRecDepth 100000 in
theorem jf : joinedFacts Tryz.prog 13 Tryz.f13 Rows.machineNobodySpec Rows.machineNobodyRow = true := by
  unfold joinedFacts
  exact (andT (andT (andT (andT (andT (andT (andT (andT (andT (andT (andT (andT (andT (andT (andT (andT (andT (andT (andT (andT (andT (andT (andT (andT (andT (andT (andT (andT (andT (andT (andT jf0 jf1) jf2) jf3) jf4) jf5) jf6) jf7) jf8) jf9) jf10) jf11) jf12) jf13) jf14) jf15) jf16) jf17) jf18) jf19) jf20) jf21) jf22) jf23) jf24) jf25) jf26) jf27) jf28) jf29) jf30) jf31)
theorem hfn : Tryz.prog.funcNamed Rows.machineNobodyRow.func = some 13 := by kernel_rfl
theorem hinst : Tryz.f13.isInstance Tryz.prog Rows.machineNobodyRow.origin Rows.machineNobodyRow.targs := of_decide_eq_true (by kernel_rfl)
theorem hwrap : Tryz.f13.isWrapper Tryz.prog Rows.machineNobodyRow.wrapper Rows.machineNobodyRow.mainSum := by unfold Func.isWrapper; first | (rw [if_pos (by decide +kernel)]; kernel_rfl) | (rw [if_neg (by decide +kernel)]; exact ⟨rfl, rfl⟩)
end Go.Proofs.YtahoelmjfgoedaaGreat.machineNobody
