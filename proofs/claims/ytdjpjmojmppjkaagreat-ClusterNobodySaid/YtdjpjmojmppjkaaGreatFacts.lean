/- The closed facts of the row, one by one. -/
import Derived.Test.YtdjpjmojmppjkaaGreatRows
import Derived.Test.YtdjpjmojmppjkaaGreatClosed
import Derived.ProofKit
import Derived.KernelRfl
namespace Go.Proofs.YtdjpjmojmppjkaaGreat
open Go
set_option maxRecDepth 100000

theorem laid0 : (List.range' 0 100).all (rowFine Tryz.prog) = true := by kernel_rfl
theorem laid1 : (List.range' 100 100).all (rowFine Tryz.prog) = true := by kernel_rfl
theorem laid2 : (List.range' 200 100).all (rowFine Tryz.prog) = true := by kernel_rfl
theorem laid3 : (List.range' 300 100).all (rowFine Tryz.prog) = true := by kernel_rfl
theorem laid4 : (List.range' 400 100).all (rowFine Tryz.prog) = true := by kernel_rfl
theorem laid5 : (List.range' 500 100).all (rowFine Tryz.prog) = true := by kernel_rfl
theorem laid6 : (List.range' 600 100).all (rowFine Tryz.prog) = true := by kernel_rfl
theorem laid7 : (List.range' 700 100).all (rowFine Tryz.prog) = true := by kernel_rfl
theorem laid8 : (List.range' 800 48).all (rowFine Tryz.prog) = true := by kernel_rfl
theorem laidSize : Tryz.prog.types.size = 848 := by kernel_rfl
theorem laidGlobals : (Tryz.prog.globals.all fun g => decide (g.type < Tryz.prog.types.size)) = true := by kernel_rfl
theorem laidFuncs : (Tryz.prog.funcs.all fun f => f.params.all fun t => decide (t < Tryz.prog.types.size)) = true := by kernel_rfl
theorem laidOut : laidOutB Tryz.prog = true := by
  unfold laidOutB
  rw [laidGlobals, laidFuncs, Bool.and_true, Bool.and_true, laidSize, List.range_eq_range']
  have e : List.range' 0 848 = List.range' 0 100 ++ (List.range' 100 100 ++ (List.range' 200 100 ++ (List.range' 300 100 ++ (List.range' 400 100 ++ (List.range' 500 100 ++ (List.range' 600 100 ++ (List.range' 700 100 ++ (List.range' 800 48)))))))) := by decide +kernel
  rw [e, List.all_append, List.all_append, List.all_append, List.all_append, List.all_append, List.all_append, List.all_append, List.all_append, laid0, laid1, laid2, laid3, laid4, laid5, laid6, laid7, laid8]
  rfl

theorem jf0 : (Rows.clusterNobodyRow.wf (OpenSpec.ofChange Rows.clusterNobodySpec)) = true := by kernel_rfl
theorem jf2 : (mapsRowed Tryz.prog) = true := by kernel_rfl
theorem jf3 : (Tryz.f3.params.all (Tryz.prog.readableRec ·)) = true := by kernel_rfl
theorem jf4 : (namedTie Tryz.prog Rows.clusterNobodyRow.named Rows.clusterNobodySpec.vars) = true := by kernel_rfl
theorem jf5 : (Rows.clusterNobodyRow.stops == []) = true := by kernel_rfl
theorem jf6 : (Tryz.prog.stops == []) = true := by kernel_rfl
theorem jf7 : (Rows.clusterNobodyRow.knobs == []) = true := by kernel_rfl
theorem jf8 : (Tryz.prog.stopKnobs == []) = true := by kernel_rfl
theorem jf9 : (Rows.clusterNobodyRow.inPlace == Tryz.prog.inPlace 3) = true := by rw [inPlaceIs]; kernel_rfl
theorem jf10 : (Rows.clusterNobodyRow.unfollowed == Tryz.prog.unfollowed 3) = true := by rw [unfIs]; kernel_rfl
theorem jf11 : (Rows.clusterNobodyRow.recurses == Tryz.prog.recurses 3) = true := by rw [recIs]; kernel_rfl
theorem jf12 : (Rows.clusterNobodyRow.named == Tryz.prog.varsNamed 3) = true := by rw [namedIs]; kernel_rfl
theorem jf13 : (Rows.clusterNobodyRow.maps == (Tryz.f3.params.toList ++ Rows.clusterNobodySpec.plain.varTypes Tryz.prog).any (Tryz.prog.mapsRec ·)) = true := by kernel_rfl
theorem jf14 : (Rows.clusterNobodyRow.ifaces == (Tryz.f3.params.toList ++ Rows.clusterNobodySpec.plain.varTypes Tryz.prog).any (Tryz.prog.ifacesRec ·)) = true := by kernel_rfl
theorem jf15 : (Rows.clusterNobodyRow.mapsOut == Tryz.prog.mapsAmong Tryz.f3.resultTypes.toList) = true := by kernel_rfl
theorem jf16 : (Rows.clusterNobodyRow.loops == (Tryz.f3.params.toList ++ Rows.clusterNobodySpec.plain.varTypes Tryz.prog).any (Tryz.prog.loopsFrom ·)) = true := by kernel_rfl
theorem jf17 : (Rows.clusterNobodyRow.wideKeys == (Tryz.f3.params.toList ++ Rows.clusterNobodySpec.plain.varTypes Tryz.prog ++ Tryz.f3.resultTypes.toList).any (Tryz.prog.wideKeysFrom ·)) = true := by kernel_rfl
theorem jf18 : (Rows.clusterNobodySpec.vars.all (Tryz.prog.varReadable ·)) = true := by kernel_rfl
theorem jf19 : (Tryz.f3.resultTypes.all (fun t => Tryz.prog.readableRec t && decide (t < Tryz.prog.types.size))) = true := by kernel_rfl
theorem jf20 : (Rows.clusterNobodyRow.ifacesOut == Tryz.f3.resultTypes.toList.any (Tryz.prog.ifacesRec ·)) = true := by kernel_rfl
theorem jf21 : (Rows.clusterNobodyRow.loopsOut == Tryz.f3.resultTypes.toList.any (Tryz.prog.loopsFrom ·)) = true := by kernel_rfl
theorem jf22 : (Rows.clusterNobodyRow.plainKeys == Tryz.prog.plainKeys) = true := by kernel_rfl
theorem jf23 : (Rows.clusterNobodyRow.shortTexts.isNone) = true := by kernel_rfl
theorem jf24 : (Tryz.prog.stopsHeard) = true := by kernel_rfl
theorem jf25 : (Tryz.prog.mayEnter) = true := by kernel_rfl
theorem jf26 : (Rows.clusterNobodyRow.lifted == Tryz.prog.liftsFinal) = true := by kernel_rfl
theorem jf27 : (Tryz.prog.make == some Rows.clusterNobodyRow.make) = true := by kernel_rfl
theorem jf28 : (Rows.clusterNobodyRow.kinds == (if Rows.clusterNobodyRow.domain.isEmpty then [] else Tryz.f3.params.toList.map fun t => match Tryz.prog.underlying t with | some (.int k) => some k | _ => none)) = true := by kernel_rfl
theorem jf29 : (Rows.clusterNobodyRow.pinned == Rows.clusterNobodyRow.pinnedBy) = true := by kernel_rfl
theorem jf30 : (Rows.clusterNobodyRow.veiled == (Tryz.f3.params.toList ++ Rows.clusterNobodySpec.plain.varTypes Tryz.prog ++ Tryz.f3.resultTypes.toList).any (Tryz.prog.veiledRec ·)) = true := by kernel_rfl
theorem jf31 : (Rows.clusterNobodyRow.veiledFits Tryz.prog Tryz.f3.params.toList (Tryz.f3.params.toList ++ Rows.clusterNobodySpec.plain.varTypes Tryz.prog ++ Tryz.f3.resultTypes.toList)) = true := by kernel_rfl
theorem joined : joinedFacts Tryz.prog 3 Tryz.f3 Rows.clusterNobodySpec Rows.clusterNobodyRow = true := by
  unfold joinedFacts
  simp only [Bool.and_eq_true]
  exact ⟨⟨⟨⟨⟨⟨⟨⟨⟨⟨⟨⟨⟨⟨⟨⟨⟨⟨⟨⟨⟨⟨⟨⟨⟨⟨⟨⟨⟨⟨⟨jf0, laidOut⟩, jf2⟩, jf3⟩, jf4⟩, jf5⟩, jf6⟩, jf7⟩, jf8⟩, jf9⟩, jf10⟩, jf11⟩, jf12⟩, jf13⟩, jf14⟩, jf15⟩, jf16⟩, jf17⟩, jf18⟩, jf19⟩, jf20⟩, jf21⟩, jf22⟩, jf23⟩, jf24⟩, jf25⟩, jf26⟩, jf27⟩, jf28⟩, jf29⟩, jf30⟩, jf31⟩
end Go.Proofs.YtdjpjmojmppjkaaGreat
