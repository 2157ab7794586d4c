/- Facts about the program of the law RewindNil that its row asks for: each a closed one. No conditions. -/
import Derived.Test.YtjdjpjebbdcfeaaGreatDoorCards
import Derived.Test.YtjdjpjebbdcfeaaGreatDoorTie
import Derived.WalkKit
import Derived.ProofKit
import Derived.OpenShut
import Derived.LaidMore
import Derived.Lay
import Derived.Stop.Joined
namespace Go.Proofs.YtjdjpjebbdcfeaaGreatDoor.closed
open Go Go.ChangeShapes Go.WideShapes Go.ChangeAt Go.RowKit
theorem jn : Tryz.pinned.checked.prog.funcNamed Rows.rewindNilRow.func = some 3 := by kernel_rfl
theorem jf0 : Rows.rewindNilRow.wf (OpenSpec.ofChange Rows.rewindNilSpec) = true := by kernel_rfl
theorem jf1 : laidOutB Tryz.pinned.checked.prog = true := by kernel_rfl
theorem jf2 : mapsRowed Tryz.pinned.checked.prog = true := by kernel_rfl
theorem jf3 : Tryz.f3.params.all (Tryz.pinned.checked.prog.readableRec ·) = true := by kernel_rfl
theorem jf4 : namedTie Tryz.pinned.checked.prog Rows.rewindNilRow.named Rows.rewindNilSpec.vars = true := by kernel_rfl
theorem jf5 : (Rows.rewindNilRow.stops == []) = true := by kernel_rfl
theorem jf6 : (Tryz.pinned.checked.prog.stops == []) = true := by kernel_rfl
theorem jf7 : (Rows.rewindNilRow.knobs == []) = true := by kernel_rfl
theorem jf8 : (Tryz.pinned.checked.prog.stopKnobs == []) = true := by kernel_rfl
theorem jf9 : (Rows.rewindNilRow.inPlace == Tryz.pinned.checked.prog.inPlace 3) = true := by kernel_rfl
theorem jf10 : (Rows.rewindNilRow.unfollowed == Tryz.pinned.checked.prog.unfollowed 3) = true := by kernel_rfl
theorem jf11 : (Rows.rewindNilRow.recurses == Tryz.pinned.checked.prog.recurses 3) = true := by kernel_rfl
theorem jf12 : (Rows.rewindNilRow.named == Tryz.pinned.checked.prog.varsNamed 3) = true := by kernel_rfl
theorem jf13 : (Rows.rewindNilRow.maps == (Tryz.f3.params.toList ++ Rows.rewindNilSpec.plain.varTypes Tryz.pinned.checked.prog).any (Tryz.pinned.checked.prog.mapsRec ·)) = true := by kernel_rfl
theorem jf14 : (Rows.rewindNilRow.ifaces == (Tryz.f3.params.toList ++ Rows.rewindNilSpec.plain.varTypes Tryz.pinned.checked.prog).any (Tryz.pinned.checked.prog.ifacesRec ·)) = true := by kernel_rfl
theorem jf15 : (Rows.rewindNilRow.mapsOut == Tryz.pinned.checked.prog.mapsAmong Tryz.f3.resultTypes.toList) = true := by kernel_rfl
theorem jf16 : (Rows.rewindNilRow.loops == (Tryz.f3.params.toList ++ Rows.rewindNilSpec.plain.varTypes Tryz.pinned.checked.prog).any (Tryz.pinned.checked.prog.loopsFrom ·)) = true := by kernel_rfl
theorem jf17 : (Rows.rewindNilRow.wideKeys == (Tryz.f3.params.toList ++ Rows.rewindNilSpec.plain.varTypes Tryz.pinned.checked.prog ++ Tryz.f3.resultTypes.toList).any (Tryz.pinned.checked.prog.wideKeysFrom ·)) = true := by kernel_rfl
theorem jf18 : Rows.rewindNilSpec.vars.all (Tryz.pinned.checked.prog.varReadable ·) = true := by kernel_rfl
theorem jf19 : Tryz.f3.resultTypes.all (fun t => Tryz.pinned.checked.prog.readableRec t && decide (t < Tryz.pinned.checked.prog.types.size)) = true := by kernel_rfl
theorem jf20 : (Rows.rewindNilRow.ifacesOut == Tryz.f3.resultTypes.toList.any (Tryz.pinned.checked.prog.ifacesRec ·)) = true := by kernel_rfl
theorem jf21 : (Rows.rewindNilRow.loopsOut == Tryz.f3.resultTypes.toList.any (Tryz.pinned.checked.prog.loopsFrom ·)) = true := by kernel_rfl
theorem jf22 : (Rows.rewindNilRow.plainKeys == Tryz.pinned.checked.prog.plainKeys) = true := by kernel_rfl
theorem jf23 : Rows.rewindNilRow.shortTexts.isNone = true := by kernel_rfl
theorem jf24 : Tryz.pinned.checked.prog.stopsHeard = true := by kernel_rfl
theorem jf25 : Tryz.pinned.checked.prog.mayEnter = true := by kernel_rfl
theorem jf26 : (Rows.rewindNilRow.lifted == Tryz.pinned.checked.prog.liftsFinal) = true := by kernel_rfl
theorem jf27 : (Tryz.pinned.checked.prog.make == some Rows.rewindNilRow.make) = true := by kernel_rfl
theorem jf28 : (Rows.rewindNilRow.kinds == (if Rows.rewindNilRow.domain.isEmpty then [] else Tryz.f3.params.toList.map fun t => match Tryz.pinned.checked.prog.underlying t with | some (.int k) => some k | _ => none)) = true := by kernel_rfl
theorem jf29 : (Rows.rewindNilRow.pinned == Rows.rewindNilRow.pinnedBy) = true := by kernel_rfl
theorem jf30 : (Rows.rewindNilRow.veiled == (Tryz.f3.params.toList ++ Rows.rewindNilSpec.plain.varTypes Tryz.pinned.checked.prog ++ Tryz.f3.resultTypes.toList).any (Tryz.pinned.checked.prog.veiledRec ·)) = true := by kernel_rfl
theorem jf31 : Rows.rewindNilRow.veiledFits Tryz.pinned.checked.prog Tryz.f3.params.toList (Tryz.f3.params.toList ++ Rows.rewindNilSpec.plain.varTypes Tryz.pinned.checked.prog ++ Tryz.f3.resultTypes.toList) = true := by kernel_rfl
set_option maxRecDepth 100000 in
theorem jf : joinedFacts Tryz.pinned.checked.prog 3 Tryz.f3 Rows.rewindNilSpec Rows.rewindNilRow = true := by
  unfold joinedFacts
  simp only [Bool.and_eq_true]
  exact ⟨⟨⟨⟨⟨⟨⟨⟨⟨⟨⟨⟨⟨⟨⟨⟨⟨⟨⟨⟨⟨⟨⟨⟨⟨⟨⟨⟨⟨⟨⟨jf0, jf1⟩, jf2⟩, jf3⟩, jf4⟩, jf5⟩, jf6⟩, jf7⟩, jf8⟩, jf9⟩, jf10⟩, jf11⟩, jf12⟩, jf13⟩, jf14⟩, jf15⟩, jf16⟩, jf17⟩, jf18⟩, jf19⟩, jf20⟩, jf21⟩, jf22⟩, jf23⟩, jf24⟩, jf25⟩, jf26⟩, jf27⟩, jf28⟩, jf29⟩, jf30⟩, jf31⟩
end Go.Proofs.YtjdjpjebbdcfeaaGreatDoor.closed
