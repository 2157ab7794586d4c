/- Facts about the program of the law JudgeNil that its row asks for: each a closed one. No conditions. -/
import Derived.Test.YtaogiffafckmlaaGreatDoorCards
import Derived.Test.YtaogiffafckmlaaGreatDoorTie
import Derived.WalkKit
import Derived.ProofKit
import Derived.OpenShut
import Derived.LaidMore
import Derived.Lay
import Derived.Stop.Joined
namespace Go.Proofs.YtaogiffafckmlaaGreatDoor.closed
open Go Go.ChangeShapes Go.WideShapes Go.ChangeAt Go.RowKit
theorem jn : Tryz.pinned.checked.prog.funcNamed Rows.judgeNilRow.func = some 3 := by kernel_rfl
theorem jp : false = Tryz.pinned.checked.prog.looks [] := by kernel_rfl
theorem jc1 : OpenClaim.wfByText (OpenSpec.ofChange Rows.judgeNilSpec) Rows.judgeNilRow = true := by kernel_rfl
theorem jc2 : Tryz.pinned.checked.prog.mainIs = some (Rows.judgeNilCard.stood.harness.1, Rows.judgeNilCard.stood.harness.2.toList) := by kernel_rfl
theorem goes_no {P : Program} (h : P.funcs.any Func.goes = false) (f : FuncId) : P.goes f = false := by
  have hf : ∀ g : FuncId, (P.funcs[g]?).any Func.goes = false := fun g => by
    cases hg : P.funcs[g]? with
    | none => rfl
    | some fn =>
      have hm : fn ∈ P.funcs := Array.mem_of_getElem? hg
      have := Array.any_eq_false'.1 h fn hm
      simpa using this
  unfold Program.goes
  rw [h, Bool.and_false, Bool.or_false]
  simp [hf]
theorem jg : Tryz.pinned.checked.prog.funcs.any Func.goes = false := by kernel_rfl
theorem jc3 : false = Rows.judgeNilRow.goesBy Tryz.pinned.checked.prog := by
  have e : Tryz.pinned.checked.prog.goes = fun _ => false := funext (goes_no jg)
  show false = (((Tryz.pinned.checked.prog.funcNamed Rows.judgeNilRow.func).any Tryz.pinned.checked.prog.goes) || false)
  rw [e, jn]
  rfl
theorem jf0 : Rows.judgeNilRow.wf (OpenSpec.ofChange Rows.judgeNilSpec) = true := by kernel_rfl
theorem jf1 : laidOutB Tryz.pinned.checked.prog = true := by kernel_rfl
theorem jf2 : mapsRowed Tryz.pinned.checked.prog = true := by kernel_rfl
theorem jf3 : Tryz.f3.params.all (Tryz.pinned.checked.prog.readableRec ·) = true := by kernel_rfl
theorem jf4 : namedTie Tryz.pinned.checked.prog Rows.judgeNilRow.named Rows.judgeNilSpec.vars = true := by kernel_rfl
theorem jf5 : (Rows.judgeNilRow.stops == []) = true := by kernel_rfl
theorem jf6 : (Tryz.pinned.checked.prog.stops == []) = true := by kernel_rfl
theorem jf7 : (Rows.judgeNilRow.knobs == []) = true := by kernel_rfl
theorem jf8 : (Tryz.pinned.checked.prog.stopKnobs == []) = true := by kernel_rfl
theorem jf9 : (Rows.judgeNilRow.inPlace == Tryz.pinned.checked.prog.inPlace 3) = true := by kernel_rfl
theorem jf10 : (Rows.judgeNilRow.unfollowed == Tryz.pinned.checked.prog.unfollowed 3) = true := by kernel_rfl
theorem jf11 : (Rows.judgeNilRow.recurses == Tryz.pinned.checked.prog.recurses 3) = true := by kernel_rfl
theorem jf12 : (Rows.judgeNilRow.named == Tryz.pinned.checked.prog.varsNamed 3) = true := by kernel_rfl
theorem jf13 : (Rows.judgeNilRow.maps == (Tryz.f3.params.toList ++ Rows.judgeNilSpec.plain.varTypes Tryz.pinned.checked.prog).any (Tryz.pinned.checked.prog.mapsRec ·)) = true := by kernel_rfl
theorem jf14 : (Rows.judgeNilRow.ifaces == (Tryz.f3.params.toList ++ Rows.judgeNilSpec.plain.varTypes Tryz.pinned.checked.prog).any (Tryz.pinned.checked.prog.ifacesRec ·)) = true := by kernel_rfl
theorem jf15 : (Rows.judgeNilRow.mapsOut == Tryz.pinned.checked.prog.mapsAmong Tryz.f3.resultTypes.toList) = true := by kernel_rfl
theorem jf16 : (Rows.judgeNilRow.loops == (Tryz.f3.params.toList ++ Rows.judgeNilSpec.plain.varTypes Tryz.pinned.checked.prog).any (Tryz.pinned.checked.prog.loopsFrom ·)) = true := by kernel_rfl
theorem jf17 : (Rows.judgeNilRow.wideKeys == (Tryz.f3.params.toList ++ Rows.judgeNilSpec.plain.varTypes Tryz.pinned.checked.prog ++ Tryz.f3.resultTypes.toList).any (Tryz.pinned.checked.prog.wideKeysFrom ·)) = true := by kernel_rfl
theorem jf18 : Rows.judgeNilSpec.vars.all (Tryz.pinned.checked.prog.varReadable ·) = true := by kernel_rfl
theorem jf19 : Tryz.f3.resultTypes.all (fun t => Tryz.pinned.checked.prog.readableRec t && decide (t < Tryz.pinned.checked.prog.types.size)) = true := by kernel_rfl
theorem jf20 : (Rows.judgeNilRow.ifacesOut == Tryz.f3.resultTypes.toList.any (Tryz.pinned.checked.prog.ifacesRec ·)) = true := by kernel_rfl
theorem jf21 : (Rows.judgeNilRow.loopsOut == Tryz.f3.resultTypes.toList.any (Tryz.pinned.checked.prog.loopsFrom ·)) = true := by kernel_rfl
theorem jf22 : (Rows.judgeNilRow.plainKeys == Tryz.pinned.checked.prog.plainKeys) = true := by kernel_rfl
theorem jf23 : Rows.judgeNilRow.shortTexts.isNone = true := by kernel_rfl
theorem jf24 : Tryz.pinned.checked.prog.stopsHeard = true := by kernel_rfl
theorem jf25 : Tryz.pinned.checked.prog.mayEnter = true := by kernel_rfl
theorem jf26 : (Rows.judgeNilRow.lifted == Tryz.pinned.checked.prog.liftsFinal) = true := by kernel_rfl
theorem jf27 : (Tryz.pinned.checked.prog.make == some Rows.judgeNilRow.make) = true := by kernel_rfl
theorem jf28 : (Rows.judgeNilRow.kinds == (if Rows.judgeNilRow.domain.isEmpty then [] else Tryz.f3.params.toList.map fun t => match Tryz.pinned.checked.prog.underlying t with | some (.int k) => some k | _ => none)) = true := by kernel_rfl
theorem jf29 : (Rows.judgeNilRow.pinned == Rows.judgeNilRow.pinnedBy) = true := by kernel_rfl
theorem jf30 : (Rows.judgeNilRow.veiled == (Tryz.f3.params.toList ++ Rows.judgeNilSpec.plain.varTypes Tryz.pinned.checked.prog ++ Tryz.f3.resultTypes.toList).any (Tryz.pinned.checked.prog.veiledRec ·)) = true := by kernel_rfl
theorem jf31 : Rows.judgeNilRow.veiledFits Tryz.pinned.checked.prog Tryz.f3.params.toList (Tryz.f3.params.toList ++ Rows.judgeNilSpec.plain.varTypes Tryz.pinned.checked.prog ++ Tryz.f3.resultTypes.toList) = true := by kernel_rfl
set_option maxRecDepth 100000 in
theorem jf : joinedFacts Tryz.pinned.checked.prog 3 Tryz.f3 Rows.judgeNilSpec Rows.judgeNilRow = true := by
  unfold joinedFacts
  simp only [Bool.and_eq_true]
  exact ⟨⟨⟨⟨⟨⟨⟨⟨⟨⟨⟨⟨⟨⟨⟨⟨⟨⟨⟨⟨⟨⟨⟨⟨⟨⟨⟨⟨⟨⟨⟨jf0, jf1⟩, jf2⟩, jf3⟩, jf4⟩, jf5⟩, jf6⟩, jf7⟩, jf8⟩, jf9⟩, jf10⟩, jf11⟩, jf12⟩, jf13⟩, jf14⟩, jf15⟩, jf16⟩, jf17⟩, jf18⟩, jf19⟩, jf20⟩, jf21⟩, jf22⟩, jf23⟩, jf24⟩, jf25⟩, jf26⟩, jf27⟩, jf28⟩, jf29⟩, jf30⟩, jf31⟩
end Go.Proofs.YtaogiffafckmlaaGreatDoor.closed
