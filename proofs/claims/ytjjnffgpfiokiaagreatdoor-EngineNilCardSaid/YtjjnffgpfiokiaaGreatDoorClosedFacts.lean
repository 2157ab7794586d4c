/- Facts about the program of the law EngineNil that its row asks for: each a closed one. No conditions. -/
import Derived.Test.YtjjnffgpfiokiaaGreatDoorCards
import Derived.Test.YtjjnffgpfiokiaaGreatDoorTie
import Derived.WalkKit
import Derived.ProofKit
import Derived.OpenShut
import Derived.LaidMore
import Derived.Lay
import Derived.Stop.Joined
namespace Go.Proofs.YtjjnffgpfiokiaaGreatDoor.closed
open Go Go.ChangeShapes Go.WideShapes Go.ChangeAt Go.RowKit
theorem jn : Tryz.pinned.checked.prog.funcNamed Rows.engineNilRow.func = some 3 := by kernel_rfl
theorem jp : false = Tryz.pinned.checked.prog.looks [] := by kernel_rfl
theorem jc1 : OpenClaim.wfByText (OpenSpec.ofChange Rows.engineNilSpec) Rows.engineNilRow = true := by kernel_rfl
theorem jc2 : Tryz.pinned.checked.prog.mainIs = some (Rows.engineNilCard.stood.harness.1, Rows.engineNilCard.stood.harness.2.toList) := by kernel_rfl
theorem goes_no {P : Program} (h : P.funcs.any Func.goes = false) (f : FuncId) : P.goes f = false := by
  have hf : ∀ g : FuncId, (P.funcs[g]?).any Func.goes = false := fun g => by
    cases hg : P.funcs[g]? with
    | none => rfl
    | some fn =>
      have hm : fn ∈ P.funcs := Array.mem_of_getElem? hg
      have := Array.any_eq_false'.1 h fn hm
      simpa using this
  unfold Program.goes
  rw [h, Bool.and_false, Bool.or_false]
  simp [hf]
theorem jg : Tryz.pinned.checked.prog.funcs.any Func.goes = false := by kernel_rfl
theorem jc3 : false = Rows.engineNilRow.goesBy Tryz.pinned.checked.prog := by
  have e : Tryz.pinned.checked.prog.goes = fun _ => false := funext (goes_no jg)
  show false = (((Tryz.pinned.checked.prog.funcNamed Rows.engineNilRow.func).any Tryz.pinned.checked.prog.goes) || false)
  rw [e, jn]
  rfl
theorem jf0 : Rows.engineNilRow.wf (OpenSpec.ofChange Rows.engineNilSpec) = true := by kernel_rfl
theorem jf1 : laidOutB Tryz.pinned.checked.prog = true := by kernel_rfl
theorem jf2 : mapsRowed Tryz.pinned.checked.prog = true := by kernel_rfl
theorem jf3 : Tryz.f3.params.all (Tryz.pinned.checked.prog.readableRec ·) = true := by kernel_rfl
theorem jf4 : namedTie Tryz.pinned.checked.prog Rows.engineNilRow.named Rows.engineNilSpec.vars = true := by kernel_rfl
theorem jf5 : (Rows.engineNilRow.stops == []) = true := by kernel_rfl
theorem jf6 : (Tryz.pinned.checked.prog.stops == []) = true := by kernel_rfl
theorem jf7 : (Rows.engineNilRow.knobs == []) = true := by kernel_rfl
theorem jf8 : (Tryz.pinned.checked.prog.stopKnobs == []) = true := by kernel_rfl
theorem jf9 : (Rows.engineNilRow.inPlace == Tryz.pinned.checked.prog.inPlace 3) = true := by kernel_rfl
theorem jf10 : (Rows.engineNilRow.unfollowed == Tryz.pinned.checked.prog.unfollowed 3) = true := by kernel_rfl
theorem jf11 : (Rows.engineNilRow.recurses == Tryz.pinned.checked.prog.recurses 3) = true := by kernel_rfl
theorem jf12 : (Rows.engineNilRow.named == Tryz.pinned.checked.prog.varsNamed 3) = true := by kernel_rfl
theorem jf13 : (Rows.engineNilRow.maps == (Tryz.f3.params.toList ++ Rows.engineNilSpec.plain.varTypes Tryz.pinned.checked.prog).any (Tryz.pinned.checked.prog.mapsRec ·)) = true := by kernel_rfl
theorem jf14 : (Rows.engineNilRow.ifaces == (Tryz.f3.params.toList ++ Rows.engineNilSpec.plain.varTypes Tryz.pinned.checked.prog).any (Tryz.pinned.checked.prog.ifacesRec ·)) = true := by kernel_rfl
theorem jf15 : (Rows.engineNilRow.mapsOut == Tryz.pinned.checked.prog.mapsAmong Tryz.f3.resultTypes.toList) = true := by kernel_rfl
theorem jf16 : (Rows.engineNilRow.loops == (Tryz.f3.params.toList ++ Rows.engineNilSpec.plain.varTypes Tryz.pinned.checked.prog).any (Tryz.pinned.checked.prog.loopsFrom ·)) = true := by kernel_rfl
theorem jf17 : (Rows.engineNilRow.wideKeys == (Tryz.f3.params.toList ++ Rows.engineNilSpec.plain.varTypes Tryz.pinned.checked.prog ++ Tryz.f3.resultTypes.toList).any (Tryz.pinned.checked.prog.wideKeysFrom ·)) = true := by kernel_rfl
theorem jf18 : Rows.engineNilSpec.vars.all (Tryz.pinned.checked.prog.varReadable ·) = true := by kernel_rfl
theorem jf19 : Tryz.f3.resultTypes.all (fun t => Tryz.pinned.checked.prog.readableRec t && decide (t < Tryz.pinned.checked.prog.types.size)) = true := by kernel_rfl
theorem jf20 : (Rows.engineNilRow.ifacesOut == Tryz.f3.resultTypes.toList.any (Tryz.pinned.checked.prog.ifacesRec ·)) = true := by kernel_rfl
theorem jf21 : (Rows.engineNilRow.loopsOut == Tryz.f3.resultTypes.toList.any (Tryz.pinned.checked.prog.loopsFrom ·)) = true := by kernel_rfl
theorem jf22 : (Rows.engineNilRow.plainKeys == Tryz.pinned.checked.prog.plainKeys) = true := by kernel_rfl
theorem jf23 : Rows.engineNilRow.shortTexts.isNone = true := by kernel_rfl
theorem jf24 : Tryz.pinned.checked.prog.stopsHeard = true := by kernel_rfl
theorem jf25 : Tryz.pinned.checked.prog.mayEnter = true := by kernel_rfl
theorem jf26 : (Rows.engineNilRow.lifted == Tryz.pinned.checked.prog.liftsFinal) = true := by kernel_rfl
theorem jf27 : (Tryz.pinned.checked.prog.make == some Rows.engineNilRow.make) = true := by kernel_rfl
theorem jf28 : (Rows.engineNilRow.kinds == (if Rows.engineNilRow.domain.isEmpty then [] else Tryz.f3.params.toList.map fun t => match Tryz.pinned.checked.prog.underlying t with | some (.int k) => some k | _ => none)) = true := by kernel_rfl
theorem jf29 : (Rows.engineNilRow.pinned == Rows.engineNilRow.pinnedBy) = true := by kernel_rfl
theorem jf30 : (Rows.engineNilRow.veiled == (Tryz.f3.params.toList ++ Rows.engineNilSpec.plain.varTypes Tryz.pinned.checked.prog ++ Tryz.f3.resultTypes.toList).any (Tryz.pinned.checked.prog.veiledRec ·)) = true := by kernel_rfl
theorem jf31 : Rows.engineNilRow.veiledFits Tryz.pinned.checked.prog Tryz.f3.params.toList (Tryz.f3.params.toList ++ Rows.engineNilSpec.plain.varTypes Tryz.pinned.checked.prog ++ Tryz.f3.resultTypes.toList) = true := by kernel_rfl
set_option maxRecDepth 100000 in
theorem jf : joinedFacts Tryz.pinned.checked.prog 3 Tryz.f3 Rows.engineNilSpec Rows.engineNilRow = true := by
  unfold joinedFacts
  simp only [Bool.and_eq_true]
  exact ⟨⟨⟨⟨⟨⟨⟨⟨⟨⟨⟨⟨⟨⟨⟨⟨⟨⟨⟨⟨⟨⟨⟨⟨⟨⟨⟨⟨⟨⟨⟨jf0, jf1⟩, jf2⟩, jf3⟩, jf4⟩, jf5⟩, jf6⟩, jf7⟩, jf8⟩, jf9⟩, jf10⟩, jf11⟩, jf12⟩, jf13⟩, jf14⟩, jf15⟩, jf16⟩, jf17⟩, jf18⟩, jf19⟩, jf20⟩, jf21⟩, jf22⟩, jf23⟩, jf24⟩, jf25⟩, jf26⟩, jf27⟩, jf28⟩, jf29⟩, jf30⟩, jf31⟩
end Go.Proofs.YtjjnffgpfiokiaaGreatDoor.closed
