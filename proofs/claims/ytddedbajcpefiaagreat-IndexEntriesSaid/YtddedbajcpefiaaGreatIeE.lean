import Derived.Test.YtddedbajcpefiaaGreatCrcE
import Derived.Test.YtddedbajcpefiaaGreatIeD
namespace Go.Proofs.Ie
open Go Go.Ev Go.RowKit
noncomputable def hk0 (_f : Nat) : HK := .plain
noncomputable def tb0 : List (Nat × XK) := [(81, .cmp)]
theorem fn4 : ∃ (fn : Func) (c : Code), Tryz.prog.funcs[4]? = some fn ∧ fn.body = some c := ⟨Tryz.prog.funcs[4]!, (Tryz.prog.funcs[4]!).body.getD .skip, by kernel_rfl, by kernel_rfl⟩
theorem noGo : (Tryz.prog.funcs.toList.all fun fn => !(fn.name == "runtime.NumGoroutine")) = true := by decide +kernel
theorem fo : Tryz.prog.follows .mixedOrders = true := by decide +kernel
set_option maxRecDepth 100000 in
theorem run : allTr ((lvlM Tryz.prog (fun _ => none) (drawn Tryz.prog (fun _ => none)) (extT Tryz.prog tb0) 100000 hk0 24).1 4 [] H00) = true := by decide +kernel
theorem noGo' (f : FuncId) (fn : Func) (h : Tryz.prog.funcs[f]? = some fn) : (fn.name == "runtime.NumGoroutine") = false := by
  have hm : fn ∈ Tryz.prog.funcs.toList := Array.mem_toList_iff.2 (Array.mem_of_getElem? h)
  have := List.all_eq_true.1 noGo fn hm
  simpa using this
theorem tbOk : ∀ r ∈ tb0, ∀ fn : Func, Tryz.prog.funcs[r.1]? = some fn → (fn.name == "runtime.NumGoroutine") = false ∧ Extern.findNext fn = none ∧ Extern.find fn = some (r.2.sem fn) := by
  intro r hr fn hf
  have hr : r = (81, .cmp) := by simpa [tb0] using hr
  subst hr
  obtain ⟨fn', h1, h2, _, h4, h5⟩ := fn81
  have : fn = fn' := Option.some.inj (hf.symm.trans h1)
  subst this
  exact ⟨h2, h4, h5⟩
theorem known_w (w : World) : Calls Tryz.prog 4 #[] w (fun e w' => e = .returned (.bool true) ∧ Below w.heap.size w w') :=
  ev_callsM noGo' run w (fun g r h => by cases h) (drawn_ok fo (fun g r h => by cases h)) (extT_ok tbOk) (fun f s h => by cases h) fn4
end Go.Proofs.Ie
