/- What the law itself knows: true, by the evaluator. -/
import Derived.Test.YtekafaeefpgnjaaCrcE
import Derived.Test.YtekafaeefpgnjaaProg
import Derived.KernelRfl
namespace Go.Proofs.Hb
open Go Go.Ev Go.RowKit
noncomputable def hk0 (_f : Nat) : HK := .plain
theorem fn4 : ∃ (fn : Func) (c : Code), Try.prog.funcs[4]? = some fn ∧ fn.body = some c := ⟨Try.prog.funcs[4]!, (Try.prog.funcs[4]!).body.getD .skip, by kernel_rfl, by kernel_rfl⟩
theorem noGo : (Try.prog.funcs.toList.all fun fn => !(fn.name == "runtime.NumGoroutine")) = true := by decide +kernel
theorem fo : Try.prog.follows .mixedOrders = true := by decide +kernel
set_option maxRecDepth 100000 in
set_option maxHeartbeats 100000000 in
theorem run : allTr ((lvlM Try.prog (fun _ => none) (drawn Try.prog (fun _ => none)) (fun _ _ _ => none) 100000 hk0 24).1 4 [] H00) = true := by decide +kernel
theorem noGo' (f : FuncId) (fn : Func) (h : Try.prog.funcs[f]? = some fn) : (fn.name == "runtime.NumGoroutine") = false := by
  have hm : fn ∈ Try.prog.funcs.toList := Array.mem_toList_iff.2 (Array.mem_of_getElem? h)
  have := List.all_eq_true.1 noGo fn hm
  simpa using this
theorem known_any (w : World) : Calls Try.prog 4 #[] w fun e w' => e = .returned (.bool true) ∧ Below w.heap.size w w' :=
  ev_callsM noGo' run w (fun g r h => by cases h) (drawn_ok fo (fun g r h => by cases h)) (fun f fn l E H w args r _ _ h => by cases h) (fun f s h => by cases h) fn4
end Go.Proofs.Hb
