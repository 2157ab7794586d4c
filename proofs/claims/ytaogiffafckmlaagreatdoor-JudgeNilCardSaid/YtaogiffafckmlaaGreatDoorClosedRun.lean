/- The run of the law JudgeNil: out of any world it answers true, and what lay there stands as it did. No conditions. -/
import Derived.Test.YtaogiffafckmlaaGreatDoorCrcE
import Derived.Test.YtaogiffafckmlaaGreatDoorCrcW
import Derived.Test.YtaogiffafckmlaaGreatDoorEqE
import Derived.Test.YtaogiffafckmlaaGreatDoorEqW
import Derived.Test.YtaogiffafckmlaaGreatDoorDfE
import Derived.Test.YtaogiffafckmlaaGreatDoorDiffW
import Derived.Test.YtaogiffafckmlaaGreatDoorSyE
import Derived.Test.YtaogiffafckmlaaGreatDoorSyW
import Derived.Test.YtaogiffafckmlaaGreatDoorMnE
import Derived.Test.YtaogiffafckmlaaGreatDoorMnW
namespace Go.Proofs.YtaogiffafckmlaaGreatDoor.closed
open Go Go.Ev Go.RowKit
theorem fnF : ∃ (fn : Func) (c : Code), Tryz.prog.funcs[3]? = some fn ∧ fn.body = some c := ⟨Tryz.prog.funcs[3]!, (Tryz.prog.funcs[3]!).body.getD .skip, by kernel_rfl, by kernel_rfl⟩
theorem fnSUM : ∃ (fn : Func) (c : Code), Tryz.prog.funcs[138]? = some fn ∧ fn.body = some c := ⟨Tryz.prog.funcs[138]!, (Tryz.prog.funcs[138]!).body.getD .skip, by kernel_rfl, by kernel_rfl⟩
theorem fnEQ : ∃ (fn : Func) (c : Code), Tryz.prog.funcs[265]? = some fn ∧ fn.body = some c := ⟨Tryz.prog.funcs[265]!, (Tryz.prog.funcs[265]!).body.getD .skip, by kernel_rfl, by kernel_rfl⟩
theorem fnDIFF : ∃ (fn : Func) (c : Code), Tryz.prog.funcs[361]? = some fn ∧ fn.body = some c := ⟨Tryz.prog.funcs[361]!, (Tryz.prog.funcs[361]!).body.getD .skip, by kernel_rfl, by kernel_rfl⟩
theorem fnSYNC : ∃ (fn : Func) (c : Code), Tryz.prog.funcs[139]? = some fn ∧ fn.body = some c := ⟨Tryz.prog.funcs[139]!, (Tryz.prog.funcs[139]!).body.getD .skip, by kernel_rfl, by kernel_rfl⟩
theorem fnMAY : ∃ (fn : Func) (c : Code), Tryz.prog.funcs[131]? = some fn ∧ fn.body = some c := ⟨Tryz.prog.funcs[131]!, (Tryz.prog.funcs[131]!).body.getD .skip, by kernel_rfl, by kernel_rfl⟩
theorem noGo : (Tryz.prog.funcs.toList.all fun fn => !(fn.name == "runtime.NumGoroutine")) = true := by decide +kernel
theorem fo : Tryz.prog.follows .mixedOrders = true := by decide +kernel
/-- Which functions are known, and which are called on a part of memory. -/
noncomputable def hk (f : Nat) : HK := cnd (Nat.beq f 138) (.known crcA) (cnd (Nat.beq f 265) (.known eqA) (cnd (Nat.beq f 361) (.known (dfA 5)) (cnd (Nat.beq f 139) (.known syA) (cnd (Nat.beq f 131) (.known mnA) (cnd (Nat.beq f 91) (.small 8) (cnd (Nat.beq f 134) (.small 3) (cnd (Nat.beq f 255) (.small 4) (cnd (Nat.beq f 107) (.small 3) (cnd (Nat.beq f 271) (.small 3) (.plain))))))))))
set_option maxRecDepth 100000 in
set_option maxHeartbeats 100000000 in
theorem run : allTr ((lvlM Tryz.prog (fun _ => none) (drawn Tryz.prog (fun _ => none)) (fun _ _ _ => none) 100000 hk 24).1 3 [] H00) = true := by decide +kernel
theorem noGo' (f : FuncId) (fn : Func) (h : Tryz.prog.funcs[f]? = some fn) : (fn.name == "runtime.NumGoroutine") = false := by
  have hm : fn ∈ Tryz.prog.funcs.toList := Array.mem_toList_iff.2 (Array.mem_of_getElem? h)
  have := List.all_eq_true.1 noGo fn hm
  simpa using this
theorem known (base : Nat) (w0 : World) : KnownOk Tryz.prog base w0 hk := by
  intro f s h
  unfold hk at h
  rw [cnd_eq] at h
  split at h
  · rename_i e
    obtain rfl := Nat.eq_of_beq_eq_true e
    cases h
    exact ⟨fnSUM, crc_known crc.sum_any⟩
  · skip
    rw [cnd_eq] at h
    split at h
    · rename_i e
      obtain rfl := Nat.eq_of_beq_eq_true e
      cases h
      exact ⟨fnEQ, eq_known crc.eq_any⟩
    · skip
      rw [cnd_eq] at h
      split at h
      · rename_i e
        obtain rfl := Nat.eq_of_beq_eq_true e
        cases h
        exact ⟨fnDIFF, df_known crc.diff_known⟩
      · skip
        rw [cnd_eq] at h
        split at h
        · rename_i e
          obtain rfl := Nat.eq_of_beq_eq_true e
          cases h
          exact ⟨fnSYNC, sy_known crc.sync_any⟩
        · skip
          rw [cnd_eq] at h
          split at h
          · rename_i e
            obtain rfl := Nat.eq_of_beq_eq_true e
            cases h
            exact ⟨fnMAY, mn_known crc.may_any⟩
          · skip
            rw [cnd_eq] at h
            split at h
            · cases h
            · skip
              rw [cnd_eq] at h
              split at h
              · cases h
              · skip
                rw [cnd_eq] at h
                split at h
                · cases h
                · skip
                  rw [cnd_eq] at h
                  split at h
                  · cases h
                  · skip
                    rw [cnd_eq] at h
                    split at h
                    · cases h
                    · skip
                      cases h
theorem walk (w : World) : Calls Tryz.prog 3 #[] w (fun e w' => e = .returned (.bool true) ∧ Below w.heap.size w w') :=
  ev_callsM noGo' run w (fun g r h => by cases h) (drawn_ok fo (fun g r h => by cases h)) (fun f fn l E H w args r _ _ h => by cases h) (known _ _) fnF
end Go.Proofs.YtaogiffafckmlaaGreatDoor.closed
