/- The run of the law RewindNil: out of any world it answers true, and what lay there stands as it did. No conditions. -/
import Derived.Test.YtjdjpjebbdcfeaaGreatDoorCrcE
import Derived.Test.YtjdjpjebbdcfeaaGreatDoorEqE
import Derived.Test.YtjdjpjebbdcfeaaGreatDoorDfE
import Derived.Test.YtjdjpjebbdcfeaaGreatDoorSyE
import Derived.Test.YtjdjpjebbdcfeaaGreatDoorCrcW
import Derived.Test.YtjdjpjebbdcfeaaGreatDoorEqW
import Derived.Test.YtjdjpjebbdcfeaaGreatDoorDiffW
import Derived.Test.YtjdjpjebbdcfeaaGreatDoorSyW
namespace Go.Proofs.YtjdjpjebbdcfeaaGreatDoor.closed
open Go Go.Ev Go.RowKit
theorem fnLaw : ∃ (fn : Func) (c : Code), Tryz.prog.funcs[3]? = some fn ∧ fn.body = some c := ⟨Tryz.prog.funcs[3]!, (Tryz.prog.funcs[3]!).body.getD .skip, by kernel_rfl, by kernel_rfl⟩
theorem fnSum : ∃ (fn : Func) (c : Code), Tryz.prog.funcs[76]? = some fn ∧ fn.body = some c := ⟨Tryz.prog.funcs[76]!, (Tryz.prog.funcs[76]!).body.getD .skip, by kernel_rfl, by kernel_rfl⟩
theorem fnEq : ∃ (fn : Func) (c : Code), Tryz.prog.funcs[35]? = some fn ∧ fn.body = some c := ⟨Tryz.prog.funcs[35]!, (Tryz.prog.funcs[35]!).body.getD .skip, by kernel_rfl, by kernel_rfl⟩
theorem fnDiff : ∃ (fn : Func) (c : Code), Tryz.prog.funcs[255]? = some fn ∧ fn.body = some c := ⟨Tryz.prog.funcs[255]!, (Tryz.prog.funcs[255]!).body.getD .skip, by kernel_rfl, by kernel_rfl⟩
theorem fnSync : ∃ (fn : Func) (c : Code), Tryz.prog.funcs[178]? = some fn ∧ fn.body = some c := ⟨Tryz.prog.funcs[178]!, (Tryz.prog.funcs[178]!).body.getD .skip, by kernel_rfl, by kernel_rfl⟩
theorem noGo : (Tryz.prog.funcs.toList.all fun fn => !(fn.name == "runtime.NumGoroutine")) = true := by decide +kernel
theorem fo : Tryz.prog.follows .mixedOrders = true := by decide +kernel
/-- Which functions are known, and which are called on a part of memory. -/
noncomputable def hk (f : Nat) : HK := cnd (Nat.beq f 76) (.known crcA) (cnd (Nat.beq f 35) (.known eqA) (cnd (Nat.beq f 255) (.known (dfA 5)) (cnd (Nat.beq f 178) (.known syA) (cnd (Nat.beq f 88) (.small 8) (cnd (Nat.beq f 174) (.small 3) (cnd (Nat.beq f 159) (.small 4) (cnd (Nat.beq f 133) (.small 3) (.plain))))))))
set_option maxRecDepth 100000 in
set_option maxHeartbeats 100000000 in
theorem run : allTr ((lvlM Tryz.prog (fun _ => none) (drawn Tryz.prog (fun _ => none)) (fun _ _ _ => none) 100000 hk 24).1 3 [] H00) = true := by decide +kernel
theorem noGo' (f : FuncId) (fn : Func) (h : Tryz.prog.funcs[f]? = some fn) : (fn.name == "runtime.NumGoroutine") = false := by
  have hm : fn ∈ Tryz.prog.funcs.toList := Array.mem_toList_iff.2 (Array.mem_of_getElem? h)
  have := List.all_eq_true.1 noGo fn hm
  simpa using this
theorem known (base : Nat) (w0 : World) : KnownOk Tryz.prog base w0 hk := by
  intro f s h
  unfold hk at h
  rw [cnd_eq] at h
  split at h
  · rename_i e
    obtain rfl := Nat.eq_of_beq_eq_true e
    cases h
    exact ⟨fnSum, crc_known crc.sum_any⟩
  · skip
    rw [cnd_eq] at h
    split at h
    · rename_i e
      obtain rfl := Nat.eq_of_beq_eq_true e
      cases h
      exact ⟨fnEq, eq_known crc.eq_any⟩
    · skip
      rw [cnd_eq] at h
      split at h
      · rename_i e
        obtain rfl := Nat.eq_of_beq_eq_true e
        cases h
        exact ⟨fnDiff, df_known crc.diff_known⟩
      · skip
        rw [cnd_eq] at h
        split at h
        · rename_i e
          obtain rfl := Nat.eq_of_beq_eq_true e
          cases h
          exact ⟨fnSync, sy_known crc.sync_any⟩
        · skip
          rw [cnd_eq] at h
          split at h
          · cases h
          · skip
            rw [cnd_eq] at h
            split at h
            · cases h
            · skip
              rw [cnd_eq] at h
              split at h
              · cases h
              · skip
                rw [cnd_eq] at h
                split at h
                · cases h
                · cases h
theorem walk (w : World) : Calls Tryz.prog 3 #[] w (fun e w' => e = .returned (.bool true) ∧ Below w.heap.size w w') :=
  ev_callsM noGo' run w (fun g r h => by cases h) (drawn_ok fo (fun g r h => by cases h)) (fun f fn l E H w args r _ _ h => by cases h) (known _ _) fnLaw

end Go.Proofs.YtjdjpjebbdcfeaaGreatDoor.closed
