/- The walk of which names a file may have, over the seat's own translation. -/
import Derived.Test.YtjjnffgpfiokiaaGreatDoorMnE
import Derived.Test.YtjjnffgpfiokiaaGreatDoorProg
import Derived.WalkKit
import Derived.ProofKit
import Derived.KernelRfl
import Derived.Lib.Hide
namespace Go.Proofs.YtjjnffgpfiokiaaGreatDoor.crc
open Go Go.RowKit Go.Ev
set_option maxRecDepth 100000 in
theorem may_any (s : ByteArray) (hs : s.size < 1000000) (w : World) : Calls Tryz.prog 367 #[.string s] w fun e w' => e = .returned (.bool (mayL (sB8 s))) ∧ Below w.heap.size w w' := by
  have hconv := Lib.run_convert_string_bytes (P := Tryz.prog) w 9 70 5 s (u := .string) (by kernel_rfl) (by kernel_rfl) (by kernel_rfl)
  have hB := Lib.hid (Lib.bytesWorld_below w 5 s)
  have hC := Lib.hid (fun (j : Nat) (hj : j < s.size) => (Lib.bytesWorld_cell w 5 s j hj).trans (congrArg (fun x : Nat => some (Value.int .u8 (x : Int))) (sB8_get hj).2))
  have hL := sB8_len s
  go_enter Tryz.func367, Tryz.ntmps367
  go_wp2_with (refine wl_conv rfl 9 70 _ rfl _ rfl _ _ hconv ?_; generalize Lib.bytesWorld w 5 s = W0 at hB hC ⊢)
  generalize grownCap w s.size 0 5 = cap
  go_loop [8] (fun t8 => ∃ i : Nat, i ≤ s.size ∧ t8 = .int .i64 (i : Int) ∧ ((sB8 s).take i).all okC = true) (fun t8 => s.size - (intOf t8).toNat)
  case atStart => exact ⟨0, by omega, rfl, rfl⟩
  case round =>
    obtain ⟨i, hi, rfl, hall⟩ := hrel
    by_cases hlt : i < s.size
    · have hc := hC.out i hlt
      have HB := Lib.hid hlt
      clear hlt
      generalize hcc : (sB8 s).getD i 0 = c at hc
      go_wp2
      all_goals first
        | (have hok : okC c = false := okC_false (by omega) (by omega) (by intro e; subst e; simp_all) (by intro e; subst e; simp_all)
           go_ret
           exact ⟨by rw [all_bad (i := i) (by have := HB.out; omega) (by rw [hcc]; exact hok)]; rfl, hB.out⟩)
        | (have hok : okC c = true := okC_true (by rintro ⟨a1, a2, a3, a4⟩; simp_all <;> omega)
           go_round
           case rel => exact ⟨i + 1, by have := HB.out; omega, by go_num, all_step hall (by have := HB.out; omega) (by rw [hcc]; exact hok)⟩
           case measure => (have := HB.out; simp [intOf]; omega))
    · have he : i = s.size := by omega
      subst he
      go_wp2
      · have h1 : 1 ≤ (s.size : Int) := by assumption
        exact ⟨rfl, _, by simp [results, Tryz.f367], congrArg (fun b => Ending.returned (.bool b)) (may_yes hall hL h1), hB.out⟩
      · have h1 : ¬ 1 ≤ (s.size : Int) := by first | assumption | omega
        exact ⟨rfl, _, by simp [results, Tryz.f367], congrArg (fun b => Ending.returned (.bool b)) (may_no hall hL h1), hB.out⟩
end Go.Proofs.YtjjnffgpfiokiaaGreatDoor.crc
