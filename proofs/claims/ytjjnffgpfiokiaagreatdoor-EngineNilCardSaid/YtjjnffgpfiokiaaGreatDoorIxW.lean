/- The walk of slices.Index on bools, over the seat's own translation. -/
import Derived.Test.YtjjnffgpfiokiaaGreatDoorIxE
import Derived.Test.YtjjnffgpfiokiaaGreatDoorProg
import Derived.WalkKit
import Derived.ProofKit
import Derived.KernelRfl
import Derived.Lib.Hide
namespace Go.Proofs.YtjjnffgpfiokiaaGreatDoor.crc
open Go Go.RowKit Go.Ev
theorem szO : szOf Tryz.prog 4 = some 1 := by kernel_rfl
set_option maxRecDepth 100000 in
theorem idx_any (g off n cap : Nat) (f : Nat → Bool) (b : Bool) (w : World) (h : ∀ j, j < n → w.cell? ⟨g, off + j, none⟩ = some (.bool (f j))) (hn : n < 1000000) :
    Calls Tryz.prog 326 #[.slice (some ⟨g, off, none⟩) n cap, .bool b] w fun e w' => e = .returned (.int .i64 (fndI f b n 0)) ∧ Below w.heap.size w w' := by
  have H := Lib.hid h
  clear h
  go_enter Tryz.func326, Tryz.ntmps326
  go_wp2
  go_loop [8] (fun t8 => ∃ i : Nat, i ≤ n ∧ t8 = .int .i64 (i : Int) ∧ fndI f b n 0 = fndI f b (n - i) i) (fun t8 => n - (intOf t8).toNat)
  case atStart => exact ⟨0, by omega, rfl, rfl⟩
  case round =>
    obtain ⟨i, hi, rfl, hf⟩ := hrel
    have HF := Lib.hid hf
    clear hf
    by_cases hlt : i < n
    · have hc := H.out i hlt
      have HL := Lib.hid hlt
      have hs := fndI_step f b (m := n - i) (i := i) (by omega)
      have HS := Lib.hid hs
      clear hs
      generalize hx : f i = x at hc
      go_wp2
      · have hb : (b == x) = true := by assumption
        have e : fndI f b n 0 = (i : Int) := by rw [HF.out, HS.out, if_pos (by rw [hx]; exact (eq_of_beq hb).symm)]
        exact ⟨rfl, .int .i64 (i : Int), by simp [results, Tryz.f326], by rw [e], Below.refl _ _⟩
      · have hb : (b == x) = false := by assumption
        have e : fndI f b n 0 = fndI f b (n - (i + 1)) (i + 1) := by
          rw [HF.out, HS.out, if_neg (by rw [hx]; intro hh; rw [hh] at hb; simp at hb), show n - i - 1 = n - (i + 1) by omega]
        exact ⟨⟨i + 1, by have := HL.out; omega, congrArg (Value.int .i64) (by omega), e⟩, by have := HL.out; simp [intOf]; omega⟩
    · have he : i = n := by omega
      subst he
      have e : fndI f b i 0 = -1 := by rw [HF.out, Nat.sub_self]; rfl
      go_wp2
      exact ⟨rfl, .int .i64 (-1), by simp [results, Tryz.f326], by first | rfl | rw [e], Below.refl _ _⟩
end Go.Proofs.YtjjnffgpfiokiaaGreatDoor.crc
