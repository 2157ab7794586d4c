/- The walk of a number's bytes, over the seat's own translation. -/
import Derived.Test.YtjjnffgpfiokiaaGreatDoorPuE
import Derived.Test.YtjjnffgpfiokiaaGreatDoorProg
import Derived.WalkKit
import Derived.ProofKit
import Derived.KernelRfl
import Derived.Lib.Hide
namespace Go.Proofs.YtjjnffgpfiokiaaGreatDoor.crc
open Go Go.RowKit Go.Ev
theorem infoB : (Tryz.prog.info? 5).map (fun i => (i.zero, i.size, i.bytes)) = some (some (.int .u8 0), 1, 1) := by kernel_rfl
theorem szB : szOf Tryz.prog 5 = some 1 := by kernel_rfl
set_option maxRecDepth 100000 in
set_option maxHeartbeats 1000000 in
theorem put_any (v k : Nat) (h1 : 1 ≤ k) (h8 : k ≤ 8) (hv : v < 18446744073709551616) (hv2 : v < 256 ^ k) (w : World) : Calls Tryz.prog 343 #[.int .u64 (v : Int), .int .i64 (k : Int)] w fun e w' =>
    (∃ g, e = .returned (.tuple #[.slice (some ⟨g, 0, none⟩) k k, .int .i64 0]) ∧ w.heap.size ≤ g ∧ w'.heap[g]? = some (.cells (u8L (beB v k)).toArray 5 (0, 0))) ∧ Below w.heap.size w w' := by
  obtain ⟨i0, hi, hz0, hz1, hz2⟩ := info_parts infoB
  have H1 : 0 < (k : Int) := by omega
  have H8 : (k : Int) ≤ 8 := by omega
  have HN := Lib.hid (heap_alloc_new w (.cells (madeCells #[.int .u8 0] k) 5))
  have HB := Lib.hid ((Below.refl w.heap.size w).alloc (Nat.le_refl _) (.cells (madeCells #[.int .u8 0] k) 5))
  rw [rowM_zero v] at HN HB
  go_enter Tryz.func343, Tryz.ntmps343
  go_wp2_with (first
    | (refine wpList_make_row _ rfl _ _ 70 rfl 5 i0 (.int .u8 0) Tryz.underlying70 hi hz0 hz1 rfl .i64 .i64 k rfl rfl (by rw [hz2]; omega) (by omega) ?_; rw [rowM_zero v]; generalize w.alloc (.cells (rowM v k 0).toArray 5) = W0 at HN HB ⊢)
    | go_in)
  go_loopw [0, 7] (fun t0 t7 wr => ∃ m : Nat, m ≤ k ∧ t0 = .int .u64 ((v / 256 ^ m : Nat) : Int) ∧ t7 = .int .i64 ((k : Int) - 1 - (m : Int)) ∧ wr.heap[w.heap.size]? = some (.cells (rowM v k m).toArray 5 (0, 0)) ∧ Below w.heap.size w wr ∧ w.heap.size < wr.heap.size) (fun _ t7 _ => ((intOf t7) + 1).toNat)
  case atStart => exact ⟨0, by omega, by simp, by simp, HN.out, HB.out, (Array.getElem?_eq_some_iff.1 HN.out).1⟩
  case round =>
    obtain ⟨m, hm, rfl, rfl, hrow, hbl, hlt⟩ := hrel
    have HR := Lib.hid hrow
    have HBL := Lib.hid hbl
    clear hrow hbl
    by_cases hmk : m < k
    · have e0 : (k : Int) - 1 - (m : Int) = ((k - 1 - m : Nat) : Int) := by omega
      rw [e0]
      have hvm : v / 256 ^ m < 18446744073709551616 := Nat.lt_of_le_of_lt (Nat.div_le_self _ _) hv
      have HS := Lib.hid (rowM_step (v := v) hmk)
      have HM := Lib.hid hmk
      have HI := Lib.hid (show k - 1 - m < k by omega)
      have HIlen := Lib.hid (show 0 + (k - 1 - m) * 1 + 1 ≤ (rowM v k m).toArray.size by simp [rowM_len (Nat.le_of_lt hmk)]; omega)
      clear hmk
      generalize hx : v / 256 ^ m = x at hvm
      generalize hj : k - 1 - m = j
      go_wp2_with (first
        | refine wl_ia rfl 70 _ _ rfl 5 w.heap.size 0 k k 1 j rfl rfl Tryz.underlying70 szB (by rw [← hj]; exact HI.out) ?_
        | refine wl_store rfl 5 _ _ rfl ⟨w.heap.size, 0 + j * 1, none⟩ rfl (.int .u8 ((x % 256 : Nat) : Int)) (congrArg (Value.int .u8) (Int.natCast_emod x 256).symm) _ (st_any HR.out (.inl rfl) szB rfl (by rw [← hj]; exact HIlen.out) (by intro u hu; simp [Value.cells] at hu; subst hu; rfl)) ?_
        | go_in)
      have hnew : (putB wr w.heap.size (.cells (wrL (rowM v k m).toArray.toList (0 + j * 1) [Value.int .u8 ((x % 256 : Nat) : Int)]).toArray 5 (0, 0))).heap[w.heap.size]? = some (.cells (rowM v k (m + 1)).toArray 5 (0, 0)) := by
        rw [putB_get, if_pos rfl, if_pos hlt, show 0 + j * 1 = k - 1 - m by omega, ← hx, HS.out]
      refine ⟨⟨m + 1, by have := HM.out; omega, by rw [Nat.pow_succ, ← Nat.div_div_eq_div_mul, hx, Int.natCast_ediv]; rfl, congrArg (Value.int .i64) (by have := HM.out; omega), by simpa using hnew, below_putB HBL.out (Nat.le_refl _) _, by rw [putB_size]; exact hlt⟩, by simp [intOf] <;> omega⟩
    · have e0 : m = k := by omega
      subst e0
      have hz : v / 256 ^ m = 0 := Nat.div_eq_of_lt hv2
      have hrow := HR.out
      rw [rowM_full] at hrow
      rw [hz]
      go_wp2
      go_ret2
      exact ⟨⟨w.heap.size, rfl, Nat.le_refl _, hrow⟩, HBL.out⟩
end Go.Proofs.YtjjnffgpfiokiaaGreatDoor.crc
