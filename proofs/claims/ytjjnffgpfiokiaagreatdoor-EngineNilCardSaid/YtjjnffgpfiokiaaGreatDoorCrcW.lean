/- The walk of crc.Sum, over the seat's own translation. -/
import Derived.Test.YtjjnffgpfiokiaaGreatDoorCrcE
import Derived.Test.YtjjnffgpfiokiaaGreatDoorProg
import Derived.WalkKit
import Derived.ProofKit
import Derived.KernelRfl
import Derived.IntWalk
import Derived.Lib.Hide
import Derived.Laws.Tables
namespace Go.Proofs.YtjjnffgpfiokiaaGreatDoor.crc
open Go Go.RowKit Go.Crc
theorem byX_int (p : Int) (_h0 : 0 ≤ p) (_h1 : p < 4294967296) (w : World) : Calls Tryz.prog 397 #[.int .u32 p] w fun e w' => e = .returned (.int .u32 (bxi p)) ∧ w = w' := by
  go_enter Tryz.func397, Tryz.ntmps397
  go_wp2
  · rename_i h
    go_ret
    exact ⟨ret_u32 (by unfold bxi; rw [if_pos h]), rfl⟩
  · rename_i h
    go_ret
    exact ⟨ret_u32 (by unfold bxi; rw [if_neg (by rw [h]; simp)]), rfl⟩
theorem byX_any (p : Nat) (h1 : p < 4294967296) (w : World) : Calls Tryz.prog 397 #[.int .u32 p] w fun e w' => e = .returned (.int .u32 (bx p : Nat)) ∧ w = w' := by
  rw [← bxi_eq p h1]
  exact byX_int p (by omega) (by omega) w
set_option maxRecDepth 100000 in
set_option maxHeartbeats 1000000 in
theorem bytes_any (w : World) : Calls Tryz.prog 344 #[] w fun e w' => (∃ c : Array Value, e = .returned (.agg c) ∧ c.size = 256 ∧ ∀ i, i < 256 → c[i]? = some (.int .u32 (tb i : Nat))) ∧ Below w.heap.size w w' := by
  go_enter Tryz.func344, Tryz.ntmps344
  go_wp2
  go_loopw [2] (fun t2 W => ∃ k : Nat, k ≤ 256 ∧ t2 = .int .i64 k ∧ Arr W w.heap.size 445 (fun i => if i < k then tb i else 0) ∧ Below w.heap.size w W) (fun t2 _ => 256 - (intOf t2).toNat)
  case atStart =>
    refine ⟨0, by omega, rfl, ⟨Tryz.zeroCells445, Array.getElem?_push_size, by kernel_rfl, fun i hi => ?_⟩, (Below.refl _ _).alloc (Nat.le_refl _) _⟩
    have : Tryz.zeroCells445 = Array.replicate 256 (.int .u32 0) := by kernel_rfl
    rw [this, Array.getElem?_replicate, if_pos hi]
    simp
  case round =>
    obtain ⟨k, hk, rfl, hA, hB⟩ := hrel
    by_cases hlt : k < 256
    · have c2 := hA.frozen k
      have c1 : wr.cell? { block := w.heap.size, off := k } = some (Value.int IntKind.u32 0) := by
        have := hA.cell hlt
        simpa using this
      have hS := hA.set hlt (v := k)
      have hdk : decide ((k : Int) < 256) = true := by simp; omega
      go_wp2
      go_loopw [9] (fun t9 W => ∃ j : Nat, j ≤ 8 ∧ t9 = .int .i64 j ∧ Arr W w.heap.size 445 (fun i => if i < k then tb i else if i = k then it j k else 0) ∧ Below w.heap.size w W) (fun t9 _ => 8 - (intOf t9).toNat)
      case atStart =>
        refine ⟨0, by omega, rfl, hS.cong fun i hi => ?_, hB.setCell (Nat.le_refl _) _⟩
        by_cases e : i = k
        · subst e; simp [it]
        · simp [e]
      case round =>
        obtain ⟨j, hj, rfl, hA2, hB2⟩ := hrel
        by_cases hlt2 : j < 8
        · have hF := Lib.hid (it_lt j (i := k) (by omega))
          have d2 := hA2.frozen k
          have d1 : wr.cell? { block := w.heap.size, off := k } = some (Value.int IntKind.u32 (it j k : Nat)) := by
            have := hA2.cell hlt
            simpa using this
          have hS2 := hA2.set hlt (v := bx (it j k))
          go_wp2_with (go_at_call 397; refine (byX_any _ hF.out _).mono ?_; rintro e w' ⟨rfl, rfl⟩)
          go_roundw
          case rel =>
            refine ⟨j + 1, by omega, by go_num, hS2.cong fun i hi => ?_, hB2.setCell (Nat.le_refl _) _⟩
            by_cases e : i = k
            · subst e; simp [it]
            · simp [e]
          case measure => simp [intOf]; omega
        · have ej : j = 8 := by omega
          go_wp2
          go_roundw
          case rel =>
            refine ⟨k + 1, by omega, by go_num, hA2.cong fun i hi => ?_, hB2⟩
            subst ej
            by_cases e : i = k
            · subst e; simp [tb]
            · by_cases e2 : i < k
              · simp [e2, show i < k + 1 by omega]
              · simp [e, e2, show ¬ i < k + 1 by omega]
          case measure => simp [intOf]; omega
    · have ek : k = 256 := by omega
      subst ek
      obtain ⟨c, h1, h2, h3⟩ := hA.cong (G := tb) (fun i hi => by simp [hi])
      have H3 := Lib.hid h3
      have H2 := Lib.hid h2
      have H1 := Lib.hid h1
      clear h1 h2 h3 hA
      go_wp2
      refine wp_load_row 445 (.tmp 0) rfl w.heap.size rfl 445 c (0, 0) _ H1.out Tryz.underlying445 rfl (by rw [H2.out]; kernel_rfl) ?_
      go_wp2
      have hone : ∀ v ∈ c.toList, v.oneCell' = true := by
        intro v hv
        obtain ⟨i, hi, hi'⟩ := List.getElem_of_mem hv
        have h3 := H3.out i (by have := H2.out; simpa [this] using hi)
        have : c[i]? = some v := by rw [← hi', ← Array.getElem?_toList, List.getElem?_eq_getElem hi]
        rw [this] at h3
        injection h3 with h3
        rw [h3]; rfl
      rw [run_storeCells_from w.heap.size 445 c.toList 0 c wr H1.out (by simp) hone]
      simp only [Result.andThen_ok]
      rw [Oper.upon_skip]
      go_wp2
      have hrow := setRow_heap wr w.heap.size c c 445 (0, 0) H1.out
      have e0 : (List.take 0 c.toList ++ c.toList).toArray = c := by simp
      rw [e0]
      refine bodyPost_ret (v := .agg c) ?_ rfl ⟨⟨c, rfl, H2.out, H3.out⟩, ?_⟩
      · exact results_cell_row (fn := Tryz.f344) rfl _ _ w.heap.size 445 c (0, 0) _ rfl hrow Tryz.underlying445 rfl (by rw [H2.out]; kernel_rfl)
      · refine hB.trans ⟨rfl, rfl, rfl, by simp, fun i hi => ?_⟩
        exact setRow_other wr w.heap.size i c (by omega)
set_option maxRecDepth 100000 in
set_option maxHeartbeats 1000000 in
theorem sum_any (x : Value) (ls : List (List Nat)) (w : World) (hx : ListAt w x ls) (hn : ls.length < 1000000) (hm : ∀ l ∈ ls, l.length < 1000000) : Calls Tryz.prog 258 #[x] w fun e w' => e = .returned (.int .u32 (4294967295 - (ls.flatten.foldl st 4294967295) : Nat)) ∧ Below w.heap.size w w' := by
  have HX := Lib.hid hx
  have HM := Lib.hid hm
  have HALL := Lib.hid hx.all
  have HN := Lib.hid hn
  clear hx hm hn
  go_enter Tryz.func258, Tryz.ntmps258
  go_wp2_with (go_at_call 344; refine (bytes_any _).mono ?_; rintro e w1 ⟨⟨c, rfl, h2, h3⟩, hb⟩; have H2 := Lib.hid h2; have H3 := Lib.hid h3; clear h2 h3)
  have hone : ∀ v ∈ c.toList, v.oneCell' = true := by
    intro v hv
    obtain ⟨i, hi, hi'⟩ := List.getElem_of_mem hv
    have h3 := H3.out i (by have := H2.out; simpa [this] using hi)
    have : c[i]? = some v := by rw [← hi', ← Array.getElem?_toList, List.getElem?_eq_getElem hi]
    rw [this] at h3
    injection h3 with h3
    rw [h3]; rfl
  have hz : Tryz.zeroCells445.size = 256 := by kernel_rfl
  have hg0 : (w1.alloc (Obj.cells Tryz.zeroCells445 445)).heap[w1.heap.size]? = some (Obj.cells Tryz.zeroCells445 445) := Array.getElem?_push_size
  rw [run_storeCells_from w1.heap.size 445 c.toList 0 Tryz.zeroCells445 _ hg0 (by rw [hz]; simpa using H2.out) hone]
  have e0 : (List.take 0 Tryz.zeroCells445.toList ++ c.toList).toArray = c := by simp
  rw [e0]
  simp only [Result.andThen_ok]
  rw [Oper.upon_skip]
  have hrow := setRow_heap _ w1.heap.size _ c 445 (0, 0) hg0
  have hW : Below w.heap.size w ((w1.alloc (Obj.cells Tryz.zeroCells445 445)).setRow w1.heap.size c) := by
    refine hb.trans (((Below.refl _ _).alloc hb.size _).trans ⟨rfl, rfl, rfl, by simp, fun i hi => setRow_other _ _ _ _ ?_⟩)
    have := hb.size
    omega
  generalize ((w1.alloc (Obj.cells Tryz.zeroCells445 445)).setRow w1.heap.size c) = W at *
  have HT : Hid (∀ i, i < 256 → W.cell? ⟨w1.heap.size, i, none⟩ = some (.int .u32 (tb i : Nat))) := by
    refine Lib.hid ?_
    intro i hi
    unfold World.cell?
    rw [hrow]
    simpa using H3.out i hi
  have HXW : Hid (ListAt W x ls) := Lib.hid (HX.out.below hW)
  generalize w1.heap.size = N at *
  clear hone hz hg0 e0 hrow H2 H3 HX hb
  rename_i hcs
  clear hcs
  obtain ⟨A, cap, rfl, hA⟩ := HXW.out.one
  have hn' : (ls.length : Int) ≤ 1000000 := by have := HN.out; omega
  have HA := Lib.hid hA
  clear hA HXW
  go_wp2
  go_loop [4, 13] (fun t4 t13 => ∃ i : Nat, i ≤ ls.length ∧ t4 = .int .u32 (sumTo ls i : Nat) ∧ t13 = .int .i64 i) (fun _ t13 => ls.length - (intOf t13).toNat)
  case atStart => exact ⟨0, Nat.zero_le _, rfl, rfl⟩
  case round =>
    obtain ⟨i, hi, rfl, rfl⟩ := hrel
    by_cases hlt : i < ls.length
    · obtain ⟨b, off, u, rfl, hu, hul⟩ := HA.out i hlt
      obtain ⟨A', cap', rfl, hA', hby⟩ := hul.one
      have HA' := Lib.hid hA'
      have HB := Lib.hid hby
      have hm' : ((ls[i]).length : Int) ≤ 1000000 := by have := HM.out _ (List.getElem_mem hlt); omega
      clear hA' hby hul
      go_wp2
      go_loop [4, 19] (fun t4 t19 => ∃ j : Nat, j ≤ (ls[i]).length ∧ t4 = .int .u32 (((ls[i]).take j).foldl st (sumTo ls i) : Nat) ∧ t19 = .int .i64 j) (fun _ t19 => (ls[i]).length - (intOf t19).toNat)
      case atStart => exact ⟨0, Nat.zero_le _, rfl, rfl⟩
      case round =>
        obtain ⟨j, hj, rfl, rfl⟩ := hrel
        by_cases hlt2 : j < (ls[i]).length
        · obtain ⟨b2, off2, rfl, hc2⟩ := HA'.out j hlt2
          have hcb : (ls[i])[j] < 256 := HB.out _ (List.getElem_mem hlt2)
          have hr2 : ((ls[i]).take j).foldl st (sumTo ls i) < 4294967296 := fold_lt _ (fun x hx => HB.out x (List.mem_of_mem_take hx)) (sumTo_lt ls i fun l hl x hx => HALL.out l hl x hx)
          have hnext : ((ls[i]).take (j + 1)).foldl st (sumTo ls i) = st (((ls[i]).take j).foldl st (sumTo ls i)) (ls[i])[j] := by
            rw [List.take_succ_eq_append_getElem hlt2, List.foldl_append]; rfl
          generalize hc : (ls[i])[j] = cb at *
          generalize hr : ((ls[i]).take j).foldl st (sumTo ls i) = r at *
          have HNX := Lib.hid hnext
          have HR2 := Lib.hid hr2
          have hx8 : bits BinOp.xor IntKind.u8 ((r : Int) % 256) (cb : Int) = ((r % 256 ^^^ cb : Nat) : Int) := by
            have := u8_xor_nat (r % 256) cb (Nat.mod_lt _ (by decide)) hcb
            rw [← this]; rfl
          have hx32 : bits BinOp.xor IntKind.u32 ((r : Int) / 256) ((tb (r % 256 ^^^ cb) : Nat) : Int) = ((st r cb : Nat) : Int) := by
            have := u32_xor_nat (r / 256) (tb (r % 256 ^^^ cb)) (by omega) (tb_lt (by have := xor_byte (Nat.mod_lt r (by decide : 0 < 256)) hcb; omega))
            unfold st
            rw [← this]; rfl
          have hd := xor_byte (Nat.mod_lt r (by decide : 0 < 256)) hcb
          have HX32 := Lib.hid hx32
          clear hnext hr2 hc hr hx32
          generalize (r % 256 ^^^ cb) = d at *
          have hcell := HT.out d hd
          have hd0 : (0 : Int) ≤ d := by omega
          have hd1 : (d : Int) < 256 := by omega
          clear hd hcb
          go_wp2
          refine ⟨⟨j + 1, by omega, ?_, by go_num⟩, ?_⟩
          · rw [HX32.out, HNX.out]
          · simp [intOf]; omega
        · have ej : j = (ls[i]).length := by omega
          have hnext : sumTo ls (i + 1) = (ls[i]).foldl st (sumTo ls i) := by
            unfold sumTo
            rw [List.take_succ_eq_append_getElem hlt, List.flatten_append, List.foldl_append]
            simp
          have HNX := Lib.hid hnext
          clear hnext
          subst ej
          go_wp2
          go_round
          case rel =>
            refine ⟨i + 1, by omega, ?_, by go_num⟩
            rw [HNX.out, List.take_length]
          case measure => simp [intOf]; omega
    · have ei : i = ls.length := by omega
      subst ei
      have hlast : sumTo ls ls.length = ls.flatten.foldl st 4294967295 := by unfold sumTo; rw [List.take_length]
      have hlt := sumTo_lt ls ls.length HALL.out
      have HL := Lib.hid hlast
      have HLT := Lib.hid hlt
      clear hlast hlt
      go_wp2
      go_ret
      refine ⟨ret_u32 ?_, hW⟩
      rw [← HL.out]
      exact max_xor _ HLT.out
end Go.Proofs.YtjjnffgpfiokiaaGreatDoor.crc
