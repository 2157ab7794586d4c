/- The reference's numbers. Versions compared. -/
import Derived.Test.YtekafaeefpgnjaaHbE
import Derived.Laws.BitsAllLaws
import Derived.Laws.BytesString
namespace Go.Proofs.Hb
open Go Go.RowKit Go.Hb Go.Crc
theorem be_take {s n k : Nat} (h : k < s) : (be s n).take (s - k) = (be s n).take (s - (k + 1)) ++ [n / 256 ^ k % 256] := by
  have hl : s - (k + 1) < (be s n).length := by rw [be_len]; omega
  rw [show s - k = s - (k + 1) + 1 by omega, List.take_succ_eq_append_getElem hl]
  have := be_get s n (s - (k + 1)) (by omega)
  rw [List.getD_eq_getElem?_getD, List.getElem?_eq_getElem hl, Option.getD_some] at this
  rw [this, show s - 1 - (s - (k + 1)) = k by omega]
set_option maxRecDepth 100000 in
theorem refNum_any (n s : Nat) (w : World) (hs : s ≤ 8) (hn : n < 18446744073709551616) : Calls Try.prog 22 #[.int .u64 n, .int .i64 s] w fun e w' => (∃ v, e = .returned v ∧ w'.ownsRow w.heap.size 5 1 v s (u8s (be s n))) ∧ Below w.heap.size w w' := by
  obtain ⟨i0, hi, hz0, hz1, hz2⟩ := info_parts info5
  go_enter Try.func22, Try.ntmps22
  go_wp2
  go_loopw [5, 6] (fun t5 t6 wr => ∃ m : Nat, m ≤ s ∧ t6 = .int .i64 ((m : Int) - 1) ∧ wr.ownsRow w.heap.size 5 1 t5 (s - m) (u8s ((be s n).take (s - m))) ∧ Below w.heap.size w wr) (fun _ t6 _ => (intOf t6 + 1).toNat)
  case atStart => exact ⟨s, Nat.le_refl _, rfl, by simp [u8s, World.ownsRow_nil], Below.refl _ _⟩
  case round =>
    obtain ⟨m, hm, rfl, hown, hnx⟩ := hrel
    by_cases hz : m = 0
    · subst hz
      rw [Nat.sub_zero, List.take_of_length_le (by rw [be_len]; exact Nat.le_refl _)] at hown
      go_wp2
      go_ret
      exact ⟨⟨_, rfl, hown⟩, hnx⟩
    · obtain ⟨k, rfl⟩ : ∃ k, m = k + 1 := ⟨m - 1, by omega⟩
      have e1 : (((k + 1 : Nat) : Int) - 1) = k := by omega
      rw [e1]
      have hcs : (#[Value.int IntKind.u8 ((n : Int) / 2 ^ (8 * k) % 256)] : Array Value).toList = u8s [n / 256 ^ k % 256] ++ [] := by
        show _ = [Value.int IntKind.u8 ((n / 256 ^ k % 256 : Nat) : Int)]
        rw [pow8]
        rfl
      have hc := Lib.hid (bytes_cells (at_row (heap_alloc_new wr (.cells #[.int .u8 ((n : Int) / 2 ^ (8 * k) % 256)] 5)) (rest := []) hcs (by intro x hx; rw [List.mem_singleton.1 hx]; exact Nat.mod_lt _ (by decide)) 1 1 rfl) _ rfl)
      clear hcs
      have hbx := (Below.refl wr.heap.size wr).alloc (Nat.le_refl _) (.cells #[.int .u8 ((n : Int) / 2 ^ (8 * k) % 256)] 5)
      have HBX := Lib.hid (hnx.alloc hnx.size (.cells #[.int .u8 ((n : Int) / 2 ^ (8 * k) % 256)] 5))
      have HO := Lib.hid (hown.alloc (.cells #[.int .u8 ((n : Int) / 2 ^ (8 * k) % 256)] 5))
      clear hbx
      go_wp2_with (at_builtin; refine wpList_append_own _ rfl _ _ 22 rfl w.heap.size 5 i0 (.int .u8 0) 1 1 Try.underlying22 hi hz0 hz1 hz2 rfl (by decide) _ _ _ rfl HO.out ⟨wr.heap.size, 0, none⟩ 1 1 (u8s [n / 256 ^ k % 256]) rfl rfl hc.out (u8s_one _) (by unfold maxLen; omega) (by omega) HBX.out.size ?_; intro v1 w1 hown1 hgrow1 _)
      refine ⟨⟨k, by omega, rfl, ?_, HBX.out.grown hgrow1 HBX.out.size (fun j hj => (HO.out.lt j hj).1)⟩, by simp [intOf]⟩
      rw [be_take (by omega), u8s_app]
      rw [show s - (k + 1) + 1 = s - k by omega] at hown1
      exact hown1
theorem or_step {l : List Nat} {k : Nat} (hk : k < l.length) (hl : l.length ≤ 8) (hb : ∀ x ∈ l, x < 256) : bits BinOp.or IntKind.u64 (IntKind.u64.wrap ((vl (l.take k) : Nat) * 256)) (l[k] : Nat) = (vl (l.take (k + 1)) : Nat) := by
  have hx := hb _ (List.getElem_mem hk)
  have h1 : vl (l.take (k + 1)) = vl (l.take k) * 256 + l[k] := by rw [List.take_succ_eq_append_getElem hk, vl_snoc]
  have h2 := vl_lt (l.take (k + 1)) (fun x hx => hb x (List.mem_of_mem_take hx))
  have h3 : 256 ^ (l.take (k + 1)).length ≤ 256 ^ 8 := Nat.pow_le_pow_right (by decide) (by rw [List.length_take]; omega)
  have h4 : (256 : Nat) ^ 8 = 18446744073709551616 := by decide
  rw [h4] at h3
  have h5 : ((vl (l.take k) : Nat) : Int) * 256 = ((vl (l.take k) * 256 : Nat) : Int) := by omega
  rw [h5, IntWalk.u64_in _ (by omega), u64_or_nat _ _ (by omega) (by omega), h1]
  have h6 := Nat.shiftLeft_add_eq_or_of_lt (i := 8) (b := l[k]) (by omega) (vl (l.take k))
  rw [Nat.shiftLeft_eq] at h6
  rw [← h6]
set_option maxRecDepth 100000 in
theorem refGet_any (l : List Nat) (A : Option Addr) (n c : Nat) (w : World) (h : BytesAt w (.slice A n c) l) (hl : l.length ≤ 8) : Calls Try.prog 23 #[.slice A n c] w fun e w' => e = .returned (.int .u64 (vl l : Nat)) ∧ w = w' := by
  obtain rfl := bytes_len h
  have H := Lib.hid h
  have HL := Lib.hid hl
  clear h
  go_enter Try.func23, Try.ntmps23
  go_wp2
  go_loop [3, 4] (fun t3 t4 => ∃ k : Nat, k ≤ l.length ∧ t4 = .int .i64 k ∧ t3 = .int .u64 (vl (l.take k) : Nat)) (fun _ t4 => l.length - (intOf t4).toNat)
  case atStart => exact ⟨0, Nat.zero_le _, rfl, rfl⟩
  case round =>
    obtain ⟨k, hk, rfl, rfl⟩ := hrel
    by_cases hlt : k < l.length
    · obtain ⟨hb, ⟨h0, h1⟩ | ⟨b, off, c2, h0, hc⟩⟩ := H.out
      · rw [h1] at hlt; cases hlt
      · cases h0
        have q0 := hc k hlt
        have hx := hb _ (List.getElem_mem hlt)
        clear hc
        go_wp2
        refine ⟨⟨k + 1, by omega, by go_num, ?_⟩, by simp [intOf]; omega⟩
        rw [or_step hlt HL.out hb]
    · have hk2 : k = l.length := by omega
      subst hk2
      rw [List.take_length]
      go_wp2
      go_ret
      exact ⟨rfl, rfl⟩
end Go.Proofs.Hb
namespace Go.Proofs.Hb
open Go Go.RowKit Go.Hb Go.Crc
def strOf (l : List Nat) : ByteArray := ⟨(l.map UInt8.ofNat).toArray⟩
theorem fold_str : ∀ (l : List Nat) (a : ByteArray), (l.map (fun x : Nat => (x : Int))).foldl (fun r n => r.push (UInt8.ofNat n.toNat)) a = ⟨a.data ++ (l.map UInt8.ofNat).toArray⟩
  | [], a => by simp
  | x :: l, a => by
    rw [List.map_cons, List.foldl_cons, fold_str l]
    congr 1
    apply Array.ext'
    simp [ByteArray.push]
theorem add_at (b off j : Nat) : (⟨b, off, none⟩ : Addr).add (0 + j) = ⟨b, off + j, none⟩ := by
  rw [Nat.zero_add]; unfold Addr.add; split
  · next h => rw [h]; rfl
  · rfl
theorem conv_some {X : World} (b off n c : Nat) (r : List Nat) (hn : n = r.length) (hc : ∀ j, (h : j < r.length) → X.cell? ⟨b, off + j, none⟩ = some (.int .u8 (r[j] : Nat))) : (convert 22 9 (.slice (some ⟨b, off, none⟩) n c)).run Try.prog X = .ok (.string (strOf r)) X := by
  subst hn
  rw [run_convert_bytes_string (P := Try.prog) X 22 9 5 _ _ _ (by kernel_rfl) (by kernel_rfl) (by kernel_rfl)]
  rw [run_bytesToString (P := Try.prog) X ⟨b, off, none⟩ r.length c (r.map fun x : Nat => (x : Int)) ?_]
  · rw [fold_str]
    congr 2
    unfold strOf
    rw [ByteArray.mk.injEq]
    exact Array.empty_append ..
  · have h := run_loadCellsFrom (P := Try.prog) (w := X) ⟨b, off, none⟩ (fun j => Value.int .u8 (r.getD j 0 : Nat)) r.length 0 #[] ?_
    · refine Eq.trans h ?_
      congr 1
      rw [Array.empty_append]
      congr 1
      apply List.ext_getElem
      · simp
      intro n h1 h2
      have hn : n < r.length := by simpa using h1
      simp [List.getD_eq_getElem?_getD, List.getElem?_eq_getElem hn]
    intro j hj
    rw [add_at, Nat.zero_add, hc j hj, List.getD_eq_getElem?_getD, List.getElem?_eq_getElem hj]
    rfl
theorem conv_none (X : World) : (convert 22 9 (.slice none 0 0)).run Try.prog X = .ok (.string (strOf [])) X := by
  rw [run_convert_bytes_string (P := Try.prog) X 22 9 5 _ _ _ (by kernel_rfl) (by kernel_rfl) (by kernel_rfl)]
  simp [Conv.bytesToString, loadCells, loadCellsFrom, strOf]
  try rfl
theorem conv_at {X : World} {A : Option Addr} {n c : Nat} {l : List Nat} (h : BytesAt X (.slice A n c) l) : (convert 22 9 (.slice A n c)).run Try.prog X = .ok (.string (strOf l)) X := by
  obtain ⟨_, ⟨h1, rfl⟩ | ⟨b, off, c2, h1, hc⟩⟩ := h
  · cases h1; exact conv_none X
  · cases h1; exact conv_some b off _ _ l rfl hc
set_option maxRecDepth 100000 in
theorem same_any (A1 A2 B1 B2 : Option Addr) (n1 c1 n2 c2 m1 d1 m2 d2 a b : Nat) (k x : List Nat) (w : World) (h1 : BytesAt w (.slice A1 n1 c1) k) (h2 : BytesAt w (.slice A2 n2 c2) x) (h3 : BytesAt w (.slice B1 m1 d1) k) (h4 : BytesAt w (.slice B2 m2 d2) x) :
    Calls Try.prog 10 #[.agg #[.slice A1 n1 c1, .slice A2 n2 c2, .int .u64 a, .int .u64 b], .agg #[.slice B1 m1 d1, .slice B2 m2 d2, .int .u64 a, .int .u64 b]] w fun e w' => e = .returned (.bool true) ∧ Below w.heap.size w w' := by
  have hb := ((Below.refl w.heap.size w).alloc (Nat.le_refl _) (.cells #[.slice A1 n1 c1, .slice A2 n2 c2, .int .u64 a, .int .u64 b] 25)).alloc (by simp) (.cells #[.slice B1 m1 d1, .slice B2 m2 d2, .int .u64 a, .int .u64 b] 25)
  have q1 := conv_at (h1.below hb)
  have q2 := conv_at (h2.below hb)
  have q3 := conv_at (h3.below hb)
  have q4 := conv_at (h4.below hb)
  have HB := Lib.hid hb
  clear h1 h2 h3 h4 hb
  go_enter Try.func10, Try.ntmps10
  go_wp2
  go_ret
  exact ⟨rfl, HB.out⟩
end Go.Proofs.Hb
