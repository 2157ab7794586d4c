import Derived.Test.YtddedbajcpefiaaGreatIeC
import Derived.BigRegion
import Derived.Laws.ResultCell
namespace Go.Proofs.Ie
open Go Go.RowKit Go.Ie Go.Crc
theorem below_alloc_cell {w : World} (o : Obj) {a : Addr} {v : Value} (h : w.cell? a = some v) : (w.alloc o).cell? a = some v := cell_below ((Below.refl _ w).alloc (Nat.le_refl _) o) rfl h
theorem ret_cell {fn : Func} (h : fn.results = #[.cell 2 25, .tmp 3]) (tmps : Array Value) (w : World) (g : Nat) (s : ByteArray) (p q : Int) (fr : Nat × Nat) (u : Value) (hp : tmps.getD 2 undef = .pointer (some ⟨g, 0, none⟩)) (hg : w.heap[g]? = some (.cells #[.string s, .int .i64 p, .int .i64 q] 25 fr)) (hu : tmps.getD 3 undef = u) : (results fn tmps).run Tryz.prog w = .ok (.tuple #[.agg #[.string s, .int .i64 p, .int .i64 q], u]) w := by
  rw [results_cell_tmp h, hp, hu]
  have := run_loadVar_row (P := Tryz.prog) w g 25 25 #[.string s, .int .i64 p, .int .i64 q] fr _ hg Tryz.underlying25 rfl (by kernel_rfl)
  simp [asAddr, Result.andThen, this]
theorem add_at (b off j : Nat) : (⟨b, off, none⟩ : Addr).add (0 + j) = ⟨b, off + j, none⟩ := by
  rw [Nat.zero_add]; unfold Addr.add; split
  · next h => rw [h]; rfl
  · rfl
theorem conv_str {X : World} (b off n c : Nat) (r : List Nat) (hn : n = r.length) (hc : ∀ j, (h : j < r.length) → X.cell? ⟨b, off + j, none⟩ = some (.int .u8 (r[j] : Nat))) : (convert 26 9 (.slice (some ⟨b, off, none⟩) n c)).run Tryz.prog X = .ok (.string (strOf r)) X := by
  subst hn
  rw [run_convert_bytes_string (P := Tryz.prog) X 26 9 5 _ _ _ (by kernel_rfl) (by kernel_rfl) (by kernel_rfl)]
  rw [run_bytesToString (P := Tryz.prog) X ⟨b, off, none⟩ r.length c (r.map fun x : Nat => (x : Int)) ?_]
  · rw [fold_str]
    congr 2
    unfold strOf
    rw [ByteArray.mk.injEq]
    exact Array.empty_append ..
  · have h := run_loadCellsFrom (P := Tryz.prog) (w := X) ⟨b, off, none⟩ (fun j => Value.int .u8 (r.getD j 0 : Nat)) r.length 0 #[] ?_
    · refine Eq.trans h ?_
      congr 1
      rw [Array.empty_append]
      congr 1
      apply List.ext_getElem
      · simp
      intro n h1 h2
      have hn : n < r.length := by simpa using h1
      simp [List.getD_eq_getElem?_getD, List.getElem?_eq_getElem hn]
    intro j hj
    rw [add_at, Nat.zero_add, hc j hj, List.getD_eq_getElem?_getD, List.getElem?_eq_getElem hj]
    rfl
theorem row3 {w : World} {g : Nat} {a b c x y z : Value} {t : Nat} (h : w.heap[g]? = some (.cells #[a, b, c] t)) : (((w.setCell ⟨g, 0, none⟩ x).setCell ⟨g, 1, none⟩ y).setCell ⟨g, 2, none⟩ z).heap[g]? = some (.cells #[x, y, z] t) :=
  heap_setCell_same _ _ 2 _ _ _ (heap_setCell_same _ _ 1 _ _ _ (heap_setCell_same _ _ 0 _ _ _ h))
theorem slice_if (c : Nat) (b off : Nat) : (if c = 2 then (some ⟨b, off, none⟩ : Option Addr) else some ⟨b, off + 2, none⟩) = some ⟨b, if c = 2 then off else off + 2, none⟩ := by
  split <;> rfl
set_option maxRecDepth 100000 in
theorem of_f (x0 x1 : Nat) (r : List Nat) (b off off' c : Nat) (w : World) (hc : ∀ j, (h : j < (x0 :: x1 :: r).length) → w.cell? ⟨b, off + j, none⟩ = some (.int .u8 ((x0 :: x1 :: r)[j] : Nat))) (hr : ∀ j, (h : j < r.length) → w.cell? ⟨b, off' + j, none⟩ = some (.int .u8 (r[j] : Nat))) (hs : (if c = 2 then (some ⟨b, off, none⟩ : Option Addr) else some ⟨b, off + 2, none⟩) = some ⟨b, off', none⟩) (_hcp : r.length + 1 + 1 ≤ c) (hb0 : x0 < 256) (hb1 : x1 < 256) (hm : mayB (strOf r).size x0 x1 = false) : Calls Tryz.prog 6 #[.slice (some ⟨b, off, none⟩) (r.length + 1 + 1) c] w fun e w' => e = .returned (.tuple #[.agg #[.string ByteArray.empty, .int .i64 0, .int .i64 0], .int .i64 13]) ∧ Below w.heap.size w w' := by
  have hx0 := hc 0 (by simp)
  have hx1 := hc 1 (by simp)
  simp only [List.getElem_cons_zero, List.getElem_cons_succ, Nat.add_zero] at hx0 hx1
  have Hm := Lib.hid hm
  clear hm
  go_enter Tryz.func6, Tryz.ntmps6
  go_wp2
  have hB := (Below.refl w.heap.size w).alloc (Nat.le_refl _) (.cells #[.string ByteArray.empty, .int .i64 0, .int .i64 0] 25)
  have hR := heap_alloc_new w (.cells #[.string ByteArray.empty, .int .i64 0, .int .i64 0] 25)
  have hZ : (w.alloc (.cells #[.string ByteArray.empty, .int .i64 0, .int .i64 0] 25)).heap.size = w.heap.size + 1 := by simp
  change Code.wp _ _ _ _ (w.alloc (.cells #[.string ByteArray.empty, .int .i64 0, .int .i64 0] 25))
  generalize w.alloc (.cells #[.string ByteArray.empty, .int .i64 0, .int .i64 0] 25) = W0 at hB hR hZ ⊢
  have q0 : W0.cell? ⟨b, off, none⟩ = some (.int .u8 x0) := cell_below hB rfl hx0
  have q1 : W0.cell? ⟨b, off + 1, none⟩ = some (.int .u8 x1) := cell_below hB rfl hx1
  have q2 : ∀ j, (h : j < r.length) → W0.cell? ⟨b, off' + j, none⟩ = some (.int .u8 (r[j] : Nat)) := fun j hj => cell_below hB rfl (hr j hj)
  have z0 := fun o => below_alloc_cell o q0
  have z1 := fun o => below_alloc_cell o q1
  have S0 := conv_str (X := W0.drew) b off' r.length (c - 2) r rfl q2
  have S1 := fun o => conv_str (X := (W0.alloc o).drew) b off' r.length (c - 2) r rfl (fun j hj => below_alloc_cell o (q2 j hj))
  clear hc hr
  go_region
  clear S0 S1 z0 z1 hs q0 q1 q2 hx0 hx1
  have hR1 : (W0.alloc (.cells #[.string (strOf r), .int .i64 x0, .int .i64 x1] 25)).heap[w.heap.size]? = some (.cells #[.string ByteArray.empty, .int .i64 0, .int .i64 0] 25) := (heap_alloc_old _ _ (h := by omega)).trans hR
  have hR2 : (W0.alloc (.cells #[.string (strOf r), .int .i64 x0, .int .i64 x1] 25)).heap[w.heap.size + 1]? = some (.cells #[.string (strOf r), .int .i64 x0, .int .i64 x1] 25) := by rw [← hZ]; exact heap_alloc_new _ _
  have hB1 := hB.alloc (by omega) (.cells #[.string (strOf r), .int .i64 x0, .int .i64 x1] 25)
  have hZ1 : (W0.alloc (.cells #[.string (strOf r), .int .i64 x0, .int .i64 x1] 25)).heap.size = w.heap.size + 1 + 1 := by rw [← hZ]; simp
  generalize W0.alloc (.cells #[.string (strOf r), .int .i64 x0, .int .i64 x1] 25) = W1 at hR1 hR2 hB1 hZ1 ⊢
  obtain ⟨c0, c1, c2⟩ := aggAt hR2
  go_wp2_with (go_at_call 8; refine (may_any _ _ _ _).mono ?_; rw [Hm.out]; rintro e w' ⟨rfl, hb⟩; have e0 := (hb.block w.heap.size (by show _ < W1.heap.size; omega)).trans hR1; have e1 := (hb.block (w.heap.size + 1) (by show _ < W1.heap.size; omega)).trans hR2; obtain ⟨m0, m1, m2⟩ := aggAt e0; obtain ⟨n0, n1, n2⟩ := aggAt e1; have f0 := frozen_of_row _ _ 0 _ _ e0; have f1 := frozen_of_row _ _ 1 _ _ e0; have f2 := frozen_of_row _ _ 2 _ _ e0)
  have hB2 := hB1.drew.trans (hb.mono (B' := w.heap.size) (by show _ ≤ W1.heap.size; omega))
  exact bodyPost_ret (ret_cell rfl _ _ _ _ _ _ _ _ rfl (row3 e0) rfl) rfl ⟨rfl, ((hB2.setCell (Nat.le_refl _) _).setCell (Nat.le_refl _) _).setCell (Nat.le_refl _) _⟩
set_option maxRecDepth 100000 in
theorem of_t (x0 x1 : Nat) (r : List Nat) (b off off' c : Nat) (w : World) (hc : ∀ j, (h : j < (x0 :: x1 :: r).length) → w.cell? ⟨b, off + j, none⟩ = some (.int .u8 ((x0 :: x1 :: r)[j] : Nat))) (hr : ∀ j, (h : j < r.length) → w.cell? ⟨b, off' + j, none⟩ = some (.int .u8 (r[j] : Nat))) (hs : (if c = 2 then (some ⟨b, off, none⟩ : Option Addr) else some ⟨b, off + 2, none⟩) = some ⟨b, off', none⟩) (_hcp : r.length + 1 + 1 ≤ c) (hb0 : x0 < 256) (hb1 : x1 < 256) (hm : mayB (strOf r).size x0 x1 = true) : Calls Tryz.prog 6 #[.slice (some ⟨b, off, none⟩) (r.length + 1 + 1) c] w fun e w' => e = .returned (.tuple #[.agg #[.string (strOf r), .int .i64 x0, .int .i64 x1], .int .i64 0]) ∧ Below w.heap.size w w' := by
  have hx0 := hc 0 (by simp)
  have hx1 := hc 1 (by simp)
  simp only [List.getElem_cons_zero, List.getElem_cons_succ, Nat.add_zero] at hx0 hx1
  have Hm := Lib.hid hm
  clear hm
  go_enter Tryz.func6, Tryz.ntmps6
  go_wp2
  have hB := (Below.refl w.heap.size w).alloc (Nat.le_refl _) (.cells #[.string ByteArray.empty, .int .i64 0, .int .i64 0] 25)
  have hR := heap_alloc_new w (.cells #[.string ByteArray.empty, .int .i64 0, .int .i64 0] 25)
  have hZ : (w.alloc (.cells #[.string ByteArray.empty, .int .i64 0, .int .i64 0] 25)).heap.size = w.heap.size + 1 := by simp
  change Code.wp _ _ _ _ (w.alloc (.cells #[.string ByteArray.empty, .int .i64 0, .int .i64 0] 25))
  generalize w.alloc (.cells #[.string ByteArray.empty, .int .i64 0, .int .i64 0] 25) = W0 at hB hR hZ ⊢
  have q0 : W0.cell? ⟨b, off, none⟩ = some (.int .u8 x0) := cell_below hB rfl hx0
  have q1 : W0.cell? ⟨b, off + 1, none⟩ = some (.int .u8 x1) := cell_below hB rfl hx1
  have q2 : ∀ j, (h : j < r.length) → W0.cell? ⟨b, off' + j, none⟩ = some (.int .u8 (r[j] : Nat)) := fun j hj => cell_below hB rfl (hr j hj)
  have z0 := fun o => below_alloc_cell o q0
  have z1 := fun o => below_alloc_cell o q1
  have S0 := conv_str (X := W0.drew) b off' r.length (c - 2) r rfl q2
  have S1 := fun o => conv_str (X := (W0.alloc o).drew) b off' r.length (c - 2) r rfl (fun j hj => below_alloc_cell o (q2 j hj))
  clear hc hr
  go_region
  clear S0 S1 z0 z1 hs q0 q1 q2 hx0 hx1
  have hR1 : (W0.alloc (.cells #[.string (strOf r), .int .i64 x0, .int .i64 x1] 25)).heap[w.heap.size]? = some (.cells #[.string ByteArray.empty, .int .i64 0, .int .i64 0] 25) := (heap_alloc_old _ _ (h := by omega)).trans hR
  have hR2 : (W0.alloc (.cells #[.string (strOf r), .int .i64 x0, .int .i64 x1] 25)).heap[w.heap.size + 1]? = some (.cells #[.string (strOf r), .int .i64 x0, .int .i64 x1] 25) := by rw [← hZ]; exact heap_alloc_new _ _
  have hB1 := hB.alloc (by omega) (.cells #[.string (strOf r), .int .i64 x0, .int .i64 x1] 25)
  have hZ1 : (W0.alloc (.cells #[.string (strOf r), .int .i64 x0, .int .i64 x1] 25)).heap.size = w.heap.size + 1 + 1 := by rw [← hZ]; simp
  generalize W0.alloc (.cells #[.string (strOf r), .int .i64 x0, .int .i64 x1] 25) = W1 at hR1 hR2 hB1 hZ1 ⊢
  obtain ⟨c0, c1, c2⟩ := aggAt hR2
  go_wp2_with (go_at_call 8; refine (may_any _ _ _ _).mono ?_; rw [Hm.out]; rintro e w' ⟨rfl, hb⟩; have e0 := (hb.block w.heap.size (by show _ < W1.heap.size; omega)).trans hR1; have e1 := (hb.block (w.heap.size + 1) (by show _ < W1.heap.size; omega)).trans hR2; obtain ⟨m0, m1, m2⟩ := aggAt e0; obtain ⟨n0, n1, n2⟩ := aggAt e1; have f0 := frozen_of_row _ _ 0 _ _ e0; have f1 := frozen_of_row _ _ 1 _ _ e0; have f2 := frozen_of_row _ _ 2 _ _ e0)
  have hB2 := hB1.drew.trans (hb.mono (B' := w.heap.size) (by show _ ≤ W1.heap.size; omega))
  exact bodyPost_ret (ret_cell rfl _ _ _ _ _ _ _ _ rfl (row3 e0) rfl) rfl ⟨rfl, ((hB2.setCell (Nat.le_refl _) _).setCell (Nat.le_refl _) _).setCell (Nat.le_refl _) _⟩
set_option maxRecDepth 100000 in
theorem of_any (l : List Nat) (v : Value) (w : World) (h : BytesAt w v l) (hcap : ∀ A n c, v = .slice A n c → n ≤ c) : Calls Tryz.prog 6 #[v] w fun e w' => e = .returned (.tuple #[agE l, if okE l = true then .int .i64 0 else .int .i64 13]) ∧ Below w.heap.size w w' := by
  by_cases hl : l.length < 2
  · have hk : okE l = false := by
      unfold okE; rw [decide_eq_false (by omega)]; rfl
    obtain ⟨A, c, rfl, -, -⟩ := h.one
    clear hcap
    rw [hk, agE_f hk]
    have H := Lib.hid h
    clear h hk
    go_enter Tryz.func6, Tryz.ntmps6
    go_wp2
    all_goals
      refine bodyPost_ret (ret_cell rfl _ _ _ _ _ _ _ _ rfl (heap_alloc_new _ _) rfl) rfl ⟨rfl, (Below.refl _ _).alloc (Nat.le_refl _) _⟩
  · obtain ⟨x0, x1, r, rfl⟩ : ∃ x0 x1 r, l = x0 :: x1 :: r := by
      match l, hl with
      | [], hl => exact absurd (by simp) hl
      | [_], hl => exact absurd (by simp) hl
      | x0 :: x1 :: r, _ => exact ⟨x0, x1, r, rfl⟩
    obtain ⟨hb, ⟨-, h0⟩ | ⟨b, off, c, rfl, hc⟩⟩ := h
    · cases h0
    have hcp := hcap _ _ _ rfl
    have hok : okE (x0 :: x1 :: r) = mayB (strOf r).size x0 x1 := by
      unfold okE; rw [strOf_size, decide_eq_true (by simp)]; rfl
    have hr : ∀ j, (h : j < r.length) → w.cell? ⟨b, (if c = 2 then off else off + 2) + j, none⟩ = some (.int .u8 (r[j] : Nat)) := fun j hj => by
      rw [if_neg (by rw [List.length_cons, List.length_cons] at hcp; omega)]
      have := hc (j + 2) (by simp; omega)
      rw [show off + 2 + j = off + (j + 2) by omega, this]
      rfl
    cases hm : mayB (strOf r).size x0 x1
    · rw [agE_f (hok.trans hm), hok.trans hm]
      exact of_f x0 x1 r b off _ c w hc hr (slice_if c b off) hcp (hb x0 (by simp)) (hb x1 (by simp)) hm
    · have ha : agE (x0 :: x1 :: r) = .agg #[.string (strOf r), .int .i64 x0, .int .i64 x1] := by
        unfold agE sE pE qE; rw [hok.trans hm]; rfl
      rw [ha, hok.trans hm]
      exact of_t x0 x1 r b off _ c w hc hr (slice_if c b off) hcp (hb x0 (by simp)) (hb x1 (by simp)) hm
set_option maxRecDepth 100000 in
theorem refOf_f (x0 x1 : Nat) (r : List Nat) (b off off' c : Nat) (w : World) (hc : ∀ j, (h : j < (x0 :: x1 :: r).length) → w.cell? ⟨b, off + j, none⟩ = some (.int .u8 ((x0 :: x1 :: r)[j] : Nat))) (hr : ∀ j, (h : j < r.length) → w.cell? ⟨b, off' + j, none⟩ = some (.int .u8 (r[j] : Nat))) (hs : (if c = 2 then (some ⟨b, off, none⟩ : Option Addr) else some ⟨b, off + 2, none⟩) = some ⟨b, off', none⟩) (_hcp : r.length + 1 + 1 ≤ c) (hb0 : x0 < 256) (hb1 : x1 < 256) (hm : mayB (strOf r).size x0 x1 = false) (hl : ¬ (r.length + 1 + 1 < 3)) : Calls Tryz.prog 7 #[.slice (some ⟨b, off, none⟩) (r.length + 1 + 1) c] w fun e w' => e = .returned (.tuple #[.agg #[.string ByteArray.empty, .int .i64 0, .int .i64 0], .bool false]) ∧ Below w.heap.size w w' := by
  have hx0 := hc 0 (by simp)
  have hx1 := hc 1 (by simp)
  simp only [List.getElem_cons_zero, List.getElem_cons_succ, Nat.add_zero] at hx0 hx1
  have Hm := Lib.hid hm
  clear hm
  go_enter Tryz.func7, Tryz.ntmps7
  go_wp2
  have hB := (Below.refl w.heap.size w).alloc (Nat.le_refl _) (.cells #[.string ByteArray.empty, .int .i64 0, .int .i64 0] 25)
  have hR := heap_alloc_new w (.cells #[.string ByteArray.empty, .int .i64 0, .int .i64 0] 25)
  have hZ : (w.alloc (.cells #[.string ByteArray.empty, .int .i64 0, .int .i64 0] 25)).heap.size = w.heap.size + 1 := by simp
  change Code.wp _ _ _ _ (w.alloc (.cells #[.string ByteArray.empty, .int .i64 0, .int .i64 0] 25))
  generalize w.alloc (.cells #[.string ByteArray.empty, .int .i64 0, .int .i64 0] 25) = W0 at hB hR hZ ⊢
  have q0 : W0.cell? ⟨b, off, none⟩ = some (.int .u8 x0) := cell_below hB rfl hx0
  have q1 : W0.cell? ⟨b, off + 1, none⟩ = some (.int .u8 x1) := cell_below hB rfl hx1
  have q2 : ∀ j, (h : j < r.length) → W0.cell? ⟨b, off' + j, none⟩ = some (.int .u8 (r[j] : Nat)) := fun j hj => cell_below hB rfl (hr j hj)
  have z0 := fun o => below_alloc_cell o q0
  have z1 := fun o => below_alloc_cell o q1
  have S0 := conv_str (X := W0.drew) b off' r.length (c - 2) r rfl q2
  have S1 := fun o => conv_str (X := (W0.alloc o).drew) b off' r.length (c - 2) r rfl (fun j hj => below_alloc_cell o (q2 j hj))
  clear hc hr
  go_region
  clear S0 S1 z0 z1 hs q0 q1 q2 hx0 hx1
  have hR1 : (W0.alloc (.cells #[.string (strOf r), .int .i64 x0, .int .i64 x1] 25)).heap[w.heap.size]? = some (.cells #[.string ByteArray.empty, .int .i64 0, .int .i64 0] 25) := (heap_alloc_old _ _ (h := by omega)).trans hR
  have hR2 : (W0.alloc (.cells #[.string (strOf r), .int .i64 x0, .int .i64 x1] 25)).heap[w.heap.size + 1]? = some (.cells #[.string (strOf r), .int .i64 x0, .int .i64 x1] 25) := by rw [← hZ]; exact heap_alloc_new _ _
  have hB1 := hB.alloc (by omega) (.cells #[.string (strOf r), .int .i64 x0, .int .i64 x1] 25)
  have hZ1 : (W0.alloc (.cells #[.string (strOf r), .int .i64 x0, .int .i64 x1] 25)).heap.size = w.heap.size + 1 + 1 := by rw [← hZ]; simp
  generalize W0.alloc (.cells #[.string (strOf r), .int .i64 x0, .int .i64 x1] 25) = W1 at hR1 hR2 hB1 hZ1 ⊢
  obtain ⟨c0, c1, c2⟩ := aggAt hR2
  go_wp2_with (go_at_call 9; refine (refMay_any _ _ _ _).mono ?_; rw [Hm.out]; rintro e w' ⟨rfl, hb⟩; have e0 := (hb.block w.heap.size (by show _ < W1.heap.size; omega)).trans hR1; have e1 := (hb.block (w.heap.size + 1) (by show _ < W1.heap.size; omega)).trans hR2; obtain ⟨m0, m1, m2⟩ := aggAt e0; obtain ⟨n0, n1, n2⟩ := aggAt e1; have f0 := frozen_of_row _ _ 0 _ _ e0; have f1 := frozen_of_row _ _ 1 _ _ e0; have f2 := frozen_of_row _ _ 2 _ _ e0)
  have hB2 := hB1.drew.trans (hb.mono (B' := w.heap.size) (by show _ ≤ W1.heap.size; omega))
  exact bodyPost_ret (ret_cell rfl _ _ _ _ _ _ _ _ rfl (row3 e0) rfl) rfl ⟨rfl, ((hB2.setCell (Nat.le_refl _) _).setCell (Nat.le_refl _) _).setCell (Nat.le_refl _) _⟩
set_option maxRecDepth 100000 in
theorem refOf_t (x0 x1 : Nat) (r : List Nat) (b off off' c : Nat) (w : World) (hc : ∀ j, (h : j < (x0 :: x1 :: r).length) → w.cell? ⟨b, off + j, none⟩ = some (.int .u8 ((x0 :: x1 :: r)[j] : Nat))) (hr : ∀ j, (h : j < r.length) → w.cell? ⟨b, off' + j, none⟩ = some (.int .u8 (r[j] : Nat))) (hs : (if c = 2 then (some ⟨b, off, none⟩ : Option Addr) else some ⟨b, off + 2, none⟩) = some ⟨b, off', none⟩) (_hcp : r.length + 1 + 1 ≤ c) (hb0 : x0 < 256) (hb1 : x1 < 256) (hm : mayB (strOf r).size x0 x1 = true) (hl : ¬ (r.length + 1 + 1 < 3)) : Calls Tryz.prog 7 #[.slice (some ⟨b, off, none⟩) (r.length + 1 + 1) c] w fun e w' => e = .returned (.tuple #[.agg #[.string (strOf r), .int .i64 x0, .int .i64 x1], .bool true]) ∧ Below w.heap.size w w' := by
  have hx0 := hc 0 (by simp)
  have hx1 := hc 1 (by simp)
  simp only [List.getElem_cons_zero, List.getElem_cons_succ, Nat.add_zero] at hx0 hx1
  have Hm := Lib.hid hm
  clear hm
  go_enter Tryz.func7, Tryz.ntmps7
  go_wp2
  have hB := (Below.refl w.heap.size w).alloc (Nat.le_refl _) (.cells #[.string ByteArray.empty, .int .i64 0, .int .i64 0] 25)
  have hR := heap_alloc_new w (.cells #[.string ByteArray.empty, .int .i64 0, .int .i64 0] 25)
  have hZ : (w.alloc (.cells #[.string ByteArray.empty, .int .i64 0, .int .i64 0] 25)).heap.size = w.heap.size + 1 := by simp
  change Code.wp _ _ _ _ (w.alloc (.cells #[.string ByteArray.empty, .int .i64 0, .int .i64 0] 25))
  generalize w.alloc (.cells #[.string ByteArray.empty, .int .i64 0, .int .i64 0] 25) = W0 at hB hR hZ ⊢
  have q0 : W0.cell? ⟨b, off, none⟩ = some (.int .u8 x0) := cell_below hB rfl hx0
  have q1 : W0.cell? ⟨b, off + 1, none⟩ = some (.int .u8 x1) := cell_below hB rfl hx1
  have q2 : ∀ j, (h : j < r.length) → W0.cell? ⟨b, off' + j, none⟩ = some (.int .u8 (r[j] : Nat)) := fun j hj => cell_below hB rfl (hr j hj)
  have z0 := fun o => below_alloc_cell o q0
  have z1 := fun o => below_alloc_cell o q1
  have S0 := conv_str (X := W0.drew) b off' r.length (c - 2) r rfl q2
  have S1 := fun o => conv_str (X := (W0.alloc o).drew) b off' r.length (c - 2) r rfl (fun j hj => below_alloc_cell o (q2 j hj))
  clear hc hr
  go_region
  clear S0 S1 z0 z1 hs q0 q1 q2 hx0 hx1
  have hR1 : (W0.alloc (.cells #[.string (strOf r), .int .i64 x0, .int .i64 x1] 25)).heap[w.heap.size]? = some (.cells #[.string ByteArray.empty, .int .i64 0, .int .i64 0] 25) := (heap_alloc_old _ _ (h := by omega)).trans hR
  have hR2 : (W0.alloc (.cells #[.string (strOf r), .int .i64 x0, .int .i64 x1] 25)).heap[w.heap.size + 1]? = some (.cells #[.string (strOf r), .int .i64 x0, .int .i64 x1] 25) := by rw [← hZ]; exact heap_alloc_new _ _
  have hB1 := hB.alloc (by omega) (.cells #[.string (strOf r), .int .i64 x0, .int .i64 x1] 25)
  have hZ1 : (W0.alloc (.cells #[.string (strOf r), .int .i64 x0, .int .i64 x1] 25)).heap.size = w.heap.size + 1 + 1 := by rw [← hZ]; simp
  generalize W0.alloc (.cells #[.string (strOf r), .int .i64 x0, .int .i64 x1] 25) = W1 at hR1 hR2 hB1 hZ1 ⊢
  obtain ⟨c0, c1, c2⟩ := aggAt hR2
  go_wp2_with (go_at_call 9; refine (refMay_any _ _ _ _).mono ?_; rw [Hm.out]; rintro e w' ⟨rfl, hb⟩; have e0 := (hb.block w.heap.size (by show _ < W1.heap.size; omega)).trans hR1; have e1 := (hb.block (w.heap.size + 1) (by show _ < W1.heap.size; omega)).trans hR2; obtain ⟨m0, m1, m2⟩ := aggAt e0; obtain ⟨n0, n1, n2⟩ := aggAt e1; have f0 := frozen_of_row _ _ 0 _ _ e0; have f1 := frozen_of_row _ _ 1 _ _ e0; have f2 := frozen_of_row _ _ 2 _ _ e0)
  have hB2 := hB1.drew.trans (hb.mono (B' := w.heap.size) (by show _ ≤ W1.heap.size; omega))
  exact bodyPost_ret (ret_cell rfl _ _ _ _ _ _ _ _ rfl (row3 e0) rfl) rfl ⟨rfl, ((hB2.setCell (Nat.le_refl _) _).setCell (Nat.le_refl _) _).setCell (Nat.le_refl _) _⟩
set_option maxRecDepth 100000 in
theorem refOf_any (l : List Nat) (v : Value) (w : World) (h : BytesAt w v l) (hcap : ∀ A n c, v = .slice A n c → n ≤ c) : Calls Tryz.prog 7 #[v] w fun e w' => e = .returned (.tuple #[agE l, if okE l = true then .bool true else .bool false]) ∧ Below w.heap.size w w' := by
  by_cases hl : l.length < 3
  · have hk : okE l = false := by
      unfold okE mayB; by_cases h2 : 2 ≤ l.length
      · rw [decide_eq_false (show ¬ (1 ≤ l.length - 2) by omega)]; simp
      · rw [decide_eq_false h2]; rfl
    obtain ⟨A, c, rfl, -, -⟩ := h.one
    clear hcap
    rw [hk, agE_f hk]
    have H := Lib.hid h
    clear h hk
    go_enter Tryz.func7, Tryz.ntmps7
    go_wp2
    all_goals
      refine bodyPost_ret (ret_cell rfl _ _ _ _ _ _ _ _ rfl (heap_alloc_new _ _) rfl) rfl ⟨rfl, (Below.refl _ _).alloc (Nat.le_refl _) _⟩
  · obtain ⟨x0, x1, r, rfl⟩ : ∃ x0 x1 r, l = x0 :: x1 :: r := by
      match l, hl with
      | [], hl => exact absurd (by simp) hl
      | [_], hl => exact absurd (by simp) hl
      | x0 :: x1 :: r, _ => exact ⟨x0, x1, r, rfl⟩
    obtain ⟨hb, ⟨-, h0⟩ | ⟨b, off, c, rfl, hc⟩⟩ := h
    · cases h0
    have hcp := hcap _ _ _ rfl
    have hok : okE (x0 :: x1 :: r) = mayB (strOf r).size x0 x1 := by
      unfold okE; rw [strOf_size, decide_eq_true (by simp)]; rfl
    have hr : ∀ j, (h : j < r.length) → w.cell? ⟨b, (if c = 2 then off else off + 2) + j, none⟩ = some (.int .u8 (r[j] : Nat)) := fun j hj => by
      rw [if_neg (by rw [List.length_cons, List.length_cons] at hcp; omega)]
      have := hc (j + 2) (by simp; omega)
      rw [show off + 2 + j = off + (j + 2) by omega, this]
      rfl
    cases hm : mayB (strOf r).size x0 x1
    · rw [agE_f (hok.trans hm), hok.trans hm]
      exact refOf_f x0 x1 r b off _ c w hc hr (slice_if c b off) hcp (hb x0 (by simp)) (hb x1 (by simp)) hm (by simpa using hl)
    · have ha : agE (x0 :: x1 :: r) = .agg #[.string (strOf r), .int .i64 x0, .int .i64 x1] := by
        unfold agE sE pE qE; rw [hok.trans hm]; rfl
      rw [ha, hok.trans hm]
      exact refOf_t x0 x1 r b off _ c w hc hr (slice_if c b off) hcp (hb x0 (by simp)) (hb x1 (by simp)) hm (by simpa using hl)
end Go.Proofs.Ie
