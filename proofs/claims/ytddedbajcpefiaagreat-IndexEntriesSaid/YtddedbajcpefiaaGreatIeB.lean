import Derived.Lib.ConvBytes
import Derived.Lib.AtoiErrMem
import Derived.Laws.Cells
import Derived.Test.YtddedbajcpefiaaGreatIeA
import Derived.Test.YtddedbajcpefiaaGreatCrcP
namespace Go.Proofs.Ie
open Go Go.RowKit Go.Ie Go.Crc
theorem at_row {W : World} {N e : Nat} {fr : Nat × Nat} {c : Array Value} (h : W.heap[N]? = some (.cells c e fr)) {l : List Nat} {rest : List Value} (hc : c.toList = l.map (fun x : Nat => Value.int .u8 (x : Int)) ++ rest) (hl : ∀ x ∈ l, x < 256) (n cap : Nat) (hn : n = l.length) : BytesAt W (.slice (some ⟨N, 0, none⟩) n cap) l := by
  subst hn
  refine ⟨hl, .inr ⟨N, 0, cap, rfl, fun j hj => ?_⟩⟩
  unfold World.cell?
  rw [h]
  have : c.toList[0 + j]? = some (.int .u8 (l[j] : Nat)) := by
    rw [Nat.zero_add, hc, List.getElem?_append_left (by rw [List.length_map]; exact hj), List.getElem?_map, List.getElem?_eq_getElem hj]; rfl
  simpa using this
def ofE (s : ByteArray) (p q : Int) : List Nat := p.toNat :: q.toNat :: s.data.toList.map UInt8.toNat
theorem ofE_lt (s : ByteArray) (p q : Int) (hp1 : p ≤ 255) (hq1 : q ≤ 255) : ∀ x ∈ ofE s p q, x < 256 := by
  intro x hx
  unfold ofE at hx
  rcases List.mem_cons.1 hx with rfl | hx
  · omega
  rcases List.mem_cons.1 hx with rfl | hx
  · omega
  obtain ⟨b, _, rfl⟩ := List.mem_map.1 hx
  exact UInt8.toNat_lt b
theorem ofE_len (s : ByteArray) (p q : Int) : (ofE s p q).length = 2 + s.size := by
  unfold ofE
  simp only [List.length_cons, List.length_map]
  have : s.data.toList.length = s.size := Array.length_toList
  omega
theorem ofE_cells (s : ByteArray) (p q : Int) (hp0 : 0 ≤ p) (hq0 : 0 ≤ q) : (ofE s p q).map (fun x : Nat => Value.int .u8 (x : Int)) = [.int .u8 p, .int .u8 q] ++ (Array.map (fun b : UInt8 => Value.int IntKind.u8 (b.toNat : Int)) s.data).toList := by
  unfold ofE
  simp only [List.map_cons, List.map_map]
  rw [Int.toNat_of_nonneg hp0, Int.toNat_of_nonneg hq0, Array.toList_map]
  rfl
theorem capOk : ∀ k, k ≤ 34 → ¬ 281474976710656 < Builtin.nextslicecap k 2 * Tryz.t5.bytes := by
  have hb : Tryz.t5.bytes = 1 := by kernel_rfl
  rw [hb]
  decide
set_option maxRecDepth 100000 in
theorem bytes_any (s : ByteArray) (p q : Int) (w : World) (hp0 : 0 ≤ p) (hp1 : p ≤ 255) (hq0 : 0 ≤ q) (hq1 : q ≤ 255) (hs : s.size ≤ 32) (hs1 : 1 ≤ s.size) : Calls Tryz.prog 21 #[.agg #[.string s, .int .i64 p, .int .i64 q]] w fun e w' => (∃ v, e = .returned v ∧ BytesAt w' v (ofE s p q)) ∧ Below w.heap.size w w' := by
  have hno : ¬ (2 + s.size ≤ 2) := by omega
  have hcap := capOk (2 + s.size) (by omega)
  go_enter Tryz.func21, Tryz.ntmps21
  go_wp2
  go_ret
  refine ⟨⟨_, rfl, ?_⟩, ((((Below.refl _ _).alloc (Nat.le_refl _) _).alloc (by simp) _).alloc (by simp; omega) _).drew⟩
  have hh : ∀ (X : World) (o : Obj) (N : Nat), N = X.heap.size → (World.drew (X.alloc o)).heap[N]? = some o := by
    rintro X o N rfl
    exact heap_alloc_new X o
  refine at_row (hh _ _ _ (by simp)) (rest := ?_) ?_ (ofE_lt s p q hp1 hq1) _ _ (ofE_len s p q).symm
  rotate_left
  · rw [ofE_cells s p q hp0 hq0, Array.toList_append, Array.toList_append]
    have e : ((Array.map (fun b : UInt8 => Value.int IntKind.u8 (b.toNat : Int)) s.data).extract 0 s.size).toList = (Array.map (fun b : UInt8 => Value.int IntKind.u8 (b.toNat : Int)) s.data).toList := by
      have : s.size = (Array.map (fun b : UInt8 => Value.int IntKind.u8 (b.toNat : Int)) s.data).size := by rw [Array.size_map]; rfl
      rw [this, Array.extract_size]
    rw [e, ← List.append_assoc]
set_option maxRecDepth 100000 in
theorem refBytes_any (s : ByteArray) (p q : Int) (w : World) (hp0 : 0 ≤ p) (hp1 : p ≤ 255) (hq0 : 0 ≤ q) (hq1 : q ≤ 255) (hs : s.size ≤ 32) (hs1 : 1 ≤ s.size) : Calls Tryz.prog 13 #[.agg #[.string s, .int .i64 p, .int .i64 q]] w fun e w' => (∃ v, e = .returned v ∧ BytesAt w' v (ofE s p q)) ∧ Below w.heap.size w w' := by
  have hno : ¬ (2 + s.size ≤ 2) := by omega
  have hcap := capOk (2 + s.size) (by omega)
  go_enter Tryz.func13, Tryz.ntmps13
  go_wp2
  rw [Lib.run_convert_string_bytes (P := Tryz.prog) _ 9 26 5 s (u := .string) (by kernel_rfl) (by kernel_rfl) (by kernel_rfl)]
  have hB := ((Below.refl w.heap.size w).alloc (Nat.le_refl _) (.cells #[.string s, .int .i64 p, .int .i64 q] 25)).alloc (by simp) (.cells #[.int .u8 p, .int .u8 q] 5)
  have hZ : ((w.alloc (.cells #[.string s, .int .i64 p, .int .i64 q] 25)).alloc (.cells #[.int .u8 p, .int .u8 q] 5)).heap.size = w.heap.size + 1 + 1 := by simp
  have hR : ((w.alloc (.cells #[.string s, .int .i64 p, .int .i64 q] 25)).alloc (.cells #[.int .u8 p, .int .u8 q] 5)).heap[w.heap.size + 1]? = some (.cells #[.int .u8 p, .int .u8 q] 5) := by
    have := heap_alloc_new (w.alloc (.cells #[.string s, .int .i64 p, .int .i64 q] 25)) (.cells #[.int .u8 p, .int .u8 q] 5)
    simpa using this
  generalize hW0 : (w.alloc (.cells #[.string s, .int .i64 p, .int .i64 q] 25)).alloc (.cells #[.int .u8 p, .int .u8 q] 5) = W0 at hB hZ hR ⊢
  have hR2 : (Lib.bytesWorld W0 5 s).drew.heap[w.heap.size + 1]? = some (.cells #[.int .u8 p, .int .u8 q] 5) := by
    show (Lib.bytesWorld W0 5 s).heap[w.heap.size + 1]? = _
    rw [Lib.bytesWorld_at_old W0 5 s _ (by omega), hR]
  have hsrc : Sem.run Tryz.prog (loadCellsFrom ⟨w.heap.size + 1 + 1, 0, none⟩ 0 s.size #[]) (Lib.bytesWorld W0 5 s).drew = .ok (Array.map (fun b : UInt8 => Value.int .u8 (b.toNat : Int)) s.data) (Lib.bytesWorld W0 5 s).drew := by
    have h := run_loadCellsFrom (P := Tryz.prog) (w := (Lib.bytesWorld W0 5 s).drew) ⟨w.heap.size + 1 + 1, 0, none⟩ (fun j => Value.int .u8 ((s.data.toList.getD j 0).toNat : Int)) s.size 0 #[] ?_
    · refine Eq.trans h ?_
      congr 1
      rw [Array.empty_append]
      apply Array.ext'
      rw [Array.toList_map]
      apply List.ext_getElem
      · rw [List.length_map, List.length_map, List.length_range]; exact Array.length_toList.symm
      intro n h1 h2
      have hn : n < s.data.toList.length := by rw [List.length_map] at h2; exact h2
      simp only [List.getElem_map, List.getElem_range, Nat.zero_add, List.getD_eq_getElem?_getD, List.getElem?_eq_getElem hn, Option.getD_some]
    intro j hj
    have h6 := Lib.bytesWorld_cell W0 5 s j hj
    rw [hZ] at h6
    show (Lib.bytesWorld W0 5 s).cell? _ = _
    have ea : (⟨w.heap.size + 1 + 1, 0, none⟩ : Addr).add (0 + j) = ⟨w.heap.size + 1 + 1, j, none⟩ := by
      rw [Nat.zero_add]; unfold Addr.add; split
      · next h => rw [h]
      · rw [Nat.zero_add]
    rw [ea, Nat.zero_add, h6]
  have hBX := hB.trans ((Lib.bytesWorld_below W0 5 s).mono (by omega))
  have hZX := Lib.bytesWorld_size W0 5 s
  generalize Lib.bytesWorld W0 5 s = X at hR2 hsrc hBX hZX ⊢
  have hC0 : X.drew.cell? ⟨w.heap.size + 1, 0, none⟩ = some (.int .u8 p) := by unfold World.cell?; rw [hR2]; rfl
  have hC1 : X.drew.cell? ⟨w.heap.size + 1, 1, none⟩ = some (.int .u8 q) := by unfold World.cell?; rw [hR2]; rfl
  go_wp2
  go_ret
  refine ⟨⟨_, rfl, ?_⟩, ((hBX.alloc (by omega) _).drew)⟩
  have hh : ∀ (X : World) (o : Obj) (N : Nat), N = X.heap.size → (World.drew (X.alloc o)).heap[N]? = some o := by
    rintro X o N rfl
    exact heap_alloc_new X o
  refine at_row (hh _ _ _ (by omega)) (rest := ?_) ?_ (ofE_lt s p q hp1 hq1) _ _ (ofE_len s p q).symm
  rotate_left
  · rw [ofE_cells s p q hp0 hq0, Array.toList_append, Array.toList_append, ← List.append_assoc]
end Go.Proofs.Ie
