/- CRC-32C, plainly. No program in sight. -/
import Derived.Laws.BitsAllLaws
import Derived.Laws.Tables
import Derived.Below
import Derived.WalkKit
namespace Go.Crc
open Go Go.RowKit
/-- A register times x. -/
def bx (p : Nat) : Nat := if p % 2 = 1 then p / 2 ^^^ 2197175160 else p / 2
def it : Nat → Nat → Nat
  | 0, i => i
  | k + 1, i => bx (it k i)
def tb (i : Nat) : Nat := it 8 i
def st (r c : Nat) : Nat := r / 256 ^^^ tb (r % 256 ^^^ c)
theorem bx_lt {p : Nat} (h : p < 4294967296) : bx p < 4294967296 := by
  unfold bx
  split
  · exact Nat.xor_lt_two_pow (n := 32) (by omega) (by omega)
  · omega
theorem it_lt : ∀ (k : Nat) {i : Nat}, i < 4294967296 → it k i < 4294967296
  | 0, _, h => h
  | k + 1, _, h => bx_lt (it_lt k h)
theorem tb_lt {i : Nat} (h : i < 4294967296) : tb i < 4294967296 := it_lt 8 h
theorem xor_byte {a b : Nat} (h : a < 256) (k : b < 256) : a ^^^ b < 256 := Nat.xor_lt_two_pow (n := 8) h k
theorem st_lt {r c : Nat} (h : r < 4294967296) (k : c < 256) : st r c < 4294967296 := by
  unfold st
  exact Nat.xor_lt_two_pow (n := 32) (by omega) (tb_lt (by have := xor_byte (Nat.mod_lt r (by decide : 0 < 256)) k; omega))
theorem ret_u32 {a b : Int} (h : a = b) : Ending.returned (.int .u32 a) = .returned (.int .u32 b) := by rw [h]
theorem and1 (p : Nat) (h1 : p < 4294967296) : bits BinOp.and IntKind.u32 p 1 = ((p % 2 : Nat) : Int) := by
  have := u32_and_nat p 1 h1 (by decide)
  rw [Nat.and_one_is_mod] at this
  exact this
theorem xorc (p : Nat) (h1 : p < 4294967296) : bits BinOp.xor IntKind.u32 ((p : Int) / 2) 2197175160 = ((p / 2 ^^^ 2197175160 : Nat) : Int) := by
  have := u32_xor_nat (p / 2) 2197175160 (by omega) (by decide)
  rw [← this]; rfl
def bxi (p : Int) : Int := if (bits BinOp.and IntKind.u32 p 1 == 1) = true then bits BinOp.xor IntKind.u32 (p / 2) 2197175160 else p / 2
theorem bxi_eq (p : Nat) (h1 : p < 4294967296) : bxi p = ((bx p : Nat) : Int) := by
  unfold bxi bx
  rw [and1 p h1, xorc p h1]
  by_cases h : p % 2 = 1
  · rw [if_pos h, if_pos (by rw [h]; rfl)]
  · rw [if_neg h, if_neg (by intro e; apply h; have : ((p % 2 : Nat) : Int) = 1 := by simpa using e
                             omega)]
    omega
def Arr (W : World) (N T : Nat) (F : Nat → Nat) : Prop := ∃ c : Array Value, W.heap[N]? = some (.cells c T (0, 0)) ∧ c.size = 256 ∧ ∀ i, i < 256 → c[i]? = some (.int .u32 (F i))
theorem Arr.cell {W : World} {N T : Nat} {F : Nat → Nat} (h : Arr W N T F) {i : Nat} (hi : i < 256) : W.cell? ⟨N, i, none⟩ = some (.int .u32 (F i)) := by
  obtain ⟨c, h1, h2, h3⟩ := h
  unfold World.cell?
  rw [h1]
  simpa using h3 i hi
theorem Arr.frozen {W : World} {N T : Nat} {F : Nat → Nat} (h : Arr W N T F) (i : Nat) : W.frozen? ⟨N, i, none⟩ = false := by
  obtain ⟨c, h1, h2, h3⟩ := h
  unfold World.frozen?
  rw [h1]
  simp
theorem Arr.cong {W : World} {N T : Nat} {F G : Nat → Nat} (h : Arr W N T F) (hg : ∀ i, i < 256 → F i = G i) : Arr W N T G := by
  obtain ⟨c, h1, h2, h3⟩ := h
  exact ⟨c, h1, h2, fun i hi => by rw [← hg i hi]; exact h3 i hi⟩
theorem Arr.set {W : World} {N T : Nat} {F : Nat → Nat} (h : Arr W N T F) {i v : Nat} (hi : i < 256) : Arr (W.setCell ⟨N, i, none⟩ (.int .u32 v)) N T (fun j => if j = i then v else F j) := by
  obtain ⟨c, h1, h2, h3⟩ := h
  have hN : N < W.heap.size := (Array.getElem?_eq_some_iff.1 h1).1
  refine ⟨c.setIfInBounds i (.int .u32 v), ?_, by simp [h2], fun j hj => ?_⟩
  · unfold World.setCell
    simp [Array.getElem?_modify, h1]
  · rw [Array.getElem?_setIfInBounds]
    by_cases e : i = j
    · subst e; simp [h2, hi]
    · rw [if_neg e, h3 j hj]
      show _ = some (Value.int IntKind.u32 ((if j = i then v else F j : Nat) : Int))
      rw [if_neg (fun e' : j = i => e e'.symm)]
theorem ones_xor (s : Nat) (h : s < 4294967296) : 4294967295 ^^^ s = 4294967295 - s := by
  have h1 := BitVec.toNat_not (x := BitVec.ofNat 32 s)
  have h2 : (~~~ (BitVec.ofNat 32 s)).toNat = (BitVec.allOnes 32).toNat ^^^ (BitVec.ofNat 32 s).toNat := by rw [← BitVec.toNat_xor, BitVec.allOnes_xor]
  have h3 : (BitVec.ofNat 32 s).toNat = s := by rw [BitVec.toNat_ofNat]; exact Nat.mod_eq_of_lt h
  rw [h2, h3] at h1
  have h4 : (BitVec.allOnes 32).toNat = 4294967295 := by decide
  rw [h4] at h1
  rw [h1]
theorem max_xor (s : Nat) (h : s < 4294967296) : bits BinOp.xor IntKind.u32 IntKind.u32.max (s : Int) = ((4294967295 - s : Nat) : Int) := by
  have h1 := u32_xor_nat 4294967295 s (by decide) h
  rw [ones_xor s h] at h1
  rw [← h1]
  rfl
def BytesAt (w : World) (v : Value) (l : List Nat) : Prop :=
  (∀ x ∈ l, x < 256) ∧ ((v = .slice none 0 0 ∧ l = []) ∨ ∃ b off c, v = .slice (some ⟨b, off, none⟩) l.length c ∧ ∀ j, (h : j < l.length) → w.cell? ⟨b, off + j, none⟩ = some (.int .u8 (l[j] : Nat)))
def ListAt (w : World) (v : Value) (ls : List (List Nat)) : Prop :=
  (v = .slice none 0 0 ∧ ls = []) ∨ ∃ b off c, v = .slice (some ⟨b, off, none⟩) ls.length c ∧ ∀ i, (h : i < ls.length) → ∃ u, w.cell? ⟨b, off + i, none⟩ = some u ∧ BytesAt w u ls[i]
theorem cell_below {w W : World} {B : Nat} (h : Below B w W) (hB : B = w.heap.size) {a : Addr} {v : Value} (hc : w.cell? a = some v) : W.cell? a = some v := by
  have hlt : a.block < w.heap.size := block_lt_of_cell hc
  have := h.block a.block (by omega)
  unfold World.cell? at hc ⊢
  rw [this]; exact hc
def sumTo (ls : List (List Nat)) (i : Nat) : Nat := (ls.take i).flatten.foldl st 4294967295
theorem BytesAt.one {w : World} {v : Value} {l : List Nat} (h : BytesAt w v l) : ∃ A c, v = .slice A l.length c ∧ (∀ j, (h : j < l.length) → ∃ b off, A = some ⟨b, off, none⟩ ∧ w.cell? ⟨b, off + j, none⟩ = some (.int .u8 (l[j] : Nat))) ∧ ∀ x ∈ l, x < 256 := by
  obtain ⟨h0, ⟨rfl, rfl⟩ | ⟨b, off, c, rfl, h1⟩⟩ := h
  · exact ⟨none, 0, rfl, fun j h => by simp at h, h0⟩
  · exact ⟨_, c, rfl, fun j h => ⟨b, off, rfl, h1 j h⟩, h0⟩
theorem ListAt.one {w : World} {v : Value} {ls : List (List Nat)} (h : ListAt w v ls) : ∃ A c, v = .slice A ls.length c ∧ ∀ i, (h : i < ls.length) → ∃ b off u, A = some ⟨b, off, none⟩ ∧ w.cell? ⟨b, off + i, none⟩ = some u ∧ BytesAt w u ls[i] := by
  obtain ⟨rfl, rfl⟩ | ⟨b, off, c, rfl, h1⟩ := h
  · exact ⟨none, 0, rfl, fun j h => by simp at h⟩
  · refine ⟨_, c, rfl, fun i h => ?_⟩
    obtain ⟨u, g1, g2⟩ := h1 i h
    exact ⟨b, off, u, rfl, g1, g2⟩
theorem fold_lt : ∀ (l : List Nat) {r : Nat}, (∀ x ∈ l, x < 256) → r < 4294967296 → l.foldl st r < 4294967296
  | [], _, _, h => h
  | x :: l, _r, hl, h => fold_lt l (fun y hy => hl y (List.mem_cons_of_mem _ hy)) (st_lt h (hl x List.mem_cons_self))
theorem sumTo_lt (ls : List (List Nat)) (i : Nat) (h : ∀ l ∈ ls, ∀ x ∈ l, x < 256) : sumTo ls i < 4294967296 := by
  refine fold_lt _ (fun x hx => ?_) (by decide)
  obtain ⟨l, h1, h2⟩ := List.mem_flatten.1 hx
  exact h l (List.mem_of_mem_take h1) x h2
theorem ListAt.all {w : World} {v : Value} {ls : List (List Nat)} (h : ListAt w v ls) : ∀ l ∈ ls, ∀ x ∈ l, x < 256 := by
  intro l hl
  obtain ⟨i, hi, rfl⟩ := List.getElem_of_mem hl
  obtain ⟨rfl, rfl⟩ | ⟨b, off, c, rfl, h1⟩ := h
  · simp at hi
  · obtain ⟨u, _, g2⟩ := h1 i hi
    exact g2.1
theorem BytesAt.below {w W : World} {v : Value} {l : List Nat} (h : BytesAt w v l) (hb : Below w.heap.size w W) : BytesAt W v l := by
  refine ⟨h.1, h.2.imp_right ?_⟩
  rintro ⟨b, off, c, h1, h2⟩
  exact ⟨b, off, c, h1, fun j hj => cell_below hb rfl (h2 j hj)⟩
theorem ListAt.below {w W : World} {v : Value} {ls : List (List Nat)} (h : ListAt w v ls) (hb : Below w.heap.size w W) : ListAt W v ls := by
  refine h.imp_right ?_
  rintro ⟨b, off, c, h1, h2⟩
  refine ⟨b, off, c, h1, fun i hi => ?_⟩
  obtain ⟨u, g1, g2⟩ := h2 i hi
  exact ⟨u, cell_below hb rfl g1, g2.below hb⟩
end Go.Crc
