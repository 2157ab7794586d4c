/- The walk of slices.Equal on bytes, over the seat's own translation. -/
import Derived.Test.YtjjnffgpfiokiaaGreatDoorCrcE
import Derived.Test.YtjjnffgpfiokiaaGreatDoorProg
import Derived.WalkKit
import Derived.ProofKit
import Derived.KernelRfl
import Derived.IntWalk
import Derived.Lib.Hide
import Derived.BigRegion
namespace Go.Proofs.YtjjnffgpfiokiaaGreatDoor.crc
open Go Go.RowKit Go.Crc
theorem eq_len {W : World} {A : Option Addr} {n c : Nat} {l : List Nat} (h : BytesAt W (.slice A n c) l) : n = l.length := by
  obtain ⟨_, ⟨h0, rfl⟩ | ⟨b, off, k, h0, _⟩⟩ := h
  · cases h0; rfl
  · cases h0; rfl
theorem ret_bool' {a b : Bool} (h : a = b) : Ending.returned (.bool a) = .returned (.bool b) := by rw [h]
set_option maxRecDepth 100000 in
theorem eq_same (A B : Option Addr) (c d : Nat) (l l' : List Nat) (w : World) (hx : BytesAt w (.slice A l.length c) l) (hy : BytesAt w (.slice B l.length d) l') (hl : l'.length = l.length) (hb : l.length < 1000000) :
    Calls Tryz.prog 281 #[.slice A l.length c, .slice B l.length d] w fun e w' => e = .returned (.bool (decide (l = l'))) ∧ Below w.heap.size w w' := by
  have HX := Lib.hid hx
  have HY := Lib.hid hy
  have HL := Lib.hid hl
  clear hx hy hl
  go_enter Tryz.func281, Tryz.ntmps281
  go_wp2
  go_loopw [5, 13] (fun _ t13 wr => ∃ k : Nat, k ≤ l.length ∧ t13 = .int .i64 k ∧ l.take k = l'.take k ∧ Below w.heap.size w wr) (fun _ t13 _ => l.length - (intOf t13).toNat)
  case atStart => exact ⟨0, Nat.zero_le _, rfl, rfl, Below.refl _ _⟩
  case round =>
    obtain ⟨k, hk, rfl, htk, hnx⟩ := hrel
    have HT := Lib.hid htk
    clear htk
    by_cases hlt : k < l.length
    · obtain ⟨-, ⟨h0, h1⟩ | ⟨b, off, c2, h0, hc⟩⟩ := HX.out
      · rw [h1] at hlt; cases hlt
      obtain ⟨-, ⟨h0', h1'⟩ | ⟨b', off', c2', h0', hc'⟩⟩ := HY.out
      · have := HL.out; rw [h1'] at this; simp at this; omega
      cases h0
      injection h0' with e1 e2 e3
      subst e1
      have hlt' : k < l'.length := by rw [HL.out]; exact hlt
      have q0 : wr.drew.cell? ⟨b, off + k, none⟩ = some (.int .u8 (l[k] : Nat)) := cell_below hnx rfl (hc k hlt)
      have q1 : wr.drew.cell? ⟨b', off' + k, none⟩ = some (.int .u8 (l'[k] : Nat)) := cell_below hnx rfl (hc' k hlt')
      clear hc hc'
      go_wp2
      go_region
      go_wp2
      · have hne : l[k] ≠ l'[k] := by
          have hh : ((l[k] : Int) != (l'[k] : Int)) = true := by assumption
          intro e
          rw [e] at hh
          simp at hh
        go_ret
        refine ⟨ret_bool' ?_, hnx.drew⟩
        exact (decide_eq_false (fun e => hne (by simp [e]))).symm
      · have heq : l[k] = l'[k] := by
          have hh : ((l[k] : Int) != (l'[k] : Int)) = false := by assumption
          have h2 : (l[k] : Int) = (l'[k] : Int) := by simpa using hh
          omega
        refine ⟨⟨k + 1, by omega, by go_num, ?_, hnx.drew⟩, by simp [intOf]; omega⟩
        rw [List.take_succ_eq_append_getElem hlt, List.take_succ_eq_append_getElem hlt', HT.out, heq]
    · have hk2 : k = l.length := by omega
      subst hk2
      have heq : l = l' := by
        have := HT.out
        rw [List.take_length] at this
        rw [← HL.out, List.take_length] at this
        exact this
      have HE := Lib.hid heq
      clear heq
      go_wp2
      go_ret
      exact ⟨ret_bool' (decide_eq_true HE.out).symm, hnx⟩
theorem eq_any (x y : Value) (l l' : List Nat) (w : World) (hx : BytesAt w x l) (hy : BytesAt w y l') (hb : l.length < 1000000) (hb' : l'.length < 1000000) :
    Calls Tryz.prog 281 #[x, y] w fun e w' => e = .returned (.bool (decide (l = l'))) ∧ Below w.heap.size w w' := by
  obtain ⟨A, c, rfl, -, -⟩ := hx.one
  obtain ⟨B, d, rfl, -, -⟩ := hy.one
  by_cases hl : l'.length = l.length
  · rw [hl] at hy ⊢
    exact eq_same A B c d l l' w hx hy hl hb
  · have hne : ¬ ((l.length : Int) = (l'.length : Int)) := by omega
    have hd : decide (l = l') = false := decide_eq_false (fun e => hl (by rw [e]))
    rw [hd]
    clear hx hy hd
    go_enter Tryz.func281, Tryz.ntmps281
    go_wp2
    go_ret
    exact ⟨rfl, Below.refl _ _⟩
end Go.Proofs.YtjjnffgpfiokiaaGreatDoor.crc
