/- The reference's bytes of a version. -/
import Derived.Test.YtekafaeefpgnjaaHbG
import Derived.Deep.RegionHeld3
namespace Go.Proofs.Hb
open Go Go.RowKit Go.Hb Go.Crc
theorem own_below {w w' : World} {B n : Nat} {v : Value} {xs : List Value} (h : w.ownsRow B 5 1 v n xs) (hb : Below w.heap.size w w') : w'.ownsRow B 5 1 v n xs := by
  refine ⟨h.1, ?_⟩
  rcases h.2 with h0 | ⟨g, cap, cur, h0, h1, h2, h3⟩
  · exact .inl h0
  · exact .inr ⟨g, cap, cur, h0, h1, (hb.block g (Array.getElem?_eq_some_iff.1 h2).1).trans h2, h3⟩
theorem wp_app {o : Oper} {a : Act} {K : Act → World → Prop} {Q : Exit → Act → World → Prop} (w : World) (s x : Operand) (ho : o.op = .call { callee := .builtin .append, args := #[s, x], argTypes := #[22, 22] })
    (B : Nat) (v : Value) (n : Nat) (l : List Nat) (hs : a.eval s = v) (hown : w.ownsRow B 5 1 v n (u8s l)) (A : Option Addr) (m c : Nat) (r : List Nat) (hx : a.eval x = .slice A m c) (hr : BytesAt w (.slice A m c) r)
    (hlen : n + m ≤ 1000000) (hB : B ≤ w.heap.size)
    (h : ∀ v' w', w'.ownsRow B 5 1 v' (n + m) (u8s (l ++ r)) → w.grownBy w' v.ownBlock → K (a.put o.dst v') w') : o.wp Try.prog a w K Q := by
  obtain ⟨i0, hi, hz0, hz1, hz2⟩ := info_parts info5
  have hm := bytes_len hr
  cases A with
  | none =>
    obtain ⟨rfl, rfl⟩ := bytes_none hr rfl
    have hr0 : r = [] := List.eq_nil_of_length_eq_zero hm.symm
    subst hr0
    have hrun := run_append_owned_none (P := Try.prog) (w := w) B 22 o.type 5 i0 1 Try.underlying22 hi v n _ hown
    unfold Oper.wp execOp
    simp only [ho, resolve, invoke, builtin, Sem.run_bind, Sem.run_pure, Result.andThen_ok, List.map_toArray, List.map_cons, List.map_nil, hs, hx, hrun]
    refine h v w ?_ (gb_refl _ _)
    rw [List.append_nil]
    exact hown
  | some ad =>
    refine wp_append_own w s x 22 ho B 5 i0 (.int .u8 0) 1 1 Try.underlying22 hi hz0 hz1 hz2 rfl (by decide) v n (u8s l) hs hown ad m c (u8s r) hx (by rw [u8s_len, Nat.mul_one]; exact hm.symm) (bytes_cells hr ad rfl) (u8s_one _) (by unfold maxLen; omega) (by omega) hB ?_
    intro v' w' h1 h2 _
    refine h v' w' ?_ h2
    rw [u8s_app]
    exact h1
theorem own_grown {w w' : World} {B n : Nat} {v : Value} {xs : List Value} {r : Option Nat} (h : w.ownsRow B 5 1 v n xs) (hg : w.grownBy w' r) (hr : ∀ j, r = some j → v.ownBlock ≠ some j) : w'.ownsRow B 5 1 v n xs := by
  refine ⟨h.1, ?_⟩
  rcases h.2 with h0 | ⟨g, cap, cur, h0, h1, h2, h3⟩
  · exact .inl h0
  · refine .inr ⟨g, cap, cur, h0, h1, (hg.block g (Array.getElem?_eq_some_iff.1 h2).1 ?_).trans h2, h3⟩
    intro e
    exact hr g e.symm (by rw [h0]; rfl)
theorem own_shape {w : World} {B n : Nat} {v : Value} {l : List Nat} (h : w.ownsRow B 5 1 v n (u8s l)) (hl : ∀ x ∈ l, x < 256) : ∃ A c, v = .slice A n c ∧ BytesAt w (.slice A n c) l := by
  have hb := own_bytes h hl
  obtain ⟨A, c, rfl, -, -⟩ := hb.one
  have := h.1
  rw [u8s_len, Nat.mul_one] at this
  exact ⟨A, c, by rw [this], by rw [← this]; exact hb⟩
set_option maxRecDepth 100000 in
set_option maxHeartbeats 4000000 in
theorem refBytes_any (A1 A2 : Option Addr) (n1 c1 n2 c2 a b : Nat) (k x : List Nat) (w : World) (ha : a < 18446744073709551616) (hb : b < 18446744073709551616) (hk : BytesAt w (.slice A1 n1 c1) k) (hx : BytesAt w (.slice A2 n2 c2) x) (hk2 : k.length ≤ 300) (hx2 : x.length ≤ 300) : Calls Try.prog 9 #[.agg #[.slice A1 n1 c1, .slice A2 n2 c2, .int .u64 a, .int .u64 b]] w fun e w' => (∃ v, e = .returned v ∧ BytesAt w' v (enc k x a b)) ∧ Below w.heap.size w w' := by
  obtain rfl := bytes_len hk
  obtain rfl := bytes_len hx
  have HK := Lib.hid hk
  have HX := Lib.hid hx
  clear hk hx
  have R0 := Lib.hid (heap_alloc_new w (.cells #[.slice A1 k.length c1, .slice A2 x.length c2, .int .u64 a, .int .u64 b] 25))
  have B0 := Lib.hid ((Below.refl w.heap.size w).alloc (Nat.le_refl _) (.cells #[.slice A1 k.length c1, .slice A2 x.length c2, .int .u64 a, .int .u64 b] 25))
  have Z0 := Lib.hid (show w.heap.size < (w.alloc (.cells #[.slice A1 k.length c1, .slice A2 x.length c2, .int .u64 a, .int .u64 b] 25)).heap.size by simp)
  have HW := Lib.hid (IntWalk.u64_in (k.length : Int) (by omega))
  go_enter Try.func9, Try.ntmps9
  go_wp2
  generalize w.alloc (.cells #[.slice A1 k.length c1, .slice A2 x.length c2, .int .u64 a, .int .u64 b] 25) = W0 at R0 B0 Z0 ⊢
  go_region_held3 (fun X => X.cell? ⟨w.heap.size, 0, none⟩ = some (.slice A1 k.length c1) ∧ X.cell? ⟨w.heap.size, 1, none⟩ = some (.slice A2 x.length c2) ∧ X.cell? ⟨w.heap.size, 2, none⟩ = some (.int .u64 a) ∧ X.cell? ⟨w.heap.size, 3, none⟩ = some (.int .u64 b)) (first | exact row4 R3.out | exact row4 R2.out | exact row4 R1.out | exact row4 R0.out)
    (first
      | (go_at_call 22; first
        | (refine (refNum_any b 8 w1 (by omega) hb).mono ?_; rintro e w2 ⟨⟨v9, rfl, o9⟩, h2⟩; have R2 := Lib.hid ((h2.block _ Z1.out).trans R1.out); have Z2 := Lib.hid (Nat.lt_of_lt_of_le Z1.out h2.size); have B2 := Lib.hid (B1.out.trans (h2.mono B1.out.size)); have S2 : w1.heap.size ≤ w2.heap.size := h2.size; have O6b := Lib.hid (own_below O6.out h2); obtain ⟨a9, d9, rfl, g9⟩ := own_shape o9 (be_lt _ _); have V9 := Lib.hid g9; clear h2 o9 g9)
        | (refine (refNum_any a 8 W0.drew (by omega) ha).mono ?_; rintro e w1 ⟨⟨v6, rfl, o6⟩, h1⟩; have R1 := Lib.hid ((h1.block _ Z0.out).trans R0.out); have Z1 := Lib.hid (Nat.lt_of_lt_of_le Z0.out h1.size); have B1 := Lib.hid (B0.out.drew.trans (h1.mono B0.out.size)); have S1 : W0.heap.size ≤ w1.heap.size := h1.size; have O6 := Lib.hid o6; clear h1 o6))
      | (rw [if_pos (by rfl)]; refine wp_app w2 (.tmp 6) (.tmp 9) rfl W0.heap.size _ 8 _ rfl O6b.out _ _ _ _ rfl V9.out (by omega) (by omega) ?_; intro v3 w3 o3 g3; have hb3 : ∀ j, v6.ownBlock = some j → w.heap.size < j := (fun j e => Nat.lt_of_lt_of_le Z0.out (O6b.out.lt _ e).1); have R3 := Lib.hid ((g3.block _ Z2.out (fun e => by have := hb3 _ e.symm; omega)).trans R2.out); have Z3 := Lib.hid (Nat.lt_of_lt_of_le Z2.out g3.size); have B3 := Lib.hid (B2.out.grown g3 B2.out.size (fun j e => Nat.le_of_lt (hb3 j e))); have O3 := Lib.hid o3; have S3 : w2.heap.size ≤ w3.heap.size := g3.size; clear o3 g3 hb3))
  have Wz := Z0.out
  clear R2 R1 R0 Z0 Z1 Z2 B1 B2 O6 O6b V9 B0
  have Wk : W0.heap.size ≤ w3.heap.size := by omega
  go_wp2
  go_region_held3 (fun X => X.cell? ⟨w.heap.size, 0, none⟩ = some (.slice A1 k.length c1) ∧ X.cell? ⟨w.heap.size, 1, none⟩ = some (.slice A2 x.length c2) ∧ X.cell? ⟨w.heap.size, 2, none⟩ = some (.int .u64 a) ∧ X.cell? ⟨w.heap.size, 3, none⟩ = some (.int .u64 b)) (first | exact row4 R6.out | exact row4 R5.out | exact row4 R4.out | exact row4 R3.out)
    (first
      | (go_at_call 22; rw [HW.out]; refine (refNum_any k.length 2 w3.drew (by omega) (by omega)).mono ?_; rintro e w4 ⟨⟨v16, rfl, o16⟩, h4⟩; have R4 := Lib.hid ((h4.block _ Z3.out).trans R3.out); have Z4 := Lib.hid (Nat.lt_of_lt_of_le Z3.out h4.size); have B4 := Lib.hid (B3.out.drew.trans (h4.mono B3.out.size)); have S4 : w3.heap.size ≤ w4.heap.size := h4.size; have O4 := Lib.hid (own_below O3.out.drew h4); obtain ⟨a16, d16, rfl, g16⟩ := own_shape o16 (be_lt _ _); have V16 := Lib.hid g16; clear h4 o16 g16)
      | (rw [if_pos (by rfl)]; refine wp_app w4 (.tmp 11) (.tmp 16) rfl W0.heap.size _ 16 _ rfl O4.out _ _ _ _ rfl V16.out (by omega) (by omega) ?_; intro v5 w5 o5 g5; have hb5 : ∀ j, v3.ownBlock = some j → w.heap.size < j := (fun j e => Nat.lt_of_lt_of_le Wz (O4.out.lt _ e).1); have R5 := Lib.hid ((g5.block _ Z4.out (fun e => by have := hb5 _ e.symm; omega)).trans R4.out); have Z5 := Lib.hid (Nat.lt_of_lt_of_le Z4.out g5.size); have B5 := Lib.hid (B4.out.grown g5 B4.out.size (fun j e => Nat.le_of_lt (hb5 j e))); have O5 := Lib.hid o5; have S5 : w4.heap.size ≤ w5.heap.size := g5.size; clear o5 g5 hb5)
      | (rw [if_pos (by rfl)]; refine wp_app w5 (.tmp 17) (.tmp 19) rfl W0.heap.size _ 18 _ rfl O5.out _ _ _ _ rfl (HK.out.below B5.out) (by omega) (by omega) ?_; intro v6' w6 o6 g6; have hb6 : ∀ j, v5.ownBlock = some j → w.heap.size < j := (fun j e => Nat.lt_of_lt_of_le Wz (O5.out.lt _ e).1); have R6 := Lib.hid ((g6.block _ Z5.out (fun e => by have := hb6 _ e.symm; omega)).trans R5.out); have Z6 := Lib.hid (Nat.lt_of_lt_of_le Z5.out g6.size); have B6 := Lib.hid (B5.out.grown g6 B5.out.size (fun j e => Nat.le_of_lt (hb6 j e))); have O6 := Lib.hid o6; have S6 : w5.heap.size ≤ w6.heap.size := g6.size; clear o6 g6 hb6))
  clear R3 R4 R5 Z3 Z4 Z5 B3 B4 B5 O3 O4 O5 V16
  have Wk2 : W0.heap.size ≤ w6.heap.size := by omega
  have HW2 := Lib.hid (IntWalk.u64_in (x.length : Int) (by omega))
  go_wp2
  go_region_held3 (fun X => X.cell? ⟨w.heap.size, 0, none⟩ = some (.slice A1 k.length c1) ∧ X.cell? ⟨w.heap.size, 1, none⟩ = some (.slice A2 x.length c2) ∧ X.cell? ⟨w.heap.size, 2, none⟩ = some (.int .u64 a) ∧ X.cell? ⟨w.heap.size, 3, none⟩ = some (.int .u64 b)) (first | exact row4 R9.out | exact row4 R8.out | exact row4 R7.out | exact row4 R6.out)
    (first
      | (go_at_call 22; rw [HW2.out]; refine (refNum_any x.length 2 w6.drew (by omega) (by omega)).mono ?_; rintro e w7 ⟨⟨v26, rfl, o26⟩, h7⟩; have R7 := Lib.hid ((h7.block _ Z6.out).trans R6.out); have Z7 := Lib.hid (Nat.lt_of_lt_of_le Z6.out h7.size); have B7 := Lib.hid (B6.out.drew.trans (h7.mono B6.out.size)); have S7 : w6.heap.size ≤ w7.heap.size := h7.size; have O7 := Lib.hid (own_below O6.out.drew h7); obtain ⟨a26, d26, rfl, g26⟩ := own_shape o26 (be_lt _ _); have V26 := Lib.hid g26; clear h7 o26 g26)
      | (rw [if_pos (by rfl)]; refine wp_app w7 (.tmp 21) (.tmp 26) rfl W0.heap.size _ (18 + k.length) _ rfl O7.out _ _ _ _ rfl V26.out (by omega) (by omega) ?_; intro v8 w8 o8 g8; have hb8 : ∀ j, v6'.ownBlock = some j → w.heap.size < j := (fun j e => Nat.lt_of_lt_of_le Wz (O7.out.lt _ e).1); have R8 := Lib.hid ((g8.block _ Z7.out (fun e => by have := hb8 _ e.symm; omega)).trans R7.out); have Z8 := Lib.hid (Nat.lt_of_lt_of_le Z7.out g8.size); have B8 := Lib.hid (B7.out.grown g8 B7.out.size (fun j e => Nat.le_of_lt (hb8 j e))); have O8 := Lib.hid o8; have S8 : w7.heap.size ≤ w8.heap.size := g8.size; clear o8 g8 hb8)
      | (rw [if_pos (by rfl)]; refine wp_app w8 (.tmp 27) (.tmp 29) rfl W0.heap.size _ (18 + k.length + 2) _ rfl O8.out _ _ _ _ rfl (HX.out.below B8.out) (by omega) (by omega) ?_; intro v9 w9 o9 g9; have hb9 : ∀ j, v8.ownBlock = some j → w.heap.size < j := (fun j e => Nat.lt_of_lt_of_le Wz (O8.out.lt _ e).1); have R9 := Lib.hid ((g9.block _ Z8.out (fun e => by have := hb9 _ e.symm; omega)).trans R8.out); have B9 := Lib.hid (B8.out.grown g9 B8.out.size (fun j e => Nat.le_of_lt (hb9 j e))); have O9 := Lib.hid o9; clear o9 g9 hb9))
  have hlt : ∀ y ∈ be 8 a ++ be 8 b ++ be 2 k.length ++ k ++ be 2 x.length ++ x, y < 256 := by
    intro y hy
    simp only [List.mem_append] at hy
    rcases hy with ((((h | h) | h) | h) | h) | h
    · exact be_lt _ _ y h
    · exact be_lt _ _ y h
    · exact be_lt _ _ y h
    · exact HK.out.1 y h
    · exact be_lt _ _ y h
    · exact HX.out.1 y h
  have hfin := own_bytes O9.out hlt
  have he : be 8 a ++ be 8 b ++ be 2 k.length ++ k ++ be 2 x.length ++ x = enc k x a b := by
    unfold enc
    simp only [List.append_assoc]
  rw [he] at hfin
  clear R6 R7 R8 R9 Z6 Z7 Z8 O6 O7 O8 O9 V26 HW HW2 hlt he
  go_wp2
  go_ret
  exact ⟨⟨_, rfl, hfin⟩, B9.out⟩
end Go.Proofs.Hb
