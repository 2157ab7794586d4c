/- The law's walk: a version that may be. -/
import Derived.Test.YtekafaeefpgnjaaHbL
import Derived.Test.YtekafaeefpgnjaaHbM
import Derived.Deep.RegionHeld3
namespace Go.Proofs.Hb
open Go Go.RowKit Go.Hb Go.Crc
theorem keepU {X : World} {T F : Nat} {q0 q1 q2 q3 s0 s1 s2 s3 : Value} {a5 : Option Addr} {n5 c5 : Nat} {e : List Nat} (h1 : X.heap[T]? = some (.cells #[q0, q1, q2, q3] 25)) (h2 : X.heap[F]? = some (.cells #[s0, s1, s2, s3] 25)) (h3 : BytesAt X (.slice a5 n5 c5) e) :
    (X.cell? ⟨T, 0, none⟩ = some q0 ∧ X.cell? ⟨T, 1, none⟩ = some q1 ∧ X.cell? ⟨T, 2, none⟩ = some q2 ∧ X.cell? ⟨T, 3, none⟩ = some q3) ∧ (X.cell? ⟨F, 0, none⟩ = some s0 ∧ X.cell? ⟨F, 1, none⟩ = some s1 ∧ X.cell? ⟨F, 2, none⟩ = some s2 ∧ X.cell? ⟨F, 3, none⟩ = some s3) ∧ Sem.run Try.prog (convert 22 9 (.slice a5 n5 c5)) X = .ok (.string (strOf e)) X :=
  ⟨row4 h1, row4 h2, conv_at h3⟩
set_option maxRecDepth 100000 in
set_option maxHeartbeats 8000000 in
theorem law_tf (A1 A2 A3 : Option Addr) (n1 c1 n2 c2 n3 c3 a b : Nat) (k x l : List Nat) (w : World) (ha : a < 18446744073709551616) (hb : b < 18446744073709551616) (hk : BytesAt w (.slice A1 n1 c1) k) (hx : BytesAt w (.slice A2 n2 c2) x) (hl : BytesAt w (.slice A3 n3 c3) l) (hcap : n3 ≤ c3) (lk : k.length ≤ 100) (lx : x.length ≤ 300) (ll : l.length ≤ 500) (hm : may k.length x.length a b = true) (ho : ok l = false) :
    Calls Try.prog 3 #[.agg #[.slice A1 n1 c1, .slice A2 n2 c2, .int .u64 a, .int .u64 b], .slice A3 n3 c3] w fun e w' => e = .returned (.bool true) ∧ Below w.heap.size w w' := by
  obtain rfl := bytes_len hk
  obtain rfl := bytes_len hx
  obtain rfl := bytes_len hl
  have HK := Lib.hid hk
  have HX := Lib.hid hx
  have HL := Lib.hid hl
  have HM := Lib.hid hm
  have HO := Lib.hid ho
  clear hk hx hl ho
  have R0 := Lib.hid (heap_alloc_new w (.cells #[.slice A1 k.length c1, .slice A2 x.length c2, .int .u64 a, .int .u64 b] 25))
  have B0 := Lib.hid ((Below.refl w.heap.size w).alloc (Nat.le_refl _) (.cells #[.slice A1 k.length c1, .slice A2 x.length c2, .int .u64 a, .int .u64 b] 25))
  have Z0 := Lib.hid (show w.heap.size < (w.alloc (.cells #[.slice A1 k.length c1, .slice A2 x.length c2, .int .u64 a, .int .u64 b] 25)).heap.size by simp)
  go_enter Try.func3, Try.ntmps3
  go_wp2_with (go_at_call 5; refine (bytes_yes _ _ _ _ _ _ _ _ k x _ HM.out (HK.out.below B0.out) (HX.out.below B0.out)).mono ?_; rintro e w1 ⟨⟨v5, rfl, g5⟩, h⟩; obtain ⟨a5, n5, c5, rfl⟩ := shape g5; have V5 := Lib.hid g5; have R1 := Lib.hid ((h.block _ Z0.out).trans R0.out); have B1 := Lib.hid (B0.out.trans (h.mono B0.out.size)); have Z1 := Lib.hid (Nat.lt_of_lt_of_le Z0.out h.size); obtain ⟨p0, p1, p2, p3⟩ := row4 R1.out; clear h; clear g5)
  have R1d := Lib.hid (show w1.drew.heap[w.heap.size]? = some (.cells #[.slice A1 k.length c1, .slice A2 x.length c2, .int .u64 a, .int .u64 b] 25) from R1.out)
  have B1d := Lib.hid B1.out.drew
  clear p0 p1 p2 p3
  go_region_held3 (fun X => X.cell? ⟨w.heap.size, 0, none⟩ = some (.slice A1 k.length c1) ∧ X.cell? ⟨w.heap.size, 1, none⟩ = some (.slice A2 x.length c2) ∧ X.cell? ⟨w.heap.size, 2, none⟩ = some (.int .u64 a) ∧ X.cell? ⟨w.heap.size, 3, none⟩ = some (.int .u64 b)) (with_reducible first | exact row4 R1d.out | exact row4 R2.out | exact row4 R3.out)
    (first
      | (go_at_call 6; refine (may_any _ _ _ _ _ _ _ _ w1.drew).mono ?_; rw [HM.out]; rintro e w2 ⟨rfl, h⟩; have R2 := Lib.hid ((h.block _ Z1.out).trans R1.out); have B2 := Lib.hid (B1d.out.trans (h.mono B1.out.size)); have Z2 := Lib.hid (Nat.lt_of_lt_of_le Z1.out h.size); have S2 := Lib.hid ((Below.refl w1.heap.size w1).drew.trans h); clear h)
      | (go_at_call 7; refine (refMay_any _ _ _ _ _ _ _ _ w2).mono ?_; rw [HM.out]; rintro e w3 ⟨rfl, h⟩; have R3 := Lib.hid ((h.block _ Z2.out).trans R2.out); have B3 := Lib.hid (B2.out.trans (h.mono B2.out.size)); have Z3 := Lib.hid (Nat.lt_of_lt_of_le Z2.out h.size); have S3 := Lib.hid (S2.out.trans (h.mono S2.out.size)); clear h))
  obtain ⟨p0, p1, p2, p3⟩ := row4 R3.out
  go_wp2_with (go_at_call 7; refine (refMay_any _ _ _ _ _ _ _ _ w3).mono ?_; rw [HM.out]; rintro e w4 ⟨rfl, h⟩; have S4 := Lib.hid (S3.out.trans (h.mono S3.out.size)); have R4 := Lib.hid ((h.block _ Z3.out).trans R3.out); have B4 := Lib.hid (B3.out.trans (h.mono B3.out.size)); have Z4 := Lib.hid (Nat.lt_of_lt_of_le Z3.out h.size); obtain ⟨p0, p1, p2, p3⟩ := row4 R4.out; clear h)
  have hok := enc_ok hm
  have hm' := hm
  unfold may at hm'
  simp only [Bool.and_eq_true, decide_eq_true_eq] at hm'
  obtain ⟨⟨⟨⟨⟨-, i2⟩, i3⟩, -⟩, i5⟩, i6⟩ := hm'
  refine (of_any' (enc k x a b) _ _ _ w4 (V5.out.below S4.out) (by rw [enc_len]; omega)).mono ?_
  rintro e w5 ⟨⟨v1, v2, ya, yb, E, rfl, eE, ea, eb, g1, g2⟩, h⟩
  rw [hok, if_pos rfl] at eE ea eb g1 g2
  rw [enc_aa _ _ _ _ (by omega)] at ea
  rw [enc_bb _ _ _ _ (by omega)] at eb
  rw [enc_key _ _ _ _ (by omega)] at g1
  rw [enc_valu _ _ _ _ (by omega)] at g2
  subst E ya yb
  obtain ⟨q1, m1, d1, rfl⟩ := shape g1
  obtain ⟨q2, m2, d2, rfl⟩ := shape g2
  have b5 := B4.out.trans (h.mono B4.out.size)
  have bx := (Below.refl w5.heap.size w5).alloc (Nat.le_refl _) (.cells #[.slice q1 m1 d1, .slice q2 m2 d2, .int .u64 a, .int .u64 b] 25)
  have R6d := Lib.hid (show (w5.alloc (.cells #[.slice q1 m1 d1, .slice q2 m2 d2, .int .u64 a, .int .u64 b] 25)).drew.heap[w.heap.size]? = some (.cells #[.slice A1 k.length c1, .slice A2 x.length c2, .int .u64 a, .int .u64 b] 25) from (bx.block _ (Nat.lt_of_lt_of_le Z4.out h.size)).trans ((h.block _ Z4.out).trans R4.out))
  have F6d := Lib.hid (show (w5.alloc (.cells #[.slice q1 m1 d1, .slice q2 m2 d2, .int .u64 a, .int .u64 b] 25)).drew.heap[w5.heap.size]? = some (.cells #[.slice q1 m1 d1, .slice q2 m2 d2, .int .u64 a, .int .u64 b] 25) from heap_alloc_new w5 _)
  have V6d := Lib.hid (((V5.out.below S4.out).below h).below bx.drew)
  have U6d := Lib.hid (And.intro (g1.below bx.drew) (g2.below bx.drew))
  have B6d := Lib.hid (b5.trans (bx.drew.mono b5.size))
  have Y6 := Lib.hid (show w5.heap.size < (w5.alloc (.cells #[.slice q1 m1 d1, .slice q2 m2 d2, .int .u64 a, .int .u64 b] 25)).drew.heap.size by show _ < (w5.alloc (.cells #[.slice q1 m1 d1, .slice q2 m2 d2, .int .u64 a, .int .u64 b] 25)).heap.size; simp)
  have Z6 := Lib.hid (Nat.lt_trans (Nat.lt_of_lt_of_le Z4.out h.size) Y6.out)
  clear g1 g2 h b5 bx hok V5 S2 S3 S4 R1 R2 R3 R4 B1 B2 B3 R1d B1d Z1 Z2 Z3
  go_wp2
  generalize w5.alloc (.cells #[.slice q1 m1 d1, .slice q2 m2 d2, .int .u64 a, .int .u64 b] 25) = W6 at R6d F6d V6d U6d B6d Y6 Z6 ⊢
  refine wp_region_held_drew (S := (fun X => (X.cell? ⟨w.heap.size, 0, none⟩ = some (.slice A1 k.length c1) ∧ X.cell? ⟨w.heap.size, 1, none⟩ = some (.slice A2 x.length c2) ∧ X.cell? ⟨w.heap.size, 2, none⟩ = some (.int .u64 a) ∧ X.cell? ⟨w.heap.size, 3, none⟩ = some (.int .u64 b)) ∧ (X.cell? ⟨w5.heap.size, 0, none⟩ = some (.slice q1 m1 d1) ∧ X.cell? ⟨w5.heap.size, 1, none⟩ = some (.slice q2 m2 d2) ∧ X.cell? ⟨w5.heap.size, 2, none⟩ = some (.int .u64 a) ∧ X.cell? ⟨w5.heap.size, 3, none⟩ = some (.int .u64 b)) ∧ Sem.run Try.prog (convert 22 9 (.slice a5 n5 c5)) X = .ok (.string (strOf (enc k x a b))) X)) (by kernel_rfl) ?_ (fun hHeld0 => ?_)
  · (try dsimp only) <;> (with_reducible first | exact keepU R6d.out F6d.out V6d.out | exact keepU R7.out F7.out V7.out | exact keepU R8.out F8.out V8.out)
  refine wpAnyH_take (i := 0) (oi := { dst := some 54, op := Op.move (Operand.tmp 6), type := 27, pos := "law.go:175", after := #[], guard := none }) (v := ?_) rfl (by kernel_rfl) (by kernel_rfl) (by kernel_rfl) (fun _ _ _ h => h) (Or.inl ⟨by rfl, ?_⟩) (by assumption) ?_
  rotate_left
  · intro wq hSw; (try dsimp only at hSw); (first | (go_simp; done) | (go_simp; with_reducible rfl))
  try simp only [Act.put, List.setIfInBounds_toArray, List.set_cons_zero, List.set_cons_succ]
  refine wpAnyH_take (i := 1) (oi := { dst := some 55, op := Op.binOp BinOp.neq 27 (Operand.tmp 54) (Operand.const (Value.int IntKind.i64 0)) 27, type := 4, pos := "law.go:175", after := #[{ on := 0, ground := Ground.data }], guard := none }) (v := ?_) rfl (by kernel_rfl) (by kernel_rfl) (by kernel_rfl) (fun _ _ _ h => h) (Or.inl ⟨by rfl, ?_⟩) (by assumption) ?_
  rotate_left
  · intro wq hSw; (try dsimp only at hSw); (first | (go_simp; done) | (go_simp; with_reducible rfl))
  try simp only [Act.put, List.setIfInBounds_toArray, List.set_cons_zero, List.set_cons_succ]
  refine wpAnyH_take (i := 2) (oi := { dst := some 56, op := Op.move (Operand.tmp 55), type := 4, pos := "law.go:175", after := #[{ on := 1, ground := Ground.data }], guard := none }) (v := ?_) rfl (by kernel_rfl) (by kernel_rfl) (by kernel_rfl) (fun _ _ _ h => h) (Or.inl ⟨by rfl, ?_⟩) (by assumption) ?_
  rotate_left
  · intro wq hSw; (try dsimp only at hSw); (first | (go_simp; done) | (go_simp; with_reducible rfl))
  try simp only [Act.put, List.setIfInBounds_toArray, List.set_cons_zero, List.set_cons_succ]
  refine wpAnyH_take (i := 3) (oi := { dst := some 57, op := Op.move (Operand.tmp 5), type := 22, pos := "law.go:175", after := #[{ on := 2, ground := Ground.guard }], guard := some (2, false) }) (v := ?_) rfl (by kernel_rfl) (by kernel_rfl) (by kernel_rfl) (fun _ _ _ h => h) (Or.inl ⟨by rfl, ?_⟩) (by assumption) ?_
  rotate_left
  · intro wq hSw; (try dsimp only at hSw); (first | (go_simp; done) | (go_simp; with_reducible rfl))
  try simp only [Act.put, List.setIfInBounds_toArray, List.set_cons_zero, List.set_cons_succ]
  refine wpAnyH_take (i := 4) (oi := { dst := some 58, op := Op.convert 22 9 (Operand.tmp 57), type := 9, pos := "law.go:175", after := #[{ on := 3, ground := Ground.data }, { on := 2, ground := Ground.guard }], guard := some (2, false) }) (v := ?_) rfl (by kernel_rfl) (by kernel_rfl) (by kernel_rfl) (fun _ _ _ h => h) (Or.inl ⟨by rfl, ?_⟩) (by assumption) ?_
  rotate_left
  · intro wq hSw; (try dsimp only at hSw); (first | (go_simp; done) | (go_simp; with_reducible rfl))
  try simp only [Act.put, List.setIfInBounds_toArray, List.set_cons_zero, List.set_cons_succ]
  refine wpAnyH_take (i := 5) (oi := { dst := some 59, op := Op.load 25 (Operand.tmp 2), type := 25, pos := "law.go:175", after := #[{ on := 2, ground := Ground.guard }], guard := some (2, false) }) (v := ?_) rfl (by kernel_rfl) (by kernel_rfl) (by kernel_rfl) (fun _ _ _ h => h) (Or.inl ⟨by rfl, ?_⟩) (by assumption) ?_
  rotate_left
  · intro wq hSw; (try dsimp only at hSw); (first | (go_simp; done) | (go_simp; with_reducible rfl))
  try simp only [Act.put, List.setIfInBounds_toArray, List.set_cons_zero, List.set_cons_succ]
  refine wpAnyH_ready (rs := [6]) (by kernel_rfl) (by simp) ?_
  refine AllReadyH.cons (o := { dst := some 60, op := Op.call { callee := Callee.value (Operand.func 9), args := #[Operand.tmp 59], argTypes := #[25] }, type := 22, pos := "law.go:175", after := #[{ on := 5, ground := Ground.data }, { on := 2, ground := Ground.chain }, { on := 2, ground := Ground.guard }], guard := some (2, false) }) rfl (fun K hK => ?_) AllReadyH.nil
  go_simp
  (first
          | (go_at_call 9; refine (refBytes_any _ _ _ _ _ _ a b k x W6.drew ha hb (HK.out.below B6d.out) (HX.out.below B6d.out) (by omega) (by omega)).mono ?_; rintro e w7 ⟨⟨v60, rfl, g60⟩, h⟩; obtain ⟨a60, n60, c60, rfl⟩ := shape g60; have hcv := conv_at g60; have R7 := Lib.hid ((h.block _ Z6.out).trans R6d.out); have F7 := Lib.hid ((h.block _ Y6.out).trans F6d.out); have V7 := Lib.hid (V6d.out.below h); have U7 := Lib.hid (And.intro (U6d.out.1.below h) (U6d.out.2.below h)); have B7 := Lib.hid (B6d.out.trans (h.mono B6d.out.size)); have Z7 := Lib.hid (Nat.lt_of_lt_of_le Z6.out h.size); have Y7 := Lib.hid (Nat.lt_of_lt_of_le Y6.out h.size); clear h g60)
          | (go_at_call 10; refine (same_any _ _ _ _ _ _ _ _ _ _ _ _ _ _ k x w7 (HK.out.below B7.out) (HX.out.below B7.out) U7.out.1 U7.out.2).mono ?_; rintro e w8 ⟨rfl, h⟩; have R8 := Lib.hid ((h.block _ Z7.out).trans R7.out); have F8 := Lib.hid ((h.block _ Y7.out).trans F7.out); have V8 := Lib.hid (V7.out.below h); have B8 := Lib.hid (B7.out.trans (h.mono B7.out.size)); clear h))
  go_wp2_with fail
  refine hK.out _ _ ?_ (fun hHeld1 => ?_)
  · (try dsimp only) <;> (with_reducible first | exact keepU R6d.out F6d.out V6d.out | exact keepU R7.out F7.out V7.out | exact keepU R8.out F8.out V8.out)
  clear hK K
  try simp only [Act.put, List.setIfInBounds_toArray, List.set_cons_zero, List.set_cons_succ]
  clear hHeld0
  refine wpAnyH_ready (rs := [7]) (by kernel_rfl) (by simp) ?_
  refine AllReadyH.cons (o := { dst := some 61, op := Op.convert 22 9 (Operand.tmp 60), type := 9, pos := "law.go:175", after := #[{ on := 6, ground := Ground.data }, { on := 2, ground := Ground.guard }], guard := some (2, false) }) rfl (fun K hK => ?_) AllReadyH.nil
  go_simp
  refine hK.out _ _ ?_ (fun hHeld2 => ?_)
  · (try dsimp only) <;> (with_reducible first | exact keepU R6d.out F6d.out V6d.out | exact keepU R7.out F7.out V7.out | exact keepU R8.out F8.out V8.out)
  clear hK K
  try simp only [Act.put, List.setIfInBounds_toArray, List.set_cons_zero, List.set_cons_succ]
  clear hHeld1
  refine wpAnyH_take (i := 8) (oi := { dst := some 62, op := Op.binOp BinOp.neq 9 (Operand.tmp 58) (Operand.tmp 61) 9, type := 4, pos := "law.go:175", after := #[{ on := 4, ground := Ground.data }, { on := 7, ground := Ground.data }, { on := 2, ground := Ground.guard }], guard := some (2, false) }) (v := ?_) rfl (by kernel_rfl) (by kernel_rfl) (by kernel_rfl) (fun _ _ _ h => h) (Or.inl ⟨by rfl, ?_⟩) (by assumption) ?_
  rotate_left
  · intro wq hSw; (try dsimp only at hSw); (first | (go_simp; done) | (go_simp; with_reducible rfl))
  try simp only [Act.put, List.setIfInBounds_toArray, List.set_cons_zero, List.set_cons_succ]
  refine wpAnyH_take (i := 9) (oi := { dst := some 63, op := Op.pick (Operand.tmp 56) (Operand.const (Value.bool true)) (Operand.tmp 62), type := 4, pos := "law.go:175", after := #[{ on := 2, ground := Ground.data }, { on := 8, ground := Ground.data }], guard := none }) (v := ?_) rfl (by kernel_rfl) (by kernel_rfl) (by kernel_rfl) (fun _ _ _ h => h) (Or.inl ⟨by rfl, ?_⟩) (by assumption) ?_
  rotate_left
  · intro wq hSw; (try dsimp only at hSw); (first | (go_simp; done) | (go_simp; with_reducible rfl))
  try simp only [Act.put, List.setIfInBounds_toArray, List.set_cons_zero, List.set_cons_succ]
  refine wpAnyH_take (i := 10) (oi := { dst := some 64, op := Op.move (Operand.tmp 63), type := 4, pos := "law.go:175", after := #[{ on := 9, ground := Ground.data }, { on := 6, ground := Ground.chain }], guard := none }) (v := ?_) rfl (by kernel_rfl) (by kernel_rfl) (by kernel_rfl) (fun _ _ _ h => h) (Or.inl ⟨by rfl, ?_⟩) (by assumption) ?_
  rotate_left
  · intro wq hSw; (try dsimp only at hSw); (first | (go_simp; done) | (go_simp; with_reducible rfl))
  try simp only [Act.put, List.setIfInBounds_toArray, List.set_cons_zero, List.set_cons_succ]
  refine wpAnyH_take (i := 11) (oi := { dst := some 65, op := Op.move (Operand.tmp 8), type := 27, pos := "law.go:175", after := #[{ on := 10, ground := Ground.guard }], guard := some (10, false) }) (v := ?_) rfl (by kernel_rfl) (by kernel_rfl) (by kernel_rfl) (fun _ _ _ h => h) (Or.inl ⟨by rfl, ?_⟩) (by assumption) ?_
  rotate_left
  · intro wq hSw; (try dsimp only at hSw); (first | (go_simp; done) | (go_simp; with_reducible rfl))
  try simp only [Act.put, List.setIfInBounds_toArray, List.set_cons_zero, List.set_cons_succ]
  refine wpAnyH_take (i := 12) (oi := { dst := some 66, op := Op.binOp BinOp.neq 27 (Operand.tmp 65) (Operand.const (Value.int IntKind.i64 0)) 27, type := 4, pos := "law.go:175", after := #[{ on := 11, ground := Ground.data }, { on := 10, ground := Ground.guard }], guard := some (10, false) }) (v := ?_) rfl (by kernel_rfl) (by kernel_rfl) (by kernel_rfl) (fun _ _ _ h => h) (Or.inl ⟨by rfl, ?_⟩) (by assumption) ?_
  rotate_left
  · intro wq hSw; (try dsimp only at hSw); (first | (go_simp; done) | (go_simp; with_reducible rfl))
  try simp only [Act.put, List.setIfInBounds_toArray, List.set_cons_zero, List.set_cons_succ]
  refine wpAnyH_take (i := 13) (oi := { dst := some 67, op := Op.pick (Operand.tmp 64) (Operand.const (Value.bool true)) (Operand.tmp 66), type := 4, pos := "law.go:175", after := #[{ on := 10, ground := Ground.data }, { on := 12, ground := Ground.data }], guard := none }) (v := ?_) rfl (by kernel_rfl) (by kernel_rfl) (by kernel_rfl) (fun _ _ _ h => h) (Or.inl ⟨by rfl, ?_⟩) (by assumption) ?_
  rotate_left
  · intro wq hSw; (try dsimp only at hSw); (first | (go_simp; done) | (go_simp; with_reducible rfl))
  try simp only [Act.put, List.setIfInBounds_toArray, List.set_cons_zero, List.set_cons_succ]
  refine wpAnyH_take (i := 14) (oi := { dst := some 68, op := Op.move (Operand.tmp 67), type := 4, pos := "law.go:175", after := #[{ on := 13, ground := Ground.data }, { on := 10, ground := Ground.chain }], guard := none }) (v := ?_) rfl (by kernel_rfl) (by kernel_rfl) (by kernel_rfl) (fun _ _ _ h => h) (Or.inl ⟨by rfl, ?_⟩) (by assumption) ?_
  rotate_left
  · intro wq hSw; (try dsimp only at hSw); (first | (go_simp; done) | (go_simp; with_reducible rfl))
  try simp only [Act.put, List.setIfInBounds_toArray, List.set_cons_zero, List.set_cons_succ]
  refine wpAnyH_take (i := 15) (oi := { dst := some 69, op := Op.load 25 (Operand.tmp 2), type := 25, pos := "law.go:175", after := #[{ on := 14, ground := Ground.guard }], guard := some (14, false) }) (v := ?_) rfl (by kernel_rfl) (by kernel_rfl) (by kernel_rfl) (fun _ _ _ h => h) (Or.inl ⟨by rfl, ?_⟩) (by assumption) ?_
  rotate_left
  · intro wq hSw; (try dsimp only at hSw); (first | (go_simp; done) | (go_simp; with_reducible rfl))
  try simp only [Act.put, List.setIfInBounds_toArray, List.set_cons_zero, List.set_cons_succ]
  refine wpAnyH_take (i := 16) (oi := { dst := some 70, op := Op.load 25 (Operand.tmp 7), type := 25, pos := "law.go:175", after := #[{ on := 14, ground := Ground.guard }], guard := some (14, false) }) (v := ?_) rfl (by kernel_rfl) (by kernel_rfl) (by kernel_rfl) (fun _ _ _ h => h) (Or.inl ⟨by rfl, ?_⟩) (by assumption) ?_
  rotate_left
  · intro wq hSw; (try dsimp only at hSw); (first | (go_simp; done) | (go_simp; with_reducible rfl))
  try simp only [Act.put, List.setIfInBounds_toArray, List.set_cons_zero, List.set_cons_succ]
  refine wpAnyH_ready (rs := [17]) (by kernel_rfl) (by simp) ?_
  refine AllReadyH.cons (o := { dst := some 71, op := Op.call { callee := Callee.value (Operand.func 10), args := #[Operand.tmp 69, Operand.tmp 70], argTypes := #[25, 25] }, type := 4, pos := "law.go:175", after := #[{ on := 15, ground := Ground.data }, { on := 16, ground := Ground.data }, { on := 14, ground := Ground.chain }, { on := 14, ground := Ground.guard }], guard := some (14, false) }) rfl (fun K hK => ?_) AllReadyH.nil
  go_simp
  (first
          | (go_at_call 9; refine (refBytes_any _ _ _ _ _ _ a b k x W6.drew ha hb (HK.out.below B6d.out) (HX.out.below B6d.out) (by omega) (by omega)).mono ?_; rintro e w7 ⟨⟨v60, rfl, g60⟩, h⟩; obtain ⟨a60, n60, c60, rfl⟩ := shape g60; have hcv := conv_at g60; have R7 := Lib.hid ((h.block _ Z6.out).trans R6d.out); have F7 := Lib.hid ((h.block _ Y6.out).trans F6d.out); have V7 := Lib.hid (V6d.out.below h); have U7 := Lib.hid (And.intro (U6d.out.1.below h) (U6d.out.2.below h)); have B7 := Lib.hid (B6d.out.trans (h.mono B6d.out.size)); have Z7 := Lib.hid (Nat.lt_of_lt_of_le Z6.out h.size); have Y7 := Lib.hid (Nat.lt_of_lt_of_le Y6.out h.size); clear h g60)
          | (go_at_call 10; refine (same_any _ _ _ _ _ _ _ _ _ _ _ _ _ _ k x w7 (HK.out.below B7.out) (HX.out.below B7.out) U7.out.1 U7.out.2).mono ?_; rintro e w8 ⟨rfl, h⟩; have R8 := Lib.hid ((h.block _ Z7.out).trans R7.out); have F8 := Lib.hid ((h.block _ Y7.out).trans F7.out); have V8 := Lib.hid (V7.out.below h); have B8 := Lib.hid (B7.out.trans (h.mono B7.out.size)); clear h))
  go_wp2_with fail
  refine hK.out _ _ ?_ (fun hHeld3 => ?_)
  · (try dsimp only) <;> (with_reducible first | exact keepU R6d.out F6d.out V6d.out | exact keepU R7.out F7.out V7.out | exact keepU R8.out F8.out V8.out)
  clear hK K
  try simp only [Act.put, List.setIfInBounds_toArray, List.set_cons_zero, List.set_cons_succ]
  clear hHeld2
  refine wpAnyH_take (i := 18) (oi := { dst := some 72, op := Op.unOp UnOp.not 4 (Operand.tmp 71), type := 4, pos := "law.go:175", after := #[{ on := 17, ground := Ground.data }, { on := 14, ground := Ground.guard }], guard := some (14, false) }) (v := ?_) rfl (by kernel_rfl) (by kernel_rfl) (by kernel_rfl) (fun _ _ _ h => h) (Or.inl ⟨by rfl, ?_⟩) (by assumption) ?_
  rotate_left
  · intro wq hSw; (try dsimp only at hSw); (first | (go_simp; done) | (go_simp; with_reducible rfl))
  try simp only [Act.put, List.setIfInBounds_toArray, List.set_cons_zero, List.set_cons_succ]
  refine wpAnyH_take (i := 19) (oi := { dst := some 73, op := Op.pick (Operand.tmp 68) (Operand.const (Value.bool true)) (Operand.tmp 72), type := 4, pos := "law.go:175", after := #[{ on := 14, ground := Ground.data }, { on := 18, ground := Ground.data }], guard := none }) (v := ?_) rfl (by kernel_rfl) (by kernel_rfl) (by kernel_rfl) (fun _ _ _ h => h) (Or.inl ⟨by rfl, ?_⟩) (by assumption) ?_
  rotate_left
  · intro wq hSw; (try dsimp only at hSw); (first | (go_simp; done) | (go_simp; with_reducible rfl))
  try simp only [Act.put, List.setIfInBounds_toArray, List.set_cons_zero, List.set_cons_succ]
  refine wpAnyH_done (by kernel_rfl) ?_ _
  clear hcv
  go_wp2_with fail
  refine (of_any' l _ _ _ w8 (HL.out.below B8.out) (by omega)).mono ?_
  rintro e w15 ⟨⟨v1, v2, ya, yb, E, rfl, eE, ea, eb, g1, g2⟩, h⟩
  obtain ⟨q1, m1, d1, rfl⟩ := shape g1
  obtain ⟨q2, m2, d2, rfl⟩ := shape g2
  rw [HO.out, if_neg (by simp)] at eE g1
  clear g2 ea eb
  subst eE
  obtain rfl := bytes_len g1
  have B15 := Lib.hid (B8.out.trans (h.mono B8.out.size))
  clear h
  try rw [List.length_nil]
  have B16 := Lib.hid (B15.out.alloc B15.out.size (.cells #[.slice q1 0 d1, .slice q2 m2 d2, .int .u64 ya, .int .u64 yb] 25))
  have R16 := Lib.hid (heap_alloc_new w15 (.cells #[.slice q1 0 d1, .slice q2 m2 d2, .int .u64 ya, .int .u64 yb] 25))
  have G16 := Lib.hid ((Below.refl w15.heap.size w15).alloc (Nat.le_refl _) (.cells #[.slice q1 0 d1, .slice q2 m2 d2, .int .u64 ya, .int .u64 yb] 25))
  have F16 := Lib.hid (show w15.heap.size < (w15.alloc (.cells #[.slice q1 0 d1, .slice q2 m2 d2, .int .u64 ya, .int .u64 yb] 25)).heap.size by simp)
  go_wp2_with fail
  refine (refOf_any l _ _ _ (w15.alloc (.cells #[.slice q1 0 d1, .slice q2 m2 d2, .int .u64 ya, .int .u64 yb] 25)) (HL.out.below B16.out) hcap (by omega)).mono ?_
  rintro e w17 hr
  unfold RefPost at hr
  rw [HO.out] at hr
  obtain ⟨⟨y1, z1, e1, y2, z2, e2, xa, xb, rfl, hyes⟩, h⟩ := hr
  clear hyes
  have R17 := Lib.hid ((h.block _ F16.out).trans R16.out)
  have F17 := Lib.hid (Nat.lt_of_lt_of_le F16.out h.size)
  have B17 := Lib.hid (B16.out.trans (h.mono B16.out.size))
  have R18 := Lib.hid ((heap_alloc_old w17 (.cells #[.slice y1 z1 e1, .slice y2 z2 e2, .int .u64 xa, .int .u64 xb] 25) (h := F17.out)).trans R17.out)
  have R19 := Lib.hid (heap_alloc_new w17 (.cells #[.slice y1 z1 e1, .slice y2 z2 e2, .int .u64 xa, .int .u64 xb] 25))
  have B18 := Lib.hid (B17.out.alloc B17.out.size (.cells #[.slice y1 z1 e1, .slice y2 z2 e2, .int .u64 xa, .int .u64 xb] 25))
  clear g1
  clear h
  obtain ⟨s0, s1', s2', s3'⟩ := row4 R18.out
  go_wp2_with (go_at_call 4; refine (known_any _).mono ?_; rintro e w19 ⟨rfl, h⟩)
  go_ret
  exact ⟨rfl, B18.out.trans (h.mono B18.out.size)⟩
set_option maxRecDepth 100000 in
set_option maxHeartbeats 8000000 in
theorem law_tt (A1 A2 A3 : Option Addr) (n1 c1 n2 c2 n3 c3 a b : Nat) (k x l : List Nat) (w : World) (ha : a < 18446744073709551616) (hb : b < 18446744073709551616) (hk : BytesAt w (.slice A1 n1 c1) k) (hx : BytesAt w (.slice A2 n2 c2) x) (hl : BytesAt w (.slice A3 n3 c3) l) (hcap : n3 ≤ c3) (lk : k.length ≤ 100) (lx : x.length ≤ 300) (ll : l.length ≤ 500) (hm : may k.length x.length a b = true) (ho : ok l = true) :
    Calls Try.prog 3 #[.agg #[.slice A1 n1 c1, .slice A2 n2 c2, .int .u64 a, .int .u64 b], .slice A3 n3 c3] w fun e w' => e = .returned (.bool true) ∧ Below w.heap.size w w' := by
  obtain rfl := bytes_len hk
  obtain rfl := bytes_len hx
  obtain rfl := bytes_len hl
  have HK := Lib.hid hk
  have HX := Lib.hid hx
  have HL := Lib.hid hl
  have HM := Lib.hid hm
  have HO := Lib.hid ho
  clear hk hx hl ho
  have R0 := Lib.hid (heap_alloc_new w (.cells #[.slice A1 k.length c1, .slice A2 x.length c2, .int .u64 a, .int .u64 b] 25))
  have B0 := Lib.hid ((Below.refl w.heap.size w).alloc (Nat.le_refl _) (.cells #[.slice A1 k.length c1, .slice A2 x.length c2, .int .u64 a, .int .u64 b] 25))
  have Z0 := Lib.hid (show w.heap.size < (w.alloc (.cells #[.slice A1 k.length c1, .slice A2 x.length c2, .int .u64 a, .int .u64 b] 25)).heap.size by simp)
  go_enter Try.func3, Try.ntmps3
  go_wp2_with (go_at_call 5; refine (bytes_yes _ _ _ _ _ _ _ _ k x _ HM.out (HK.out.below B0.out) (HX.out.below B0.out)).mono ?_; rintro e w1 ⟨⟨v5, rfl, g5⟩, h⟩; obtain ⟨a5, n5, c5, rfl⟩ := shape g5; have V5 := Lib.hid g5; have R1 := Lib.hid ((h.block _ Z0.out).trans R0.out); have B1 := Lib.hid (B0.out.trans (h.mono B0.out.size)); have Z1 := Lib.hid (Nat.lt_of_lt_of_le Z0.out h.size); obtain ⟨p0, p1, p2, p3⟩ := row4 R1.out; clear h; clear g5)
  have R1d := Lib.hid (show w1.drew.heap[w.heap.size]? = some (.cells #[.slice A1 k.length c1, .slice A2 x.length c2, .int .u64 a, .int .u64 b] 25) from R1.out)
  have B1d := Lib.hid B1.out.drew
  clear p0 p1 p2 p3
  go_region_held3 (fun X => X.cell? ⟨w.heap.size, 0, none⟩ = some (.slice A1 k.length c1) ∧ X.cell? ⟨w.heap.size, 1, none⟩ = some (.slice A2 x.length c2) ∧ X.cell? ⟨w.heap.size, 2, none⟩ = some (.int .u64 a) ∧ X.cell? ⟨w.heap.size, 3, none⟩ = some (.int .u64 b)) (with_reducible first | exact row4 R1d.out | exact row4 R2.out | exact row4 R3.out)
    (first
      | (go_at_call 6; refine (may_any _ _ _ _ _ _ _ _ w1.drew).mono ?_; rw [HM.out]; rintro e w2 ⟨rfl, h⟩; have R2 := Lib.hid ((h.block _ Z1.out).trans R1.out); have B2 := Lib.hid (B1d.out.trans (h.mono B1.out.size)); have Z2 := Lib.hid (Nat.lt_of_lt_of_le Z1.out h.size); have S2 := Lib.hid ((Below.refl w1.heap.size w1).drew.trans h); clear h)
      | (go_at_call 7; refine (refMay_any _ _ _ _ _ _ _ _ w2).mono ?_; rw [HM.out]; rintro e w3 ⟨rfl, h⟩; have R3 := Lib.hid ((h.block _ Z2.out).trans R2.out); have B3 := Lib.hid (B2.out.trans (h.mono B2.out.size)); have Z3 := Lib.hid (Nat.lt_of_lt_of_le Z2.out h.size); have S3 := Lib.hid (S2.out.trans (h.mono S2.out.size)); clear h))
  obtain ⟨p0, p1, p2, p3⟩ := row4 R3.out
  go_wp2_with (go_at_call 7; refine (refMay_any _ _ _ _ _ _ _ _ w3).mono ?_; rw [HM.out]; rintro e w4 ⟨rfl, h⟩; have S4 := Lib.hid (S3.out.trans (h.mono S3.out.size)); have R4 := Lib.hid ((h.block _ Z3.out).trans R3.out); have B4 := Lib.hid (B3.out.trans (h.mono B3.out.size)); have Z4 := Lib.hid (Nat.lt_of_lt_of_le Z3.out h.size); obtain ⟨p0, p1, p2, p3⟩ := row4 R4.out; clear h)
  have hok := enc_ok hm
  have hm' := hm
  unfold may at hm'
  simp only [Bool.and_eq_true, decide_eq_true_eq] at hm'
  obtain ⟨⟨⟨⟨⟨-, i2⟩, i3⟩, -⟩, i5⟩, i6⟩ := hm'
  refine (of_any' (enc k x a b) _ _ _ w4 (V5.out.below S4.out) (by rw [enc_len]; omega)).mono ?_
  rintro e w5 ⟨⟨v1, v2, ya, yb, E, rfl, eE, ea, eb, g1, g2⟩, h⟩
  rw [hok, if_pos rfl] at eE ea eb g1 g2
  rw [enc_aa _ _ _ _ (by omega)] at ea
  rw [enc_bb _ _ _ _ (by omega)] at eb
  rw [enc_key _ _ _ _ (by omega)] at g1
  rw [enc_valu _ _ _ _ (by omega)] at g2
  subst E ya yb
  obtain ⟨q1, m1, d1, rfl⟩ := shape g1
  obtain ⟨q2, m2, d2, rfl⟩ := shape g2
  have b5 := B4.out.trans (h.mono B4.out.size)
  have bx := (Below.refl w5.heap.size w5).alloc (Nat.le_refl _) (.cells #[.slice q1 m1 d1, .slice q2 m2 d2, .int .u64 a, .int .u64 b] 25)
  have R6d := Lib.hid (show (w5.alloc (.cells #[.slice q1 m1 d1, .slice q2 m2 d2, .int .u64 a, .int .u64 b] 25)).drew.heap[w.heap.size]? = some (.cells #[.slice A1 k.length c1, .slice A2 x.length c2, .int .u64 a, .int .u64 b] 25) from (bx.block _ (Nat.lt_of_lt_of_le Z4.out h.size)).trans ((h.block _ Z4.out).trans R4.out))
  have F6d := Lib.hid (show (w5.alloc (.cells #[.slice q1 m1 d1, .slice q2 m2 d2, .int .u64 a, .int .u64 b] 25)).drew.heap[w5.heap.size]? = some (.cells #[.slice q1 m1 d1, .slice q2 m2 d2, .int .u64 a, .int .u64 b] 25) from heap_alloc_new w5 _)
  have V6d := Lib.hid (((V5.out.below S4.out).below h).below bx.drew)
  have U6d := Lib.hid (And.intro (g1.below bx.drew) (g2.below bx.drew))
  have B6d := Lib.hid (b5.trans (bx.drew.mono b5.size))
  have Y6 := Lib.hid (show w5.heap.size < (w5.alloc (.cells #[.slice q1 m1 d1, .slice q2 m2 d2, .int .u64 a, .int .u64 b] 25)).drew.heap.size by show _ < (w5.alloc (.cells #[.slice q1 m1 d1, .slice q2 m2 d2, .int .u64 a, .int .u64 b] 25)).heap.size; simp)
  have Z6 := Lib.hid (Nat.lt_trans (Nat.lt_of_lt_of_le Z4.out h.size) Y6.out)
  clear g1 g2 h b5 bx hok V5 S2 S3 S4 R1 R2 R3 R4 B1 B2 B3 R1d B1d Z1 Z2 Z3
  go_wp2
  generalize w5.alloc (.cells #[.slice q1 m1 d1, .slice q2 m2 d2, .int .u64 a, .int .u64 b] 25) = W6 at R6d F6d V6d U6d B6d Y6 Z6 ⊢
  refine wp_region_held_drew (S := (fun X => (X.cell? ⟨w.heap.size, 0, none⟩ = some (.slice A1 k.length c1) ∧ X.cell? ⟨w.heap.size, 1, none⟩ = some (.slice A2 x.length c2) ∧ X.cell? ⟨w.heap.size, 2, none⟩ = some (.int .u64 a) ∧ X.cell? ⟨w.heap.size, 3, none⟩ = some (.int .u64 b)) ∧ (X.cell? ⟨w5.heap.size, 0, none⟩ = some (.slice q1 m1 d1) ∧ X.cell? ⟨w5.heap.size, 1, none⟩ = some (.slice q2 m2 d2) ∧ X.cell? ⟨w5.heap.size, 2, none⟩ = some (.int .u64 a) ∧ X.cell? ⟨w5.heap.size, 3, none⟩ = some (.int .u64 b)) ∧ Sem.run Try.prog (convert 22 9 (.slice a5 n5 c5)) X = .ok (.string (strOf (enc k x a b))) X)) (by kernel_rfl) ?_ (fun hHeld0 => ?_)
  · (try dsimp only) <;> (with_reducible first | exact keepU R6d.out F6d.out V6d.out | exact keepU R7.out F7.out V7.out | exact keepU R8.out F8.out V8.out)
  refine wpAnyH_take (i := 0) (oi := { dst := some 54, op := Op.move (Operand.tmp 6), type := 27, pos := "law.go:175", after := #[], guard := none }) (v := ?_) rfl (by kernel_rfl) (by kernel_rfl) (by kernel_rfl) (fun _ _ _ h => h) (Or.inl ⟨by rfl, ?_⟩) (by assumption) ?_
  rotate_left
  · intro wq hSw; (try dsimp only at hSw); (first | (go_simp; done) | (go_simp; with_reducible rfl))
  try simp only [Act.put, List.setIfInBounds_toArray, List.set_cons_zero, List.set_cons_succ]
  refine wpAnyH_take (i := 1) (oi := { dst := some 55, op := Op.binOp BinOp.neq 27 (Operand.tmp 54) (Operand.const (Value.int IntKind.i64 0)) 27, type := 4, pos := "law.go:175", after := #[{ on := 0, ground := Ground.data }], guard := none }) (v := ?_) rfl (by kernel_rfl) (by kernel_rfl) (by kernel_rfl) (fun _ _ _ h => h) (Or.inl ⟨by rfl, ?_⟩) (by assumption) ?_
  rotate_left
  · intro wq hSw; (try dsimp only at hSw); (first | (go_simp; done) | (go_simp; with_reducible rfl))
  try simp only [Act.put, List.setIfInBounds_toArray, List.set_cons_zero, List.set_cons_succ]
  refine wpAnyH_take (i := 2) (oi := { dst := some 56, op := Op.move (Operand.tmp 55), type := 4, pos := "law.go:175", after := #[{ on := 1, ground := Ground.data }], guard := none }) (v := ?_) rfl (by kernel_rfl) (by kernel_rfl) (by kernel_rfl) (fun _ _ _ h => h) (Or.inl ⟨by rfl, ?_⟩) (by assumption) ?_
  rotate_left
  · intro wq hSw; (try dsimp only at hSw); (first | (go_simp; done) | (go_simp; with_reducible rfl))
  try simp only [Act.put, List.setIfInBounds_toArray, List.set_cons_zero, List.set_cons_succ]
  refine wpAnyH_take (i := 3) (oi := { dst := some 57, op := Op.move (Operand.tmp 5), type := 22, pos := "law.go:175", after := #[{ on := 2, ground := Ground.guard }], guard := some (2, false) }) (v := ?_) rfl (by kernel_rfl) (by kernel_rfl) (by kernel_rfl) (fun _ _ _ h => h) (Or.inl ⟨by rfl, ?_⟩) (by assumption) ?_
  rotate_left
  · intro wq hSw; (try dsimp only at hSw); (first | (go_simp; done) | (go_simp; with_reducible rfl))
  try simp only [Act.put, List.setIfInBounds_toArray, List.set_cons_zero, List.set_cons_succ]
  refine wpAnyH_take (i := 4) (oi := { dst := some 58, op := Op.convert 22 9 (Operand.tmp 57), type := 9, pos := "law.go:175", after := #[{ on := 3, ground := Ground.data }, { on := 2, ground := Ground.guard }], guard := some (2, false) }) (v := ?_) rfl (by kernel_rfl) (by kernel_rfl) (by kernel_rfl) (fun _ _ _ h => h) (Or.inl ⟨by rfl, ?_⟩) (by assumption) ?_
  rotate_left
  · intro wq hSw; (try dsimp only at hSw); (first | (go_simp; done) | (go_simp; with_reducible rfl))
  try simp only [Act.put, List.setIfInBounds_toArray, List.set_cons_zero, List.set_cons_succ]
  refine wpAnyH_take (i := 5) (oi := { dst := some 59, op := Op.load 25 (Operand.tmp 2), type := 25, pos := "law.go:175", after := #[{ on := 2, ground := Ground.guard }], guard := some (2, false) }) (v := ?_) rfl (by kernel_rfl) (by kernel_rfl) (by kernel_rfl) (fun _ _ _ h => h) (Or.inl ⟨by rfl, ?_⟩) (by assumption) ?_
  rotate_left
  · intro wq hSw; (try dsimp only at hSw); (first | (go_simp; done) | (go_simp; with_reducible rfl))
  try simp only [Act.put, List.setIfInBounds_toArray, List.set_cons_zero, List.set_cons_succ]
  refine wpAnyH_ready (rs := [6]) (by kernel_rfl) (by simp) ?_
  refine AllReadyH.cons (o := { dst := some 60, op := Op.call { callee := Callee.value (Operand.func 9), args := #[Operand.tmp 59], argTypes := #[25] }, type := 22, pos := "law.go:175", after := #[{ on := 5, ground := Ground.data }, { on := 2, ground := Ground.chain }, { on := 2, ground := Ground.guard }], guard := some (2, false) }) rfl (fun K hK => ?_) AllReadyH.nil
  go_simp
  (first
          | (go_at_call 9; refine (refBytes_any _ _ _ _ _ _ a b k x W6.drew ha hb (HK.out.below B6d.out) (HX.out.below B6d.out) (by omega) (by omega)).mono ?_; rintro e w7 ⟨⟨v60, rfl, g60⟩, h⟩; obtain ⟨a60, n60, c60, rfl⟩ := shape g60; have hcv := conv_at g60; have R7 := Lib.hid ((h.block _ Z6.out).trans R6d.out); have F7 := Lib.hid ((h.block _ Y6.out).trans F6d.out); have V7 := Lib.hid (V6d.out.below h); have U7 := Lib.hid (And.intro (U6d.out.1.below h) (U6d.out.2.below h)); have B7 := Lib.hid (B6d.out.trans (h.mono B6d.out.size)); have Z7 := Lib.hid (Nat.lt_of_lt_of_le Z6.out h.size); have Y7 := Lib.hid (Nat.lt_of_lt_of_le Y6.out h.size); clear h g60)
          | (go_at_call 10; refine (same_any _ _ _ _ _ _ _ _ _ _ _ _ _ _ k x w7 (HK.out.below B7.out) (HX.out.below B7.out) U7.out.1 U7.out.2).mono ?_; rintro e w8 ⟨rfl, h⟩; have R8 := Lib.hid ((h.block _ Z7.out).trans R7.out); have F8 := Lib.hid ((h.block _ Y7.out).trans F7.out); have V8 := Lib.hid (V7.out.below h); have B8 := Lib.hid (B7.out.trans (h.mono B7.out.size)); clear h))
  go_wp2_with fail
  refine hK.out _ _ ?_ (fun hHeld1 => ?_)
  · (try dsimp only) <;> (with_reducible first | exact keepU R6d.out F6d.out V6d.out | exact keepU R7.out F7.out V7.out | exact keepU R8.out F8.out V8.out)
  clear hK K
  try simp only [Act.put, List.setIfInBounds_toArray, List.set_cons_zero, List.set_cons_succ]
  clear hHeld0
  refine wpAnyH_ready (rs := [7]) (by kernel_rfl) (by simp) ?_
  refine AllReadyH.cons (o := { dst := some 61, op := Op.convert 22 9 (Operand.tmp 60), type := 9, pos := "law.go:175", after := #[{ on := 6, ground := Ground.data }, { on := 2, ground := Ground.guard }], guard := some (2, false) }) rfl (fun K hK => ?_) AllReadyH.nil
  go_simp
  refine hK.out _ _ ?_ (fun hHeld2 => ?_)
  · (try dsimp only) <;> (with_reducible first | exact keepU R6d.out F6d.out V6d.out | exact keepU R7.out F7.out V7.out | exact keepU R8.out F8.out V8.out)
  clear hK K
  try simp only [Act.put, List.setIfInBounds_toArray, List.set_cons_zero, List.set_cons_succ]
  clear hHeld1
  refine wpAnyH_take (i := 8) (oi := { dst := some 62, op := Op.binOp BinOp.neq 9 (Operand.tmp 58) (Operand.tmp 61) 9, type := 4, pos := "law.go:175", after := #[{ on := 4, ground := Ground.data }, { on := 7, ground := Ground.data }, { on := 2, ground := Ground.guard }], guard := some (2, false) }) (v := ?_) rfl (by kernel_rfl) (by kernel_rfl) (by kernel_rfl) (fun _ _ _ h => h) (Or.inl ⟨by rfl, ?_⟩) (by assumption) ?_
  rotate_left
  · intro wq hSw; (try dsimp only at hSw); (first | (go_simp; done) | (go_simp; with_reducible rfl))
  try simp only [Act.put, List.setIfInBounds_toArray, List.set_cons_zero, List.set_cons_succ]
  refine wpAnyH_take (i := 9) (oi := { dst := some 63, op := Op.pick (Operand.tmp 56) (Operand.const (Value.bool true)) (Operand.tmp 62), type := 4, pos := "law.go:175", after := #[{ on := 2, ground := Ground.data }, { on := 8, ground := Ground.data }], guard := none }) (v := ?_) rfl (by kernel_rfl) (by kernel_rfl) (by kernel_rfl) (fun _ _ _ h => h) (Or.inl ⟨by rfl, ?_⟩) (by assumption) ?_
  rotate_left
  · intro wq hSw; (try dsimp only at hSw); (first | (go_simp; done) | (go_simp; with_reducible rfl))
  try simp only [Act.put, List.setIfInBounds_toArray, List.set_cons_zero, List.set_cons_succ]
  refine wpAnyH_take (i := 10) (oi := { dst := some 64, op := Op.move (Operand.tmp 63), type := 4, pos := "law.go:175", after := #[{ on := 9, ground := Ground.data }, { on := 6, ground := Ground.chain }], guard := none }) (v := ?_) rfl (by kernel_rfl) (by kernel_rfl) (by kernel_rfl) (fun _ _ _ h => h) (Or.inl ⟨by rfl, ?_⟩) (by assumption) ?_
  rotate_left
  · intro wq hSw; (try dsimp only at hSw); (first | (go_simp; done) | (go_simp; with_reducible rfl))
  try simp only [Act.put, List.setIfInBounds_toArray, List.set_cons_zero, List.set_cons_succ]
  refine wpAnyH_take (i := 11) (oi := { dst := some 65, op := Op.move (Operand.tmp 8), type := 27, pos := "law.go:175", after := #[{ on := 10, ground := Ground.guard }], guard := some (10, false) }) (v := ?_) rfl (by kernel_rfl) (by kernel_rfl) (by kernel_rfl) (fun _ _ _ h => h) (Or.inl ⟨by rfl, ?_⟩) (by assumption) ?_
  rotate_left
  · intro wq hSw; (try dsimp only at hSw); (first | (go_simp; done) | (go_simp; with_reducible rfl))
  try simp only [Act.put, List.setIfInBounds_toArray, List.set_cons_zero, List.set_cons_succ]
  refine wpAnyH_take (i := 12) (oi := { dst := some 66, op := Op.binOp BinOp.neq 27 (Operand.tmp 65) (Operand.const (Value.int IntKind.i64 0)) 27, type := 4, pos := "law.go:175", after := #[{ on := 11, ground := Ground.data }, { on := 10, ground := Ground.guard }], guard := some (10, false) }) (v := ?_) rfl (by kernel_rfl) (by kernel_rfl) (by kernel_rfl) (fun _ _ _ h => h) (Or.inl ⟨by rfl, ?_⟩) (by assumption) ?_
  rotate_left
  · intro wq hSw; (try dsimp only at hSw); (first | (go_simp; done) | (go_simp; with_reducible rfl))
  try simp only [Act.put, List.setIfInBounds_toArray, List.set_cons_zero, List.set_cons_succ]
  refine wpAnyH_take (i := 13) (oi := { dst := some 67, op := Op.pick (Operand.tmp 64) (Operand.const (Value.bool true)) (Operand.tmp 66), type := 4, pos := "law.go:175", after := #[{ on := 10, ground := Ground.data }, { on := 12, ground := Ground.data }], guard := none }) (v := ?_) rfl (by kernel_rfl) (by kernel_rfl) (by kernel_rfl) (fun _ _ _ h => h) (Or.inl ⟨by rfl, ?_⟩) (by assumption) ?_
  rotate_left
  · intro wq hSw; (try dsimp only at hSw); (first | (go_simp; done) | (go_simp; with_reducible rfl))
  try simp only [Act.put, List.setIfInBounds_toArray, List.set_cons_zero, List.set_cons_succ]
  refine wpAnyH_take (i := 14) (oi := { dst := some 68, op := Op.move (Operand.tmp 67), type := 4, pos := "law.go:175", after := #[{ on := 13, ground := Ground.data }, { on := 10, ground := Ground.chain }], guard := none }) (v := ?_) rfl (by kernel_rfl) (by kernel_rfl) (by kernel_rfl) (fun _ _ _ h => h) (Or.inl ⟨by rfl, ?_⟩) (by assumption) ?_
  rotate_left
  · intro wq hSw; (try dsimp only at hSw); (first | (go_simp; done) | (go_simp; with_reducible rfl))
  try simp only [Act.put, List.setIfInBounds_toArray, List.set_cons_zero, List.set_cons_succ]
  refine wpAnyH_take (i := 15) (oi := { dst := some 69, op := Op.load 25 (Operand.tmp 2), type := 25, pos := "law.go:175", after := #[{ on := 14, ground := Ground.guard }], guard := some (14, false) }) (v := ?_) rfl (by kernel_rfl) (by kernel_rfl) (by kernel_rfl) (fun _ _ _ h => h) (Or.inl ⟨by rfl, ?_⟩) (by assumption) ?_
  rotate_left
  · intro wq hSw; (try dsimp only at hSw); (first | (go_simp; done) | (go_simp; with_reducible rfl))
  try simp only [Act.put, List.setIfInBounds_toArray, List.set_cons_zero, List.set_cons_succ]
  refine wpAnyH_take (i := 16) (oi := { dst := some 70, op := Op.load 25 (Operand.tmp 7), type := 25, pos := "law.go:175", after := #[{ on := 14, ground := Ground.guard }], guard := some (14, false) }) (v := ?_) rfl (by kernel_rfl) (by kernel_rfl) (by kernel_rfl) (fun _ _ _ h => h) (Or.inl ⟨by rfl, ?_⟩) (by assumption) ?_
  rotate_left
  · intro wq hSw; (try dsimp only at hSw); (first | (go_simp; done) | (go_simp; with_reducible rfl))
  try simp only [Act.put, List.setIfInBounds_toArray, List.set_cons_zero, List.set_cons_succ]
  refine wpAnyH_ready (rs := [17]) (by kernel_rfl) (by simp) ?_
  refine AllReadyH.cons (o := { dst := some 71, op := Op.call { callee := Callee.value (Operand.func 10), args := #[Operand.tmp 69, Operand.tmp 70], argTypes := #[25, 25] }, type := 4, pos := "law.go:175", after := #[{ on := 15, ground := Ground.data }, { on := 16, ground := Ground.data }, { on := 14, ground := Ground.chain }, { on := 14, ground := Ground.guard }], guard := some (14, false) }) rfl (fun K hK => ?_) AllReadyH.nil
  go_simp
  (first
          | (go_at_call 9; refine (refBytes_any _ _ _ _ _ _ a b k x W6.drew ha hb (HK.out.below B6d.out) (HX.out.below B6d.out) (by omega) (by omega)).mono ?_; rintro e w7 ⟨⟨v60, rfl, g60⟩, h⟩; obtain ⟨a60, n60, c60, rfl⟩ := shape g60; have hcv := conv_at g60; have R7 := Lib.hid ((h.block _ Z6.out).trans R6d.out); have F7 := Lib.hid ((h.block _ Y6.out).trans F6d.out); have V7 := Lib.hid (V6d.out.below h); have U7 := Lib.hid (And.intro (U6d.out.1.below h) (U6d.out.2.below h)); have B7 := Lib.hid (B6d.out.trans (h.mono B6d.out.size)); have Z7 := Lib.hid (Nat.lt_of_lt_of_le Z6.out h.size); have Y7 := Lib.hid (Nat.lt_of_lt_of_le Y6.out h.size); clear h g60)
          | (go_at_call 10; refine (same_any _ _ _ _ _ _ _ _ _ _ _ _ _ _ k x w7 (HK.out.below B7.out) (HX.out.below B7.out) U7.out.1 U7.out.2).mono ?_; rintro e w8 ⟨rfl, h⟩; have R8 := Lib.hid ((h.block _ Z7.out).trans R7.out); have F8 := Lib.hid ((h.block _ Y7.out).trans F7.out); have V8 := Lib.hid (V7.out.below h); have B8 := Lib.hid (B7.out.trans (h.mono B7.out.size)); clear h))
  go_wp2_with fail
  refine hK.out _ _ ?_ (fun hHeld3 => ?_)
  · (try dsimp only) <;> (with_reducible first | exact keepU R6d.out F6d.out V6d.out | exact keepU R7.out F7.out V7.out | exact keepU R8.out F8.out V8.out)
  clear hK K
  try simp only [Act.put, List.setIfInBounds_toArray, List.set_cons_zero, List.set_cons_succ]
  clear hHeld2
  refine wpAnyH_take (i := 18) (oi := { dst := some 72, op := Op.unOp UnOp.not 4 (Operand.tmp 71), type := 4, pos := "law.go:175", after := #[{ on := 17, ground := Ground.data }, { on := 14, ground := Ground.guard }], guard := some (14, false) }) (v := ?_) rfl (by kernel_rfl) (by kernel_rfl) (by kernel_rfl) (fun _ _ _ h => h) (Or.inl ⟨by rfl, ?_⟩) (by assumption) ?_
  rotate_left
  · intro wq hSw; (try dsimp only at hSw); (first | (go_simp; done) | (go_simp; with_reducible rfl))
  try simp only [Act.put, List.setIfInBounds_toArray, List.set_cons_zero, List.set_cons_succ]
  refine wpAnyH_take (i := 19) (oi := { dst := some 73, op := Op.pick (Operand.tmp 68) (Operand.const (Value.bool true)) (Operand.tmp 72), type := 4, pos := "law.go:175", after := #[{ on := 14, ground := Ground.data }, { on := 18, ground := Ground.data }], guard := none }) (v := ?_) rfl (by kernel_rfl) (by kernel_rfl) (by kernel_rfl) (fun _ _ _ h => h) (Or.inl ⟨by rfl, ?_⟩) (by assumption) ?_
  rotate_left
  · intro wq hSw; (try dsimp only at hSw); (first | (go_simp; done) | (go_simp; with_reducible rfl))
  try simp only [Act.put, List.setIfInBounds_toArray, List.set_cons_zero, List.set_cons_succ]
  refine wpAnyH_done (by kernel_rfl) ?_ _
  clear hcv
  go_wp2_with fail
  refine (of_any' l _ _ _ w8 (HL.out.below B8.out) (by omega)).mono ?_
  rintro e w15 ⟨⟨v1, v2, ya, yb, E, rfl, eE, ea, eb, g1, g2⟩, h⟩
  obtain ⟨q1, m1, d1, rfl⟩ := shape g1
  obtain ⟨q2, m2, d2, rfl⟩ := shape g2
  rw [HO.out, if_pos rfl] at eE ea eb g1 g2
  subst E ya yb
  have B15 := Lib.hid (B8.out.trans (h.mono B8.out.size))
  clear h
  have B16 := Lib.hid (B15.out.alloc B15.out.size (.cells #[.slice q1 m1 d1, .slice q2 m2 d2, .int .u64 (aa l : Nat), .int .u64 (bb l : Nat)] 25))
  have R16 := Lib.hid (heap_alloc_new w15 (.cells #[.slice q1 m1 d1, .slice q2 m2 d2, .int .u64 (aa l : Nat), .int .u64 (bb l : Nat)] 25))
  have G16 := Lib.hid ((Below.refl w15.heap.size w15).alloc (Nat.le_refl _) (.cells #[.slice q1 m1 d1, .slice q2 m2 d2, .int .u64 (aa l : Nat), .int .u64 (bb l : Nat)] 25))
  have F16 := Lib.hid (show w15.heap.size < (w15.alloc (.cells #[.slice q1 m1 d1, .slice q2 m2 d2, .int .u64 (aa l : Nat), .int .u64 (bb l : Nat)] 25)).heap.size by simp)
  go_wp2_with fail
  refine (refOf_any l _ _ _ (w15.alloc (.cells #[.slice q1 m1 d1, .slice q2 m2 d2, .int .u64 (aa l : Nat), .int .u64 (bb l : Nat)] 25)) (HL.out.below B16.out) hcap (by omega)).mono ?_
  rintro e w17 hr
  unfold RefPost at hr
  rw [HO.out] at hr
  obtain ⟨⟨y1, z1, e1, y2, z2, e2, xa, xb, rfl, hyes⟩, h⟩ := hr
  obtain ⟨rfl, rfl, g3, g4⟩ := hyes rfl
  have R17 := Lib.hid ((h.block _ F16.out).trans R16.out)
  have F17 := Lib.hid (Nat.lt_of_lt_of_le F16.out h.size)
  have B17 := Lib.hid (B16.out.trans (h.mono B16.out.size))
  have R18 := Lib.hid ((heap_alloc_old w17 (.cells #[.slice y1 z1 e1, .slice y2 z2 e2, .int .u64 (aa l : Nat), .int .u64 (bb l : Nat)] 25) (h := F17.out)).trans R17.out)
  have R19 := Lib.hid (heap_alloc_new w17 (.cells #[.slice y1 z1 e1, .slice y2 z2 e2, .int .u64 (aa l : Nat), .int .u64 (bb l : Nat)] 25))
  have B18 := Lib.hid (B17.out.alloc B17.out.size (.cells #[.slice y1 z1 e1, .slice y2 z2 e2, .int .u64 (aa l : Nat), .int .u64 (bb l : Nat)] 25))
  have G18 := Lib.hid ((Below.refl w17.heap.size w17).alloc (Nat.le_refl _) (.cells #[.slice y1 z1 e1, .slice y2 z2 e2, .int .u64 (aa l : Nat), .int .u64 (bb l : Nat)] 25))
  have V1 := Lib.hid ((g1.below (G16.out.trans (h.mono G16.out.size))).below (G18.out.mono (Nat.le_refl _)))
  have V2 := Lib.hid ((g2.below (G16.out.trans (h.mono G16.out.size))).below (G18.out.mono (Nat.le_refl _)))
  have V3 := Lib.hid (g3.below G18.out)
  have V4 := Lib.hid (g4.below G18.out)
  clear g1 g2 g3 g4
  clear h
  obtain ⟨s0, s1', s2', s3'⟩ := row4 R18.out
  obtain ⟨r0, r1, r2, r3⟩ := row4 R19.out
  go_wp2_with (first
    | (go_at_call 10; refine (same_any _ _ _ _ _ _ _ _ _ _ _ _ _ _ (key l) (valu l) (w17.alloc (.cells #[.slice y1 z1 e1, .slice y2 z2 e2, .int .u64 (aa l : Nat), .int .u64 (bb l : Nat)] 25)) V1.out V2.out V3.out V4.out).mono ?_; rintro e w20 ⟨rfl, h⟩; have B20 := Lib.hid (B18.out.trans (h.mono B18.out.size)); clear h)
    | (go_at_call 4; refine (known_any _).mono ?_; rintro e w21 ⟨rfl, h⟩))
  go_ret
  exact ⟨rfl, B20.out.trans (h.mono B20.out.size)⟩
end Go.Proofs.Hb
