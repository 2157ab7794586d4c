import Derived.Test.YtddedbajcpefiaaGreatIeFa
namespace Go.Proofs.Ie
open Go Go.RowKit Go.Ie Go.Crc
set_option maxHeartbeats 8000000 in
set_option maxRecDepth 100000 in
theorem entries_tf (s : ByteArray) (p q : Int) (s' : ByteArray) (p' q' : Int) (l : List Nat) (n c : Nat) (A : Option Addr) (w : World) (h : BytesAt w (.slice A n c) l) (hcap : ∀ A' n' c', Value.slice A n c = .slice A' n' c' → n' ≤ c') (hm : mayB s.size p q = true) (hk : okE l = false) (es : ByteArray) (ep eq : Int) (ha : agE l = .agg #[.string es, .int .i64 ep, .int .i64 eq]) : Calls Tryz.prog 3 #[.agg #[.string s, .int .i64 p, .int .i64 q], .agg #[.string s', .int .i64 p', .int .i64 q'], .slice A n c] w fun e w' => e = .returned (.bool true) ∧ Below w.heap.size w w' := by
  have h0 := Lib.hid h
  have hb0 := Lib.hid (((Below.refl _ w).alloc (Nat.le_refl _) (.cells #[.string s, .int .i64 p, .int .i64 q] 25)).alloc (by simp) (.cells #[.string s', .int .i64 p', .int .i64 q'] 25))
  have g0 := Lib.hid (And.intro (heap_alloc2_old w (.cells #[.string s, .int .i64 p, .int .i64 q] 25) (.cells #[.string s', .int .i64 p', .int .i64 q'] 25)) (heap_alloc2_new w (.cells #[.string s, .int .i64 p, .int .i64 q] 25) (.cells #[.string s', .int .i64 p', .int .i64 q'] 25)))
  have Hm := Lib.hid hm
  have H1 := Lib.hid hk
  have H2 := Lib.hid ha
  have H3 := Lib.hid hcap
  clear h hk ha hcap hm
  go_enter Tryz.func3, Tryz.ntmps3
  go_wp2_with (first | (go_at_call 4; refine (known_any _).mono ?_; rintro e w1 ⟨rfl, hb1⟩) | (go_at_call 5; refine (bytesE_any _ _ _ _).mono ?_; rw [Hm.out]; rintro e w2 ⟨⟨v, rfl, hv0⟩, hb2⟩; have hv := Lib.hid hv0; have hc2 := Lib.hid (hb0.out.trans (hb2.mono hb0.out.size)); have g2 := Lib.hid (And.intro ((hb2.block w.heap.size (by simp; omega)).trans g0.out.1) ((hb2.block (w.heap.size + 1) (by simp)).trans g0.out.2)); clear hv0 hb2) | (go_at_call 6; refine (of_any l _ _ (h0.out.below hc2.out) H3.out).mono ?_; rw [H1.out, H2.out]; rintro e w3 ⟨rfl, hb3⟩; have hc3 := Lib.hid (hc2.out.trans (hb3.mono hc2.out.size)); have hz2 := block_lt hc2.out g2.out.2; have g3 := Lib.hid (And.intro ((hb3.block w.heap.size (by omega)).trans g2.out.1) ((hb3.block (w.heap.size + 1) (by omega)).trans g2.out.2)); have hv3 := Lib.hid (hv.out.below hb3); clear hb3) | (go_at_call 7; refine (refOf_any l _ _ (h0.out.below (hc3.out.alloc hc3.out.size _)) H3.out).mono ?_; rw [H1.out, H2.out]; rintro e w4 ⟨rfl, hb4⟩; have hc4 := Lib.hid ((hc3.out.alloc hc3.out.size (.cells #[.string es, .int .i64 ep, .int .i64 eq] 25)).trans (hb4.mono (hc3.out.alloc hc3.out.size (.cells #[.string es, .int .i64 ep, .int .i64 eq] 25)).size)); have hz3 := block_lt hc3.out g3.out.2; have g4 := Lib.hid (And.intro ((hb4.block w.heap.size (by simp; omega)).trans ((heap_alloc_old _ _ (h := by omega)).trans g3.out.1)) (And.intro ((hb4.block (w.heap.size + 1) (by simp; omega)).trans ((heap_alloc_old _ _ (h := by omega)).trans g3.out.2)) ((hb4.block w3.heap.size (by simp)).trans (heap_alloc_new _ _)))); have hv4 := Lib.hid (hv3.out.below ((Below.refl _ w3).alloc (Nat.le_refl _) (.cells #[.string es, .int .i64 ep, .int .i64 eq] 25) |>.trans (hb4.mono (by simp)))); clear hb4))
  any_goals (go_ret; exact ⟨rfl, hb0.out.trans (hb1.mono hb0.out.size)⟩)
  have hz4 := block_lt hc4.out g4.out.2.2
  have hz5 := block_lt hc4.out g4.out.2.1
  have g5 : (w4.alloc (.cells #[.string es, .int .i64 ep, .int .i64 eq] 25)).heap[w.heap.size]? = some (.cells #[.string s, .int .i64 p, .int .i64 q] 25) ∧ (w4.alloc (.cells #[.string es, .int .i64 ep, .int .i64 eq] 25)).heap[w.heap.size + 1]? = some (.cells #[.string s', .int .i64 p', .int .i64 q'] 25) ∧ (w4.alloc (.cells #[.string es, .int .i64 ep, .int .i64 eq] 25)).heap[w3.heap.size]? = some (.cells #[.string es, .int .i64 ep, .int .i64 eq] 25) ∧ (w4.alloc (.cells #[.string es, .int .i64 ep, .int .i64 eq] 25)).heap[w4.heap.size]? = some (.cells #[.string es, .int .i64 ep, .int .i64 eq] 25) :=
    ⟨(heap_alloc_old _ _ (h := by omega)).trans g4.out.1, (heap_alloc_old _ _ (h := by omega)).trans g4.out.2.1, (heap_alloc_old _ _ (h := hz4)).trans g4.out.2.2, heap_alloc_new _ _⟩
  have hc5 := hc4.out.alloc hc4.out.size (.cells #[.string es, .int .i64 ep, .int .i64 eq] 25)
  have hv5 := hv4.out.below ((Below.refl _ w4).alloc (Nat.le_refl _) (.cells #[.string es, .int .i64 ep, .int .i64 eq] 25))
  generalize w4.alloc (.cells #[.string es, .int .i64 ep, .int .i64 eq] 25) = W at g5 hc5 hv5 ⊢
  have HG := Lib.hid g5
  refine wp_region_held_drew (S := (fun x => (x.cell? ⟨w.heap.size, 0, none⟩ = some (.string s) ∧ x.cell? ⟨w.heap.size, 1, none⟩ = some (.int .i64 p) ∧ x.cell? ⟨w.heap.size, 2, none⟩ = some (.int .i64 q)) ∧ (x.cell? ⟨w.heap.size + 1, 0, none⟩ = some (.string s') ∧ x.cell? ⟨w.heap.size + 1, 1, none⟩ = some (.int .i64 p') ∧ x.cell? ⟨w.heap.size + 1, 2, none⟩ = some (.int .i64 q')) ∧ (x.cell? ⟨w3.heap.size, 0, none⟩ = some (.string es) ∧ x.cell? ⟨w3.heap.size, 1, none⟩ = some (.int .i64 ep) ∧ x.cell? ⟨w3.heap.size, 2, none⟩ = some (.int .i64 eq)) ∧ (x.cell? ⟨w4.heap.size, 0, none⟩ = some (.string es) ∧ x.cell? ⟨w4.heap.size, 1, none⟩ = some (.int .i64 ep) ∧ x.cell? ⟨w4.heap.size, 2, none⟩ = some (.int .i64 eq)) ∧ Below W.heap.size W x)) (by kernel_rfl) ?_ (fun hHeld0 => ?_)
  · (try dsimp only) <;> (first | exact keepS HG.out hbW | exact keepS HG.out (Below.refl _ _) | exact keepS HG.out (Below.refl _ _).drew | exact keepS HG.out (sOf (by assumption)) | exact keepS HG.out (Below.drew (sOf (by assumption))))
  refine wpAnyH_take (i := 0) (oi := { dst := some 44, op := Op.load 25 (Operand.tmp 3), type := 25, pos := "law.go:229", after := #[], guard := none }) (v := ?_) rfl (by kernel_rfl) (by kernel_rfl) (by kernel_rfl) (fun _ _ _ h => h) (Or.inl ⟨by rfl, ?_⟩) (by assumption) ?_
  rotate_left
  · intro wq hSw; (try dsimp only at hSw); (first | (go_simp; done) | (go_simp; with_reducible rfl))
  try simp only [Act.put, List.setIfInBounds_toArray, List.set_cons_zero, List.set_cons_succ]
  refine wpAnyH_take (i := 2) (oi := { dst := some 46, op := Op.load 25 (Operand.tmp 3), type := 25, pos := "law.go:229", after := #[], guard := none }) (v := ?_) rfl (by kernel_rfl) (by kernel_rfl) (by kernel_rfl) (fun _ _ _ h => h) (Or.inl ⟨by rfl, ?_⟩) (by assumption) ?_
  rotate_left
  · intro wq hSw; (try dsimp only at hSw); (first | (go_simp; done) | (go_simp; with_reducible rfl))
  try simp only [Act.put, List.setIfInBounds_toArray, List.set_cons_zero, List.set_cons_succ]
  refine wpAnyH_ready (rs := [1]) (by kernel_rfl) (by simp) ?_
  refine AllReadyH.cons (o := { dst := some 45, op := Op.call { callee := Callee.value (Operand.func 8), args := #[Operand.tmp 44], argTypes := #[25] }, type := 4, pos := "law.go:229", after := #[{ on := 0, ground := Ground.data }], guard := none }) rfl (fun K hK => ?_) AllReadyH.nil
  go_simp
  (first | (go_at_call 8; refine (may_any _ _ _ _).mono ?_; rw [Hm.out]; rintro e wc ⟨rfl, hb⟩; have hbW := below_step (W := W) (sOf (by assumption)) hb) | (go_at_call 9; refine (refMay_any _ _ _ _).mono ?_; rw [Hm.out]; rintro e wc ⟨rfl, hb⟩; have hbW := below_step (W := W) (sOf (by assumption)) hb) | (go_at_call 10; refine (less_any _ _ _ _ _ _ _).mono ?_; rintro e wc ⟨rfl, hb⟩; have hbW := below_step (W := W) (sOf (by assumption)) hb) | (go_at_call 11; refine (refLess_any _ _ _ _ _ _ _).mono ?_; rintro e wc ⟨rfl, hb⟩; have hbW := below_step (W := W) (sOf (by assumption)) hb) | (go_at_call 12; refine (num_any _ _).mono ?_; rintro e wc ⟨rfl, rfl⟩))
  go_wp2_with fail
  refine hK.out _ _ ?_ (fun hHeld1 => ?_)
  · (try dsimp only) <;> (first | exact keepS HG.out hbW | exact keepS HG.out (Below.refl _ _) | exact keepS HG.out (Below.refl _ _).drew | exact keepS HG.out (sOf (by assumption)) | exact keepS HG.out (Below.drew (sOf (by assumption))))
  clear hK K
  try simp only [Act.put, List.setIfInBounds_toArray, List.set_cons_zero, List.set_cons_succ]
  clear hHeld0
  refine wpAnyH_ready (rs := [3]) (by kernel_rfl) (by simp) ?_
  refine AllReadyH.cons (o := { dst := some 47, op := Op.call { callee := Callee.value (Operand.func 9), args := #[Operand.tmp 46], argTypes := #[25] }, type := 4, pos := "law.go:229", after := #[{ on := 2, ground := Ground.data }, { on := 1, ground := Ground.chain }], guard := none }) rfl (fun K hK => ?_) AllReadyH.nil
  go_simp
  (first | (go_at_call 8; refine (may_any _ _ _ _).mono ?_; rw [Hm.out]; rintro e wc ⟨rfl, hb⟩; have hbW := below_step (W := W) (sOf (by assumption)) hb) | (go_at_call 9; refine (refMay_any _ _ _ _).mono ?_; rw [Hm.out]; rintro e wc ⟨rfl, hb⟩; have hbW := below_step (W := W) (sOf (by assumption)) hb) | (go_at_call 10; refine (less_any _ _ _ _ _ _ _).mono ?_; rintro e wc ⟨rfl, hb⟩; have hbW := below_step (W := W) (sOf (by assumption)) hb) | (go_at_call 11; refine (refLess_any _ _ _ _ _ _ _).mono ?_; rintro e wc ⟨rfl, hb⟩; have hbW := below_step (W := W) (sOf (by assumption)) hb) | (go_at_call 12; refine (num_any _ _).mono ?_; rintro e wc ⟨rfl, rfl⟩))
  go_wp2_with fail
  refine hK.out _ _ ?_ (fun hHeld2 => ?_)
  · (try dsimp only) <;> (first | exact keepS HG.out hbW | exact keepS HG.out (Below.refl _ _) | exact keepS HG.out (Below.refl _ _).drew | exact keepS HG.out (sOf (by assumption)) | exact keepS HG.out (Below.drew (sOf (by assumption))))
  clear hK K
  try simp only [Act.put, List.setIfInBounds_toArray, List.set_cons_zero, List.set_cons_succ]
  clear hHeld1
  refine wpAnyH_take (i := 4) (oi := { dst := some 48, op := Op.binOp BinOp.neq 4 (Operand.tmp 45) (Operand.tmp 47) 4, type := 4, pos := "law.go:229", after := #[{ on := 1, ground := Ground.data }, { on := 3, ground := Ground.data }], guard := none }) (v := ?_) rfl (by kernel_rfl) (by kernel_rfl) (by kernel_rfl) (fun _ _ _ h => h) (Or.inl ⟨by rfl, ?_⟩) (by assumption) ?_
  rotate_left
  · intro wq hSw; (try dsimp only at hSw); (first | (go_simp; done) | (go_simp; with_reducible rfl))
  try simp only [Act.put, List.setIfInBounds_toArray, List.set_cons_zero, List.set_cons_succ]
  refine wpAnyH_take (i := 5) (oi := { dst := some 49, op := Op.move (Operand.tmp 48), type := 4, pos := "law.go:229", after := #[{ on := 4, ground := Ground.data }, { on := 3, ground := Ground.chain }], guard := none }) (v := ?_) rfl (by kernel_rfl) (by kernel_rfl) (by kernel_rfl) (fun _ _ _ h => h) (Or.inl ⟨by rfl, ?_⟩) (by assumption) ?_
  rotate_left
  · intro wq hSw; (try dsimp only at hSw); (first | (go_simp; done) | (go_simp; with_reducible rfl))
  try simp only [Act.put, List.setIfInBounds_toArray, List.set_cons_zero, List.set_cons_succ]
  refine wpAnyH_take (i := 6) (oi := { dst := some 50, op := Op.load 25 (Operand.tmp 3), type := 25, pos := "law.go:229", after := #[{ on := 5, ground := Ground.guard }], guard := some (5, false) }) (v := ?_) rfl (by kernel_rfl) (by kernel_rfl) (by kernel_rfl) (fun _ _ _ h => h) (Or.inl ⟨by rfl, ?_⟩) (by assumption) ?_
  rotate_left
  · intro wq hSw; (try dsimp only at hSw); (first | (go_simp; done) | (go_simp; with_reducible rfl))
  try simp only [Act.put, List.setIfInBounds_toArray, List.set_cons_zero, List.set_cons_succ]
  refine wpAnyH_take (i := 7) (oi := { dst := some 51, op := Op.load 25 (Operand.tmp 4), type := 25, pos := "law.go:229", after := #[{ on := 5, ground := Ground.guard }], guard := some (5, false) }) (v := ?_) rfl (by kernel_rfl) (by kernel_rfl) (by kernel_rfl) (fun _ _ _ h => h) (Or.inl ⟨by rfl, ?_⟩) (by assumption) ?_
  rotate_left
  · intro wq hSw; (try dsimp only at hSw); (first | (go_simp; done) | (go_simp; with_reducible rfl))
  try simp only [Act.put, List.setIfInBounds_toArray, List.set_cons_zero, List.set_cons_succ]
  refine wpAnyH_take (i := 9) (oi := { dst := some 53, op := Op.load 25 (Operand.tmp 3), type := 25, pos := "law.go:229", after := #[{ on := 5, ground := Ground.guard }], guard := some (5, false) }) (v := ?_) rfl (by kernel_rfl) (by kernel_rfl) (by kernel_rfl) (fun _ _ _ h => h) (Or.inl ⟨by rfl, ?_⟩) (by assumption) ?_
  rotate_left
  · intro wq hSw; (try dsimp only at hSw); (first | (go_simp; done) | (go_simp; with_reducible rfl))
  try simp only [Act.put, List.setIfInBounds_toArray, List.set_cons_zero, List.set_cons_succ]
  refine wpAnyH_take (i := 10) (oi := { dst := some 54, op := Op.load 25 (Operand.tmp 4), type := 25, pos := "law.go:229", after := #[{ on := 5, ground := Ground.guard }], guard := some (5, false) }) (v := ?_) rfl (by kernel_rfl) (by kernel_rfl) (by kernel_rfl) (fun _ _ _ h => h) (Or.inl ⟨by rfl, ?_⟩) (by assumption) ?_
  rotate_left
  · intro wq hSw; (try dsimp only at hSw); (first | (go_simp; done) | (go_simp; with_reducible rfl))
  try simp only [Act.put, List.setIfInBounds_toArray, List.set_cons_zero, List.set_cons_succ]
  refine wpAnyH_ready (rs := [8]) (by kernel_rfl) (by simp) ?_
  refine AllReadyH.cons (o := { dst := some 52, op := Op.call { callee := Callee.value (Operand.func 10), args := #[Operand.tmp 50, Operand.tmp 51], argTypes := #[25, 25] }, type := 4, pos := "law.go:229", after := #[{ on := 6, ground := Ground.data }, { on := 7, ground := Ground.data }, { on := 5, ground := Ground.chain }, { on := 5, ground := Ground.guard }], guard := some (5, false) }) rfl (fun K hK => ?_) AllReadyH.nil
  go_simp
  (first | (go_at_call 8; refine (may_any _ _ _ _).mono ?_; rw [Hm.out]; rintro e wc ⟨rfl, hb⟩; have hbW := below_step (W := W) (sOf (by assumption)) hb) | (go_at_call 9; refine (refMay_any _ _ _ _).mono ?_; rw [Hm.out]; rintro e wc ⟨rfl, hb⟩; have hbW := below_step (W := W) (sOf (by assumption)) hb) | (go_at_call 10; refine (less_any _ _ _ _ _ _ _).mono ?_; rintro e wc ⟨rfl, hb⟩; have hbW := below_step (W := W) (sOf (by assumption)) hb) | (go_at_call 11; refine (refLess_any _ _ _ _ _ _ _).mono ?_; rintro e wc ⟨rfl, hb⟩; have hbW := below_step (W := W) (sOf (by assumption)) hb) | (go_at_call 12; refine (num_any _ _).mono ?_; rintro e wc ⟨rfl, rfl⟩))
  go_wp2_with fail
  refine hK.out _ _ ?_ (fun hHeld3 => ?_)
  · (try dsimp only) <;> (first | exact keepS HG.out hbW | exact keepS HG.out (Below.refl _ _) | exact keepS HG.out (Below.refl _ _).drew | exact keepS HG.out (sOf (by assumption)) | exact keepS HG.out (Below.drew (sOf (by assumption))))
  clear hK K
  try simp only [Act.put, List.setIfInBounds_toArray, List.set_cons_zero, List.set_cons_succ]
  clear hHeld2
  refine wpAnyH_ready (rs := [11]) (by kernel_rfl) (by simp) ?_
  refine AllReadyH.cons (o := { dst := some 55, op := Op.call { callee := Callee.value (Operand.func 11), args := #[Operand.tmp 53, Operand.tmp 54], argTypes := #[25, 25] }, type := 4, pos := "law.go:229", after := #[{ on := 9, ground := Ground.data }, { on := 10, ground := Ground.data }, { on := 8, ground := Ground.chain }, { on := 5, ground := Ground.guard }], guard := some (5, false) }) rfl (fun K hK => ?_) AllReadyH.nil
  go_simp
  (first | (go_at_call 8; refine (may_any _ _ _ _).mono ?_; rw [Hm.out]; rintro e wc ⟨rfl, hb⟩; have hbW := below_step (W := W) (sOf (by assumption)) hb) | (go_at_call 9; refine (refMay_any _ _ _ _).mono ?_; rw [Hm.out]; rintro e wc ⟨rfl, hb⟩; have hbW := below_step (W := W) (sOf (by assumption)) hb) | (go_at_call 10; refine (less_any _ _ _ _ _ _ _).mono ?_; rintro e wc ⟨rfl, hb⟩; have hbW := below_step (W := W) (sOf (by assumption)) hb) | (go_at_call 11; refine (refLess_any _ _ _ _ _ _ _).mono ?_; rintro e wc ⟨rfl, hb⟩; have hbW := below_step (W := W) (sOf (by assumption)) hb) | (go_at_call 12; refine (num_any _ _).mono ?_; rintro e wc ⟨rfl, rfl⟩))
  go_wp2_with fail
  refine hK.out _ _ ?_ (fun hHeld4 => ?_)
  · (try dsimp only) <;> (first | exact keepS HG.out hbW | exact keepS HG.out (Below.refl _ _) | exact keepS HG.out (Below.refl _ _).drew | exact keepS HG.out (sOf (by assumption)) | exact keepS HG.out (Below.drew (sOf (by assumption))))
  clear hK K
  try simp only [Act.put, List.setIfInBounds_toArray, List.set_cons_zero, List.set_cons_succ]
  clear hHeld3
  refine wpAnyH_take (i := 12) (oi := { dst := some 56, op := Op.binOp BinOp.neq 4 (Operand.tmp 52) (Operand.tmp 55) 4, type := 4, pos := "law.go:229", after := #[{ on := 8, ground := Ground.data }, { on := 11, ground := Ground.data }, { on := 5, ground := Ground.guard }], guard := some (5, false) }) (v := ?_) rfl (by kernel_rfl) (by kernel_rfl) (by kernel_rfl) (fun _ _ _ h => h) (Or.inl ⟨by rfl, ?_⟩) (by assumption) ?_
  rotate_left
  · intro wq hSw; (try dsimp only at hSw); (first | (go_simp; done) | (go_simp; with_reducible rfl))
  try simp only [Act.put, List.setIfInBounds_toArray, List.set_cons_zero, List.set_cons_succ]
  refine wpAnyH_take (i := 13) (oi := { dst := some 57, op := Op.pick (Operand.tmp 49) (Operand.const (Value.bool true)) (Operand.tmp 56), type := 4, pos := "law.go:229", after := #[{ on := 5, ground := Ground.data }, { on := 12, ground := Ground.data }], guard := none }) (v := ?_) rfl (by kernel_rfl) (by kernel_rfl) (by kernel_rfl) (fun _ _ _ h => h) (Or.inl ⟨by rfl, ?_⟩) (by assumption) ?_
  rotate_left
  · intro wq hSw; (try dsimp only at hSw); (first | (go_simp; done) | (go_simp; with_reducible rfl))
  try simp only [Act.put, List.setIfInBounds_toArray, List.set_cons_zero, List.set_cons_succ]
  refine wpAnyH_take (i := 14) (oi := { dst := some 58, op := Op.move (Operand.tmp 57), type := 4, pos := "law.go:229", after := #[{ on := 13, ground := Ground.data }, { on := 11, ground := Ground.chain }], guard := none }) (v := ?_) rfl (by kernel_rfl) (by kernel_rfl) (by kernel_rfl) (fun _ _ _ h => h) (Or.inl ⟨by rfl, ?_⟩) (by assumption) ?_
  rotate_left
  · intro wq hSw; (try dsimp only at hSw); (first | (go_simp; done) | (go_simp; with_reducible rfl))
  try simp only [Act.put, List.setIfInBounds_toArray, List.set_cons_zero, List.set_cons_succ]
  refine wpAnyH_take (i := 15) (oi := { dst := some 59, op := Op.load 25 (Operand.tmp 9), type := 25, pos := "law.go:229", after := #[{ on := 14, ground := Ground.guard }], guard := some (14, false) }) (v := ?_) rfl (by kernel_rfl) (by kernel_rfl) (by kernel_rfl) (fun _ _ _ h => h) (Or.inl ⟨by rfl, ?_⟩) (by assumption) ?_
  rotate_left
  · intro wq hSw; (try dsimp only at hSw); (first | (go_simp; done) | (go_simp; with_reducible rfl))
  try simp only [Act.put, List.setIfInBounds_toArray, List.set_cons_zero, List.set_cons_succ]
  refine wpAnyH_take (i := 16) (oi := { dst := some 60, op := Op.load 25 (Operand.tmp 11), type := 25, pos := "law.go:229", after := #[{ on := 14, ground := Ground.guard }], guard := some (14, false) }) (v := ?_) rfl (by kernel_rfl) (by kernel_rfl) (by kernel_rfl) (fun _ _ _ h => h) (Or.inl ⟨by rfl, ?_⟩) (by assumption) ?_
  rotate_left
  · intro wq hSw; (try dsimp only at hSw); (first | (go_simp; done) | (go_simp; with_reducible rfl))
  try simp only [Act.put, List.setIfInBounds_toArray, List.set_cons_zero, List.set_cons_succ]
  refine wpAnyH_take (i := 17) (oi := { dst := some 61, op := Op.binOp BinOp.neq 25 (Operand.tmp 59) (Operand.tmp 60) 25, type := 4, pos := "law.go:229", after := #[{ on := 15, ground := Ground.data }, { on := 16, ground := Ground.data }, { on := 14, ground := Ground.guard }], guard := some (14, false) }) (v := ?_) rfl (by kernel_rfl) (by kernel_rfl) (by kernel_rfl) (fun _ _ _ h => h) (Or.inl ⟨by rfl, ?_⟩) (by assumption) ?_
  rotate_left
  · intro wq hSw; (try dsimp only at hSw); (first | (go_simp; done) | (go_simp; with_reducible rfl))
  try simp only [Act.put, List.setIfInBounds_toArray, List.set_cons_zero, List.set_cons_succ]
  refine wpAnyH_take (i := 18) (oi := { dst := some 62, op := Op.pick (Operand.tmp 58) (Operand.const (Value.bool true)) (Operand.tmp 61), type := 4, pos := "law.go:229", after := #[{ on := 14, ground := Ground.data }, { on := 17, ground := Ground.data }], guard := none }) (v := ?_) rfl (by kernel_rfl) (by kernel_rfl) (by kernel_rfl) (fun _ _ _ h => h) (Or.inl ⟨by rfl, ?_⟩) (by assumption) ?_
  rotate_left
  · intro wq hSw; (try dsimp only at hSw); (first | (go_simp; done) | (go_simp; with_reducible rfl))
  try simp only [Act.put, List.setIfInBounds_toArray, List.set_cons_zero, List.set_cons_succ]
  refine wpAnyH_take (i := 19) (oi := { dst := some 63, op := Op.move (Operand.tmp 62), type := 4, pos := "law.go:229", after := #[{ on := 18, ground := Ground.data }, { on := 14, ground := Ground.chain }], guard := none }) (v := ?_) rfl (by kernel_rfl) (by kernel_rfl) (by kernel_rfl) (fun _ _ _ h => h) (Or.inl ⟨by rfl, ?_⟩) (by assumption) ?_
  rotate_left
  · intro wq hSw; (try dsimp only at hSw); (first | (go_simp; done) | (go_simp; with_reducible rfl))
  try simp only [Act.put, List.setIfInBounds_toArray, List.set_cons_zero, List.set_cons_succ]
  refine wpAnyH_take (i := 20) (oi := { dst := some 64, op := Op.move (Operand.tmp 10), type := 28, pos := "law.go:229", after := #[{ on := 19, ground := Ground.guard }], guard := some (19, false) }) (v := ?_) rfl (by kernel_rfl) (by kernel_rfl) (by kernel_rfl) (fun _ _ _ h => h) (Or.inl ⟨by rfl, ?_⟩) (by assumption) ?_
  rotate_left
  · intro wq hSw; (try dsimp only at hSw); (first | (go_simp; done) | (go_simp; with_reducible rfl))
  try simp only [Act.put, List.setIfInBounds_toArray, List.set_cons_zero, List.set_cons_succ]
  refine wpAnyH_take (i := 23) (oi := { dst := some 67, op := Op.move (Operand.tmp 12), type := 4, pos := "law.go:229", after := #[{ on := 19, ground := Ground.guard }], guard := some (19, false) }) (v := ?_) rfl (by kernel_rfl) (by kernel_rfl) (by kernel_rfl) (fun _ _ _ h => h) (Or.inl ⟨by rfl, ?_⟩) (by assumption) ?_
  rotate_left
  · intro wq hSw; (try dsimp only at hSw); (first | (go_simp; done) | (go_simp; with_reducible rfl))
  try simp only [Act.put, List.setIfInBounds_toArray, List.set_cons_zero, List.set_cons_succ]
  refine wpAnyH_ready (rs := [21]) (by kernel_rfl) (by simp) ?_
  refine AllReadyH.cons (o := { dst := some 65, op := Op.call { callee := Callee.value (Operand.func 12), args := #[Operand.tmp 64], argTypes := #[28] }, type := 3, pos := "law.go:229", after := #[{ on := 20, ground := Ground.data }, { on := 19, ground := Ground.chain }, { on := 19, ground := Ground.guard }], guard := some (19, false) }) rfl (fun K hK => ?_) AllReadyH.nil
  go_simp
  (first | (go_at_call 8; refine (may_any _ _ _ _).mono ?_; rw [Hm.out]; rintro e wc ⟨rfl, hb⟩; have hbW := below_step (W := W) (sOf (by assumption)) hb) | (go_at_call 9; refine (refMay_any _ _ _ _).mono ?_; rw [Hm.out]; rintro e wc ⟨rfl, hb⟩; have hbW := below_step (W := W) (sOf (by assumption)) hb) | (go_at_call 10; refine (less_any _ _ _ _ _ _ _).mono ?_; rintro e wc ⟨rfl, hb⟩; have hbW := below_step (W := W) (sOf (by assumption)) hb) | (go_at_call 11; refine (refLess_any _ _ _ _ _ _ _).mono ?_; rintro e wc ⟨rfl, hb⟩; have hbW := below_step (W := W) (sOf (by assumption)) hb) | (go_at_call 12; refine (num_any _ _).mono ?_; rintro e wc ⟨rfl, rfl⟩))
  go_wp2_with fail
  refine hK.out _ _ ?_ (fun hHeld5 => ?_)
  · (try dsimp only) <;> (first | exact keepS HG.out hbW | exact keepS HG.out (Below.refl _ _) | exact keepS HG.out (Below.refl _ _).drew | exact keepS HG.out (sOf (by assumption)) | exact keepS HG.out (Below.drew (sOf (by assumption))))
  clear hK K
  try simp only [Act.put, List.setIfInBounds_toArray, List.set_cons_zero, List.set_cons_succ]
  clear hHeld4
  refine wpAnyH_take (i := 22) (oi := { dst := some 66, op := Op.binOp BinOp.eql 3 (Operand.tmp 65) (Operand.const (Value.int IntKind.i64 0)) 3, type := 4, pos := "law.go:229", after := #[{ on := 21, ground := Ground.data }, { on := 19, ground := Ground.guard }], guard := some (19, false) }) (v := ?_) rfl (by kernel_rfl) (by kernel_rfl) (by kernel_rfl) (fun _ _ _ h => h) (Or.inl ⟨by rfl, ?_⟩) (by assumption) ?_
  rotate_left
  · intro wq hSw; (try dsimp only at hSw); (first | (go_simp; done) | (go_simp; with_reducible rfl))
  try simp only [Act.put, List.setIfInBounds_toArray, List.set_cons_zero, List.set_cons_succ]
  refine wpAnyH_take (i := 24) (oi := { dst := some 68, op := Op.binOp BinOp.neq 4 (Operand.tmp 66) (Operand.tmp 67) 4, type := 4, pos := "law.go:229", after := #[{ on := 22, ground := Ground.data }, { on := 23, ground := Ground.data }, { on := 19, ground := Ground.guard }], guard := some (19, false) }) (v := ?_) rfl (by kernel_rfl) (by kernel_rfl) (by kernel_rfl) (fun _ _ _ h => h) (Or.inl ⟨by rfl, ?_⟩) (by assumption) ?_
  rotate_left
  · intro wq hSw; (try dsimp only at hSw); (first | (go_simp; done) | (go_simp; with_reducible rfl))
  try simp only [Act.put, List.setIfInBounds_toArray, List.set_cons_zero, List.set_cons_succ]
  refine wpAnyH_take (i := 25) (oi := { dst := some 69, op := Op.pick (Operand.tmp 63) (Operand.const (Value.bool true)) (Operand.tmp 68), type := 4, pos := "law.go:229", after := #[{ on := 19, ground := Ground.data }, { on := 24, ground := Ground.data }], guard := none }) (v := ?_) rfl (by kernel_rfl) (by kernel_rfl) (by kernel_rfl) (fun _ _ _ h => h) (Or.inl ⟨by rfl, ?_⟩) (by assumption) ?_
  rotate_left
  · intro wq hSw; (try dsimp only at hSw); (first | (go_simp; done) | (go_simp; with_reducible rfl))
  try simp only [Act.put, List.setIfInBounds_toArray, List.set_cons_zero, List.set_cons_succ]
  refine wpAnyH_take (i := 26) (oi := { dst := some 70, op := Op.move (Operand.tmp 69), type := 4, pos := "law.go:229", after := #[{ on := 25, ground := Ground.data }, { on := 21, ground := Ground.chain }], guard := none }) (v := ?_) rfl (by kernel_rfl) (by kernel_rfl) (by kernel_rfl) (fun _ _ _ h => h) (Or.inl ⟨by rfl, ?_⟩) (by assumption) ?_
  rotate_left
  · intro wq hSw; (try dsimp only at hSw); (first | (go_simp; done) | (go_simp; with_reducible rfl))
  try simp only [Act.put, List.setIfInBounds_toArray, List.set_cons_zero, List.set_cons_succ]
  refine wpAnyH_take (i := 27) (oi := { dst := some 71, op := Op.move (Operand.tmp 12), type := 4, pos := "law.go:229", after := #[{ on := 26, ground := Ground.guard }], guard := some (26, false) }) (v := ?_) rfl (by kernel_rfl) (by kernel_rfl) (by kernel_rfl) (fun _ _ _ h => h) (Or.inl ⟨by rfl, ?_⟩) (by assumption) ?_
  rotate_left
  · intro wq hSw; (try dsimp only at hSw); (first | (go_simp; done) | (go_simp; with_reducible rfl))
  try simp only [Act.put, List.setIfInBounds_toArray, List.set_cons_zero, List.set_cons_succ]
  refine wpAnyH_take (i := 28) (oi := { dst := some 72, op := Op.unOp UnOp.not 4 (Operand.tmp 71), type := 4, pos := "law.go:229", after := #[{ on := 27, ground := Ground.data }, { on := 26, ground := Ground.guard }], guard := some (26, false) }) (v := ?_) rfl (by kernel_rfl) (by kernel_rfl) (by kernel_rfl) (fun _ _ _ h => h) (Or.inl ⟨by rfl, ?_⟩) (by assumption) ?_
  rotate_left
  · intro wq hSw; (try dsimp only at hSw); (first | (go_simp; done) | (go_simp; with_reducible rfl))
  try simp only [Act.put, List.setIfInBounds_toArray, List.set_cons_zero, List.set_cons_succ]
  refine wpAnyH_take (i := 29) (oi := { dst := some 73, op := Op.move (Operand.tmp 72), type := 4, pos := "law.go:229", after := #[{ on := 28, ground := Ground.data }, { on := 26, ground := Ground.chain }, { on := 26, ground := Ground.guard }], guard := some (26, false) }) (v := ?_) rfl (by kernel_rfl) (by kernel_rfl) (by kernel_rfl) (fun _ _ _ h => h) (Or.inl ⟨by rfl, ?_⟩) (by assumption) ?_
  rotate_left
  · intro wq hSw; (try dsimp only at hSw); (first | (go_simp; done) | (go_simp; with_reducible rfl))
  try simp only [Act.put, List.setIfInBounds_toArray, List.set_cons_zero, List.set_cons_succ]
  refine wpAnyH_take (i := 30) (oi := { dst := some 74, op := Op.move (Operand.tmp 10), type := 28, pos := "law.go:229", after := #[{ on := 29, ground := Ground.guard }], guard := some (29, true) }) (v := ?_) rfl (by kernel_rfl) (by kernel_rfl) (by kernel_rfl) (fun _ _ _ h => h) (Or.inl ⟨by rfl, ?_⟩) (by assumption) ?_
  rotate_left
  · intro wq hSw; (try dsimp only at hSw); (first | (go_simp; done) | (go_simp; with_reducible rfl))
  try simp only [Act.put, List.setIfInBounds_toArray, List.set_cons_zero, List.set_cons_succ]
  refine wpAnyH_ready (rs := [31]) (by kernel_rfl) (by simp) ?_
  refine AllReadyH.cons (o := { dst := some 75, op := Op.call { callee := Callee.value (Operand.func 12), args := #[Operand.tmp 74], argTypes := #[28] }, type := 3, pos := "law.go:229", after := #[{ on := 30, ground := Ground.data }, { on := 29, ground := Ground.chain }, { on := 29, ground := Ground.guard }], guard := some (29, true) }) rfl (fun K hK => ?_) AllReadyH.nil
  go_simp
  (first | (go_at_call 8; refine (may_any _ _ _ _).mono ?_; rw [Hm.out]; rintro e wc ⟨rfl, hb⟩; have hbW := below_step (W := W) (sOf (by assumption)) hb) | (go_at_call 9; refine (refMay_any _ _ _ _).mono ?_; rw [Hm.out]; rintro e wc ⟨rfl, hb⟩; have hbW := below_step (W := W) (sOf (by assumption)) hb) | (go_at_call 10; refine (less_any _ _ _ _ _ _ _).mono ?_; rintro e wc ⟨rfl, hb⟩; have hbW := below_step (W := W) (sOf (by assumption)) hb) | (go_at_call 11; refine (refLess_any _ _ _ _ _ _ _).mono ?_; rintro e wc ⟨rfl, hb⟩; have hbW := below_step (W := W) (sOf (by assumption)) hb) | (go_at_call 12; refine (num_any _ _).mono ?_; rintro e wc ⟨rfl, rfl⟩))
  go_wp2_with fail
  refine hK.out _ _ ?_ (fun hHeld6 => ?_)
  · (try dsimp only) <;> (first | exact keepS HG.out hbW | exact keepS HG.out (Below.refl _ _) | exact keepS HG.out (Below.refl _ _).drew | exact keepS HG.out (sOf (by assumption)) | exact keepS HG.out (Below.drew (sOf (by assumption))))
  clear hK K
  try simp only [Act.put, List.setIfInBounds_toArray, List.set_cons_zero, List.set_cons_succ]
  clear hHeld5
  refine wpAnyH_take (i := 32) (oi := { dst := some 76, op := Op.binOp BinOp.neq 3 (Operand.tmp 75) (Operand.const (Value.int IntKind.i64 13)) 3, type := 4, pos := "law.go:229", after := #[{ on := 31, ground := Ground.data }, { on := 29, ground := Ground.guard }], guard := some (29, true) }) (v := ?_) rfl (by kernel_rfl) (by kernel_rfl) (by kernel_rfl) (fun _ _ _ h => h) (Or.inl ⟨by rfl, ?_⟩) (by assumption) ?_
  rotate_left
  · intro wq hSw; (try dsimp only at hSw); (first | (go_simp; done) | (go_simp; with_reducible rfl))
  try simp only [Act.put, List.setIfInBounds_toArray, List.set_cons_zero, List.set_cons_succ]
  refine wpAnyH_take (i := 33) (oi := { dst := some 77, op := Op.pick (Operand.tmp 73) (Operand.tmp 76) (Operand.const (Value.bool false)), type := 4, pos := "law.go:229", after := #[{ on := 29, ground := Ground.data }, { on := 32, ground := Ground.data }, { on := 26, ground := Ground.guard }], guard := some (26, false) }) (v := ?_) rfl (by kernel_rfl) (by kernel_rfl) (by kernel_rfl) (fun _ _ _ h => h) (Or.inl ⟨by rfl, ?_⟩) (by assumption) ?_
  rotate_left
  · intro wq hSw; (try dsimp only at hSw); (first | (go_simp; done) | (go_simp; with_reducible rfl))
  try simp only [Act.put, List.setIfInBounds_toArray, List.set_cons_zero, List.set_cons_succ]
  refine wpAnyH_take (i := 34) (oi := { dst := some 78, op := Op.pick (Operand.tmp 70) (Operand.const (Value.bool true)) (Operand.tmp 77), type := 4, pos := "law.go:229", after := #[{ on := 26, ground := Ground.data }, { on := 33, ground := Ground.data }], guard := none }) (v := ?_) rfl (by kernel_rfl) (by kernel_rfl) (by kernel_rfl) (fun _ _ _ h => h) (Or.inl ⟨by rfl, ?_⟩) (by assumption) ?_
  rotate_left
  · intro wq hSw; (try dsimp only at hSw); (first | (go_simp; done) | (go_simp; with_reducible rfl))
  try simp only [Act.put, List.setIfInBounds_toArray, List.set_cons_zero, List.set_cons_succ]
  refine wpAnyH_done (by kernel_rfl) ?_ _
  have hbx : Below W.heap.size W _ := sOf (by assumption)
  rw [if_pos trivial] at hv5
  have HM := Lib.hid (may_t Hm.out)
  have hv6 := hv5.below hbx
  clear hv hv3 hv4
  have Hb := Lib.hid hbx
  have Hc5 := Lib.hid hc5
  have Hv6 := Lib.hid hv6
  clear hv6 hv5 hc5 hbx
  go_wp2_with (go_at_call 9; refine (refMay_any _ _ _ _).mono ?_; rw [Hm.out]; rintro e w6 ⟨rfl, hb6⟩; have hb7 := Lib.hid (Hb.out.trans (hb6.mono Hb.out.size)); have hv7 := Lib.hid (Hv6.out.below hb6); clear hb6)
  have g7 := Lib.hid ((hb7.out.block w.heap.size (Array.getElem?_eq_some_iff.1 HG.out.1).1).trans HG.out.1)
  refine wp_region_held_drew (S := (fun x => (x.cell? ⟨w.heap.size, 0, none⟩ = some (.string s) ∧ x.cell? ⟨w.heap.size, 1, none⟩ = some (.int .i64 p) ∧ x.cell? ⟨w.heap.size, 2, none⟩ = some (.int .i64 q)) ∧ Sem.run Tryz.prog (convert 26 9 v) x = .ok (.string (strOf (ofE s p q))) x ∧ Below w6.heap.size w6 x)) (by kernel_rfl) ?_ (fun hHeld0 => ?_)
  · (try dsimp only) <;> (first | exact keepT g7.out hv7.out hbW | exact keepT g7.out hv7.out (Below.refl _ _) | exact keepT g7.out hv7.out (Below.refl _ _).drew | exact keepT g7.out hv7.out (sOf2 (by assumption)) | exact keepT g7.out hv7.out (Below.drew (sOf2 (by assumption))))
  refine wpAnyH_take (i := 0) (oi := { dst := some 93, op := Op.move (Operand.tmp 7), type := 26, pos := "law.go:235", after := #[], guard := none }) (v := ?_) rfl (by kernel_rfl) (by kernel_rfl) (by kernel_rfl) (fun _ _ _ h => h) (Or.inl ⟨by rfl, ?_⟩) (by assumption) ?_
  rotate_left
  · intro wq hSw; (try dsimp only at hSw); (first | (go_simp; done) | (go_simp; with_reducible rfl))
  try simp only [Act.put, List.setIfInBounds_toArray, List.set_cons_zero, List.set_cons_succ]
  refine wpAnyH_take (i := 1) (oi := { dst := some 94, op := Op.convert 26 9 (Operand.tmp 93), type := 9, pos := "law.go:235", after := #[{ on := 0, ground := Ground.data }], guard := none }) (v := ?_) rfl (by kernel_rfl) (by kernel_rfl) (by kernel_rfl) (fun _ _ _ h => h) (Or.inl ⟨by rfl, ?_⟩) (by assumption) ?_
  rotate_left
  · intro wq hSw; (try dsimp only at hSw); (first | (go_simp; done) | (go_simp; with_reducible rfl))
  try simp only [Act.put, List.setIfInBounds_toArray, List.set_cons_zero, List.set_cons_succ]
  refine wpAnyH_take (i := 2) (oi := { dst := some 95, op := Op.load 25 (Operand.tmp 3), type := 25, pos := "law.go:235", after := #[], guard := none }) (v := ?_) rfl (by kernel_rfl) (by kernel_rfl) (by kernel_rfl) (fun _ _ _ h => h) (Or.inl ⟨by rfl, ?_⟩) (by assumption) ?_
  rotate_left
  · intro wq hSw; (try dsimp only at hSw); (first | (go_simp; done) | (go_simp; with_reducible rfl))
  try simp only [Act.put, List.setIfInBounds_toArray, List.set_cons_zero, List.set_cons_succ]
  refine wpAnyH_ready (rs := [3]) (by kernel_rfl) (by simp) ?_
  refine AllReadyH.cons (o := { dst := some 96, op := Op.call { callee := Callee.value (Operand.func 13), args := #[Operand.tmp 95], argTypes := #[25] }, type := 26, pos := "law.go:235", after := #[{ on := 2, ground := Ground.data }], guard := none }) rfl (fun K hK => ?_) AllReadyH.nil
  go_simp
  (first | (go_at_call 13; refine (refBytes_any _ _ _ _ HM.out.1 HM.out.2.1 HM.out.2.2.1 HM.out.2.2.2.1 HM.out.2.2.2.2.1 HM.out.2.2.2.2.2).mono ?_; rintro e wc ⟨⟨v2, rfl, hv2⟩, hb⟩; have hbW := below_step (W := w6) (sOf2 (by assumption)) hb; have hcv := conv_at hv2 (ofE_ne s p q); clear hv2) | (go_at_call 12; refine (num_any _ _).mono ?_; rintro e wc ⟨rfl, rfl⟩) | (go_at_call 4; refine (known_any _).mono ?_; rintro e wc ⟨rfl, hb⟩; have hbW := below_step (W := w6) (sOf2 (by assumption)) hb))
  go_wp2_with fail
  refine hK.out _ _ ?_ (fun hHeld1 => ?_)
  · (try dsimp only) <;> (first | exact keepT g7.out hv7.out hbW | exact keepT g7.out hv7.out (Below.refl _ _) | exact keepT g7.out hv7.out (Below.refl _ _).drew | exact keepT g7.out hv7.out (sOf2 (by assumption)) | exact keepT g7.out hv7.out (Below.drew (sOf2 (by assumption))))
  clear hK K
  try simp only [Act.put, List.setIfInBounds_toArray, List.set_cons_zero, List.set_cons_succ]
  clear hHeld0
  refine wpAnyH_ready (rs := [4]) (by kernel_rfl) (by simp) ?_
  refine AllReadyH.cons (o := { dst := some 97, op := Op.convert 26 9 (Operand.tmp 96), type := 9, pos := "law.go:235", after := #[{ on := 3, ground := Ground.data }], guard := none }) rfl (fun K hK => ?_) AllReadyH.nil
  go_simp
  refine hK.out _ _ ?_ (fun hHeld2 => ?_)
  · (try dsimp only) <;> (first | exact keepT g7.out hv7.out hbW | exact keepT g7.out hv7.out (Below.refl _ _) | exact keepT g7.out hv7.out (Below.refl _ _).drew | exact keepT g7.out hv7.out (sOf2 (by assumption)) | exact keepT g7.out hv7.out (Below.drew (sOf2 (by assumption))))
  clear hK K
  try simp only [Act.put, List.setIfInBounds_toArray, List.set_cons_zero, List.set_cons_succ]
  clear hHeld1
  refine wpAnyH_take (i := 5) (oi := { dst := some 98, op := Op.binOp BinOp.eql 9 (Operand.tmp 94) (Operand.tmp 97) 9, type := 4, pos := "law.go:235", after := #[{ on := 1, ground := Ground.data }, { on := 4, ground := Ground.data }], guard := none }) (v := ?_) rfl (by kernel_rfl) (by kernel_rfl) (by kernel_rfl) (fun _ _ _ h => h) (Or.inl ⟨by rfl, ?_⟩) (by assumption) ?_
  rotate_left
  · intro wq hSw; (try dsimp only at hSw); (first | (go_simp; done) | (go_simp; with_reducible rfl))
  try simp only [Act.put, List.setIfInBounds_toArray, List.set_cons_zero, List.set_cons_succ]
  refine wpAnyH_take (i := 6) (oi := { dst := some 99, op := Op.move (Operand.tmp 98), type := 4, pos := "law.go:235", after := #[{ on := 5, ground := Ground.data }, { on := 3, ground := Ground.chain }], guard := none }) (v := ?_) rfl (by kernel_rfl) (by kernel_rfl) (by kernel_rfl) (fun _ _ _ h => h) (Or.inl ⟨by rfl, ?_⟩) (by assumption) ?_
  rotate_left
  · intro wq hSw; (try dsimp only at hSw); (first | (go_simp; done) | (go_simp; with_reducible rfl))
  try simp only [Act.put, List.setIfInBounds_toArray, List.set_cons_zero, List.set_cons_succ]
  refine wpAnyH_take (i := 7) (oi := { dst := some 100, op := Op.move (Operand.tmp 8), type := 28, pos := "law.go:235", after := #[{ on := 6, ground := Ground.guard }], guard := some (6, true) }) (v := ?_) rfl (by kernel_rfl) (by kernel_rfl) (by kernel_rfl) (fun _ _ _ h => h) (Or.inl ⟨by rfl, ?_⟩) (by assumption) ?_
  rotate_left
  · intro wq hSw; (try dsimp only at hSw); (first | (go_simp; done) | (go_simp; with_reducible rfl))
  try simp only [Act.put, List.setIfInBounds_toArray, List.set_cons_zero, List.set_cons_succ]
  refine wpAnyH_ready (rs := [8]) (by kernel_rfl) (by simp) ?_
  refine AllReadyH.cons (o := { dst := some 101, op := Op.call { callee := Callee.value (Operand.func 12), args := #[Operand.tmp 100], argTypes := #[28] }, type := 3, pos := "law.go:235", after := #[{ on := 7, ground := Ground.data }, { on := 6, ground := Ground.chain }, { on := 6, ground := Ground.guard }], guard := some (6, true) }) rfl (fun K hK => ?_) AllReadyH.nil
  go_simp
  (first | (go_at_call 13; refine (refBytes_any _ _ _ _ HM.out.1 HM.out.2.1 HM.out.2.2.1 HM.out.2.2.2.1 HM.out.2.2.2.2.1 HM.out.2.2.2.2.2).mono ?_; rintro e wc ⟨⟨v2, rfl, hv2⟩, hb⟩; have hbW := below_step (W := w6) (sOf2 (by assumption)) hb; have hcv := conv_at hv2 (ofE_ne s p q); clear hv2) | (go_at_call 12; refine (num_any _ _).mono ?_; rintro e wc ⟨rfl, rfl⟩) | (go_at_call 4; refine (known_any _).mono ?_; rintro e wc ⟨rfl, hb⟩; have hbW := below_step (W := w6) (sOf2 (by assumption)) hb))
  go_wp2_with fail
  refine hK.out _ _ ?_ (fun hHeld3 => ?_)
  · (try dsimp only) <;> (first | exact keepT g7.out hv7.out hbW | exact keepT g7.out hv7.out (Below.refl _ _) | exact keepT g7.out hv7.out (Below.refl _ _).drew | exact keepT g7.out hv7.out (sOf2 (by assumption)) | exact keepT g7.out hv7.out (Below.drew (sOf2 (by assumption))))
  clear hK K
  try simp only [Act.put, List.setIfInBounds_toArray, List.set_cons_zero, List.set_cons_succ]
  clear hHeld2
  refine wpAnyH_take (i := 9) (oi := { dst := some 102, op := Op.binOp BinOp.eql 3 (Operand.tmp 101) (Operand.const (Value.int IntKind.i64 0)) 3, type := 4, pos := "law.go:235", after := #[{ on := 8, ground := Ground.data }, { on := 6, ground := Ground.guard }], guard := some (6, true) }) (v := ?_) rfl (by kernel_rfl) (by kernel_rfl) (by kernel_rfl) (fun _ _ _ h => h) (Or.inl ⟨by rfl, ?_⟩) (by assumption) ?_
  rotate_left
  · intro wq hSw; (try dsimp only at hSw); (first | (go_simp; done) | (go_simp; with_reducible rfl))
  try simp only [Act.put, List.setIfInBounds_toArray, List.set_cons_zero, List.set_cons_succ]
  refine wpAnyH_take (i := 10) (oi := { dst := some 103, op := Op.pick (Operand.tmp 99) (Operand.tmp 102) (Operand.const (Value.bool false)), type := 4, pos := "law.go:235", after := #[{ on := 6, ground := Ground.data }, { on := 9, ground := Ground.data }], guard := none }) (v := ?_) rfl (by kernel_rfl) (by kernel_rfl) (by kernel_rfl) (fun _ _ _ h => h) (Or.inl ⟨by rfl, ?_⟩) (by assumption) ?_
  rotate_left
  · intro wq hSw; (try dsimp only at hSw); (first | (go_simp; done) | (go_simp; with_reducible rfl))
  try simp only [Act.put, List.setIfInBounds_toArray, List.set_cons_zero, List.set_cons_succ]
  refine wpAnyH_take (i := 11) (oi := { dst := some 104, op := Op.move (Operand.tmp 103), type := 4, pos := "law.go:235", after := #[{ on := 10, ground := Ground.data }, { on := 8, ground := Ground.chain }], guard := none }) (v := ?_) rfl (by kernel_rfl) (by kernel_rfl) (by kernel_rfl) (fun _ _ _ h => h) (Or.inl ⟨by rfl, ?_⟩) (by assumption) ?_
  rotate_left
  · intro wq hSw; (try dsimp only at hSw); (first | (go_simp; done) | (go_simp; with_reducible rfl))
  try simp only [Act.put, List.setIfInBounds_toArray, List.set_cons_zero, List.set_cons_succ]
  refine wpAnyH_ready (rs := [12]) (by kernel_rfl) (by simp) ?_
  refine AllReadyH.cons (o := { dst := some 105, op := Op.call { callee := Callee.value (Operand.func 4), args := #[], argTypes := #[] }, type := 4, pos := "law.go:235", after := #[{ on := 11, ground := Ground.chain }, { on := 11, ground := Ground.guard }], guard := some (11, true) }) rfl (fun K hK => ?_) AllReadyH.nil
  go_simp
  (first | (go_at_call 13; refine (refBytes_any _ _ _ _ HM.out.1 HM.out.2.1 HM.out.2.2.1 HM.out.2.2.2.1 HM.out.2.2.2.2.1 HM.out.2.2.2.2.2).mono ?_; rintro e wc ⟨⟨v2, rfl, hv2⟩, hb⟩; have hbW := below_step (W := w6) (sOf2 (by assumption)) hb; have hcv := conv_at hv2 (ofE_ne s p q); clear hv2) | (go_at_call 12; refine (num_any _ _).mono ?_; rintro e wc ⟨rfl, rfl⟩) | (go_at_call 4; refine (known_any _).mono ?_; rintro e wc ⟨rfl, hb⟩; have hbW := below_step (W := w6) (sOf2 (by assumption)) hb))
  go_wp2_with fail
  refine hK.out _ _ ?_ (fun hHeld4 => ?_)
  · (try dsimp only) <;> (first | exact keepT g7.out hv7.out hbW | exact keepT g7.out hv7.out (Below.refl _ _) | exact keepT g7.out hv7.out (Below.refl _ _).drew | exact keepT g7.out hv7.out (sOf2 (by assumption)) | exact keepT g7.out hv7.out (Below.drew (sOf2 (by assumption))))
  clear hK K
  try simp only [Act.put, List.setIfInBounds_toArray, List.set_cons_zero, List.set_cons_succ]
  clear hHeld3
  refine wpAnyH_take (i := 13) (oi := { dst := some 106, op := Op.pick (Operand.tmp 104) (Operand.tmp 105) (Operand.const (Value.bool false)), type := 4, pos := "law.go:235", after := #[{ on := 11, ground := Ground.data }, { on := 12, ground := Ground.data }], guard := none }) (v := ?_) rfl (by kernel_rfl) (by kernel_rfl) (by kernel_rfl) (fun _ _ _ h => h) (Or.inl ⟨by rfl, ?_⟩) (by assumption) ?_
  rotate_left
  · intro wq hSw; (try dsimp only at hSw); (first | (go_simp; done) | (go_simp; with_reducible rfl))
  try simp only [Act.put, List.setIfInBounds_toArray, List.set_cons_zero, List.set_cons_succ]
  refine wpAnyH_take (i := 14) (oi := { dst := some 6, op := Op.assign (Operand.tmp 106), type := 4, pos := "law.go:235", after := #[{ on := 13, ground := Ground.data }, { on := 12, ground := Ground.chain }, { on := 0, ground := Ground.phase }, { on := 1, ground := Ground.phase }, { on := 2, ground := Ground.phase }, { on := 3, ground := Ground.phase }, { on := 4, ground := Ground.phase }, { on := 5, ground := Ground.phase }, { on := 6, ground := Ground.phase }, { on := 7, ground := Ground.phase }, { on := 8, ground := Ground.phase }, { on := 9, ground := Ground.phase }, { on := 10, ground := Ground.phase }, { on := 11, ground := Ground.phase }, { on := 12, ground := Ground.phase }, { on := 13, ground := Ground.phase }], guard := none }) (v := ?_) rfl (by kernel_rfl) (by kernel_rfl) (by kernel_rfl) (fun _ _ _ h => h) (Or.inl ⟨by rfl, ?_⟩) (by assumption) ?_
  rotate_left
  · intro wq hSw; (try dsimp only at hSw); (first | (go_simp; done) | (go_simp; with_reducible rfl))
  try simp only [Act.put, List.setIfInBounds_toArray, List.set_cons_zero, List.set_cons_succ]
  refine wpAnyH_done (by kernel_rfl) ?_ _
  all_goals
    have hby : Below w6.heap.size w6 _ := sOf2 (by assumption)
    have Hy := Lib.hid hby
    clear hby
    go_wp2
    go_ret
    exact ⟨rfl, (Hc5.out.trans (hb7.out.mono Hc5.out.size)).trans (Hy.out.mono (Hc5.out.trans (hb7.out.mono Hc5.out.size)).size)⟩
end Go.Proofs.Ie
