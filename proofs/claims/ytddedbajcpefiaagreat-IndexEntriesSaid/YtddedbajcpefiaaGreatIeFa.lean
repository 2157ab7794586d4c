import Derived.Test.YtddedbajcpefiaaGreatIeD
import Derived.Test.YtddedbajcpefiaaGreatIeE
import Derived.Deep.RegionHeld3
namespace Go.Proofs.Ie
open Go Go.RowKit Go.Ie Go.Crc
theorem known_any (w : World) : Calls Tryz.prog 4 #[] w fun e w' => e = .returned (.bool true) ∧ Below w.heap.size w w' := known_w w
theorem below_step {W x y : World} (h : Below W.heap.size W x) (hb : Below x.heap.size x y) : Below W.heap.size W y := h.trans (hb.mono h.size)
theorem keepS {W x : World} {a b c d : Nat} {s s' es : ByteArray} {p q p' q' ep eq : Int} (h : W.heap[a]? = some (.cells #[.string s, .int .i64 p, .int .i64 q] 25) ∧ W.heap[b]? = some (.cells #[.string s', .int .i64 p', .int .i64 q'] 25) ∧ W.heap[c]? = some (.cells #[.string es, .int .i64 ep, .int .i64 eq] 25) ∧ W.heap[d]? = some (.cells #[.string es, .int .i64 ep, .int .i64 eq] 25)) (hb : Below W.heap.size W x) :
    (x.cell? ⟨a, 0, none⟩ = some (.string s) ∧ x.cell? ⟨a, 1, none⟩ = some (.int .i64 p) ∧ x.cell? ⟨a, 2, none⟩ = some (.int .i64 q)) ∧ (x.cell? ⟨b, 0, none⟩ = some (.string s') ∧ x.cell? ⟨b, 1, none⟩ = some (.int .i64 p') ∧ x.cell? ⟨b, 2, none⟩ = some (.int .i64 q')) ∧ (x.cell? ⟨c, 0, none⟩ = some (.string es) ∧ x.cell? ⟨c, 1, none⟩ = some (.int .i64 ep) ∧ x.cell? ⟨c, 2, none⟩ = some (.int .i64 eq)) ∧ (x.cell? ⟨d, 0, none⟩ = some (.string es) ∧ x.cell? ⟨d, 1, none⟩ = some (.int .i64 ep) ∧ x.cell? ⟨d, 2, none⟩ = some (.int .i64 eq)) ∧ Below W.heap.size W x :=
  ⟨aggAt ((hb.block _ (Array.getElem?_eq_some_iff.1 h.1).1).trans h.1), aggAt ((hb.block _ (Array.getElem?_eq_some_iff.1 h.2.1).1).trans h.2.1), aggAt ((hb.block _ (Array.getElem?_eq_some_iff.1 h.2.2.1).1).trans h.2.2.1), aggAt ((hb.block _ (Array.getElem?_eq_some_iff.1 h.2.2.2).1).trans h.2.2.2), hb⟩
theorem sOf {A B C D : Prop} {W x : World} (h : A ∧ B ∧ C ∧ D ∧ Below W.heap.size W x) : Below W.heap.size W x := h.2.2.2.2
theorem sOf2 {A B : Prop} {W x : World} (h : A ∧ B ∧ Below W.heap.size W x) : Below W.heap.size W x := h.2.2
theorem may_t {s : ByteArray} {p q : Int} (h : mayB s.size p q = true) : 0 ≤ p ∧ p ≤ 255 ∧ 0 ≤ q ∧ q ≤ 255 ∧ s.size ≤ 32 ∧ 1 ≤ s.size := by
  unfold mayB at h
  simp only [Bool.and_eq_true, decide_eq_true_eq] at h
  omega
theorem ofE_ne (s : ByteArray) (p q : Int) : ofE s p q ≠ [] := by unfold ofE; exact List.cons_ne_nil _ _
theorem conv_at {X : World} {v : Value} {l : List Nat} (h : BytesAt X v l) (hne : l ≠ []) : (convert 26 9 v).run Tryz.prog X = .ok (.string (strOf l)) X := by
  obtain ⟨_, ⟨_, h0⟩ | ⟨b, off, c, rfl, hc⟩⟩ := h
  · exact absurd h0 hne
  · exact conv_str b off _ c l rfl hc
theorem keepT {W x : World} {a : Nat} {s : ByteArray} {p q : Int} {v : Value} (h : W.heap[a]? = some (.cells #[.string s, .int .i64 p, .int .i64 q] 25)) (hv : BytesAt W v (ofE s p q)) (hb : Below W.heap.size W x) :
    (x.cell? ⟨a, 0, none⟩ = some (.string s) ∧ x.cell? ⟨a, 1, none⟩ = some (.int .i64 p) ∧ x.cell? ⟨a, 2, none⟩ = some (.int .i64 q)) ∧ Sem.run Tryz.prog (convert 26 9 v) x = .ok (.string (strOf (ofE s p q))) x ∧ Below W.heap.size W x :=
  ⟨aggAt ((hb.block _ (Array.getElem?_eq_some_iff.1 h).1).trans h), conv_at (hv.below hb) (ofE_ne s p q), hb⟩
theorem block_lt {B : Nat} {w w' : World} {o : Obj} {b : Nat} (_h : Below B w w') (h : w'.heap[b]? = some o) : b < w'.heap.size := (Array.getElem?_eq_some_iff.1 h).1
set_option maxHeartbeats 8000000 in
set_option maxRecDepth 100000 in
theorem entries_ff (s : ByteArray) (p q : Int) (s' : ByteArray) (p' q' : Int) (l : List Nat) (n c : Nat) (A : Option Addr) (w : World) (h : BytesAt w (.slice A n c) l) (hcap : ∀ A' n' c', Value.slice A n c = .slice A' n' c' → n' ≤ c') (hm : mayB s.size p q = false) (hk : okE l = false) (es : ByteArray) (ep eq : Int) (ha : agE l = .agg #[.string es, .int .i64 ep, .int .i64 eq]) : Calls Tryz.prog 3 #[.agg #[.string s, .int .i64 p, .int .i64 q], .agg #[.string s', .int .i64 p', .int .i64 q'], .slice A n c] w fun e w' => e = .returned (.bool true) ∧ Below w.heap.size w w' := by
  have h0 := Lib.hid h
  have hb0 := Lib.hid (((Below.refl _ w).alloc (Nat.le_refl _) (.cells #[.string s, .int .i64 p, .int .i64 q] 25)).alloc (by simp) (.cells #[.string s', .int .i64 p', .int .i64 q'] 25))
  have g0 := Lib.hid (And.intro (heap_alloc2_old w (.cells #[.string s, .int .i64 p, .int .i64 q] 25) (.cells #[.string s', .int .i64 p', .int .i64 q'] 25)) (heap_alloc2_new w (.cells #[.string s, .int .i64 p, .int .i64 q] 25) (.cells #[.string s', .int .i64 p', .int .i64 q'] 25)))
  have Hm := Lib.hid hm
  have H1 := Lib.hid hk
  have H2 := Lib.hid ha
  have H3 := Lib.hid hcap
  clear h hk ha hcap hm
  go_enter Tryz.func3, Tryz.ntmps3
  go_wp2_with (first | (go_at_call 4; refine (known_any _).mono ?_; rintro e w1 ⟨rfl, hb1⟩) | (go_at_call 5; refine (bytesE_any _ _ _ _).mono ?_; rw [Hm.out]; rintro e w2 ⟨⟨v, rfl, hv0⟩, hb2⟩; have hv := Lib.hid hv0; have hc2 := Lib.hid (hb0.out.trans (hb2.mono hb0.out.size)); have g2 := Lib.hid (And.intro ((hb2.block w.heap.size (by simp; omega)).trans g0.out.1) ((hb2.block (w.heap.size + 1) (by simp)).trans g0.out.2)); clear hv0 hb2) | (go_at_call 6; refine (of_any l _ _ (h0.out.below hc2.out) H3.out).mono ?_; rw [H1.out, H2.out]; rintro e w3 ⟨rfl, hb3⟩; have hc3 := Lib.hid (hc2.out.trans (hb3.mono hc2.out.size)); have hz2 := block_lt hc2.out g2.out.2; have g3 := Lib.hid (And.intro ((hb3.block w.heap.size (by omega)).trans g2.out.1) ((hb3.block (w.heap.size + 1) (by omega)).trans g2.out.2)); have hv3 := Lib.hid (hv.out.below hb3); clear hb3) | (go_at_call 7; refine (refOf_any l _ _ (h0.out.below (hc3.out.alloc hc3.out.size _)) H3.out).mono ?_; rw [H1.out, H2.out]; rintro e w4 ⟨rfl, hb4⟩; have hc4 := Lib.hid ((hc3.out.alloc hc3.out.size (.cells #[.string es, .int .i64 ep, .int .i64 eq] 25)).trans (hb4.mono (hc3.out.alloc hc3.out.size (.cells #[.string es, .int .i64 ep, .int .i64 eq] 25)).size)); have hz3 := block_lt hc3.out g3.out.2; have g4 := Lib.hid (And.intro ((hb4.block w.heap.size (by simp; omega)).trans ((heap_alloc_old _ _ (h := by omega)).trans g3.out.1)) (And.intro ((hb4.block (w.heap.size + 1) (by simp; omega)).trans ((heap_alloc_old _ _ (h := by omega)).trans g3.out.2)) ((hb4.block w3.heap.size (by simp)).trans (heap_alloc_new _ _)))); have hv4 := Lib.hid (hv3.out.below ((Below.refl _ w3).alloc (Nat.le_refl _) (.cells #[.string es, .int .i64 ep, .int .i64 eq] 25) |>.trans (hb4.mono (by simp)))); clear hb4))
  any_goals (go_ret; exact ⟨rfl, hb0.out.trans (hb1.mono hb0.out.size)⟩)
  have hz4 := block_lt hc4.out g4.out.2.2
  have hz5 := block_lt hc4.out g4.out.2.1
  have g5 : (w4.alloc (.cells #[.string es, .int .i64 ep, .int .i64 eq] 25)).heap[w.heap.size]? = some (.cells #[.string s, .int .i64 p, .int .i64 q] 25) ∧ (w4.alloc (.cells #[.string es, .int .i64 ep, .int .i64 eq] 25)).heap[w.heap.size + 1]? = some (.cells #[.string s', .int .i64 p', .int .i64 q'] 25) ∧ (w4.alloc (.cells #[.string es, .int .i64 ep, .int .i64 eq] 25)).heap[w3.heap.size]? = some (.cells #[.string es, .int .i64 ep, .int .i64 eq] 25) ∧ (w4.alloc (.cells #[.string es, .int .i64 ep, .int .i64 eq] 25)).heap[w4.heap.size]? = some (.cells #[.string es, .int .i64 ep, .int .i64 eq] 25) :=
    ⟨(heap_alloc_old _ _ (h := by omega)).trans g4.out.1, (heap_alloc_old _ _ (h := by omega)).trans g4.out.2.1, (heap_alloc_old _ _ (h := hz4)).trans g4.out.2.2, heap_alloc_new _ _⟩
  have hc5 := hc4.out.alloc hc4.out.size (.cells #[.string es, .int .i64 ep, .int .i64 eq] 25)
  have hv5 := hv4.out.below ((Below.refl _ w4).alloc (Nat.le_refl _) (.cells #[.string es, .int .i64 ep, .int .i64 eq] 25))
  generalize w4.alloc (.cells #[.string es, .int .i64 ep, .int .i64 eq] 25) = W at g5 hc5 hv5 ⊢
  have HG := Lib.hid g5
  refine wp_region_held_drew (S := (fun x => (x.cell? ⟨w.heap.size, 0, none⟩ = some (.string s) ∧ x.cell? ⟨w.heap.size, 1, none⟩ = some (.int .i64 p) ∧ x.cell? ⟨w.heap.size, 2, none⟩ = some (.int .i64 q)) ∧ (x.cell? ⟨w.heap.size + 1, 0, none⟩ = some (.string s') ∧ x.cell? ⟨w.heap.size + 1, 1, none⟩ = some (.int .i64 p') ∧ x.cell? ⟨w.heap.size + 1, 2, none⟩ = some (.int .i64 q')) ∧ (x.cell? ⟨w3.heap.size, 0, none⟩ = some (.string es) ∧ x.cell? ⟨w3.heap.size, 1, none⟩ = some (.int .i64 ep) ∧ x.cell? ⟨w3.heap.size, 2, none⟩ = some (.int .i64 eq)) ∧ (x.cell? ⟨w4.heap.size, 0, none⟩ = some (.string es) ∧ x.cell? ⟨w4.heap.size, 1, none⟩ = some (.int .i64 ep) ∧ x.cell? ⟨w4.heap.size, 2, none⟩ = some (.int .i64 eq)) ∧ Below W.heap.size W x)) (by kernel_rfl) ?_ (fun hHeld0 => ?_)
  · (try dsimp only) <;> (first | exact keepS HG.out hbW | exact keepS HG.out (Below.refl _ _) | exact keepS HG.out (Below.refl _ _).drew | exact keepS HG.out (sOf (by assumption)) | exact keepS HG.out (Below.drew (sOf (by assumption))))
  refine wpAnyH_take (i := 0) (oi := { dst := some 44, op := Op.load 25 (Operand.tmp 3), type := 25, pos := "law.go:229", after := #[], guard := none }) (v := ?_) rfl (by kernel_rfl) (by kernel_rfl) (by kernel_rfl) (fun _ _ _ h => h) (Or.inl ⟨by rfl, ?_⟩) (by assumption) ?_
  rotate_left
  · intro wq hSw; (try dsimp only at hSw); (first | (go_simp; done) | (go_simp; with_reducible rfl))
  try simp only [Act.put, List.setIfInBounds_toArray, List.set_cons_zero, List.set_cons_succ]
  refine wpAnyH_take (i := 2) (oi := { dst := some 46, op := Op.load 25 (Operand.tmp 3), type := 25, pos := "law.go:229", after := #[], guard := none }) (v := ?_) rfl (by kernel_rfl) (by kernel_rfl) (by kernel_rfl) (fun _ _ _ h => h) (Or.inl ⟨by rfl, ?_⟩) (by assumption) ?_
  rotate_left
  · intro wq hSw; (try dsimp only at hSw); (first | (go_simp; done) | (go_simp; with_reducible rfl))
  try simp only [Act.put, List.setIfInBounds_toArray, List.set_cons_zero, List.set_cons_succ]
  refine wpAnyH_ready (rs := [1]) (by kernel_rfl) (by simp) ?_
  refine AllReadyH.cons (o := { dst := some 45, op := Op.call { callee := Callee.value (Operand.func 8), args := #[Operand.tmp 44], argTypes := #[25] }, type := 4, pos := "law.go:229", after := #[{ on := 0, ground := Ground.data }], guard := none }) rfl (fun K hK => ?_) AllReadyH.nil
  go_simp
  (first | (go_at_call 8; refine (may_any _ _ _ _).mono ?_; rw [Hm.out]; rintro e wc ⟨rfl, hb⟩; have hbW := below_step (W := W) (sOf (by assumption)) hb) | (go_at_call 9; refine (refMay_any _ _ _ _).mono ?_; rw [Hm.out]; rintro e wc ⟨rfl, hb⟩; have hbW := below_step (W := W) (sOf (by assumption)) hb) | (go_at_call 10; refine (less_any _ _ _ _ _ _ _).mono ?_; rintro e wc ⟨rfl, hb⟩; have hbW := below_step (W := W) (sOf (by assumption)) hb) | (go_at_call 11; refine (refLess_any _ _ _ _ _ _ _).mono ?_; rintro e wc ⟨rfl, hb⟩; have hbW := below_step (W := W) (sOf (by assumption)) hb) | (go_at_call 12; refine (num_any _ _).mono ?_; rintro e wc ⟨rfl, rfl⟩))
  go_wp2_with fail
  refine hK.out _ _ ?_ (fun hHeld1 => ?_)
  · (try dsimp only) <;> (first | exact keepS HG.out hbW | exact keepS HG.out (Below.refl _ _) | exact keepS HG.out (Below.refl _ _).drew | exact keepS HG.out (sOf (by assumption)) | exact keepS HG.out (Below.drew (sOf (by assumption))))
  clear hK K
  try simp only [Act.put, List.setIfInBounds_toArray, List.set_cons_zero, List.set_cons_succ]
  clear hHeld0
  refine wpAnyH_ready (rs := [3]) (by kernel_rfl) (by simp) ?_
  refine AllReadyH.cons (o := { dst := some 47, op := Op.call { callee := Callee.value (Operand.func 9), args := #[Operand.tmp 46], argTypes := #[25] }, type := 4, pos := "law.go:229", after := #[{ on := 2, ground := Ground.data }, { on := 1, ground := Ground.chain }], guard := none }) rfl (fun K hK => ?_) AllReadyH.nil
  go_simp
  (first | (go_at_call 8; refine (may_any _ _ _ _).mono ?_; rw [Hm.out]; rintro e wc ⟨rfl, hb⟩; have hbW := below_step (W := W) (sOf (by assumption)) hb) | (go_at_call 9; refine (refMay_any _ _ _ _).mono ?_; rw [Hm.out]; rintro e wc ⟨rfl, hb⟩; have hbW := below_step (W := W) (sOf (by assumption)) hb) | (go_at_call 10; refine (less_any _ _ _ _ _ _ _).mono ?_; rintro e wc ⟨rfl, hb⟩; have hbW := below_step (W := W) (sOf (by assumption)) hb) | (go_at_call 11; refine (refLess_any _ _ _ _ _ _ _).mono ?_; rintro e wc ⟨rfl, hb⟩; have hbW := below_step (W := W) (sOf (by assumption)) hb) | (go_at_call 12; refine (num_any _ _).mono ?_; rintro e wc ⟨rfl, rfl⟩))
  go_wp2_with fail
  refine hK.out _ _ ?_ (fun hHeld2 => ?_)
  · (try dsimp only) <;> (first | exact keepS HG.out hbW | exact keepS HG.out (Below.refl _ _) | exact keepS HG.out (Below.refl _ _).drew | exact keepS HG.out (sOf (by assumption)) | exact keepS HG.out (Below.drew (sOf (by assumption))))
  clear hK K
  try simp only [Act.put, List.setIfInBounds_toArray, List.set_cons_zero, List.set_cons_succ]
  clear hHeld1
  refine wpAnyH_take (i := 4) (oi := { dst := some 48, op := Op.binOp BinOp.neq 4 (Operand.tmp 45) (Operand.tmp 47) 4, type := 4, pos := "law.go:229", after := #[{ on := 1, ground := Ground.data }, { on := 3, ground := Ground.data }], guard := none }) (v := ?_) rfl (by kernel_rfl) (by kernel_rfl) (by kernel_rfl) (fun _ _ _ h => h) (Or.inl ⟨by rfl, ?_⟩) (by assumption) ?_
  rotate_left
  · intro wq hSw; (try dsimp only at hSw); (first | (go_simp; done) | (go_simp; with_reducible rfl))
  try simp only [Act.put, List.setIfInBounds_toArray, List.set_cons_zero, List.set_cons_succ]
  refine wpAnyH_take (i := 5) (oi := { dst := some 49, op := Op.move (Operand.tmp 48), type := 4, pos := "law.go:229", after := #[{ on := 4, ground := Ground.data }, { on := 3, ground := Ground.chain }], guard := none }) (v := ?_) rfl (by kernel_rfl) (by kernel_rfl) (by kernel_rfl) (fun _ _ _ h => h) (Or.inl ⟨by rfl, ?_⟩) (by assumption) ?_
  rotate_left
  · intro wq hSw; (try dsimp only at hSw); (first | (go_simp; done) | (go_simp; with_reducible rfl))
  try simp only [Act.put, List.setIfInBounds_toArray, List.set_cons_zero, List.set_cons_succ]
  refine wpAnyH_take (i := 6) (oi := { dst := some 50, op := Op.load 25 (Operand.tmp 3), type := 25, pos := "law.go:229", after := #[{ on := 5, ground := Ground.guard }], guard := some (5, false) }) (v := ?_) rfl (by kernel_rfl) (by kernel_rfl) (by kernel_rfl) (fun _ _ _ h => h) (Or.inl ⟨by rfl, ?_⟩) (by assumption) ?_
  rotate_left
  · intro wq hSw; (try dsimp only at hSw); (first | (go_simp; done) | (go_simp; with_reducible rfl))
  try simp only [Act.put, List.setIfInBounds_toArray, List.set_cons_zero, List.set_cons_succ]
  refine wpAnyH_take (i := 7) (oi := { dst := some 51, op := Op.load 25 (Operand.tmp 4), type := 25, pos := "law.go:229", after := #[{ on := 5, ground := Ground.guard }], guard := some (5, false) }) (v := ?_) rfl (by kernel_rfl) (by kernel_rfl) (by kernel_rfl) (fun _ _ _ h => h) (Or.inl ⟨by rfl, ?_⟩) (by assumption) ?_
  rotate_left
  · intro wq hSw; (try dsimp only at hSw); (first | (go_simp; done) | (go_simp; with_reducible rfl))
  try simp only [Act.put, List.setIfInBounds_toArray, List.set_cons_zero, List.set_cons_succ]
  refine wpAnyH_take (i := 9) (oi := { dst := some 53, op := Op.load 25 (Operand.tmp 3), type := 25, pos := "law.go:229", after := #[{ on := 5, ground := Ground.guard }], guard := some (5, false) }) (v := ?_) rfl (by kernel_rfl) (by kernel_rfl) (by kernel_rfl) (fun _ _ _ h => h) (Or.inl ⟨by rfl, ?_⟩) (by assumption) ?_
  rotate_left
  · intro wq hSw; (try dsimp only at hSw); (first | (go_simp; done) | (go_simp; with_reducible rfl))
  try simp only [Act.put, List.setIfInBounds_toArray, List.set_cons_zero, List.set_cons_succ]
  refine wpAnyH_take (i := 10) (oi := { dst := some 54, op := Op.load 25 (Operand.tmp 4), type := 25, pos := "law.go:229", after := #[{ on := 5, ground := Ground.guard }], guard := some (5, false) }) (v := ?_) rfl (by kernel_rfl) (by kernel_rfl) (by kernel_rfl) (fun _ _ _ h => h) (Or.inl ⟨by rfl, ?_⟩) (by assumption) ?_
  rotate_left
  · intro wq hSw; (try dsimp only at hSw); (first | (go_simp; done) | (go_simp; with_reducible rfl))
  try simp only [Act.put, List.setIfInBounds_toArray, List.set_cons_zero, List.set_cons_succ]
  refine wpAnyH_ready (rs := [8]) (by kernel_rfl) (by simp) ?_
  refine AllReadyH.cons (o := { dst := some 52, op := Op.call { callee := Callee.value (Operand.func 10), args := #[Operand.tmp 50, Operand.tmp 51], argTypes := #[25, 25] }, type := 4, pos := "law.go:229", after := #[{ on := 6, ground := Ground.data }, { on := 7, ground := Ground.data }, { on := 5, ground := Ground.chain }, { on := 5, ground := Ground.guard }], guard := some (5, false) }) rfl (fun K hK => ?_) AllReadyH.nil
  go_simp
  (first | (go_at_call 8; refine (may_any _ _ _ _).mono ?_; rw [Hm.out]; rintro e wc ⟨rfl, hb⟩; have hbW := below_step (W := W) (sOf (by assumption)) hb) | (go_at_call 9; refine (refMay_any _ _ _ _).mono ?_; rw [Hm.out]; rintro e wc ⟨rfl, hb⟩; have hbW := below_step (W := W) (sOf (by assumption)) hb) | (go_at_call 10; refine (less_any _ _ _ _ _ _ _).mono ?_; rintro e wc ⟨rfl, hb⟩; have hbW := below_step (W := W) (sOf (by assumption)) hb) | (go_at_call 11; refine (refLess_any _ _ _ _ _ _ _).mono ?_; rintro e wc ⟨rfl, hb⟩; have hbW := below_step (W := W) (sOf (by assumption)) hb) | (go_at_call 12; refine (num_any _ _).mono ?_; rintro e wc ⟨rfl, rfl⟩))
  go_wp2_with fail
  refine hK.out _ _ ?_ (fun hHeld3 => ?_)
  · (try dsimp only) <;> (first | exact keepS HG.out hbW | exact keepS HG.out (Below.refl _ _) | exact keepS HG.out (Below.refl _ _).drew | exact keepS HG.out (sOf (by assumption)) | exact keepS HG.out (Below.drew (sOf (by assumption))))
  clear hK K
  try simp only [Act.put, List.setIfInBounds_toArray, List.set_cons_zero, List.set_cons_succ]
  clear hHeld2
  refine wpAnyH_ready (rs := [11]) (by kernel_rfl) (by simp) ?_
  refine AllReadyH.cons (o := { dst := some 55, op := Op.call { callee := Callee.value (Operand.func 11), args := #[Operand.tmp 53, Operand.tmp 54], argTypes := #[25, 25] }, type := 4, pos := "law.go:229", after := #[{ on := 9, ground := Ground.data }, { on := 10, ground := Ground.data }, { on := 8, ground := Ground.chain }, { on := 5, ground := Ground.guard }], guard := some (5, false) }) rfl (fun K hK => ?_) AllReadyH.nil
  go_simp
  (first | (go_at_call 8; refine (may_any _ _ _ _).mono ?_; rw [Hm.out]; rintro e wc ⟨rfl, hb⟩; have hbW := below_step (W := W) (sOf (by assumption)) hb) | (go_at_call 9; refine (refMay_any _ _ _ _).mono ?_; rw [Hm.out]; rintro e wc ⟨rfl, hb⟩; have hbW := below_step (W := W) (sOf (by assumption)) hb) | (go_at_call 10; refine (less_any _ _ _ _ _ _ _).mono ?_; rintro e wc ⟨rfl, hb⟩; have hbW := below_step (W := W) (sOf (by assumption)) hb) | (go_at_call 11; refine (refLess_any _ _ _ _ _ _ _).mono ?_; rintro e wc ⟨rfl, hb⟩; have hbW := below_step (W := W) (sOf (by assumption)) hb) | (go_at_call 12; refine (num_any _ _).mono ?_; rintro e wc ⟨rfl, rfl⟩))
  go_wp2_with fail
  refine hK.out _ _ ?_ (fun hHeld4 => ?_)
  · (try dsimp only) <;> (first | exact keepS HG.out hbW | exact keepS HG.out (Below.refl _ _) | exact keepS HG.out (Below.refl _ _).drew | exact keepS HG.out (sOf (by assumption)) | exact keepS HG.out (Below.drew (sOf (by assumption))))
  clear hK K
  try simp only [Act.put, List.setIfInBounds_toArray, List.set_cons_zero, List.set_cons_succ]
  clear hHeld3
  refine wpAnyH_take (i := 12) (oi := { dst := some 56, op := Op.binOp BinOp.neq 4 (Operand.tmp 52) (Operand.tmp 55) 4, type := 4, pos := "law.go:229", after := #[{ on := 8, ground := Ground.data }, { on := 11, ground := Ground.data }, { on := 5, ground := Ground.guard }], guard := some (5, false) }) (v := ?_) rfl (by kernel_rfl) (by kernel_rfl) (by kernel_rfl) (fun _ _ _ h => h) (Or.inl ⟨by rfl, ?_⟩) (by assumption) ?_
  rotate_left
  · intro wq hSw; (try dsimp only at hSw); (first | (go_simp; done) | (go_simp; with_reducible rfl))
  try simp only [Act.put, List.setIfInBounds_toArray, List.set_cons_zero, List.set_cons_succ]
  refine wpAnyH_take (i := 13) (oi := { dst := some 57, op := Op.pick (Operand.tmp 49) (Operand.const (Value.bool true)) (Operand.tmp 56), type := 4, pos := "law.go:229", after := #[{ on := 5, ground := Ground.data }, { on := 12, ground := Ground.data }], guard := none }) (v := ?_) rfl (by kernel_rfl) (by kernel_rfl) (by kernel_rfl) (fun _ _ _ h => h) (Or.inl ⟨by rfl, ?_⟩) (by assumption) ?_
  rotate_left
  · intro wq hSw; (try dsimp only at hSw); (first | (go_simp; done) | (go_simp; with_reducible rfl))
  try simp only [Act.put, List.setIfInBounds_toArray, List.set_cons_zero, List.set_cons_succ]
  refine wpAnyH_take (i := 14) (oi := { dst := some 58, op := Op.move (Operand.tmp 57), type := 4, pos := "law.go:229", after := #[{ on := 13, ground := Ground.data }, { on := 11, ground := Ground.chain }], guard := none }) (v := ?_) rfl (by kernel_rfl) (by kernel_rfl) (by kernel_rfl) (fun _ _ _ h => h) (Or.inl ⟨by rfl, ?_⟩) (by assumption) ?_
  rotate_left
  · intro wq hSw; (try dsimp only at hSw); (first | (go_simp; done) | (go_simp; with_reducible rfl))
  try simp only [Act.put, List.setIfInBounds_toArray, List.set_cons_zero, List.set_cons_succ]
  refine wpAnyH_take (i := 15) (oi := { dst := some 59, op := Op.load 25 (Operand.tmp 9), type := 25, pos := "law.go:229", after := #[{ on := 14, ground := Ground.guard }], guard := some (14, false) }) (v := ?_) rfl (by kernel_rfl) (by kernel_rfl) (by kernel_rfl) (fun _ _ _ h => h) (Or.inl ⟨by rfl, ?_⟩) (by assumption) ?_
  rotate_left
  · intro wq hSw; (try dsimp only at hSw); (first | (go_simp; done) | (go_simp; with_reducible rfl))
  try simp only [Act.put, List.setIfInBounds_toArray, List.set_cons_zero, List.set_cons_succ]
  refine wpAnyH_take (i := 16) (oi := { dst := some 60, op := Op.load 25 (Operand.tmp 11), type := 25, pos := "law.go:229", after := #[{ on := 14, ground := Ground.guard }], guard := some (14, false) }) (v := ?_) rfl (by kernel_rfl) (by kernel_rfl) (by kernel_rfl) (fun _ _ _ h => h) (Or.inl ⟨by rfl, ?_⟩) (by assumption) ?_
  rotate_left
  · intro wq hSw; (try dsimp only at hSw); (first | (go_simp; done) | (go_simp; with_reducible rfl))
  try simp only [Act.put, List.setIfInBounds_toArray, List.set_cons_zero, List.set_cons_succ]
  refine wpAnyH_take (i := 17) (oi := { dst := some 61, op := Op.binOp BinOp.neq 25 (Operand.tmp 59) (Operand.tmp 60) 25, type := 4, pos := "law.go:229", after := #[{ on := 15, ground := Ground.data }, { on := 16, ground := Ground.data }, { on := 14, ground := Ground.guard }], guard := some (14, false) }) (v := ?_) rfl (by kernel_rfl) (by kernel_rfl) (by kernel_rfl) (fun _ _ _ h => h) (Or.inl ⟨by rfl, ?_⟩) (by assumption) ?_
  rotate_left
  · intro wq hSw; (try dsimp only at hSw); (first | (go_simp; done) | (go_simp; with_reducible rfl))
  try simp only [Act.put, List.setIfInBounds_toArray, List.set_cons_zero, List.set_cons_succ]
  refine wpAnyH_take (i := 18) (oi := { dst := some 62, op := Op.pick (Operand.tmp 58) (Operand.const (Value.bool true)) (Operand.tmp 61), type := 4, pos := "law.go:229", after := #[{ on := 14, ground := Ground.data }, { on := 17, ground := Ground.data }], guard := none }) (v := ?_) rfl (by kernel_rfl) (by kernel_rfl) (by kernel_rfl) (fun _ _ _ h => h) (Or.inl ⟨by rfl, ?_⟩) (by assumption) ?_
  rotate_left
  · intro wq hSw; (try dsimp only at hSw); (first | (go_simp; done) | (go_simp; with_reducible rfl))
  try simp only [Act.put, List.setIfInBounds_toArray, List.set_cons_zero, List.set_cons_succ]
  refine wpAnyH_take (i := 19) (oi := { dst := some 63, op := Op.move (Operand.tmp 62), type := 4, pos := "law.go:229", after := #[{ on := 18, ground := Ground.data }, { on := 14, ground := Ground.chain }], guard := none }) (v := ?_) rfl (by kernel_rfl) (by kernel_rfl) (by kernel_rfl) (fun _ _ _ h => h) (Or.inl ⟨by rfl, ?_⟩) (by assumption) ?_
  rotate_left
  · intro wq hSw; (try dsimp only at hSw); (first | (go_simp; done) | (go_simp; with_reducible rfl))
  try simp only [Act.put, List.setIfInBounds_toArray, List.set_cons_zero, List.set_cons_succ]
  refine wpAnyH_take (i := 20) (oi := { dst := some 64, op := Op.move (Operand.tmp 10), type := 28, pos := "law.go:229", after := #[{ on := 19, ground := Ground.guard }], guard := some (19, false) }) (v := ?_) rfl (by kernel_rfl) (by kernel_rfl) (by kernel_rfl) (fun _ _ _ h => h) (Or.inl ⟨by rfl, ?_⟩) (by assumption) ?_
  rotate_left
  · intro wq hSw; (try dsimp only at hSw); (first | (go_simp; done) | (go_simp; with_reducible rfl))
  try simp only [Act.put, List.setIfInBounds_toArray, List.set_cons_zero, List.set_cons_succ]
  refine wpAnyH_take (i := 23) (oi := { dst := some 67, op := Op.move (Operand.tmp 12), type := 4, pos := "law.go:229", after := #[{ on := 19, ground := Ground.guard }], guard := some (19, false) }) (v := ?_) rfl (by kernel_rfl) (by kernel_rfl) (by kernel_rfl) (fun _ _ _ h => h) (Or.inl ⟨by rfl, ?_⟩) (by assumption) ?_
  rotate_left
  · intro wq hSw; (try dsimp only at hSw); (first | (go_simp; done) | (go_simp; with_reducible rfl))
  try simp only [Act.put, List.setIfInBounds_toArray, List.set_cons_zero, List.set_cons_succ]
  refine wpAnyH_ready (rs := [21]) (by kernel_rfl) (by simp) ?_
  refine AllReadyH.cons (o := { dst := some 65, op := Op.call { callee := Callee.value (Operand.func 12), args := #[Operand.tmp 64], argTypes := #[28] }, type := 3, pos := "law.go:229", after := #[{ on := 20, ground := Ground.data }, { on := 19, ground := Ground.chain }, { on := 19, ground := Ground.guard }], guard := some (19, false) }) rfl (fun K hK => ?_) AllReadyH.nil
  go_simp
  (first | (go_at_call 8; refine (may_any _ _ _ _).mono ?_; rw [Hm.out]; rintro e wc ⟨rfl, hb⟩; have hbW := below_step (W := W) (sOf (by assumption)) hb) | (go_at_call 9; refine (refMay_any _ _ _ _).mono ?_; rw [Hm.out]; rintro e wc ⟨rfl, hb⟩; have hbW := below_step (W := W) (sOf (by assumption)) hb) | (go_at_call 10; refine (less_any _ _ _ _ _ _ _).mono ?_; rintro e wc ⟨rfl, hb⟩; have hbW := below_step (W := W) (sOf (by assumption)) hb) | (go_at_call 11; refine (refLess_any _ _ _ _ _ _ _).mono ?_; rintro e wc ⟨rfl, hb⟩; have hbW := below_step (W := W) (sOf (by assumption)) hb) | (go_at_call 12; refine (num_any _ _).mono ?_; rintro e wc ⟨rfl, rfl⟩))
  go_wp2_with fail
  refine hK.out _ _ ?_ (fun hHeld5 => ?_)
  · (try dsimp only) <;> (first | exact keepS HG.out hbW | exact keepS HG.out (Below.refl _ _) | exact keepS HG.out (Below.refl _ _).drew | exact keepS HG.out (sOf (by assumption)) | exact keepS HG.out (Below.drew (sOf (by assumption))))
  clear hK K
  try simp only [Act.put, List.setIfInBounds_toArray, List.set_cons_zero, List.set_cons_succ]
  clear hHeld4
  refine wpAnyH_take (i := 22) (oi := { dst := some 66, op := Op.binOp BinOp.eql 3 (Operand.tmp 65) (Operand.const (Value.int IntKind.i64 0)) 3, type := 4, pos := "law.go:229", after := #[{ on := 21, ground := Ground.data }, { on := 19, ground := Ground.guard }], guard := some (19, false) }) (v := ?_) rfl (by kernel_rfl) (by kernel_rfl) (by kernel_rfl) (fun _ _ _ h => h) (Or.inl ⟨by rfl, ?_⟩) (by assumption) ?_
  rotate_left
  · intro wq hSw; (try dsimp only at hSw); (first | (go_simp; done) | (go_simp; with_reducible rfl))
  try simp only [Act.put, List.setIfInBounds_toArray, List.set_cons_zero, List.set_cons_succ]
  refine wpAnyH_take (i := 24) (oi := { dst := some 68, op := Op.binOp BinOp.neq 4 (Operand.tmp 66) (Operand.tmp 67) 4, type := 4, pos := "law.go:229", after := #[{ on := 22, ground := Ground.data }, { on := 23, ground := Ground.data }, { on := 19, ground := Ground.guard }], guard := some (19, false) }) (v := ?_) rfl (by kernel_rfl) (by kernel_rfl) (by kernel_rfl) (fun _ _ _ h => h) (Or.inl ⟨by rfl, ?_⟩) (by assumption) ?_
  rotate_left
  · intro wq hSw; (try dsimp only at hSw); (first | (go_simp; done) | (go_simp; with_reducible rfl))
  try simp only [Act.put, List.setIfInBounds_toArray, List.set_cons_zero, List.set_cons_succ]
  refine wpAnyH_take (i := 25) (oi := { dst := some 69, op := Op.pick (Operand.tmp 63) (Operand.const (Value.bool true)) (Operand.tmp 68), type := 4, pos := "law.go:229", after := #[{ on := 19, ground := Ground.data }, { on := 24, ground := Ground.data }], guard := none }) (v := ?_) rfl (by kernel_rfl) (by kernel_rfl) (by kernel_rfl) (fun _ _ _ h => h) (Or.inl ⟨by rfl, ?_⟩) (by assumption) ?_
  rotate_left
  · intro wq hSw; (try dsimp only at hSw); (first | (go_simp; done) | (go_simp; with_reducible rfl))
  try simp only [Act.put, List.setIfInBounds_toArray, List.set_cons_zero, List.set_cons_succ]
  refine wpAnyH_take (i := 26) (oi := { dst := some 70, op := Op.move (Operand.tmp 69), type := 4, pos := "law.go:229", after := #[{ on := 25, ground := Ground.data }, { on := 21, ground := Ground.chain }], guard := none }) (v := ?_) rfl (by kernel_rfl) (by kernel_rfl) (by kernel_rfl) (fun _ _ _ h => h) (Or.inl ⟨by rfl, ?_⟩) (by assumption) ?_
  rotate_left
  · intro wq hSw; (try dsimp only at hSw); (first | (go_simp; done) | (go_simp; with_reducible rfl))
  try simp only [Act.put, List.setIfInBounds_toArray, List.set_cons_zero, List.set_cons_succ]
  refine wpAnyH_take (i := 27) (oi := { dst := some 71, op := Op.move (Operand.tmp 12), type := 4, pos := "law.go:229", after := #[{ on := 26, ground := Ground.guard }], guard := some (26, false) }) (v := ?_) rfl (by kernel_rfl) (by kernel_rfl) (by kernel_rfl) (fun _ _ _ h => h) (Or.inl ⟨by rfl, ?_⟩) (by assumption) ?_
  rotate_left
  · intro wq hSw; (try dsimp only at hSw); (first | (go_simp; done) | (go_simp; with_reducible rfl))
  try simp only [Act.put, List.setIfInBounds_toArray, List.set_cons_zero, List.set_cons_succ]
  refine wpAnyH_take (i := 28) (oi := { dst := some 72, op := Op.unOp UnOp.not 4 (Operand.tmp 71), type := 4, pos := "law.go:229", after := #[{ on := 27, ground := Ground.data }, { on := 26, ground := Ground.guard }], guard := some (26, false) }) (v := ?_) rfl (by kernel_rfl) (by kernel_rfl) (by kernel_rfl) (fun _ _ _ h => h) (Or.inl ⟨by rfl, ?_⟩) (by assumption) ?_
  rotate_left
  · intro wq hSw; (try dsimp only at hSw); (first | (go_simp; done) | (go_simp; with_reducible rfl))
  try simp only [Act.put, List.setIfInBounds_toArray, List.set_cons_zero, List.set_cons_succ]
  refine wpAnyH_take (i := 29) (oi := { dst := some 73, op := Op.move (Operand.tmp 72), type := 4, pos := "law.go:229", after := #[{ on := 28, ground := Ground.data }, { on := 26, ground := Ground.chain }, { on := 26, ground := Ground.guard }], guard := some (26, false) }) (v := ?_) rfl (by kernel_rfl) (by kernel_rfl) (by kernel_rfl) (fun _ _ _ h => h) (Or.inl ⟨by rfl, ?_⟩) (by assumption) ?_
  rotate_left
  · intro wq hSw; (try dsimp only at hSw); (first | (go_simp; done) | (go_simp; with_reducible rfl))
  try simp only [Act.put, List.setIfInBounds_toArray, List.set_cons_zero, List.set_cons_succ]
  refine wpAnyH_take (i := 30) (oi := { dst := some 74, op := Op.move (Operand.tmp 10), type := 28, pos := "law.go:229", after := #[{ on := 29, ground := Ground.guard }], guard := some (29, true) }) (v := ?_) rfl (by kernel_rfl) (by kernel_rfl) (by kernel_rfl) (fun _ _ _ h => h) (Or.inl ⟨by rfl, ?_⟩) (by assumption) ?_
  rotate_left
  · intro wq hSw; (try dsimp only at hSw); (first | (go_simp; done) | (go_simp; with_reducible rfl))
  try simp only [Act.put, List.setIfInBounds_toArray, List.set_cons_zero, List.set_cons_succ]
  refine wpAnyH_ready (rs := [31]) (by kernel_rfl) (by simp) ?_
  refine AllReadyH.cons (o := { dst := some 75, op := Op.call { callee := Callee.value (Operand.func 12), args := #[Operand.tmp 74], argTypes := #[28] }, type := 3, pos := "law.go:229", after := #[{ on := 30, ground := Ground.data }, { on := 29, ground := Ground.chain }, { on := 29, ground := Ground.guard }], guard := some (29, true) }) rfl (fun K hK => ?_) AllReadyH.nil
  go_simp
  (first | (go_at_call 8; refine (may_any _ _ _ _).mono ?_; rw [Hm.out]; rintro e wc ⟨rfl, hb⟩; have hbW := below_step (W := W) (sOf (by assumption)) hb) | (go_at_call 9; refine (refMay_any _ _ _ _).mono ?_; rw [Hm.out]; rintro e wc ⟨rfl, hb⟩; have hbW := below_step (W := W) (sOf (by assumption)) hb) | (go_at_call 10; refine (less_any _ _ _ _ _ _ _).mono ?_; rintro e wc ⟨rfl, hb⟩; have hbW := below_step (W := W) (sOf (by assumption)) hb) | (go_at_call 11; refine (refLess_any _ _ _ _ _ _ _).mono ?_; rintro e wc ⟨rfl, hb⟩; have hbW := below_step (W := W) (sOf (by assumption)) hb) | (go_at_call 12; refine (num_any _ _).mono ?_; rintro e wc ⟨rfl, rfl⟩))
  go_wp2_with fail
  refine hK.out _ _ ?_ (fun hHeld6 => ?_)
  · (try dsimp only) <;> (first | exact keepS HG.out hbW | exact keepS HG.out (Below.refl _ _) | exact keepS HG.out (Below.refl _ _).drew | exact keepS HG.out (sOf (by assumption)) | exact keepS HG.out (Below.drew (sOf (by assumption))))
  clear hK K
  try simp only [Act.put, List.setIfInBounds_toArray, List.set_cons_zero, List.set_cons_succ]
  clear hHeld5
  refine wpAnyH_take (i := 32) (oi := { dst := some 76, op := Op.binOp BinOp.neq 3 (Operand.tmp 75) (Operand.const (Value.int IntKind.i64 13)) 3, type := 4, pos := "law.go:229", after := #[{ on := 31, ground := Ground.data }, { on := 29, ground := Ground.guard }], guard := some (29, true) }) (v := ?_) rfl (by kernel_rfl) (by kernel_rfl) (by kernel_rfl) (fun _ _ _ h => h) (Or.inl ⟨by rfl, ?_⟩) (by assumption) ?_
  rotate_left
  · intro wq hSw; (try dsimp only at hSw); (first | (go_simp; done) | (go_simp; with_reducible rfl))
  try simp only [Act.put, List.setIfInBounds_toArray, List.set_cons_zero, List.set_cons_succ]
  refine wpAnyH_take (i := 33) (oi := { dst := some 77, op := Op.pick (Operand.tmp 73) (Operand.tmp 76) (Operand.const (Value.bool false)), type := 4, pos := "law.go:229", after := #[{ on := 29, ground := Ground.data }, { on := 32, ground := Ground.data }, { on := 26, ground := Ground.guard }], guard := some (26, false) }) (v := ?_) rfl (by kernel_rfl) (by kernel_rfl) (by kernel_rfl) (fun _ _ _ h => h) (Or.inl ⟨by rfl, ?_⟩) (by assumption) ?_
  rotate_left
  · intro wq hSw; (try dsimp only at hSw); (first | (go_simp; done) | (go_simp; with_reducible rfl))
  try simp only [Act.put, List.setIfInBounds_toArray, List.set_cons_zero, List.set_cons_succ]
  refine wpAnyH_take (i := 34) (oi := { dst := some 78, op := Op.pick (Operand.tmp 70) (Operand.const (Value.bool true)) (Operand.tmp 77), type := 4, pos := "law.go:229", after := #[{ on := 26, ground := Ground.data }, { on := 33, ground := Ground.data }], guard := none }) (v := ?_) rfl (by kernel_rfl) (by kernel_rfl) (by kernel_rfl) (fun _ _ _ h => h) (Or.inl ⟨by rfl, ?_⟩) (by assumption) ?_
  rotate_left
  · intro wq hSw; (try dsimp only at hSw); (first | (go_simp; done) | (go_simp; with_reducible rfl))
  try simp only [Act.put, List.setIfInBounds_toArray, List.set_cons_zero, List.set_cons_succ]
  refine wpAnyH_done (by kernel_rfl) ?_ _
  have hbx : Below W.heap.size W _ := sOf (by assumption)
  simp only [Bool.false_eq_true, if_false] at hv5
  obtain ⟨A', c', rfl, -, -⟩ := hv5.one
  clear hv hv3 hv4 hv5
  have hx5 := Lib.hid (hc5.trans (hbx.mono hc5.size))
  clear hbx hc5
  go_wp2_with (first | (go_at_call 9; refine (refMay_any _ _ _ _).mono ?_; rw [Hm.out]; rintro e w6 ⟨rfl, hb6⟩; have hc6 := Lib.hid (hx5.out.trans (hb6.mono hx5.out.size)); clear hb6) | (go_at_call 12; refine (num_any _ _).mono ?_; rintro e wc ⟨rfl, rfl⟩) | (go_at_call 4; refine (known_any _).mono ?_; rintro e w7 ⟨rfl, hb7⟩))
  go_ret
  exact ⟨rfl, hc6.out.trans (hb7.mono hc6.out.size)⟩
set_option maxHeartbeats 8000000 in
set_option maxRecDepth 100000 in
theorem entries_ft (s : ByteArray) (p q : Int) (s' : ByteArray) (p' q' : Int) (l : List Nat) (n c : Nat) (A : Option Addr) (w : World) (h : BytesAt w (.slice A n c) l) (hcap : ∀ A' n' c', Value.slice A n c = .slice A' n' c' → n' ≤ c') (hm : mayB s.size p q = false) (hk : okE l = true) (es : ByteArray) (ep eq : Int) (ha : agE l = .agg #[.string es, .int .i64 ep, .int .i64 eq]) : Calls Tryz.prog 3 #[.agg #[.string s, .int .i64 p, .int .i64 q], .agg #[.string s', .int .i64 p', .int .i64 q'], .slice A n c] w fun e w' => e = .returned (.bool true) ∧ Below w.heap.size w w' := by
  have h0 := Lib.hid h
  have hb0 := Lib.hid (((Below.refl _ w).alloc (Nat.le_refl _) (.cells #[.string s, .int .i64 p, .int .i64 q] 25)).alloc (by simp) (.cells #[.string s', .int .i64 p', .int .i64 q'] 25))
  have g0 := Lib.hid (And.intro (heap_alloc2_old w (.cells #[.string s, .int .i64 p, .int .i64 q] 25) (.cells #[.string s', .int .i64 p', .int .i64 q'] 25)) (heap_alloc2_new w (.cells #[.string s, .int .i64 p, .int .i64 q] 25) (.cells #[.string s', .int .i64 p', .int .i64 q'] 25)))
  have Hm := Lib.hid hm
  have H1 := Lib.hid hk
  have H2 := Lib.hid ha
  have H3 := Lib.hid hcap
  clear h hk ha hcap hm
  go_enter Tryz.func3, Tryz.ntmps3
  go_wp2_with (first | (go_at_call 4; refine (known_any _).mono ?_; rintro e w1 ⟨rfl, hb1⟩) | (go_at_call 5; refine (bytesE_any _ _ _ _).mono ?_; rw [Hm.out]; rintro e w2 ⟨⟨v, rfl, hv0⟩, hb2⟩; have hv := Lib.hid hv0; have hc2 := Lib.hid (hb0.out.trans (hb2.mono hb0.out.size)); have g2 := Lib.hid (And.intro ((hb2.block w.heap.size (by simp; omega)).trans g0.out.1) ((hb2.block (w.heap.size + 1) (by simp)).trans g0.out.2)); clear hv0 hb2) | (go_at_call 6; refine (of_any l _ _ (h0.out.below hc2.out) H3.out).mono ?_; rw [H1.out, H2.out]; rintro e w3 ⟨rfl, hb3⟩; have hc3 := Lib.hid (hc2.out.trans (hb3.mono hc2.out.size)); have hz2 := block_lt hc2.out g2.out.2; have g3 := Lib.hid (And.intro ((hb3.block w.heap.size (by omega)).trans g2.out.1) ((hb3.block (w.heap.size + 1) (by omega)).trans g2.out.2)); have hv3 := Lib.hid (hv.out.below hb3); clear hb3) | (go_at_call 7; refine (refOf_any l _ _ (h0.out.below (hc3.out.alloc hc3.out.size _)) H3.out).mono ?_; rw [H1.out, H2.out]; rintro e w4 ⟨rfl, hb4⟩; have hc4 := Lib.hid ((hc3.out.alloc hc3.out.size (.cells #[.string es, .int .i64 ep, .int .i64 eq] 25)).trans (hb4.mono (hc3.out.alloc hc3.out.size (.cells #[.string es, .int .i64 ep, .int .i64 eq] 25)).size)); have hz3 := block_lt hc3.out g3.out.2; have g4 := Lib.hid (And.intro ((hb4.block w.heap.size (by simp; omega)).trans ((heap_alloc_old _ _ (h := by omega)).trans g3.out.1)) (And.intro ((hb4.block (w.heap.size + 1) (by simp; omega)).trans ((heap_alloc_old _ _ (h := by omega)).trans g3.out.2)) ((hb4.block w3.heap.size (by simp)).trans (heap_alloc_new _ _)))); have hv4 := Lib.hid (hv3.out.below ((Below.refl _ w3).alloc (Nat.le_refl _) (.cells #[.string es, .int .i64 ep, .int .i64 eq] 25) |>.trans (hb4.mono (by simp)))); clear hb4))
  any_goals (go_ret; exact ⟨rfl, hb0.out.trans (hb1.mono hb0.out.size)⟩)
  have hz4 := block_lt hc4.out g4.out.2.2
  have hz5 := block_lt hc4.out g4.out.2.1
  have g5 : (w4.alloc (.cells #[.string es, .int .i64 ep, .int .i64 eq] 25)).heap[w.heap.size]? = some (.cells #[.string s, .int .i64 p, .int .i64 q] 25) ∧ (w4.alloc (.cells #[.string es, .int .i64 ep, .int .i64 eq] 25)).heap[w.heap.size + 1]? = some (.cells #[.string s', .int .i64 p', .int .i64 q'] 25) ∧ (w4.alloc (.cells #[.string es, .int .i64 ep, .int .i64 eq] 25)).heap[w3.heap.size]? = some (.cells #[.string es, .int .i64 ep, .int .i64 eq] 25) ∧ (w4.alloc (.cells #[.string es, .int .i64 ep, .int .i64 eq] 25)).heap[w4.heap.size]? = some (.cells #[.string es, .int .i64 ep, .int .i64 eq] 25) :=
    ⟨(heap_alloc_old _ _ (h := by omega)).trans g4.out.1, (heap_alloc_old _ _ (h := by omega)).trans g4.out.2.1, (heap_alloc_old _ _ (h := hz4)).trans g4.out.2.2, heap_alloc_new _ _⟩
  have hc5 := hc4.out.alloc hc4.out.size (.cells #[.string es, .int .i64 ep, .int .i64 eq] 25)
  have hv5 := hv4.out.below ((Below.refl _ w4).alloc (Nat.le_refl _) (.cells #[.string es, .int .i64 ep, .int .i64 eq] 25))
  generalize w4.alloc (.cells #[.string es, .int .i64 ep, .int .i64 eq] 25) = W at g5 hc5 hv5 ⊢
  have HG := Lib.hid g5
  refine wp_region_held_drew (S := (fun x => (x.cell? ⟨w.heap.size, 0, none⟩ = some (.string s) ∧ x.cell? ⟨w.heap.size, 1, none⟩ = some (.int .i64 p) ∧ x.cell? ⟨w.heap.size, 2, none⟩ = some (.int .i64 q)) ∧ (x.cell? ⟨w.heap.size + 1, 0, none⟩ = some (.string s') ∧ x.cell? ⟨w.heap.size + 1, 1, none⟩ = some (.int .i64 p') ∧ x.cell? ⟨w.heap.size + 1, 2, none⟩ = some (.int .i64 q')) ∧ (x.cell? ⟨w3.heap.size, 0, none⟩ = some (.string es) ∧ x.cell? ⟨w3.heap.size, 1, none⟩ = some (.int .i64 ep) ∧ x.cell? ⟨w3.heap.size, 2, none⟩ = some (.int .i64 eq)) ∧ (x.cell? ⟨w4.heap.size, 0, none⟩ = some (.string es) ∧ x.cell? ⟨w4.heap.size, 1, none⟩ = some (.int .i64 ep) ∧ x.cell? ⟨w4.heap.size, 2, none⟩ = some (.int .i64 eq)) ∧ Below W.heap.size W x)) (by kernel_rfl) ?_ (fun hHeld0 => ?_)
  · (try dsimp only) <;> (first | exact keepS HG.out hbW | exact keepS HG.out (Below.refl _ _) | exact keepS HG.out (Below.refl _ _).drew | exact keepS HG.out (sOf (by assumption)) | exact keepS HG.out (Below.drew (sOf (by assumption))))
  refine wpAnyH_take (i := 0) (oi := { dst := some 44, op := Op.load 25 (Operand.tmp 3), type := 25, pos := "law.go:229", after := #[], guard := none }) (v := ?_) rfl (by kernel_rfl) (by kernel_rfl) (by kernel_rfl) (fun _ _ _ h => h) (Or.inl ⟨by rfl, ?_⟩) (by assumption) ?_
  rotate_left
  · intro wq hSw; (try dsimp only at hSw); (first | (go_simp; done) | (go_simp; with_reducible rfl))
  try simp only [Act.put, List.setIfInBounds_toArray, List.set_cons_zero, List.set_cons_succ]
  refine wpAnyH_take (i := 2) (oi := { dst := some 46, op := Op.load 25 (Operand.tmp 3), type := 25, pos := "law.go:229", after := #[], guard := none }) (v := ?_) rfl (by kernel_rfl) (by kernel_rfl) (by kernel_rfl) (fun _ _ _ h => h) (Or.inl ⟨by rfl, ?_⟩) (by assumption) ?_
  rotate_left
  · intro wq hSw; (try dsimp only at hSw); (first | (go_simp; done) | (go_simp; with_reducible rfl))
  try simp only [Act.put, List.setIfInBounds_toArray, List.set_cons_zero, List.set_cons_succ]
  refine wpAnyH_ready (rs := [1]) (by kernel_rfl) (by simp) ?_
  refine AllReadyH.cons (o := { dst := some 45, op := Op.call { callee := Callee.value (Operand.func 8), args := #[Operand.tmp 44], argTypes := #[25] }, type := 4, pos := "law.go:229", after := #[{ on := 0, ground := Ground.data }], guard := none }) rfl (fun K hK => ?_) AllReadyH.nil
  go_simp
  (first | (go_at_call 8; refine (may_any _ _ _ _).mono ?_; rw [Hm.out]; rintro e wc ⟨rfl, hb⟩; have hbW := below_step (W := W) (sOf (by assumption)) hb) | (go_at_call 9; refine (refMay_any _ _ _ _).mono ?_; rw [Hm.out]; rintro e wc ⟨rfl, hb⟩; have hbW := below_step (W := W) (sOf (by assumption)) hb) | (go_at_call 10; refine (less_any _ _ _ _ _ _ _).mono ?_; rintro e wc ⟨rfl, hb⟩; have hbW := below_step (W := W) (sOf (by assumption)) hb) | (go_at_call 11; refine (refLess_any _ _ _ _ _ _ _).mono ?_; rintro e wc ⟨rfl, hb⟩; have hbW := below_step (W := W) (sOf (by assumption)) hb) | (go_at_call 12; refine (num_any _ _).mono ?_; rintro e wc ⟨rfl, rfl⟩))
  go_wp2_with fail
  refine hK.out _ _ ?_ (fun hHeld1 => ?_)
  · (try dsimp only) <;> (first | exact keepS HG.out hbW | exact keepS HG.out (Below.refl _ _) | exact keepS HG.out (Below.refl _ _).drew | exact keepS HG.out (sOf (by assumption)) | exact keepS HG.out (Below.drew (sOf (by assumption))))
  clear hK K
  try simp only [Act.put, List.setIfInBounds_toArray, List.set_cons_zero, List.set_cons_succ]
  clear hHeld0
  refine wpAnyH_ready (rs := [3]) (by kernel_rfl) (by simp) ?_
  refine AllReadyH.cons (o := { dst := some 47, op := Op.call { callee := Callee.value (Operand.func 9), args := #[Operand.tmp 46], argTypes := #[25] }, type := 4, pos := "law.go:229", after := #[{ on := 2, ground := Ground.data }, { on := 1, ground := Ground.chain }], guard := none }) rfl (fun K hK => ?_) AllReadyH.nil
  go_simp
  (first | (go_at_call 8; refine (may_any _ _ _ _).mono ?_; rw [Hm.out]; rintro e wc ⟨rfl, hb⟩; have hbW := below_step (W := W) (sOf (by assumption)) hb) | (go_at_call 9; refine (refMay_any _ _ _ _).mono ?_; rw [Hm.out]; rintro e wc ⟨rfl, hb⟩; have hbW := below_step (W := W) (sOf (by assumption)) hb) | (go_at_call 10; refine (less_any _ _ _ _ _ _ _).mono ?_; rintro e wc ⟨rfl, hb⟩; have hbW := below_step (W := W) (sOf (by assumption)) hb) | (go_at_call 11; refine (refLess_any _ _ _ _ _ _ _).mono ?_; rintro e wc ⟨rfl, hb⟩; have hbW := below_step (W := W) (sOf (by assumption)) hb) | (go_at_call 12; refine (num_any _ _).mono ?_; rintro e wc ⟨rfl, rfl⟩))
  go_wp2_with fail
  refine hK.out _ _ ?_ (fun hHeld2 => ?_)
  · (try dsimp only) <;> (first | exact keepS HG.out hbW | exact keepS HG.out (Below.refl _ _) | exact keepS HG.out (Below.refl _ _).drew | exact keepS HG.out (sOf (by assumption)) | exact keepS HG.out (Below.drew (sOf (by assumption))))
  clear hK K
  try simp only [Act.put, List.setIfInBounds_toArray, List.set_cons_zero, List.set_cons_succ]
  clear hHeld1
  refine wpAnyH_take (i := 4) (oi := { dst := some 48, op := Op.binOp BinOp.neq 4 (Operand.tmp 45) (Operand.tmp 47) 4, type := 4, pos := "law.go:229", after := #[{ on := 1, ground := Ground.data }, { on := 3, ground := Ground.data }], guard := none }) (v := ?_) rfl (by kernel_rfl) (by kernel_rfl) (by kernel_rfl) (fun _ _ _ h => h) (Or.inl ⟨by rfl, ?_⟩) (by assumption) ?_
  rotate_left
  · intro wq hSw; (try dsimp only at hSw); (first | (go_simp; done) | (go_simp; with_reducible rfl))
  try simp only [Act.put, List.setIfInBounds_toArray, List.set_cons_zero, List.set_cons_succ]
  refine wpAnyH_take (i := 5) (oi := { dst := some 49, op := Op.move (Operand.tmp 48), type := 4, pos := "law.go:229", after := #[{ on := 4, ground := Ground.data }, { on := 3, ground := Ground.chain }], guard := none }) (v := ?_) rfl (by kernel_rfl) (by kernel_rfl) (by kernel_rfl) (fun _ _ _ h => h) (Or.inl ⟨by rfl, ?_⟩) (by assumption) ?_
  rotate_left
  · intro wq hSw; (try dsimp only at hSw); (first | (go_simp; done) | (go_simp; with_reducible rfl))
  try simp only [Act.put, List.setIfInBounds_toArray, List.set_cons_zero, List.set_cons_succ]
  refine wpAnyH_take (i := 6) (oi := { dst := some 50, op := Op.load 25 (Operand.tmp 3), type := 25, pos := "law.go:229", after := #[{ on := 5, ground := Ground.guard }], guard := some (5, false) }) (v := ?_) rfl (by kernel_rfl) (by kernel_rfl) (by kernel_rfl) (fun _ _ _ h => h) (Or.inl ⟨by rfl, ?_⟩) (by assumption) ?_
  rotate_left
  · intro wq hSw; (try dsimp only at hSw); (first | (go_simp; done) | (go_simp; with_reducible rfl))
  try simp only [Act.put, List.setIfInBounds_toArray, List.set_cons_zero, List.set_cons_succ]
  refine wpAnyH_take (i := 7) (oi := { dst := some 51, op := Op.load 25 (Operand.tmp 4), type := 25, pos := "law.go:229", after := #[{ on := 5, ground := Ground.guard }], guard := some (5, false) }) (v := ?_) rfl (by kernel_rfl) (by kernel_rfl) (by kernel_rfl) (fun _ _ _ h => h) (Or.inl ⟨by rfl, ?_⟩) (by assumption) ?_
  rotate_left
  · intro wq hSw; (try dsimp only at hSw); (first | (go_simp; done) | (go_simp; with_reducible rfl))
  try simp only [Act.put, List.setIfInBounds_toArray, List.set_cons_zero, List.set_cons_succ]
  refine wpAnyH_take (i := 9) (oi := { dst := some 53, op := Op.load 25 (Operand.tmp 3), type := 25, pos := "law.go:229", after := #[{ on := 5, ground := Ground.guard }], guard := some (5, false) }) (v := ?_) rfl (by kernel_rfl) (by kernel_rfl) (by kernel_rfl) (fun _ _ _ h => h) (Or.inl ⟨by rfl, ?_⟩) (by assumption) ?_
  rotate_left
  · intro wq hSw; (try dsimp only at hSw); (first | (go_simp; done) | (go_simp; with_reducible rfl))
  try simp only [Act.put, List.setIfInBounds_toArray, List.set_cons_zero, List.set_cons_succ]
  refine wpAnyH_take (i := 10) (oi := { dst := some 54, op := Op.load 25 (Operand.tmp 4), type := 25, pos := "law.go:229", after := #[{ on := 5, ground := Ground.guard }], guard := some (5, false) }) (v := ?_) rfl (by kernel_rfl) (by kernel_rfl) (by kernel_rfl) (fun _ _ _ h => h) (Or.inl ⟨by rfl, ?_⟩) (by assumption) ?_
  rotate_left
  · intro wq hSw; (try dsimp only at hSw); (first | (go_simp; done) | (go_simp; with_reducible rfl))
  try simp only [Act.put, List.setIfInBounds_toArray, List.set_cons_zero, List.set_cons_succ]
  refine wpAnyH_ready (rs := [8]) (by kernel_rfl) (by simp) ?_
  refine AllReadyH.cons (o := { dst := some 52, op := Op.call { callee := Callee.value (Operand.func 10), args := #[Operand.tmp 50, Operand.tmp 51], argTypes := #[25, 25] }, type := 4, pos := "law.go:229", after := #[{ on := 6, ground := Ground.data }, { on := 7, ground := Ground.data }, { on := 5, ground := Ground.chain }, { on := 5, ground := Ground.guard }], guard := some (5, false) }) rfl (fun K hK => ?_) AllReadyH.nil
  go_simp
  (first | (go_at_call 8; refine (may_any _ _ _ _).mono ?_; rw [Hm.out]; rintro e wc ⟨rfl, hb⟩; have hbW := below_step (W := W) (sOf (by assumption)) hb) | (go_at_call 9; refine (refMay_any _ _ _ _).mono ?_; rw [Hm.out]; rintro e wc ⟨rfl, hb⟩; have hbW := below_step (W := W) (sOf (by assumption)) hb) | (go_at_call 10; refine (less_any _ _ _ _ _ _ _).mono ?_; rintro e wc ⟨rfl, hb⟩; have hbW := below_step (W := W) (sOf (by assumption)) hb) | (go_at_call 11; refine (refLess_any _ _ _ _ _ _ _).mono ?_; rintro e wc ⟨rfl, hb⟩; have hbW := below_step (W := W) (sOf (by assumption)) hb) | (go_at_call 12; refine (num_any _ _).mono ?_; rintro e wc ⟨rfl, rfl⟩))
  go_wp2_with fail
  refine hK.out _ _ ?_ (fun hHeld3 => ?_)
  · (try dsimp only) <;> (first | exact keepS HG.out hbW | exact keepS HG.out (Below.refl _ _) | exact keepS HG.out (Below.refl _ _).drew | exact keepS HG.out (sOf (by assumption)) | exact keepS HG.out (Below.drew (sOf (by assumption))))
  clear hK K
  try simp only [Act.put, List.setIfInBounds_toArray, List.set_cons_zero, List.set_cons_succ]
  clear hHeld2
  refine wpAnyH_ready (rs := [11]) (by kernel_rfl) (by simp) ?_
  refine AllReadyH.cons (o := { dst := some 55, op := Op.call { callee := Callee.value (Operand.func 11), args := #[Operand.tmp 53, Operand.tmp 54], argTypes := #[25, 25] }, type := 4, pos := "law.go:229", after := #[{ on := 9, ground := Ground.data }, { on := 10, ground := Ground.data }, { on := 8, ground := Ground.chain }, { on := 5, ground := Ground.guard }], guard := some (5, false) }) rfl (fun K hK => ?_) AllReadyH.nil
  go_simp
  (first | (go_at_call 8; refine (may_any _ _ _ _).mono ?_; rw [Hm.out]; rintro e wc ⟨rfl, hb⟩; have hbW := below_step (W := W) (sOf (by assumption)) hb) | (go_at_call 9; refine (refMay_any _ _ _ _).mono ?_; rw [Hm.out]; rintro e wc ⟨rfl, hb⟩; have hbW := below_step (W := W) (sOf (by assumption)) hb) | (go_at_call 10; refine (less_any _ _ _ _ _ _ _).mono ?_; rintro e wc ⟨rfl, hb⟩; have hbW := below_step (W := W) (sOf (by assumption)) hb) | (go_at_call 11; refine (refLess_any _ _ _ _ _ _ _).mono ?_; rintro e wc ⟨rfl, hb⟩; have hbW := below_step (W := W) (sOf (by assumption)) hb) | (go_at_call 12; refine (num_any _ _).mono ?_; rintro e wc ⟨rfl, rfl⟩))
  go_wp2_with fail
  refine hK.out _ _ ?_ (fun hHeld4 => ?_)
  · (try dsimp only) <;> (first | exact keepS HG.out hbW | exact keepS HG.out (Below.refl _ _) | exact keepS HG.out (Below.refl _ _).drew | exact keepS HG.out (sOf (by assumption)) | exact keepS HG.out (Below.drew (sOf (by assumption))))
  clear hK K
  try simp only [Act.put, List.setIfInBounds_toArray, List.set_cons_zero, List.set_cons_succ]
  clear hHeld3
  refine wpAnyH_take (i := 12) (oi := { dst := some 56, op := Op.binOp BinOp.neq 4 (Operand.tmp 52) (Operand.tmp 55) 4, type := 4, pos := "law.go:229", after := #[{ on := 8, ground := Ground.data }, { on := 11, ground := Ground.data }, { on := 5, ground := Ground.guard }], guard := some (5, false) }) (v := ?_) rfl (by kernel_rfl) (by kernel_rfl) (by kernel_rfl) (fun _ _ _ h => h) (Or.inl ⟨by rfl, ?_⟩) (by assumption) ?_
  rotate_left
  · intro wq hSw; (try dsimp only at hSw); (first | (go_simp; done) | (go_simp; with_reducible rfl))
  try simp only [Act.put, List.setIfInBounds_toArray, List.set_cons_zero, List.set_cons_succ]
  refine wpAnyH_take (i := 13) (oi := { dst := some 57, op := Op.pick (Operand.tmp 49) (Operand.const (Value.bool true)) (Operand.tmp 56), type := 4, pos := "law.go:229", after := #[{ on := 5, ground := Ground.data }, { on := 12, ground := Ground.data }], guard := none }) (v := ?_) rfl (by kernel_rfl) (by kernel_rfl) (by kernel_rfl) (fun _ _ _ h => h) (Or.inl ⟨by rfl, ?_⟩) (by assumption) ?_
  rotate_left
  · intro wq hSw; (try dsimp only at hSw); (first | (go_simp; done) | (go_simp; with_reducible rfl))
  try simp only [Act.put, List.setIfInBounds_toArray, List.set_cons_zero, List.set_cons_succ]
  refine wpAnyH_take (i := 14) (oi := { dst := some 58, op := Op.move (Operand.tmp 57), type := 4, pos := "law.go:229", after := #[{ on := 13, ground := Ground.data }, { on := 11, ground := Ground.chain }], guard := none }) (v := ?_) rfl (by kernel_rfl) (by kernel_rfl) (by kernel_rfl) (fun _ _ _ h => h) (Or.inl ⟨by rfl, ?_⟩) (by assumption) ?_
  rotate_left
  · intro wq hSw; (try dsimp only at hSw); (first | (go_simp; done) | (go_simp; with_reducible rfl))
  try simp only [Act.put, List.setIfInBounds_toArray, List.set_cons_zero, List.set_cons_succ]
  refine wpAnyH_take (i := 15) (oi := { dst := some 59, op := Op.load 25 (Operand.tmp 9), type := 25, pos := "law.go:229", after := #[{ on := 14, ground := Ground.guard }], guard := some (14, false) }) (v := ?_) rfl (by kernel_rfl) (by kernel_rfl) (by kernel_rfl) (fun _ _ _ h => h) (Or.inl ⟨by rfl, ?_⟩) (by assumption) ?_
  rotate_left
  · intro wq hSw; (try dsimp only at hSw); (first | (go_simp; done) | (go_simp; with_reducible rfl))
  try simp only [Act.put, List.setIfInBounds_toArray, List.set_cons_zero, List.set_cons_succ]
  refine wpAnyH_take (i := 16) (oi := { dst := some 60, op := Op.load 25 (Operand.tmp 11), type := 25, pos := "law.go:229", after := #[{ on := 14, ground := Ground.guard }], guard := some (14, false) }) (v := ?_) rfl (by kernel_rfl) (by kernel_rfl) (by kernel_rfl) (fun _ _ _ h => h) (Or.inl ⟨by rfl, ?_⟩) (by assumption) ?_
  rotate_left
  · intro wq hSw; (try dsimp only at hSw); (first | (go_simp; done) | (go_simp; with_reducible rfl))
  try simp only [Act.put, List.setIfInBounds_toArray, List.set_cons_zero, List.set_cons_succ]
  refine wpAnyH_take (i := 17) (oi := { dst := some 61, op := Op.binOp BinOp.neq 25 (Operand.tmp 59) (Operand.tmp 60) 25, type := 4, pos := "law.go:229", after := #[{ on := 15, ground := Ground.data }, { on := 16, ground := Ground.data }, { on := 14, ground := Ground.guard }], guard := some (14, false) }) (v := ?_) rfl (by kernel_rfl) (by kernel_rfl) (by kernel_rfl) (fun _ _ _ h => h) (Or.inl ⟨by rfl, ?_⟩) (by assumption) ?_
  rotate_left
  · intro wq hSw; (try dsimp only at hSw); (first | (go_simp; done) | (go_simp; with_reducible rfl))
  try simp only [Act.put, List.setIfInBounds_toArray, List.set_cons_zero, List.set_cons_succ]
  refine wpAnyH_take (i := 18) (oi := { dst := some 62, op := Op.pick (Operand.tmp 58) (Operand.const (Value.bool true)) (Operand.tmp 61), type := 4, pos := "law.go:229", after := #[{ on := 14, ground := Ground.data }, { on := 17, ground := Ground.data }], guard := none }) (v := ?_) rfl (by kernel_rfl) (by kernel_rfl) (by kernel_rfl) (fun _ _ _ h => h) (Or.inl ⟨by rfl, ?_⟩) (by assumption) ?_
  rotate_left
  · intro wq hSw; (try dsimp only at hSw); (first | (go_simp; done) | (go_simp; with_reducible rfl))
  try simp only [Act.put, List.setIfInBounds_toArray, List.set_cons_zero, List.set_cons_succ]
  refine wpAnyH_take (i := 19) (oi := { dst := some 63, op := Op.move (Operand.tmp 62), type := 4, pos := "law.go:229", after := #[{ on := 18, ground := Ground.data }, { on := 14, ground := Ground.chain }], guard := none }) (v := ?_) rfl (by kernel_rfl) (by kernel_rfl) (by kernel_rfl) (fun _ _ _ h => h) (Or.inl ⟨by rfl, ?_⟩) (by assumption) ?_
  rotate_left
  · intro wq hSw; (try dsimp only at hSw); (first | (go_simp; done) | (go_simp; with_reducible rfl))
  try simp only [Act.put, List.setIfInBounds_toArray, List.set_cons_zero, List.set_cons_succ]
  refine wpAnyH_take (i := 20) (oi := { dst := some 64, op := Op.move (Operand.tmp 10), type := 28, pos := "law.go:229", after := #[{ on := 19, ground := Ground.guard }], guard := some (19, false) }) (v := ?_) rfl (by kernel_rfl) (by kernel_rfl) (by kernel_rfl) (fun _ _ _ h => h) (Or.inl ⟨by rfl, ?_⟩) (by assumption) ?_
  rotate_left
  · intro wq hSw; (try dsimp only at hSw); (first | (go_simp; done) | (go_simp; with_reducible rfl))
  try simp only [Act.put, List.setIfInBounds_toArray, List.set_cons_zero, List.set_cons_succ]
  refine wpAnyH_take (i := 23) (oi := { dst := some 67, op := Op.move (Operand.tmp 12), type := 4, pos := "law.go:229", after := #[{ on := 19, ground := Ground.guard }], guard := some (19, false) }) (v := ?_) rfl (by kernel_rfl) (by kernel_rfl) (by kernel_rfl) (fun _ _ _ h => h) (Or.inl ⟨by rfl, ?_⟩) (by assumption) ?_
  rotate_left
  · intro wq hSw; (try dsimp only at hSw); (first | (go_simp; done) | (go_simp; with_reducible rfl))
  try simp only [Act.put, List.setIfInBounds_toArray, List.set_cons_zero, List.set_cons_succ]
  refine wpAnyH_ready (rs := [21]) (by kernel_rfl) (by simp) ?_
  refine AllReadyH.cons (o := { dst := some 65, op := Op.call { callee := Callee.value (Operand.func 12), args := #[Operand.tmp 64], argTypes := #[28] }, type := 3, pos := "law.go:229", after := #[{ on := 20, ground := Ground.data }, { on := 19, ground := Ground.chain }, { on := 19, ground := Ground.guard }], guard := some (19, false) }) rfl (fun K hK => ?_) AllReadyH.nil
  go_simp
  (first | (go_at_call 8; refine (may_any _ _ _ _).mono ?_; rw [Hm.out]; rintro e wc ⟨rfl, hb⟩; have hbW := below_step (W := W) (sOf (by assumption)) hb) | (go_at_call 9; refine (refMay_any _ _ _ _).mono ?_; rw [Hm.out]; rintro e wc ⟨rfl, hb⟩; have hbW := below_step (W := W) (sOf (by assumption)) hb) | (go_at_call 10; refine (less_any _ _ _ _ _ _ _).mono ?_; rintro e wc ⟨rfl, hb⟩; have hbW := below_step (W := W) (sOf (by assumption)) hb) | (go_at_call 11; refine (refLess_any _ _ _ _ _ _ _).mono ?_; rintro e wc ⟨rfl, hb⟩; have hbW := below_step (W := W) (sOf (by assumption)) hb) | (go_at_call 12; refine (num_any _ _).mono ?_; rintro e wc ⟨rfl, rfl⟩))
  go_wp2_with fail
  refine hK.out _ _ ?_ (fun hHeld5 => ?_)
  · (try dsimp only) <;> (first | exact keepS HG.out hbW | exact keepS HG.out (Below.refl _ _) | exact keepS HG.out (Below.refl _ _).drew | exact keepS HG.out (sOf (by assumption)) | exact keepS HG.out (Below.drew (sOf (by assumption))))
  clear hK K
  try simp only [Act.put, List.setIfInBounds_toArray, List.set_cons_zero, List.set_cons_succ]
  clear hHeld4
  refine wpAnyH_take (i := 22) (oi := { dst := some 66, op := Op.binOp BinOp.eql 3 (Operand.tmp 65) (Operand.const (Value.int IntKind.i64 0)) 3, type := 4, pos := "law.go:229", after := #[{ on := 21, ground := Ground.data }, { on := 19, ground := Ground.guard }], guard := some (19, false) }) (v := ?_) rfl (by kernel_rfl) (by kernel_rfl) (by kernel_rfl) (fun _ _ _ h => h) (Or.inl ⟨by rfl, ?_⟩) (by assumption) ?_
  rotate_left
  · intro wq hSw; (try dsimp only at hSw); (first | (go_simp; done) | (go_simp; with_reducible rfl))
  try simp only [Act.put, List.setIfInBounds_toArray, List.set_cons_zero, List.set_cons_succ]
  refine wpAnyH_take (i := 24) (oi := { dst := some 68, op := Op.binOp BinOp.neq 4 (Operand.tmp 66) (Operand.tmp 67) 4, type := 4, pos := "law.go:229", after := #[{ on := 22, ground := Ground.data }, { on := 23, ground := Ground.data }, { on := 19, ground := Ground.guard }], guard := some (19, false) }) (v := ?_) rfl (by kernel_rfl) (by kernel_rfl) (by kernel_rfl) (fun _ _ _ h => h) (Or.inl ⟨by rfl, ?_⟩) (by assumption) ?_
  rotate_left
  · intro wq hSw; (try dsimp only at hSw); (first | (go_simp; done) | (go_simp; with_reducible rfl))
  try simp only [Act.put, List.setIfInBounds_toArray, List.set_cons_zero, List.set_cons_succ]
  refine wpAnyH_take (i := 25) (oi := { dst := some 69, op := Op.pick (Operand.tmp 63) (Operand.const (Value.bool true)) (Operand.tmp 68), type := 4, pos := "law.go:229", after := #[{ on := 19, ground := Ground.data }, { on := 24, ground := Ground.data }], guard := none }) (v := ?_) rfl (by kernel_rfl) (by kernel_rfl) (by kernel_rfl) (fun _ _ _ h => h) (Or.inl ⟨by rfl, ?_⟩) (by assumption) ?_
  rotate_left
  · intro wq hSw; (try dsimp only at hSw); (first | (go_simp; done) | (go_simp; with_reducible rfl))
  try simp only [Act.put, List.setIfInBounds_toArray, List.set_cons_zero, List.set_cons_succ]
  refine wpAnyH_take (i := 26) (oi := { dst := some 70, op := Op.move (Operand.tmp 69), type := 4, pos := "law.go:229", after := #[{ on := 25, ground := Ground.data }, { on := 21, ground := Ground.chain }], guard := none }) (v := ?_) rfl (by kernel_rfl) (by kernel_rfl) (by kernel_rfl) (fun _ _ _ h => h) (Or.inl ⟨by rfl, ?_⟩) (by assumption) ?_
  rotate_left
  · intro wq hSw; (try dsimp only at hSw); (first | (go_simp; done) | (go_simp; with_reducible rfl))
  try simp only [Act.put, List.setIfInBounds_toArray, List.set_cons_zero, List.set_cons_succ]
  refine wpAnyH_take (i := 27) (oi := { dst := some 71, op := Op.move (Operand.tmp 12), type := 4, pos := "law.go:229", after := #[{ on := 26, ground := Ground.guard }], guard := some (26, false) }) (v := ?_) rfl (by kernel_rfl) (by kernel_rfl) (by kernel_rfl) (fun _ _ _ h => h) (Or.inl ⟨by rfl, ?_⟩) (by assumption) ?_
  rotate_left
  · intro wq hSw; (try dsimp only at hSw); (first | (go_simp; done) | (go_simp; with_reducible rfl))
  try simp only [Act.put, List.setIfInBounds_toArray, List.set_cons_zero, List.set_cons_succ]
  refine wpAnyH_take (i := 28) (oi := { dst := some 72, op := Op.unOp UnOp.not 4 (Operand.tmp 71), type := 4, pos := "law.go:229", after := #[{ on := 27, ground := Ground.data }, { on := 26, ground := Ground.guard }], guard := some (26, false) }) (v := ?_) rfl (by kernel_rfl) (by kernel_rfl) (by kernel_rfl) (fun _ _ _ h => h) (Or.inl ⟨by rfl, ?_⟩) (by assumption) ?_
  rotate_left
  · intro wq hSw; (try dsimp only at hSw); (first | (go_simp; done) | (go_simp; with_reducible rfl))
  try simp only [Act.put, List.setIfInBounds_toArray, List.set_cons_zero, List.set_cons_succ]
  refine wpAnyH_take (i := 29) (oi := { dst := some 73, op := Op.move (Operand.tmp 72), type := 4, pos := "law.go:229", after := #[{ on := 28, ground := Ground.data }, { on := 26, ground := Ground.chain }, { on := 26, ground := Ground.guard }], guard := some (26, false) }) (v := ?_) rfl (by kernel_rfl) (by kernel_rfl) (by kernel_rfl) (fun _ _ _ h => h) (Or.inl ⟨by rfl, ?_⟩) (by assumption) ?_
  rotate_left
  · intro wq hSw; (try dsimp only at hSw); (first | (go_simp; done) | (go_simp; with_reducible rfl))
  try simp only [Act.put, List.setIfInBounds_toArray, List.set_cons_zero, List.set_cons_succ]
  refine wpAnyH_take (i := 30) (oi := { dst := some 74, op := Op.move (Operand.tmp 10), type := 28, pos := "law.go:229", after := #[{ on := 29, ground := Ground.guard }], guard := some (29, true) }) (v := undef) rfl (by kernel_rfl) (by kernel_rfl) (by kernel_rfl) (fun _ _ _ h => h) (Or.inr ⟨by rfl, rfl⟩) (by assumption) ?_
  try simp only [Act.put, List.setIfInBounds_toArray, List.set_cons_zero, List.set_cons_succ]
  refine wpAnyH_ready (rs := [31]) (by kernel_rfl) (by simp) ?_
  refine AllReadyH.cons (o := { dst := some 75, op := Op.call { callee := Callee.value (Operand.func 12), args := #[Operand.tmp 74], argTypes := #[28] }, type := 3, pos := "law.go:229", after := #[{ on := 30, ground := Ground.data }, { on := 29, ground := Ground.chain }, { on := 29, ground := Ground.guard }], guard := some (29, true) }) rfl (fun K hK => ?_) AllReadyH.nil
  go_simp
  refine hK.out _ _ ?_ (fun hHeld6 => ?_)
  · (try dsimp only) <;> (first | exact keepS HG.out hbW | exact keepS HG.out (Below.refl _ _) | exact keepS HG.out (Below.refl _ _).drew | exact keepS HG.out (sOf (by assumption)) | exact keepS HG.out (Below.drew (sOf (by assumption))))
  clear hK K
  try simp only [Act.put, List.setIfInBounds_toArray, List.set_cons_zero, List.set_cons_succ]
  clear hHeld5
  refine wpAnyH_take (i := 32) (oi := { dst := some 76, op := Op.binOp BinOp.neq 3 (Operand.tmp 75) (Operand.const (Value.int IntKind.i64 13)) 3, type := 4, pos := "law.go:229", after := #[{ on := 31, ground := Ground.data }, { on := 29, ground := Ground.guard }], guard := some (29, true) }) (v := undef) rfl (by kernel_rfl) (by kernel_rfl) (by kernel_rfl) (fun _ _ _ h => h) (Or.inr ⟨by rfl, rfl⟩) (by assumption) ?_
  try simp only [Act.put, List.setIfInBounds_toArray, List.set_cons_zero, List.set_cons_succ]
  refine wpAnyH_take (i := 33) (oi := { dst := some 77, op := Op.pick (Operand.tmp 73) (Operand.tmp 76) (Operand.const (Value.bool false)), type := 4, pos := "law.go:229", after := #[{ on := 29, ground := Ground.data }, { on := 32, ground := Ground.data }, { on := 26, ground := Ground.guard }], guard := some (26, false) }) (v := ?_) rfl (by kernel_rfl) (by kernel_rfl) (by kernel_rfl) (fun _ _ _ h => h) (Or.inl ⟨by rfl, ?_⟩) (by assumption) ?_
  rotate_left
  · intro wq hSw; (try dsimp only at hSw); (first | (go_simp; done) | (go_simp; with_reducible rfl))
  try simp only [Act.put, List.setIfInBounds_toArray, List.set_cons_zero, List.set_cons_succ]
  refine wpAnyH_take (i := 34) (oi := { dst := some 78, op := Op.pick (Operand.tmp 70) (Operand.const (Value.bool true)) (Operand.tmp 77), type := 4, pos := "law.go:229", after := #[{ on := 26, ground := Ground.data }, { on := 33, ground := Ground.data }], guard := none }) (v := ?_) rfl (by kernel_rfl) (by kernel_rfl) (by kernel_rfl) (fun _ _ _ h => h) (Or.inl ⟨by rfl, ?_⟩) (by assumption) ?_
  rotate_left
  · intro wq hSw; (try dsimp only at hSw); (first | (go_simp; done) | (go_simp; with_reducible rfl))
  try simp only [Act.put, List.setIfInBounds_toArray, List.set_cons_zero, List.set_cons_succ]
  refine wpAnyH_done (by kernel_rfl) ?_ _
  have hbx : Below W.heap.size W _ := sOf (by assumption)
  simp only [Bool.false_eq_true, if_false] at hv5
  obtain ⟨A', c', rfl, -, -⟩ := hv5.one
  clear hv hv3 hv4 hv5
  have hx5 := Lib.hid (hc5.trans (hbx.mono hc5.size))
  clear hbx hc5
  go_wp2_with (first | (go_at_call 9; refine (refMay_any _ _ _ _).mono ?_; rw [Hm.out]; rintro e w6 ⟨rfl, hb6⟩; have hc6 := Lib.hid (hx5.out.trans (hb6.mono hx5.out.size)); clear hb6) | (go_at_call 12; refine (num_any _ _).mono ?_; rintro e wc ⟨rfl, rfl⟩) | (go_at_call 4; refine (known_any _).mono ?_; rintro e w7 ⟨rfl, hb7⟩))
  go_ret
  exact ⟨rfl, hc6.out.trans (hb7.mono hc6.out.size)⟩
end Go.Proofs.Ie
