/- The reference's version of bytes that may not be. -/
import Derived.Test.YtekafaeefpgnjaaHbJ
namespace Go.Proofs.Hb
open Go Go.RowKit Go.Hb Go.Crc
theorem ok_not {l : List Nat} (hs2 : 20 + kk l ≤ l.length) (hm : may (kk l) (l.length - (20 + kk l)) (aa l) (bb l) = false) : ok l = false := by
  unfold ok
  by_cases e : 20 + kk l + xx l = l.length
  · rw [show l.length - (20 + kk l) = xx l by omega] at hm
    rw [hm, Bool.and_false]
  · rw [decide_eq_false e]; simp
set_option maxRecDepth 100000 in
set_option maxHeartbeats 4000000 in
theorem refOf_longF (l : List Nat) (b off off' c0 : Nat) (w : World) (h : BytesAt w (.slice (some ⟨b, off, none⟩) l.length c0) l) (hif : (if c0 = 20 + kk l then (some ⟨b, off, none⟩ : Option Addr) else some ⟨b, off + (20 + kk l), none⟩) = some ⟨b, off', none⟩) (hv : BytesAt w (.slice (some ⟨b, off', none⟩) (l.length - (20 + kk l)) (c0 - (20 + kk l))) (valu l)) (hcap : l.length ≤ c0) (hs : 20 ≤ l.length) (hs2 : 20 + kk l ≤ l.length) (hl : l.length ≤ 1000) (hm : may (kk l) (l.length - (20 + kk l)) (vl (l.take 8)) (vl ((l.drop 8).take 8)) = false) : Calls Try.prog 11 #[.slice (some ⟨b, off, none⟩) l.length c0] w fun e w' => RefPost l w e w' := by
  have hkk := kk_lt h.1 (by omega)
  have HB := Lib.hid ((Below.refl w.heap.size w).alloc (Nat.le_refl _) (.cells #[.slice none 0 0, .slice none 0 0, .int .u64 0, .int .u64 0] 25))
  have HH := Lib.hid (h.below HB.out)
  have HC := Lib.hid (cut HH.out (p := 16) (n := 2) (by omega) (c0 - 16))
  have HKK := Lib.hid (kk_eq (l := l) (by omega))
  have HV := Lib.hid hv
  have HKy := Lib.hid (show BytesAt _ _ (key l) from cut h (p := 18) (n := kk l) (by omega) (c0 - 18))
  have HM := Lib.hid hm
  clear h hv hm
  have ET := Lib.hid (heap_alloc_new w (.cells #[.slice none 0 0, .slice none 0 0, .int .u64 0, .int .u64 0] 25))
  have EZ := Lib.hid (show w.heap.size < (w.alloc (.cells #[.slice none 0 0, .slice none 0 0, .int .u64 0, .int .u64 0] 25)).heap.size by simp)
  go_enter Try.func11, Try.ntmps11
  go_wp2_with (go_at_call 23; refine (refGet_any _ _ _ _ _ HC.out (by rw [List.length_take]; omega)).mono ?_; rw [HKK.out]; rintro e w' ⟨rfl, rfl⟩)
  generalize w.alloc (.cells #[.slice none 0 0, .slice none 0 0, .int .u64 0, .int .u64 0] 25) = W0 at HB HH HC ET EZ ⊢
  have k1 : IntKind.i64.wrap (18 + (kk l : Int)) = 18 + (kk l : Int) := IntWalk.i64_in _ (by omega)
  have k2 : IntKind.i64.wrap (20 + (kk l : Int)) = 20 + (kk l : Int) := IntWalk.i64_in _ (by omega)
  have k3 : (20 : Int) + (kk l : Int) ≤ l.length := by omega
  have k4 : (20 : Int) + (kk l : Int) ≤ c0 := by omega
  have k5 : (18 : Int) + (kk l : Int) ≤ c0 := by omega
  have k6 : (0 : Int) ≤ (kk l : Int) := by omega
  have b1 : (8 : Int) ≤ c0 := by omega
  have b2 : (16 : Int) ≤ c0 := by omega
  have b4 : (18 : Int) ≤ 18 + (kk l : Int) := by omega
  have b7 : (l.length : Int) ≤ c0 := by omega
  have b8 : (0 : Int) ≤ 20 + (kk l : Int) := by omega
  have b9 : (0 : Int) ≤ 18 + (kk l : Int) := by omega
  have t18 : (18 + (kk l : Int)).toNat = 18 + kk l := by omega
  have t20 : (20 + (kk l : Int)).toNat = 20 + kk l := by omega
  have d1 : ¬ c0 = 0 := by omega
  have d2 : ¬ c0 = 8 := by omega
  have d3 : ¬ c0 = 18 := by omega
  have H8a := Lib.hid (show BytesAt W0 (.slice (some ⟨b, off, none⟩) 8 c0) (l.take 8) from cut HH.out (p := 0) (n := 8) (by omega) c0)
  have H8b := Lib.hid (cut HH.out (p := 8) (n := 8) (by omega) (c0 - 8))
  have L8a := Lib.hid (show (l.take 8).length ≤ 8 by rw [List.length_take]; omega)
  have L8b := Lib.hid (show ((l.drop 8).take 8).length ≤ 8 by rw [List.length_take]; omega)
  go_region_held3 (fun X => Below W0.heap.size W0 X) (first | assumption | exact (Below.refl _ _).drew | exact ((Below.refl _ _).alloc (Nat.le_refl _) _).drew | exact ((Below.refl _ _).alloc (Nat.le_refl _) _))
    (first
      | (go_at_call 23; (with_reducible show Calls _ 23 #[Value.slice (some ⟨b, off, none⟩) 8 c0] _ _); refine (refGet_any (l.take 8) (some ⟨b, off, none⟩) 8 c0 _ (H8a.out.below (by assumption)) L8a.out).mono ?_; rintro e w' ⟨rfl, rfl⟩)
      | (go_at_call 23; (with_reducible show Calls _ 23 #[Value.slice (some ⟨b, off + 8, none⟩) 8 (c0 - 8)] _ _); refine (refGet_any ((l.drop 8).take 8) (some ⟨b, off + 8, none⟩) 8 (c0 - 8) _ (H8b.out.below (by assumption)) L8b.out).mono ?_; rintro e w' ⟨rfl, rfl⟩))
  all_goals
    clear H8a H8b L8a L8b
    have BF := Lib.hid (((Below.refl W0.heap.size W0).alloc (Nat.le_refl _) (.cells #[.slice (some ⟨b, off + 18, none⟩) (kk l) (c0 - 18), .slice (some ⟨b, off', none⟩) (l.length - (20 + kk l)) (c0 - (20 + kk l)), .int .u64 (vl (l.take 8) : Nat), .int .u64 (vl ((l.drop 8).take 8) : Nat)] 25)).drew)
    have RF := Lib.hid (show (World.drew (W0.alloc (.cells #[.slice (some ⟨b, off + 18, none⟩) (kk l) (c0 - 18), .slice (some ⟨b, off', none⟩) (l.length - (20 + kk l)) (c0 - (20 + kk l)), .int .u64 (vl (l.take 8) : Nat), .int .u64 (vl ((l.drop 8).take 8) : Nat)] 25))).heap[W0.heap.size]? = some (.cells #[.slice (some ⟨b, off + 18, none⟩) (kk l) (c0 - 18), .slice (some ⟨b, off', none⟩) (l.length - (20 + kk l)) (c0 - (20 + kk l)), .int .u64 (vl (l.take 8) : Nat), .int .u64 (vl ((l.drop 8).take 8) : Nat)] 25) from heap_alloc_new W0 _)
    generalize World.drew (W0.alloc (.cells #[.slice (some ⟨b, off + 18, none⟩) (kk l) (c0 - 18), .slice (some ⟨b, off', none⟩) (l.length - (20 + kk l)) (c0 - (20 + kk l)), .int .u64 (vl (l.take 8) : Nat), .int .u64 (vl ((l.drop 8).take 8) : Nat)] 25)) = W1 at BF RF ⊢
    have RFd := Lib.hid (show W1.drew.heap[W0.heap.size]? = some (.cells #[.slice (some ⟨b, off + 18, none⟩) (kk l) (c0 - 18), .slice (some ⟨b, off', none⟩) (l.length - (20 + kk l)) (c0 - (20 + kk l)), .int .u64 (vl (l.take 8) : Nat), .int .u64 (vl ((l.drop 8).take 8) : Nat)] 25) from RF.out)
    have RT := Lib.hid ((BF.out.block _ EZ.out).trans ET.out)
    have HX := Lib.hid (cut (HH.out.below BF.out) (p := 18 + kk l) (n := 2) (by omega) (c0 - (18 + kk l)))
    have LX := Lib.hid (show ((l.drop (18 + kk l)).take 2).length ≤ 8 by rw [List.length_take]; omega)
    have XX := Lib.hid (xx_eq hs2)
    have BW := Lib.hid (HB.out.trans (BF.out.mono HB.out.size))
    have hF : W0.heap.size < W1.heap.size := (Array.getElem?_eq_some_iff.1 RF.out).1
    have hxl := xx_lt HH.out.1 hs2
    clear HH HC ET BF
    have t2 : 20 + kk l - (18 + kk l) = 2 := by omega
    have hne : W0.heap.size ≠ w.heap.size := by have := EZ.out; omega
    have d4 : ¬ c0 = 18 + kk l := by omega
    have t28 : IntKind.i64.wrap (xx l : Int) = xx l := IntWalk.i64_in _ (by omega)
    go_wp2
    refine wp_region_held_drew (S := (fun X => X.cell? ⟨W0.heap.size, 0, none⟩ = some (.slice (some ⟨b, off + 18, none⟩) (kk l) (c0 - 18)) ∧ X.cell? ⟨W0.heap.size, 1, none⟩ = some (.slice (some ⟨b, off', none⟩) (l.length - (20 + kk l)) (c0 - (20 + kk l))) ∧ X.cell? ⟨W0.heap.size, 2, none⟩ = some (.int .u64 (vl (l.take 8) : Nat)) ∧ X.cell? ⟨W0.heap.size, 3, none⟩ = some (.int .u64 (vl ((l.drop 8).take 8) : Nat)))) (by kernel_rfl) ?_ (fun hHeld0 => ?_)
    · (try dsimp only) <;> (with_reducible first | exact row4 RFd.out | exact row4 RM.out | exact row4 ((set4o hne).trans RM.out))
    refine wpAnyH_take (i := 0) (oi := { dst := some 35, op := Op.load 25 (Operand.tmp 5), type := 25, pos := "ref.go:61", after := #[], guard := none }) (v := ?_) rfl (by kernel_rfl) (by kernel_rfl) (by kernel_rfl) (fun _ _ _ h => h) (Or.inl ⟨by rfl, ?_⟩) (by assumption) ?_
    rotate_left
    · intro wq hSw; (try dsimp only at hSw); (first | (go_simp; done) | (go_simp; with_reducible rfl))
    try simp only [Act.put, List.setIfInBounds_toArray, List.set_cons_zero, List.set_cons_succ]
    refine wpAnyH_take (i := 1) (oi := { dst := some 36, op := Op.load 25 (Operand.tmp 5), type := 25, pos := "ref.go:61", after := #[], guard := none }) (v := ?_) rfl (by kernel_rfl) (by kernel_rfl) (by kernel_rfl) (fun _ _ _ h => h) (Or.inl ⟨by rfl, ?_⟩) (by assumption) ?_
    rotate_left
    · intro wq hSw; (try dsimp only at hSw); (first | (go_simp; done) | (go_simp; with_reducible rfl))
    try simp only [Act.put, List.setIfInBounds_toArray, List.set_cons_zero, List.set_cons_succ]
    refine wpAnyH_ready (rs := [2]) (by kernel_rfl) (by simp) ?_
    refine AllReadyH.cons (o := { dst := some 37, op := Op.call { callee := Callee.value (Operand.func 7), args := #[Operand.tmp 36], argTypes := #[25] }, type := 4, pos := "ref.go:61", after := #[{ on := 1, ground := Ground.data }], guard := none }) rfl (fun K hK => ?_) AllReadyH.nil
    go_simp
    (first
          | (go_at_call 7; refine (refMay_any _ _ _ _ _ _ _ _ _).mono ?_; rw [HM.out]; rintro e w8 ⟨rfl, hb8⟩; have RM := Lib.hid ((hb8.block _ hF).trans RF.out); have B8 := Lib.hid ((Below.refl W1.heap.size W1).drew.trans hb8); have eT := (hb8.block _ (Nat.lt_trans EZ.out hF)).trans RT.out; obtain ⟨t0, t1, t2', t3⟩ := row4 eT; obtain ⟨u0, u1, u2, u3⟩ := row4f eT; have RT8 := Lib.hid eT; clear hb8 eT)
          | (go_at_call 23; refine (refGet_any ((l.drop (18 + kk l)).take 2) (some ⟨b, off + (18 + kk l), none⟩) 2 (c0 - (18 + kk l)) w8 (HX.out.below B8.out) LX.out).mono ?_; rw [XX.out]; rintro e w9 ⟨rfl, rfl⟩))
    go_wp2_with fail
    refine hK.out _ _ ?_ (fun hHeld1 => ?_)
    · (try dsimp only) <;> (with_reducible first | exact row4 RFd.out | exact row4 RM.out | exact row4 ((set4o hne).trans RM.out))
    clear hK K
    try simp only [Act.put, List.setIfInBounds_toArray, List.set_cons_zero, List.set_cons_succ]
    clear hHeld0
    refine wpAnyH_take (i := 3) (oi := { dst := some 38, op := Op.move (Operand.tmp 37), type := 4, pos := "ref.go:61", after := #[{ on := 2, ground := Ground.data }, { on := 2, ground := Ground.chain }], guard := none }) (v := ?_) rfl (by kernel_rfl) (by kernel_rfl) (by kernel_rfl) (fun _ _ _ h => h) (Or.inl ⟨by rfl, ?_⟩) (by assumption) ?_
    rotate_left
    · intro wq hSw; (try dsimp only at hSw); (first | (go_simp; done) | (go_simp; with_reducible rfl))
    try simp only [Act.put, List.setIfInBounds_toArray, List.set_cons_zero, List.set_cons_succ]
    refine wpAnyH_take (i := 4) (oi := { dst := some 39, op := Op.move (Operand.tmp 0), type := 22, pos := "ref.go:61", after := #[{ on := 3, ground := Ground.guard }], guard := some (3, true) }) (v := undef) rfl (by kernel_rfl) (by kernel_rfl) (by kernel_rfl) (fun _ _ _ h => h) (Or.inr ⟨by rfl, rfl⟩) (by assumption) ?_
    try simp only [Act.put, List.setIfInBounds_toArray, List.set_cons_zero, List.set_cons_succ]
    refine wpAnyH_take (i := 5) (oi := { dst := some 40, op := Op.move (Operand.tmp 4), type := 3, pos := "ref.go:61", after := #[{ on := 3, ground := Ground.guard }], guard := some (3, true) }) (v := undef) rfl (by kernel_rfl) (by kernel_rfl) (by kernel_rfl) (fun _ _ _ h => h) (Or.inr ⟨by rfl, rfl⟩) (by assumption) ?_
    try simp only [Act.put, List.setIfInBounds_toArray, List.set_cons_zero, List.set_cons_succ]
    refine wpAnyH_take (i := 6) (oi := { dst := some 41, op := Op.binOp BinOp.add 3 (Operand.const (Value.int IntKind.i64 18)) (Operand.tmp 40) 3, type := 3, pos := "ref.go:61", after := #[{ on := 5, ground := Ground.data }, { on := 3, ground := Ground.guard }], guard := some (3, true) }) (v := undef) rfl (by kernel_rfl) (by kernel_rfl) (by kernel_rfl) (fun _ _ _ h => h) (Or.inr ⟨by rfl, rfl⟩) (by assumption) ?_
    try simp only [Act.put, List.setIfInBounds_toArray, List.set_cons_zero, List.set_cons_succ]
    refine wpAnyH_take (i := 7) (oi := { dst := some 42, op := Op.move (Operand.tmp 4), type := 3, pos := "ref.go:61", after := #[{ on := 3, ground := Ground.guard }], guard := some (3, true) }) (v := undef) rfl (by kernel_rfl) (by kernel_rfl) (by kernel_rfl) (fun _ _ _ h => h) (Or.inr ⟨by rfl, rfl⟩) (by assumption) ?_
    try simp only [Act.put, List.setIfInBounds_toArray, List.set_cons_zero, List.set_cons_succ]
    refine wpAnyH_take (i := 8) (oi := { dst := some 43, op := Op.binOp BinOp.add 3 (Operand.const (Value.int IntKind.i64 20)) (Operand.tmp 42) 3, type := 3, pos := "ref.go:61", after := #[{ on := 7, ground := Ground.data }, { on := 3, ground := Ground.guard }], guard := some (3, true) }) (v := undef) rfl (by kernel_rfl) (by kernel_rfl) (by kernel_rfl) (fun _ _ _ h => h) (Or.inr ⟨by rfl, rfl⟩) (by assumption) ?_
    try simp only [Act.put, List.setIfInBounds_toArray, List.set_cons_zero, List.set_cons_succ]
    refine wpAnyH_take (i := 9) (oi := { dst := some 44, op := Op.slice 22 (Operand.tmp 39) (some (Operand.tmp 41)) (some (Operand.tmp 43)) none, type := 22, pos := "ref.go:61", after := #[{ on := 4, ground := Ground.data }, { on := 6, ground := Ground.data }, { on := 8, ground := Ground.data }, { on := 3, ground := Ground.guard }], guard := some (3, true) }) (v := undef) rfl (by kernel_rfl) (by kernel_rfl) (by kernel_rfl) (fun _ _ _ h => h) (Or.inr ⟨by rfl, rfl⟩) (by assumption) ?_
    try simp only [Act.put, List.setIfInBounds_toArray, List.set_cons_zero, List.set_cons_succ]
    refine wpAnyH_take (i := 12) (oi := { dst := some 47, op := Op.fieldAddr 25 (Operand.tmp 5) 1, type := 0, pos := "ref.go:61", after := #[{ on := 3, ground := Ground.guard }], guard := some (3, true) }) (v := undef) rfl (by kernel_rfl) (by kernel_rfl) (by kernel_rfl) (fun _ _ _ h => h) (Or.inr ⟨by rfl, rfl⟩) (by assumption) ?_
    try simp only [Act.put, List.setIfInBounds_toArray, List.set_cons_zero, List.set_cons_succ]
    refine wpAnyH_take (i := 13) (oi := { dst := some 48, op := Op.load 22 (Operand.tmp 47), type := 22, pos := "ref.go:61", after := #[{ on := 12, ground := Ground.data }, { on := 3, ground := Ground.guard }], guard := some (3, true) }) (v := undef) rfl (by kernel_rfl) (by kernel_rfl) (by kernel_rfl) (fun _ _ _ h => h) (Or.inr ⟨by rfl, rfl⟩) (by assumption) ?_
    try simp only [Act.put, List.setIfInBounds_toArray, List.set_cons_zero, List.set_cons_succ]
    refine wpAnyH_take (i := 14) (oi := { dst := some 49, op := Op.call { callee := Callee.builtin Builtin.len, args := #[Operand.tmp 48], argTypes := #[22] }, type := 3, pos := "ref.go:61", after := #[{ on := 13, ground := Ground.data }, { on := 3, ground := Ground.guard }], guard := some (3, true) }) (v := undef) rfl (by kernel_rfl) (by kernel_rfl) (by kernel_rfl) (fun _ _ _ h => h) (Or.inr ⟨by rfl, rfl⟩) (by assumption) ?_
    try simp only [Act.put, List.setIfInBounds_toArray, List.set_cons_zero, List.set_cons_succ]
    refine wpAnyH_ready (rs := [10]) (by kernel_rfl) (by simp) ?_
    refine AllReadyH.cons (o := { dst := some 45, op := Op.call { callee := Callee.value (Operand.func 23), args := #[Operand.tmp 44], argTypes := #[22] }, type := 23, pos := "ref.go:61", after := #[{ on := 9, ground := Ground.data }, { on := 3, ground := Ground.chain }, { on := 3, ground := Ground.guard }], guard := some (3, true) }) rfl (fun K hK => ?_) AllReadyH.nil
    go_simp
    refine hK.out _ _ ?_ (fun hHeld2 => ?_)
    · (try dsimp only) <;> (with_reducible first | exact row4 RFd.out | exact row4 RM.out | exact row4 ((set4o hne).trans RM.out))
    clear hK K
    try simp only [Act.put, List.setIfInBounds_toArray, List.set_cons_zero, List.set_cons_succ]
    clear hHeld1
    refine wpAnyH_take (i := 11) (oi := { dst := some 46, op := Op.convert 23 3 (Operand.tmp 45), type := 3, pos := "ref.go:61", after := #[{ on := 10, ground := Ground.data }, { on := 3, ground := Ground.guard }, { on := 17, ground := Ground.gcOnly Departure.lateStores }], guard := some (3, true) }) (v := undef) rfl (by kernel_rfl) (by kernel_rfl) (by kernel_rfl) (fun _ _ _ h => h) (Or.inr ⟨by rfl, rfl⟩) (by assumption) ?_
    try simp only [Act.put, List.setIfInBounds_toArray, List.set_cons_zero, List.set_cons_succ]
    refine wpAnyH_take (i := 15) (oi := { dst := some 50, op := Op.binOp BinOp.eql 3 (Operand.tmp 46) (Operand.tmp 49) 3, type := 4, pos := "ref.go:61", after := #[{ on := 11, ground := Ground.data }, { on := 14, ground := Ground.data }, { on := 3, ground := Ground.guard }, { on := 17, ground := Ground.gcOnly Departure.lateStores }], guard := some (3, true) }) (v := undef) rfl (by kernel_rfl) (by kernel_rfl) (by kernel_rfl) (fun _ _ _ h => h) (Or.inr ⟨by rfl, rfl⟩) (by assumption) ?_
    try simp only [Act.put, List.setIfInBounds_toArray, List.set_cons_zero, List.set_cons_succ]
    refine wpAnyH_take (i := 16) (oi := { dst := some 51, op := Op.pick (Operand.tmp 38) (Operand.tmp 50) (Operand.const (Value.bool false)), type := 4, pos := "ref.go:61", after := #[{ on := 3, ground := Ground.data }, { on := 15, ground := Ground.data }, { on := 17, ground := Ground.gcOnly Departure.lateStores }], guard := none }) (v := ?_) rfl (by kernel_rfl) (by kernel_rfl) (by kernel_rfl) (fun _ _ _ h => h) (Or.inl ⟨by rfl, ?_⟩) (by assumption) ?_
    rotate_left
    · intro wq hSw; (try dsimp only at hSw); (first | (go_simp; done) | (go_simp; with_reducible rfl))
    try simp only [Act.put, List.setIfInBounds_toArray, List.set_cons_zero, List.set_cons_succ]
    refine wpAnyH_ready (rs := [17]) (by kernel_rfl) (by simp) ?_
    refine AllReadyH.cons (o := { dst := none, op := Op.store 25 (Operand.tmp 2) (Operand.tmp 35), type := 0, pos := "ref.go:61", after := #[{ on := 0, ground := Ground.data }, { on := 10, ground := Ground.chain }, { on := 0, ground := Ground.phase }, { on := 1, ground := Ground.textOnly Departure.lateStores }, { on := 2, ground := Ground.textOnly Departure.lateStoresUnsure }, { on := 3, ground := Ground.textOnly Departure.lateStores }, { on := 4, ground := Ground.textOnly Departure.lateStores }, { on := 5, ground := Ground.textOnly Departure.lateStores }, { on := 6, ground := Ground.textOnly Departure.lateStores }, { on := 7, ground := Ground.textOnly Departure.lateStores }, { on := 8, ground := Ground.textOnly Departure.lateStores }, { on := 9, ground := Ground.textOnly Departure.lateStoresUnsure }, { on := 10, ground := Ground.textOnly Departure.lateStoresUnsure }, { on := 11, ground := Ground.textOnly Departure.lateStores }, { on := 12, ground := Ground.textOnly Departure.lateStores }, { on := 13, ground := Ground.textOnly Departure.lateStores }, { on := 14, ground := Ground.textOnly Departure.lateStoresUnsure }, { on := 15, ground := Ground.textOnly Departure.lateStores }, { on := 16, ground := Ground.textOnly Departure.lateStores }], guard := none }) rfl (fun K hK => ?_) AllReadyH.nil
    go_simp
    refine hK.out _ _ ?_ (fun hHeld3 => ?_)
    · (try dsimp only) <;> (with_reducible first | exact row4 RFd.out | exact row4 RM.out | exact row4 ((set4o hne).trans RM.out))
    clear hK K
    try simp only [Act.put, List.setIfInBounds_toArray, List.set_cons_zero, List.set_cons_succ]
    clear hHeld2
    refine wpAnyH_take (i := 18) (oi := { dst := some 3, op := Op.assign (Operand.tmp 51), type := 4, pos := "ref.go:61", after := #[{ on := 16, ground := Ground.data }, { on := 17, ground := Ground.chain }, { on := 0, ground := Ground.phase }, { on := 1, ground := Ground.phase }, { on := 2, ground := Ground.phase }, { on := 3, ground := Ground.phase }, { on := 4, ground := Ground.phase }, { on := 5, ground := Ground.phase }, { on := 6, ground := Ground.phase }, { on := 7, ground := Ground.phase }, { on := 8, ground := Ground.phase }, { on := 9, ground := Ground.phase }, { on := 10, ground := Ground.phase }, { on := 11, ground := Ground.phase }, { on := 12, ground := Ground.phase }, { on := 13, ground := Ground.phase }, { on := 14, ground := Ground.phase }, { on := 15, ground := Ground.phase }, { on := 16, ground := Ground.phase }, { on := 17, ground := Ground.phase }], guard := none }) (v := ?_) rfl (by kernel_rfl) (by kernel_rfl) (by kernel_rfl) (fun _ _ _ h => h) (Or.inl ⟨by rfl, ?_⟩) (by assumption) ?_
    rotate_left
    · intro wq hSw; (try dsimp only at hSw); (first | (go_simp; done) | (go_simp; with_reducible rfl))
    try simp only [Act.put, List.setIfInBounds_toArray, List.set_cons_zero, List.set_cons_succ]
    refine wpAnyH_done (by kernel_rfl) ?_ _
  all_goals
    go_wp2
    have hfin := below4 (x := .slice (some ⟨b, off + 18, none⟩) (kk l) (c0 - 18)) (y := .slice (some ⟨b, off', none⟩) (l.length - (20 + kk l)) (c0 - (20 + kk l))) (z := .int .u64 (vl (l.take 8) : Nat)) (u := .int .u64 (vl ((l.drop 8).take 8) : Nat)) (BW.out.trans (B8.out.mono BW.out.size)) (Nat.le_refl _)
    exact bodyPost_ret (ret_cell rfl _ _ _ _ _ _ _ _ rfl (row4s RT8.out) rfl) rfl (RefPost.no (ok_not hs2 HM.out) hfin)
end Go.Proofs.Hb
