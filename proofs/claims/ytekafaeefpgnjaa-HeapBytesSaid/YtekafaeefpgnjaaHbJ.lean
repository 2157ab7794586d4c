/- The reference's version of bytes. -/
import Derived.Test.YtekafaeefpgnjaaHbI
namespace Go.Proofs.Hb
open Go Go.RowKit Go.Hb Go.Crc
/-- A part of bytes. -/
theorem cut {W : World} {b off c : Nat} {l : List Nat} (h : BytesAt W (.slice (some ⟨b, off, none⟩) l.length c) l) {p n : Nat} (hp : p + n ≤ l.length) (k : Nat) : BytesAt W (.slice (some ⟨b, off + p, none⟩) n k) ((l.drop p).take n) := by
  obtain ⟨hl, ⟨h0, -⟩ | ⟨b', off', c', h0, hc⟩⟩ := h
  · cases h0
  · cases h0
    refine ⟨fun x hx => hl x (List.mem_of_mem_drop (List.mem_of_mem_take hx)), .inr ⟨b, off + p, k, ?_, fun j hj => ?_⟩⟩
    · rw [List.length_take, List.length_drop, Nat.min_eq_left (by omega)]
    · rw [List.length_take, List.length_drop] at hj
      rw [Nat.add_assoc, hc (p + j) (by omega), List.getElem_take, List.getElem_drop]
theorem kk_eq {l : List Nat} (h : 18 ≤ l.length) : vl ((l.drop 16).take 2) = kk l := by
  have e : (l.drop 16).take 2 = [l[16], l[17]] := by
    rw [List.drop_eq_getElem_cons (show 16 < l.length by omega), List.drop_eq_getElem_cons (show 17 < l.length by omega)]
    rfl
  rw [e, vl2]
  unfold kk
  rw [List.getD_eq_getElem?_getD, List.getD_eq_getElem?_getD, List.getElem?_eq_getElem (show 16 < l.length by omega), List.getElem?_eq_getElem (show 17 < l.length by omega)]
  rfl
theorem kk_lt {l : List Nat} (hl : ∀ x ∈ l, x < 256) (h : 18 ≤ l.length) : kk l < 65536 := by
  rw [← kk_eq h]
  have := vl_lt ((l.drop 16).take 2) (fun x hx => hl x (List.mem_of_mem_drop (List.mem_of_mem_take hx)))
  have h2 : ((l.drop 16).take 2).length = 2 := by rw [List.length_take, List.length_drop]; omega
  rw [h2] at this
  exact this
theorem xx_eq {l : List Nat} (h : 20 + kk l ≤ l.length) : vl ((l.drop (18 + kk l)).take 2) = xx l := by
  have h1 : 18 + kk l < l.length := by omega
  have h2 : 19 + kk l < l.length := by omega
  have e : (l.drop (18 + kk l)).take 2 = [l[18 + kk l], l[19 + kk l]] := by
    rw [List.drop_eq_getElem_cons h1, List.drop_eq_getElem_cons (show 18 + kk l + 1 < l.length by omega)]
    have : ∀ (i j : Nat) (hi : i < l.length) (hj : j < l.length), i = j → l[i] = l[j] := fun i j _ _ e => by subst e; rfl
    rw [this (18 + kk l + 1) (19 + kk l) (by omega) h2 (by omega)]
    rfl
  rw [e, vl2]
  unfold xx
  rw [List.getD_eq_getElem?_getD, List.getD_eq_getElem?_getD, List.getElem?_eq_getElem h1, List.getElem?_eq_getElem h2]
  rfl
theorem xx_lt {l : List Nat} (hl : ∀ x ∈ l, x < 256) (h : 20 + kk l ≤ l.length) : xx l < 65536 := by
  rw [← xx_eq h]
  have := vl_lt ((l.drop (18 + kk l)).take 2) (fun x hx => hl x (List.mem_of_mem_drop (List.mem_of_mem_take hx)))
  have h2 : ((l.drop (18 + kk l)).take 2).length = 2 := by rw [List.length_take, List.length_drop]; omega
  rw [h2] at this
  exact this
def RefPost (l : List Nat) (w : World) (e : Ending) (w' : World) : Prop := (∃ A1 n1 c1 A2 n2 c2, ∃ a b : Nat, e = .returned (.tuple #[.agg #[.slice A1 n1 c1, .slice A2 n2 c2, .int .u64 a, .int .u64 b], .bool (ok l)]) ∧ (ok l = true → a = aa l ∧ b = bb l ∧ BytesAt w' (.slice A1 n1 c1) (key l) ∧ BytesAt w' (.slice A2 n2 c2) (valu l))) ∧ Below w.heap.size w w'
theorem RefPost.no {l : List Nat} {w w' : World} {A1 A2 : Option Addr} {n1 c1 n2 c2 : Nat} {a b : Nat} (h : ok l = false) (hb : Below w.heap.size w w') : RefPost l w (.returned (.tuple #[.agg #[.slice A1 n1 c1, .slice A2 n2 c2, .int .u64 a, .int .u64 b], .bool false])) w' := by
  unfold RefPost
  rw [h]
  exact ⟨⟨_, _, _, _, _, _, _, _, rfl, fun e => by cases e⟩, hb⟩
theorem RefPost.yes {l : List Nat} {w w' : World} {A1 A2 : Option Addr} {n1 c1 n2 c2 : Nat} (h : ok l = true) (h1 : BytesAt w' (.slice A1 n1 c1) (key l)) (h2 : BytesAt w' (.slice A2 n2 c2) (valu l)) (hb : Below w.heap.size w w') : RefPost l w (.returned (.tuple #[.agg #[.slice A1 n1 c1, .slice A2 n2 c2, .int .u64 (aa l : Nat), .int .u64 (bb l : Nat)], .bool true])) w' := by
  unfold RefPost
  rw [h]
  exact ⟨⟨_, _, _, _, _, _, _, _, rfl, fun _ => ⟨rfl, rfl, h1, h2⟩⟩, hb⟩
theorem RefPost.any {l : List Nat} {w w' : World} {A1 A2 : Option Addr} {n1 c1 n2 c2 : Nat} {B : Bool} (hB : B = ok l) (h1 : BytesAt w' (.slice A1 n1 c1) (key l)) (h2 : BytesAt w' (.slice A2 n2 c2) (valu l)) (hb : Below w.heap.size w w') : RefPost l w (.returned (.tuple #[.agg #[.slice A1 n1 c1, .slice A2 n2 c2, .int .u64 (aa l : Nat), .int .u64 (bb l : Nat)], .bool B])) w' := by
  subst hB
  exact ⟨⟨_, _, _, _, _, _, _, _, rfl, fun _ => ⟨rfl, rfl, h1, h2⟩⟩, hb⟩
theorem ok_eq {l : List Nat} (hs2 : 20 + kk l ≤ l.length) (hm : may (kk l) (l.length - (20 + kk l)) (aa l) (bb l) = true) : ((xx l : Int) == ((l.length - (20 + kk l) : Nat) : Int)) = ok l := by
  by_cases e : xx l = l.length - (20 + kk l)
  · unfold ok
    rw [e, hm, decide_eq_true (show 20 ≤ l.length by omega), decide_eq_true hs2, decide_eq_true (show 20 + kk l + (l.length - (20 + kk l)) = l.length by omega)]
    simp
  · unfold ok
    rw [decide_eq_false (show ¬ (20 + kk l + xx l = l.length) by omega)]
    simp
    omega
set_option maxRecDepth 100000 in
theorem refOf_short (l : List Nat) (A0 : Option Addr) (n c0 : Nat) (w : World) (h : BytesAt w (.slice A0 n c0) l) (hs : l.length < 20) : Calls Try.prog 11 #[.slice A0 n c0] w fun e w' => RefPost l w e w' := by
  obtain rfl := bytes_len h
  have hok : ok l = false := by unfold ok; rw [decide_eq_false (show ¬ (20 ≤ l.length) by omega)]; simp
  have HO := Lib.hid hok
  clear hok h
  have eT := heap_alloc_new w (.cells #[.slice none 0 0, .slice none 0 0, .int .u64 0, .int .u64 0] 25)
  have HB := Lib.hid ((Below.refl w.heap.size w).alloc (Nat.le_refl _) (.cells #[.slice none 0 0, .slice none 0 0, .int .u64 0, .int .u64 0] 25))
  go_enter Try.func11, Try.ntmps11
  go_wp2
  exact bodyPost_ret (ret_cell rfl _ _ _ _ _ _ _ _ rfl eT rfl) rfl (RefPost.no (a := 0) (b := 0) HO.out HB.out)
set_option maxRecDepth 100000 in
theorem refOf_mid (l : List Nat) (b off c0 : Nat) (w : World) (h : BytesAt w (.slice (some ⟨b, off, none⟩) l.length c0) l) (hcap : l.length ≤ c0) (hs : 20 ≤ l.length) (hs2 : l.length < 20 + kk l) : Calls Try.prog 11 #[.slice (some ⟨b, off, none⟩) l.length c0] w fun e w' => RefPost l w e w' := by
  have hok : ok l = false := by unfold ok; rw [decide_eq_false (show ¬ (20 + kk l ≤ l.length) by omega)]; simp
  have HO := Lib.hid hok
  have hkk := kk_lt h.1 (by omega)
  have HB := Lib.hid ((Below.refl w.heap.size w).alloc (Nat.le_refl _) (.cells #[.slice none 0 0, .slice none 0 0, .int .u64 0, .int .u64 0] 25))
  have HC := Lib.hid (cut (h.below HB.out) (p := 16) (n := 2) (by omega) (c0 - 16))
  have HKK := Lib.hid (kk_eq (l := l) (by omega))
  clear hok h
  have eT := heap_alloc_new w (.cells #[.slice none 0 0, .slice none 0 0, .int .u64 0, .int .u64 0] 25)
  go_enter Try.func11, Try.ntmps11
  go_wp2_with (go_at_call 23; refine (refGet_any _ _ _ _ _ HC.out (by rw [List.length_take]; omega)).mono ?_; rw [HKK.out]; rintro e w' ⟨rfl, rfl⟩)
  exact bodyPost_ret (ret_cell rfl _ _ _ _ _ _ _ _ rfl eT rfl) rfl (RefPost.no (a := 0) (b := 0) HO.out HB.out)
set_option maxRecDepth 100000 in
set_option maxHeartbeats 4000000 in
theorem refOf_long (l : List Nat) (b off off' c0 : Nat) (w : World) (h : BytesAt w (.slice (some ⟨b, off, none⟩) l.length c0) l) (hif : (if c0 = 20 + kk l then (some ⟨b, off, none⟩ : Option Addr) else some ⟨b, off + (20 + kk l), none⟩) = some ⟨b, off', none⟩) (hv : BytesAt w (.slice (some ⟨b, off', none⟩) (l.length - (20 + kk l)) (c0 - (20 + kk l))) (valu l)) (hcap : l.length ≤ c0) (hs : 20 ≤ l.length) (hs2 : 20 + kk l ≤ l.length) (hl : l.length ≤ 1000) (hm : may (kk l) (l.length - (20 + kk l)) (vl (l.take 8)) (vl ((l.drop 8).take 8)) = true) : Calls Try.prog 11 #[.slice (some ⟨b, off, none⟩) l.length c0] w fun e w' => RefPost l w e w' := by
  have hkk := kk_lt h.1 (by omega)
  have HB := Lib.hid ((Below.refl w.heap.size w).alloc (Nat.le_refl _) (.cells #[.slice none 0 0, .slice none 0 0, .int .u64 0, .int .u64 0] 25))
  have HH := Lib.hid (h.below HB.out)
  have HC := Lib.hid (cut HH.out (p := 16) (n := 2) (by omega) (c0 - 16))
  have HKK := Lib.hid (kk_eq (l := l) (by omega))
  have HV := Lib.hid hv
  have HKy := Lib.hid (show BytesAt _ _ (key l) from cut h (p := 18) (n := kk l) (by omega) (c0 - 18))
  have HM := Lib.hid hm
  clear h hv hm
  have ET := Lib.hid (heap_alloc_new w (.cells #[.slice none 0 0, .slice none 0 0, .int .u64 0, .int .u64 0] 25))
  have EZ := Lib.hid (show w.heap.size < (w.alloc (.cells #[.slice none 0 0, .slice none 0 0, .int .u64 0, .int .u64 0] 25)).heap.size by simp)
  go_enter Try.func11, Try.ntmps11
  go_wp2_with (go_at_call 23; refine (refGet_any _ _ _ _ _ HC.out (by rw [List.length_take]; omega)).mono ?_; rw [HKK.out]; rintro e w' ⟨rfl, rfl⟩)
  generalize w.alloc (.cells #[.slice none 0 0, .slice none 0 0, .int .u64 0, .int .u64 0] 25) = W0 at HB HH HC ET EZ ⊢
  have k1 : IntKind.i64.wrap (18 + (kk l : Int)) = 18 + (kk l : Int) := IntWalk.i64_in _ (by omega)
  have k2 : IntKind.i64.wrap (20 + (kk l : Int)) = 20 + (kk l : Int) := IntWalk.i64_in _ (by omega)
  have k3 : (20 : Int) + (kk l : Int) ≤ l.length := by omega
  have k4 : (20 : Int) + (kk l : Int) ≤ c0 := by omega
  have k5 : (18 : Int) + (kk l : Int) ≤ c0 := by omega
  have k6 : (0 : Int) ≤ (kk l : Int) := by omega
  have b1 : (8 : Int) ≤ c0 := by omega
  have b2 : (16 : Int) ≤ c0 := by omega
  have b4 : (18 : Int) ≤ 18 + (kk l : Int) := by omega
  have b7 : (l.length : Int) ≤ c0 := by omega
  have b8 : (0 : Int) ≤ 20 + (kk l : Int) := by omega
  have b9 : (0 : Int) ≤ 18 + (kk l : Int) := by omega
  have t18 : (18 + (kk l : Int)).toNat = 18 + kk l := by omega
  have t20 : (20 + (kk l : Int)).toNat = 20 + kk l := by omega
  have d1 : ¬ c0 = 0 := by omega
  have d2 : ¬ c0 = 8 := by omega
  have d3 : ¬ c0 = 18 := by omega
  have H8a := Lib.hid (show BytesAt W0 (.slice (some ⟨b, off, none⟩) 8 c0) (l.take 8) from cut HH.out (p := 0) (n := 8) (by omega) c0)
  have H8b := Lib.hid (cut HH.out (p := 8) (n := 8) (by omega) (c0 - 8))
  have L8a := Lib.hid (show (l.take 8).length ≤ 8 by rw [List.length_take]; omega)
  have L8b := Lib.hid (show ((l.drop 8).take 8).length ≤ 8 by rw [List.length_take]; omega)
  go_region_held3 (fun X => Below W0.heap.size W0 X) (first | assumption | exact (Below.refl _ _).drew | exact ((Below.refl _ _).alloc (Nat.le_refl _) _).drew | exact ((Below.refl _ _).alloc (Nat.le_refl _) _))
    (first
      | (go_at_call 23; (with_reducible show Calls _ 23 #[Value.slice (some ⟨b, off, none⟩) 8 c0] _ _); refine (refGet_any (l.take 8) (some ⟨b, off, none⟩) 8 c0 _ (H8a.out.below (by assumption)) L8a.out).mono ?_; rintro e w' ⟨rfl, rfl⟩)
      | (go_at_call 23; (with_reducible show Calls _ 23 #[Value.slice (some ⟨b, off + 8, none⟩) 8 (c0 - 8)] _ _); refine (refGet_any ((l.drop 8).take 8) (some ⟨b, off + 8, none⟩) 8 (c0 - 8) _ (H8b.out.below (by assumption)) L8b.out).mono ?_; rintro e w' ⟨rfl, rfl⟩))
  all_goals
    clear H8a H8b L8a L8b
    have BF := Lib.hid (((Below.refl W0.heap.size W0).alloc (Nat.le_refl _) (.cells #[.slice (some ⟨b, off + 18, none⟩) (kk l) (c0 - 18), .slice (some ⟨b, off', none⟩) (l.length - (20 + kk l)) (c0 - (20 + kk l)), .int .u64 (vl (l.take 8) : Nat), .int .u64 (vl ((l.drop 8).take 8) : Nat)] 25)).drew)
    have RF := Lib.hid (show (World.drew (W0.alloc (.cells #[.slice (some ⟨b, off + 18, none⟩) (kk l) (c0 - 18), .slice (some ⟨b, off', none⟩) (l.length - (20 + kk l)) (c0 - (20 + kk l)), .int .u64 (vl (l.take 8) : Nat), .int .u64 (vl ((l.drop 8).take 8) : Nat)] 25))).heap[W0.heap.size]? = some (.cells #[.slice (some ⟨b, off + 18, none⟩) (kk l) (c0 - 18), .slice (some ⟨b, off', none⟩) (l.length - (20 + kk l)) (c0 - (20 + kk l)), .int .u64 (vl (l.take 8) : Nat), .int .u64 (vl ((l.drop 8).take 8) : Nat)] 25) from heap_alloc_new W0 _)
    generalize World.drew (W0.alloc (.cells #[.slice (some ⟨b, off + 18, none⟩) (kk l) (c0 - 18), .slice (some ⟨b, off', none⟩) (l.length - (20 + kk l)) (c0 - (20 + kk l)), .int .u64 (vl (l.take 8) : Nat), .int .u64 (vl ((l.drop 8).take 8) : Nat)] 25)) = W1 at BF RF ⊢
    have RFd := Lib.hid (show W1.drew.heap[W0.heap.size]? = some (.cells #[.slice (some ⟨b, off + 18, none⟩) (kk l) (c0 - 18), .slice (some ⟨b, off', none⟩) (l.length - (20 + kk l)) (c0 - (20 + kk l)), .int .u64 (vl (l.take 8) : Nat), .int .u64 (vl ((l.drop 8).take 8) : Nat)] 25) from RF.out)
    have RT := Lib.hid ((BF.out.block _ EZ.out).trans ET.out)
    have HX := Lib.hid (cut (HH.out.below BF.out) (p := 18 + kk l) (n := 2) (by omega) (c0 - (18 + kk l)))
    have LX := Lib.hid (show ((l.drop (18 + kk l)).take 2).length ≤ 8 by rw [List.length_take]; omega)
    have XX := Lib.hid (xx_eq hs2)
    have BW := Lib.hid (HB.out.trans (BF.out.mono HB.out.size))
    have hF : W0.heap.size < W1.heap.size := (Array.getElem?_eq_some_iff.1 RF.out).1
    have hxl := xx_lt HH.out.1 hs2
    clear HH HC ET BF
    have t2 : 20 + kk l - (18 + kk l) = 2 := by omega
    have hne : W0.heap.size ≠ w.heap.size := by have := EZ.out; omega
    have d4 : ¬ c0 = 18 + kk l := by omega
    have t28 : IntKind.i64.wrap (xx l : Int) = xx l := IntWalk.i64_in _ (by omega)
    go_wp2
    go_region_held3 (fun X => X.cell? ⟨W0.heap.size, 0, none⟩ = some (.slice (some ⟨b, off + 18, none⟩) (kk l) (c0 - 18)) ∧ X.cell? ⟨W0.heap.size, 1, none⟩ = some (.slice (some ⟨b, off', none⟩) (l.length - (20 + kk l)) (c0 - (20 + kk l))) ∧ X.cell? ⟨W0.heap.size, 2, none⟩ = some (.int .u64 (vl (l.take 8) : Nat)) ∧ X.cell? ⟨W0.heap.size, 3, none⟩ = some (.int .u64 (vl ((l.drop 8).take 8) : Nat))) (with_reducible first | exact row4 RFd.out | exact row4 RM.out | exact row4 ((set4o hne).trans RM.out))
      (first
        | (go_at_call 7; refine (refMay_any _ _ _ _ _ _ _ _ _).mono ?_; rw [HM.out]; rintro e w8 ⟨rfl, hb8⟩; have RM := Lib.hid ((hb8.block _ hF).trans RF.out); have B8 := Lib.hid ((Below.refl W1.heap.size W1).drew.trans hb8); have eT := (hb8.block _ (Nat.lt_trans EZ.out hF)).trans RT.out; obtain ⟨t0, t1, t2', t3⟩ := row4 eT; obtain ⟨u0, u1, u2, u3⟩ := row4f eT; have RT8 := Lib.hid eT; clear hb8 eT)
        | (go_at_call 23; refine (refGet_any ((l.drop (18 + kk l)).take 2) (some ⟨b, off + (18 + kk l), none⟩) 2 (c0 - (18 + kk l)) w8 (HX.out.below B8.out) LX.out).mono ?_; rw [XX.out]; rintro e w9 ⟨rfl, rfl⟩))
  all_goals
    go_wp2
    have hfin := below4 (x := .slice (some ⟨b, off + 18, none⟩) (kk l) (c0 - 18)) (y := .slice (some ⟨b, off', none⟩) (l.length - (20 + kk l)) (c0 - (20 + kk l))) (z := .int .u64 (vl (l.take 8) : Nat)) (u := .int .u64 (vl ((l.drop 8).take 8) : Nat)) (BW.out.trans (B8.out.mono BW.out.size)) (Nat.le_refl _)
    exact bodyPost_ret (ret_cell rfl _ _ _ _ _ _ _ _ rfl (row4s RT8.out) rfl) rfl (RefPost.any (ok_eq hs2 HM.out) (HKy.out.below hfin) (HV.out.below hfin) hfin)
end Go.Proofs.Hb
