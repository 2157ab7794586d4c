/- The law's walk: a version that may not be. -/
import Derived.Test.YtekafaeefpgnjaaHbL
import Derived.Test.YtekafaeefpgnjaaHbM
namespace Go.Proofs.Hb
open Go Go.RowKit Go.Hb Go.Crc
set_option maxRecDepth 100000 in
set_option maxHeartbeats 8000000 in
theorem law_ff (A1 A2 A3 : Option Addr) (n1 c1 n2 c2 n3 c3 a b : Nat) (k x l : List Nat) (w : World) (ha : a < 18446744073709551616) (hb : b < 18446744073709551616) (hk : BytesAt w (.slice A1 n1 c1) k) (hx : BytesAt w (.slice A2 n2 c2) x) (hl : BytesAt w (.slice A3 n3 c3) l) (hcap : n3 ≤ c3) (lk : k.length ≤ 100) (lx : x.length ≤ 300) (ll : l.length ≤ 500) (hm : may k.length x.length a b = false) (ho : ok l = false) :
    Calls Try.prog 3 #[.agg #[.slice A1 n1 c1, .slice A2 n2 c2, .int .u64 a, .int .u64 b], .slice A3 n3 c3] w fun e w' => e = .returned (.bool true) ∧ Below w.heap.size w w' := by
  obtain rfl := bytes_len hk
  obtain rfl := bytes_len hx
  obtain rfl := bytes_len hl
  have HK := Lib.hid hk
  have HX := Lib.hid hx
  have HL := Lib.hid hl
  have HM := Lib.hid hm
  have HO := Lib.hid ho
  clear hk hx hl ho
  have R0 := Lib.hid (heap_alloc_new w (.cells #[.slice A1 k.length c1, .slice A2 x.length c2, .int .u64 a, .int .u64 b] 25))
  have B0 := Lib.hid ((Below.refl w.heap.size w).alloc (Nat.le_refl _) (.cells #[.slice A1 k.length c1, .slice A2 x.length c2, .int .u64 a, .int .u64 b] 25))
  have Z0 := Lib.hid (show w.heap.size < (w.alloc (.cells #[.slice A1 k.length c1, .slice A2 x.length c2, .int .u64 a, .int .u64 b] 25)).heap.size by simp)
  go_enter Try.func3, Try.ntmps3
  go_wp2_with (go_at_call 5; refine (bytes_no _ _ _ _ _ _ _ _ _ HM.out).mono ?_; rintro e w1 ⟨rfl, h⟩; have R1 := Lib.hid ((h.block _ Z0.out).trans R0.out); have B1 := Lib.hid (B0.out.trans (h.mono B0.out.size)); have Z1 := Lib.hid (Nat.lt_of_lt_of_le Z0.out h.size); obtain ⟨p0, p1, p2, p3⟩ := row4 R1.out; clear h)
  have R1d := Lib.hid (show w1.drew.heap[w.heap.size]? = some (.cells #[.slice A1 k.length c1, .slice A2 x.length c2, .int .u64 a, .int .u64 b] 25) from R1.out)
  have B1d := Lib.hid B1.out.drew
  clear p0 p1 p2 p3
  go_region_held3 (fun X => X.cell? ⟨w.heap.size, 0, none⟩ = some (.slice A1 k.length c1) ∧ X.cell? ⟨w.heap.size, 1, none⟩ = some (.slice A2 x.length c2) ∧ X.cell? ⟨w.heap.size, 2, none⟩ = some (.int .u64 a) ∧ X.cell? ⟨w.heap.size, 3, none⟩ = some (.int .u64 b)) (with_reducible first | exact row4 R1d.out | exact row4 R2.out | exact row4 R3.out)
    (first
      | (go_at_call 6; refine (may_any _ _ _ _ _ _ _ _ w1.drew).mono ?_; rw [HM.out]; rintro e w2 ⟨rfl, h⟩; have R2 := Lib.hid ((h.block _ Z1.out).trans R1.out); have B2 := Lib.hid (B1d.out.trans (h.mono B1.out.size)); have Z2 := Lib.hid (Nat.lt_of_lt_of_le Z1.out h.size); have S2 := Lib.hid ((Below.refl w1.heap.size w1).drew.trans h); clear h)
      | (go_at_call 7; refine (refMay_any _ _ _ _ _ _ _ _ w2).mono ?_; rw [HM.out]; rintro e w3 ⟨rfl, h⟩; have R3 := Lib.hid ((h.block _ Z2.out).trans R2.out); have B3 := Lib.hid (B2.out.trans (h.mono B2.out.size)); have Z3 := Lib.hid (Nat.lt_of_lt_of_le Z2.out h.size); have S3 := Lib.hid (S2.out.trans (h.mono S2.out.size)); clear h))
  obtain ⟨p0, p1, p2, p3⟩ := row4 R3.out
  go_wp2_with (go_at_call 7; refine (refMay_any _ _ _ _ _ _ _ _ w3).mono ?_; rw [HM.out]; rintro e w4 ⟨rfl, h⟩; have S4 := Lib.hid (S3.out.trans (h.mono S3.out.size)); have R4 := Lib.hid ((h.block _ Z3.out).trans R3.out); have B4 := Lib.hid (B3.out.trans (h.mono B3.out.size)); have Z4 := Lib.hid (Nat.lt_of_lt_of_le Z3.out h.size); obtain ⟨p0, p1, p2, p3⟩ := row4 R4.out; clear h)
  refine (of_any' l _ _ _ w4 (HL.out.below B4.out) (by omega)).mono ?_
  rintro e w15 ⟨⟨v1, v2, ya, yb, E, rfl, eE, ea, eb, g1, g2⟩, h⟩
  obtain ⟨q1, m1, d1, rfl⟩ := shape g1
  obtain ⟨q2, m2, d2, rfl⟩ := shape g2
  rw [HO.out, if_neg (by simp)] at eE g1
  clear g2 ea eb
  subst eE
  obtain rfl := bytes_len g1
  have B15 := Lib.hid (B4.out.trans (h.mono B4.out.size))
  clear h
  try rw [List.length_nil]
  have B16 := Lib.hid (B15.out.alloc B15.out.size (.cells #[.slice q1 0 d1, .slice q2 m2 d2, .int .u64 ya, .int .u64 yb] 25))
  have R16 := Lib.hid (heap_alloc_new w15 (.cells #[.slice q1 0 d1, .slice q2 m2 d2, .int .u64 ya, .int .u64 yb] 25))
  have G16 := Lib.hid ((Below.refl w15.heap.size w15).alloc (Nat.le_refl _) (.cells #[.slice q1 0 d1, .slice q2 m2 d2, .int .u64 ya, .int .u64 yb] 25))
  have F16 := Lib.hid (show w15.heap.size < (w15.alloc (.cells #[.slice q1 0 d1, .slice q2 m2 d2, .int .u64 ya, .int .u64 yb] 25)).heap.size by simp)
  go_wp2_with fail
  refine (refOf_any l _ _ _ (w15.alloc (.cells #[.slice q1 0 d1, .slice q2 m2 d2, .int .u64 ya, .int .u64 yb] 25)) (HL.out.below B16.out) hcap (by omega)).mono ?_
  rintro e w17 hr
  unfold RefPost at hr
  rw [HO.out] at hr
  obtain ⟨⟨y1, z1, e1, y2, z2, e2, xa, xb, rfl, hyes⟩, h⟩ := hr
  clear hyes
  have R17 := Lib.hid ((h.block _ F16.out).trans R16.out)
  have F17 := Lib.hid (Nat.lt_of_lt_of_le F16.out h.size)
  have B17 := Lib.hid (B16.out.trans (h.mono B16.out.size))
  have R18 := Lib.hid ((heap_alloc_old w17 (.cells #[.slice y1 z1 e1, .slice y2 z2 e2, .int .u64 xa, .int .u64 xb] 25) (h := F17.out)).trans R17.out)
  have R19 := Lib.hid (heap_alloc_new w17 (.cells #[.slice y1 z1 e1, .slice y2 z2 e2, .int .u64 xa, .int .u64 xb] 25))
  have B18 := Lib.hid (B17.out.alloc B17.out.size (.cells #[.slice y1 z1 e1, .slice y2 z2 e2, .int .u64 xa, .int .u64 xb] 25))
  clear g1
  clear h
  obtain ⟨s0, s1', s2', s3'⟩ := row4 R18.out
  go_wp2_with (go_at_call 4; refine (known_any _).mono ?_; rintro e w19 ⟨rfl, h⟩)
  go_ret
  exact ⟨rfl, B18.out.trans (h.mono B18.out.size)⟩
set_option maxRecDepth 100000 in
set_option maxHeartbeats 8000000 in
theorem law_ft (A1 A2 A3 : Option Addr) (n1 c1 n2 c2 n3 c3 a b : Nat) (k x l : List Nat) (w : World) (ha : a < 18446744073709551616) (hb : b < 18446744073709551616) (hk : BytesAt w (.slice A1 n1 c1) k) (hx : BytesAt w (.slice A2 n2 c2) x) (hl : BytesAt w (.slice A3 n3 c3) l) (hcap : n3 ≤ c3) (lk : k.length ≤ 100) (lx : x.length ≤ 300) (ll : l.length ≤ 500) (hm : may k.length x.length a b = false) (ho : ok l = true) :
    Calls Try.prog 3 #[.agg #[.slice A1 n1 c1, .slice A2 n2 c2, .int .u64 a, .int .u64 b], .slice A3 n3 c3] w fun e w' => e = .returned (.bool true) ∧ Below w.heap.size w w' := by
  obtain rfl := bytes_len hk
  obtain rfl := bytes_len hx
  obtain rfl := bytes_len hl
  have HK := Lib.hid hk
  have HX := Lib.hid hx
  have HL := Lib.hid hl
  have HM := Lib.hid hm
  have HO := Lib.hid ho
  clear hk hx hl ho
  have R0 := Lib.hid (heap_alloc_new w (.cells #[.slice A1 k.length c1, .slice A2 x.length c2, .int .u64 a, .int .u64 b] 25))
  have B0 := Lib.hid ((Below.refl w.heap.size w).alloc (Nat.le_refl _) (.cells #[.slice A1 k.length c1, .slice A2 x.length c2, .int .u64 a, .int .u64 b] 25))
  have Z0 := Lib.hid (show w.heap.size < (w.alloc (.cells #[.slice A1 k.length c1, .slice A2 x.length c2, .int .u64 a, .int .u64 b] 25)).heap.size by simp)
  go_enter Try.func3, Try.ntmps3
  go_wp2_with (go_at_call 5; refine (bytes_no _ _ _ _ _ _ _ _ _ HM.out).mono ?_; rintro e w1 ⟨rfl, h⟩; have R1 := Lib.hid ((h.block _ Z0.out).trans R0.out); have B1 := Lib.hid (B0.out.trans (h.mono B0.out.size)); have Z1 := Lib.hid (Nat.lt_of_lt_of_le Z0.out h.size); obtain ⟨p0, p1, p2, p3⟩ := row4 R1.out; clear h)
  have R1d := Lib.hid (show w1.drew.heap[w.heap.size]? = some (.cells #[.slice A1 k.length c1, .slice A2 x.length c2, .int .u64 a, .int .u64 b] 25) from R1.out)
  have B1d := Lib.hid B1.out.drew
  clear p0 p1 p2 p3
  go_region_held3 (fun X => X.cell? ⟨w.heap.size, 0, none⟩ = some (.slice A1 k.length c1) ∧ X.cell? ⟨w.heap.size, 1, none⟩ = some (.slice A2 x.length c2) ∧ X.cell? ⟨w.heap.size, 2, none⟩ = some (.int .u64 a) ∧ X.cell? ⟨w.heap.size, 3, none⟩ = some (.int .u64 b)) (with_reducible first | exact row4 R1d.out | exact row4 R2.out | exact row4 R3.out)
    (first
      | (go_at_call 6; refine (may_any _ _ _ _ _ _ _ _ w1.drew).mono ?_; rw [HM.out]; rintro e w2 ⟨rfl, h⟩; have R2 := Lib.hid ((h.block _ Z1.out).trans R1.out); have B2 := Lib.hid (B1d.out.trans (h.mono B1.out.size)); have Z2 := Lib.hid (Nat.lt_of_lt_of_le Z1.out h.size); have S2 := Lib.hid ((Below.refl w1.heap.size w1).drew.trans h); clear h)
      | (go_at_call 7; refine (refMay_any _ _ _ _ _ _ _ _ w2).mono ?_; rw [HM.out]; rintro e w3 ⟨rfl, h⟩; have R3 := Lib.hid ((h.block _ Z2.out).trans R2.out); have B3 := Lib.hid (B2.out.trans (h.mono B2.out.size)); have Z3 := Lib.hid (Nat.lt_of_lt_of_le Z2.out h.size); have S3 := Lib.hid (S2.out.trans (h.mono S2.out.size)); clear h))
  obtain ⟨p0, p1, p2, p3⟩ := row4 R3.out
  go_wp2_with (go_at_call 7; refine (refMay_any _ _ _ _ _ _ _ _ w3).mono ?_; rw [HM.out]; rintro e w4 ⟨rfl, h⟩; have S4 := Lib.hid (S3.out.trans (h.mono S3.out.size)); have R4 := Lib.hid ((h.block _ Z3.out).trans R3.out); have B4 := Lib.hid (B3.out.trans (h.mono B3.out.size)); have Z4 := Lib.hid (Nat.lt_of_lt_of_le Z3.out h.size); obtain ⟨p0, p1, p2, p3⟩ := row4 R4.out; clear h)
  refine (of_any' l _ _ _ w4 (HL.out.below B4.out) (by omega)).mono ?_
  rintro e w15 ⟨⟨v1, v2, ya, yb, E, rfl, eE, ea, eb, g1, g2⟩, h⟩
  obtain ⟨q1, m1, d1, rfl⟩ := shape g1
  obtain ⟨q2, m2, d2, rfl⟩ := shape g2
  rw [HO.out, if_pos rfl] at eE ea eb g1 g2
  subst E ya yb
  have B15 := Lib.hid (B4.out.trans (h.mono B4.out.size))
  clear h
  have B16 := Lib.hid (B15.out.alloc B15.out.size (.cells #[.slice q1 m1 d1, .slice q2 m2 d2, .int .u64 (aa l : Nat), .int .u64 (bb l : Nat)] 25))
  have R16 := Lib.hid (heap_alloc_new w15 (.cells #[.slice q1 m1 d1, .slice q2 m2 d2, .int .u64 (aa l : Nat), .int .u64 (bb l : Nat)] 25))
  have G16 := Lib.hid ((Below.refl w15.heap.size w15).alloc (Nat.le_refl _) (.cells #[.slice q1 m1 d1, .slice q2 m2 d2, .int .u64 (aa l : Nat), .int .u64 (bb l : Nat)] 25))
  have F16 := Lib.hid (show w15.heap.size < (w15.alloc (.cells #[.slice q1 m1 d1, .slice q2 m2 d2, .int .u64 (aa l : Nat), .int .u64 (bb l : Nat)] 25)).heap.size by simp)
  go_wp2_with fail
  refine (refOf_any l _ _ _ (w15.alloc (.cells #[.slice q1 m1 d1, .slice q2 m2 d2, .int .u64 (aa l : Nat), .int .u64 (bb l : Nat)] 25)) (HL.out.below B16.out) hcap (by omega)).mono ?_
  rintro e w17 hr
  unfold RefPost at hr
  rw [HO.out] at hr
  obtain ⟨⟨y1, z1, e1, y2, z2, e2, xa, xb, rfl, hyes⟩, h⟩ := hr
  obtain ⟨rfl, rfl, g3, g4⟩ := hyes rfl
  have R17 := Lib.hid ((h.block _ F16.out).trans R16.out)
  have F17 := Lib.hid (Nat.lt_of_lt_of_le F16.out h.size)
  have B17 := Lib.hid (B16.out.trans (h.mono B16.out.size))
  have R18 := Lib.hid ((heap_alloc_old w17 (.cells #[.slice y1 z1 e1, .slice y2 z2 e2, .int .u64 (aa l : Nat), .int .u64 (bb l : Nat)] 25) (h := F17.out)).trans R17.out)
  have R19 := Lib.hid (heap_alloc_new w17 (.cells #[.slice y1 z1 e1, .slice y2 z2 e2, .int .u64 (aa l : Nat), .int .u64 (bb l : Nat)] 25))
  have B18 := Lib.hid (B17.out.alloc B17.out.size (.cells #[.slice y1 z1 e1, .slice y2 z2 e2, .int .u64 (aa l : Nat), .int .u64 (bb l : Nat)] 25))
  have G18 := Lib.hid ((Below.refl w17.heap.size w17).alloc (Nat.le_refl _) (.cells #[.slice y1 z1 e1, .slice y2 z2 e2, .int .u64 (aa l : Nat), .int .u64 (bb l : Nat)] 25))
  have V1 := Lib.hid ((g1.below (G16.out.trans (h.mono G16.out.size))).below (G18.out.mono (Nat.le_refl _)))
  have V2 := Lib.hid ((g2.below (G16.out.trans (h.mono G16.out.size))).below (G18.out.mono (Nat.le_refl _)))
  have V3 := Lib.hid (g3.below G18.out)
  have V4 := Lib.hid (g4.below G18.out)
  clear g1 g2 g3 g4
  clear h
  obtain ⟨s0, s1', s2', s3'⟩ := row4 R18.out
  obtain ⟨r0, r1, r2, r3⟩ := row4 R19.out
  go_wp2_with (first
    | (go_at_call 10; refine (same_any _ _ _ _ _ _ _ _ _ _ _ _ _ _ (key l) (valu l) (w17.alloc (.cells #[.slice y1 z1 e1, .slice y2 z2 e2, .int .u64 (aa l : Nat), .int .u64 (bb l : Nat)] 25)) V1.out V2.out V3.out V4.out).mono ?_; rintro e w20 ⟨rfl, h⟩; have B20 := Lib.hid (B18.out.trans (h.mono B18.out.size)); clear h)
    | (go_at_call 4; refine (known_any _).mono ?_; rintro e w21 ⟨rfl, h⟩))
  go_ret
  exact ⟨rfl, B20.out.trans (h.mono B20.out.size)⟩
end Go.Proofs.Hb
