/- Lists joined; numbers and blobs laid out; a version's bytes. A version's bytes. -/
import Derived.Test.YtekafaeefpgnjaaHbD
import Derived.Laws.AppendOwnNone
namespace Go.Proofs.Hb
open Go Go.RowKit Go.Hb Go.Crc
theorem own_bytes {w : World} {B n : Nat} {v : Value} {l : List Nat} (h : w.ownsRow B 5 1 v n (u8s l)) (hl : ∀ x ∈ l, x < 256) : BytesAt w v l := by
  have hn : n = l.length := by have := h.1; rw [u8s_len] at this; omega
  subst hn
  rcases h.2 with ⟨rfl, h0⟩ | ⟨g, cap, cur, rfl, _⟩
  · have : l = [] := List.eq_nil_of_length_eq_zero h0
    subst this
    exact ⟨hl, .inl ⟨rfl, rfl⟩⟩
  · refine ⟨hl, .inr ⟨g, 0, cap, rfl, fun j hj => ?_⟩⟩
    have := h.cells (g := g) rfl j _ (u8s_get l j hj)
    rwa [Addr.add_lit] at this
def pre (ls : List (List Nat)) (k : Nat) : List Nat := (ls.take k).flatten
theorem pre_succ {ls : List (List Nat)} {k : Nat} (h : k < ls.length) : pre ls (k + 1) = pre ls k ++ ls[k] := by
  unfold pre
  rw [List.take_succ_eq_append_getElem h, List.flatten_append]
  simp
theorem pre_le {ls : List (List Nat)} {k : Nat} : (pre ls k).length ≤ ls.flatten.length := by
  unfold pre
  have : ls.flatten = (ls.take k).flatten ++ (ls.drop k).flatten := by rw [← List.flatten_append, List.take_append_drop]
  rw [this, List.length_append]
  omega
theorem pre_all (ls : List (List Nat)) : pre ls ls.length = ls.flatten := by unfold pre; rw [List.take_length]
theorem u8s_app (a b : List Nat) : u8s (a ++ b) = u8s a ++ u8s b := List.map_append
set_option maxRecDepth 100000 in
theorem join_any (ls : List (List Nat)) (A : Option Addr) (n c : Nat) (w : World) (h : ListAt w (.slice A n c) ls) (hl : ls.flatten.length ≤ 1000000) (hl2 : ls.length ≤ 1000000) : Calls Try.prog 17 #[.slice A n c] w fun e w' => (∃ v, e = .returned v ∧ BytesAt w' v ls.flatten) ∧ Below w.heap.size w w' := by
  obtain ⟨A', c', he, hcell⟩ := h.one
  cases he
  have HB := Lib.hid h.all
  have HC := Lib.hid hcell
  clear h hcell
  obtain ⟨i0, hi, hz0, hz1, hz2⟩ := info_parts info5
  go_enter Try.func17, Try.ntmps17
  go_wp2
  go_loopw [3, 5, 8] (fun t3 _ t8 wr => ∃ k : Nat, k ≤ ls.length ∧ t8 = .int .i64 k ∧ wr.ownsRow w.heap.size 5 1 t3 (pre ls k).length (u8s (pre ls k)) ∧ Below w.heap.size w wr) (fun _ _ t8 _ => ls.length - (intOf t8).toNat)
  case atStart => exact ⟨0, Nat.zero_le _, rfl, World.ownsRow_nil _ _ _ _, Below.refl _ _⟩
  case round =>
    obtain ⟨k, hk, rfl, hown, hnx⟩ := hrel
    by_cases hlt : k < ls.length
    · obtain ⟨b, off, u, rfl, hu, hbu⟩ := HC.out k hlt
      have hcu := (hnx.cell (p := ⟨b, off + k, none⟩) (by exact World.block_lt_of_cell? w _ hu)).trans hu
      have hbw := hbu.below hnx
      obtain ⟨hx, ⟨rfl, hnil⟩ | ⟨b2, off2, c2, rfl, hc2⟩⟩ := hbw
      · go_wp2_with (at_builtin; refine wpList_append_own_none rfl _ _ 22 rfl w.heap.size 5 i0 1 Try.underlying22 hi _ _ _ rfl hown rfl ?_)
        refine ⟨⟨k + 1, by omega, by go_num, ?_, hnx⟩, by simp [intOf]; omega⟩
        rw [pre_succ hlt, hnil, List.append_nil]
        exact hown
      · have HX := Lib.hid (show BytesAt wr (.slice (some ⟨b2, off2, none⟩) ls[k].length c2) ls[k] from ⟨hx, .inr ⟨b2, off2, c2, rfl, hc2⟩⟩)
        clear hx hc2
        have hp := pre_le (ls := ls) (k := k + 1)
        rw [pre_succ hlt, List.length_append] at hp
        go_wp2_with (at_builtin; refine wpList_append_own _ rfl _ _ 22 rfl w.heap.size 5 i0 (.int .u8 0) 1 1 Try.underlying22 hi hz0 hz1 hz2 rfl (by decide) _ _ _ rfl hown ⟨b2, off2, none⟩ ls[k].length c2 (u8s ls[k]) rfl (by rw [u8s_len, Nat.mul_one]) (bytes_cells HX.out _ rfl) (u8s_one _) (by unfold maxLen; omega) (by omega) hnx.size ?_; intro v1 w1 hown1 hgrow1 _)
        refine ⟨⟨k + 1, by omega, by go_num, ?_, hnx.grown hgrow1 hnx.size (fun j hj => (hown.lt j hj).1)⟩, by simp [intOf]; omega⟩
        rw [pre_succ hlt, u8s_app, List.length_append]
        exact hown1
    · have hk2 : k = ls.length := by omega
      subst hk2
      rw [pre_all] at hown
      go_wp2
      go_ret
      exact ⟨⟨_, rfl, own_bytes hown (fun x hx => by
        obtain ⟨l, h1, h2⟩ := List.mem_flatten.1 hx
        exact HB.out l h1 x h2)⟩, hnx⟩
theorem at_row {W : World} {N e : Nat} {fr : Nat × Nat} {c : Array Value} (h : W.heap[N]? = some (.cells c e fr)) {l : List Nat} {rest : List Value} (hc : c.toList = u8s l ++ rest) (hl : ∀ x ∈ l, x < 256) (n cap : Nat) (hn : n = l.length) : BytesAt W (.slice (some ⟨N, 0, none⟩) n cap) l := by
  subst hn
  refine ⟨hl, .inr ⟨N, 0, cap, rfl, fun j hj => ?_⟩⟩
  unfold World.cell?
  rw [h]
  have : c.toList[0 + j]? = some (.int .u8 (l[j] : Nat)) := by
    rw [Nat.zero_add, hc, List.getElem?_append_left (by rw [u8s_len]; exact hj)]; exact u8s_get l j hj
  simpa using this
theorem list2 {W : World} {N T : Nat} {u v : Value} {a b : List Nat} (h : W.heap[N]? = some (.cells #[u, v] T)) (hu : BytesAt W u a) (hv : BytesAt W v b) (c : Nat) : ListAt W (.slice (some ⟨N, 0, none⟩) 2 c) [a, b] := by
  refine .inr ⟨N, 0, c, rfl, fun i hi => ?_⟩
  have : i = 0 ∨ i = 1 := by simp at hi; omega
  rcases this with rfl | rfl
  · exact ⟨u, by unfold World.cell?; rw [h]; rfl, hu⟩
  · exact ⟨v, by unfold World.cell?; rw [h]; rfl, hv⟩
theorem list4 {W : World} {N T : Nat} {u v x y : Value} {a b d e : List Nat} (h : W.heap[N]? = some (.cells #[u, v, x, y] T)) (hu : BytesAt W u a) (hv : BytesAt W v b) (hx : BytesAt W x d) (hy : BytesAt W y e) (c : Nat) : ListAt W (.slice (some ⟨N, 0, none⟩) 4 c) [a, b, d, e] := by
  refine .inr ⟨N, 0, c, rfl, fun i hi => ?_⟩
  have : i = 0 ∨ i = 1 ∨ i = 2 ∨ i = 3 := by simp at hi; omega
  rcases this with rfl | rfl | rfl | rfl
  · exact ⟨u, by unfold World.cell?; rw [h]; rfl, hu⟩
  · exact ⟨v, by unfold World.cell?; rw [h]; rfl, hv⟩
  · exact ⟨x, by unfold World.cell?; rw [h]; rfl, hx⟩
  · exact ⟨y, by unfold World.cell?; rw [h]; rfl, hy⟩
set_option maxRecDepth 100000 in
theorem wblob_any (l : List Nat) (A : Option Addr) (n c : Nat) (w : World) (h : BytesAt w (.slice A n c) l) (hl : l.length ≤ 300) : Calls Try.prog 16 #[.slice A n c] w fun e w' => (∃ v, e = .returned (.tuple #[v, .int .i64 0]) ∧ BytesAt w' v (be 2 l.length ++ l)) ∧ Below w.heap.size w w' := by
  obtain rfl := bytes_len h
  have H := Lib.hid h
  clear h
  go_enter Try.func16, Try.ntmps16
  go_wp2_with fail
  have hcs : (#[Value.int IntKind.u8 ((l.length : Int) / 256), Value.int IntKind.u8 ((l.length : Int) % 256)] : Array Value).toList = u8s (be 2 l.length) ++ [] := by
    rw [be2, List.append_nil]
    show _ = [Value.int IntKind.u8 ((l.length / 256 % 256 : Nat) : Int), Value.int IntKind.u8 ((l.length % 256 : Nat) : Int)]
    have e1 : ((l.length / 256 % 256 : Nat) : Int) = (l.length : Int) / 256 := by omega
    have e2 : ((l.length % 256 : Nat) : Int) = (l.length : Int) % 256 := by omega
    rw [e1, e2]
  have hu : BytesAt (w.alloc (.cells #[.int .u8 ((l.length : Int) / 256), .int .u8 ((l.length : Int) % 256)] 5)) (.slice (some ⟨w.heap.size, 0, none⟩) 2 2) (be 2 l.length) :=
    at_row (heap_alloc_new _ _) (rest := []) hcs (be_lt _ _) _ _ (be_len _ _).symm
  have hb1 := (Below.refl w.heap.size w).alloc (Nat.le_refl _) (.cells #[.int .u8 ((l.length : Int) / 256), .int .u8 ((l.length : Int) % 256)] 5)
  have hv := H.out.below hb1
  have hs1 : (w.alloc (.cells #[.int .u8 ((l.length : Int) / 256), .int .u8 ((l.length : Int) % 256)] 5)).heap.size = w.heap.size + 1 := by simp
  generalize w.alloc (.cells #[.int .u8 ((l.length : Int) / 256), .int .u8 ((l.length : Int) % 256)] 5) = W1 at hu hb1 hv hs1 ⊢
  have hr := heap_alloc_new W1 (.cells #[.slice (some ⟨w.heap.size, 0, none⟩) 2 2, .slice A l.length c] 22)
  have hb2 := (Below.refl W1.heap.size W1).alloc (Nat.le_refl _) (.cells #[.slice (some ⟨w.heap.size, 0, none⟩) 2 2, .slice A l.length c] 22)
  rw [hs1] at hr
  have hlen : ([be 2 l.length, l] : List (List Nat)).flatten.length ≤ 1000000 := by
    simp only [List.flatten_cons, List.flatten_nil, List.length_append, be_len, List.length_nil]; omega
  refine (join_any [be 2 l.length, l] _ _ _ _ (list2 hr (hu.below hb2) (hv.below hb2) _) hlen (by simp)).mono ?_
  rintro e w2 ⟨⟨v, rfl, g1⟩, g2⟩
  have hb3 := hb1.trans ((hb2.trans (g2.mono hb2.size)).mono hb1.size)
  simp only [List.flatten_cons, List.flatten_nil, List.append_nil] at g1
  go_wp2
  go_ret2
  exact ⟨⟨_, rfl, g1⟩, hb3⟩
theorem be_cons : ∀ t n, be (t + 1) n = (n / 256 ^ t % 256) :: be t n
  | 0, n => by simp [be]
  | t + 1, n => by
    show be (t + 1) (n / 256) ++ [n % 256] = _
    rw [be_cons t, Nat.div_div_eq_div_mul, List.cons_append, Nat.pow_succ, Nat.mul_comm 256]
    rfl
set_option maxRecDepth 100000 in
theorem put_any (a : Nat) (w : World) (ha : a < 18446744073709551616) : Calls Try.prog 15 #[.int .u64 a, .int .i64 8] w fun e w' => (∃ v, e = .returned (.tuple #[v, .int .i64 0]) ∧ BytesAt w' v (be 8 a)) ∧ Below w.heap.size w w' := by
  obtain ⟨i0, hi, hz0, hz1, hz2⟩ := info_parts info5
  go_enter Try.func15, Try.ntmps15
  go_wp2_with (first
    | (go_at_call 29; refine (fits_any _ _).mono ?_; rintro e w' ⟨rfl, rfl⟩)
    | (at_make; refine wpList_make_full _ rfl _ _ 22 rfl w.heap.size 5 i0 (.int .u8 0) 1 Try.underlying22 hi hz0 hz1 .i64 .i64 _ _ 8 rfl rfl rfl rfl (by rw [hz2]; omega) (by unfold maxLen; omega) (Nat.le_refl _) ?_; intro w1 hown hgrow))
  have hb1 := (Below.refl w.heap.size w).grown hgrow (Nat.le_refl _) (fun k hk => by cases hk)
  have h0 : w1.heap[w.heap.size]? = some (.cells (u8s (List.replicate 8 0 ++ be (8 - 8) a)).toArray 5) := by
    rcases hown.2 with ⟨h0, _⟩ | ⟨g, cap, cur, h0, _, h1, _, _, h2, h3⟩
    · cases h0
    · cases h0
      rw [h1]
      have : cur.toList.length = 8 := h2
      rw [List.take_of_length_le (by omega)] at h3
      have h4 : cur = (u8s (List.replicate 8 0 ++ be (8 - 8) a)).toArray := by
        apply Array.ext'
        rw [h3]
        show (madeCells #[Value.int IntKind.u8 0] 8).toList = u8s (List.replicate 8 0)
        simp [madeCells, u8s, List.range, List.range.loop, Nat.mod_one, List.replicate]
      rw [h4]
  clear hown hgrow
  go_loopw [0, 7] (fun t0 t7 wr => ∃ m : Nat, m ≤ 8 ∧ t7 = .int .i64 ((m : Int) - 1) ∧ t0 = .int .u64 (a / 256 ^ (8 - m) : Nat) ∧ wr.heap[w.heap.size]? = some (.cells (u8s (List.replicate m 0 ++ be (8 - m) a)).toArray 5) ∧ Below w.heap.size w wr) (fun _ t7 _ => (intOf t7 + 1).toNat)
  case atStart => exact ⟨8, Nat.le_refl _, rfl, by simp, h0, hb1⟩
  case round =>
    obtain ⟨m, hm, rfl, rfl, hrow, hnx⟩ := hrel
    obtain ⟨x, hx⟩ : ∃ x, x = a / 256 ^ (8 - m) := ⟨_, rfl⟩
    have hxa : x ≤ a := by rw [hx]; exact Nat.div_le_self _ _
    rw [← hx]
    have HX := Lib.hid hx
    have HR := Lib.hid hrow
    clear hx
    by_cases hz : m = 0
    · subst hz
      have hx0 : ¬ (0 < x) := by
        have : x = 0 := by rw [HX.out]; exact Nat.div_eq_of_lt (by rw [show 256 ^ (8 - 0) = 18446744073709551616 from rfl]; exact ha)
        omega
      clear hrow
      go_wp2
      go_ret2
      exact ⟨⟨_, rfl, at_row HR.out (rest := []) (by simp) (be_lt _ _) _ _ (be_len _ _).symm⟩, hnx⟩
    · obtain ⟨k, rfl⟩ : ∃ k, m = k + 1 := ⟨m - 1, by omega⟩
      have e1 : (((k + 1 : Nat) : Int) - 1) = k := by omega
      rw [e1]
      have q0 : wr.cell? ⟨w.heap.size, k, none⟩ = some (.int .u8 0) := by
        unfold World.cell?
        rw [hrow]
        show (u8s (List.replicate (k + 1) 0 ++ be (8 - (k + 1)) a)).toArray[k]? = _
        rw [List.getElem?_toArray, u8s_get _ k (by simp; omega), List.getElem_append_left (by simp), List.getElem_replicate]
        rfl
      have q1 : wr.frozen? ⟨w.heap.size, k, none⟩ = false := frozen_of_row _ _ k _ _ hrow
      clear hrow
      go_wp2
      refine ⟨⟨k, by omega, rfl, ?_, ?_, hnx.setCell (Nat.le_refl _) _⟩, by simp [intOf]⟩
      · have : (x : Int) / 256 = ((a / 256 ^ (8 - k) : Nat) : Int) := by
          rw [show 8 - k = (8 - (k + 1)) + 1 by omega, Nat.pow_succ, ← Nat.div_div_eq_div_mul, ← HX.out]
          omega
        rw [this]
      · have hcs : (u8s (List.replicate k 0 ++ be (8 - k) a)).toArray = (u8s (List.replicate (k + 1) 0 ++ be (8 - (k + 1)) a)).toArray.setIfInBounds k (.int .u8 ((x : Int) % 256)) := by
          rw [show 8 - k = (8 - (k + 1)) + 1 by omega, be_cons, ← HX.out, List.replicate_succ', List.append_assoc]
          apply Array.ext'
          rw [Array.toList_setIfInBounds]
          unfold u8s
          simp only [List.map_append, List.map_cons, List.map_nil, List.map_replicate, List.cons_append, List.nil_append]
          rw [List.set_append_right _ _ (by simp)]
          simp
        rw [hcs]
        exact heap_setCell_same _ _ k _ _ _ HR.out
end Go.Proofs.Hb
namespace Go.Proofs.Hb
open Go Go.RowKit Go.Hb Go.Crc
theorem shape {W : World} {v : Value} {l : List Nat} (h : BytesAt W v l) : ∃ A n c, v = .slice A n c := by
  obtain ⟨A, c, rfl, -, -⟩ := h.one
  exact ⟨A, _, c, rfl⟩
theorem flat4 (a b c d : List Nat) : ([a, b, c, d] : List (List Nat)).flatten = a ++ b ++ c ++ d := by
  simp only [List.flatten_cons, List.flatten_nil, List.append_nil, List.append_assoc]
set_option maxRecDepth 100000 in
theorem bytes_no (A1 A2 : Option Addr) (n1 c1 n2 c2 a b : Nat) (w : World) (hm : may n1 n2 a b = false) : Calls Try.prog 5 #[.agg #[.slice A1 n1 c1, .slice A2 n2 c2, .int .u64 a, .int .u64 b]] w fun e w' => e = .returned (.tuple #[.slice none 0 0, .int .i64 2]) ∧ Below w.heap.size w w' := by
  go_enter Try.func5, Try.ntmps5
  go_wp2_with (go_at_call 6; refine (may_any _ _ _ _ _ _ _ _ _).mono ?_; rw [hm]; rintro e w1 ⟨rfl, hb⟩)
  go_ret2
  exact ⟨rfl, ((Below.refl _ _).alloc (Nat.le_refl _) _).trans (hb.mono (by simp))⟩
set_option maxRecDepth 100000 in
set_option maxHeartbeats 1000000 in
theorem bytes_yes (A1 A2 : Option Addr) (n1 c1 n2 c2 a b : Nat) (k x : List Nat) (w : World) (hm : may n1 n2 a b = true) (hk : BytesAt w (.slice A1 n1 c1) k) (hx : BytesAt w (.slice A2 n2 c2) x) : Calls Try.prog 5 #[.agg #[.slice A1 n1 c1, .slice A2 n2 c2, .int .u64 a, .int .u64 b]] w fun e w' => (∃ v, e = .returned (.tuple #[v, .int .i64 0]) ∧ BytesAt w' v (enc k x a b)) ∧ Below w.heap.size w w' := by
  obtain rfl := bytes_len hk
  obtain rfl := bytes_len hx
  have hm' := hm
  unfold may at hm'
  simp only [Bool.and_eq_true, decide_eq_true_eq] at hm'
  obtain ⟨⟨⟨⟨⟨m1, m2⟩, m3⟩, m4⟩, m5⟩, m6⟩ := hm'
  have HM := Lib.hid hm
  have HK := Lib.hid hk
  have HX := Lib.hid hx
  clear hm hk hx
  have B0 := Lib.hid ((Below.refl w.heap.size w).alloc (Nat.le_refl _) (.cells #[.slice A1 k.length c1, .slice A2 x.length c2, .int .u64 a, .int .u64 b] 25))
  have R0 := Lib.hid (heap_alloc_new w (.cells #[.slice A1 k.length c1, .slice A2 x.length c2, .int .u64 a, .int .u64 b] 25))
  have Z0 := Lib.hid (show w.heap.size < (w.alloc (.cells #[.slice A1 k.length c1, .slice A2 x.length c2, .int .u64 a, .int .u64 b] 25)).heap.size by simp)
  go_enter Try.func5, Try.ntmps5
  go_wp2_with (first
    | (go_at_call 6; refine (may_any _ _ _ _ _ _ _ _ _).mono ?_; rw [HM.out]; rintro e w1 ⟨rfl, hb⟩; have R1 := Lib.hid ((hb.block _ Z0.out).trans R0.out); have B1 := Lib.hid (B0.out.trans (hb.mono B0.out.size)); have Z1 := Lib.hid (Nat.lt_of_lt_of_le Z0.out hb.size); obtain ⟨p0, p1, p2, p3⟩ := row4 R1.out; clear hb)
    | (go_at_call 15; first
      | (refine (put_any _ w2 (by omega)).mono ?_; rintro e w3 ⟨⟨v2, rfl, g⟩, hb⟩; obtain ⟨a2, j2, k2, rfl⟩ := shape g; have V2 := Lib.hid g; have R3 := Lib.hid ((hb.block _ Z2.out).trans R2.out); have B3 := Lib.hid (B2.out.trans (hb.mono B2.out.size)); have Z3 := Lib.hid (Nat.lt_of_lt_of_le Z2.out hb.size); have V1b := Lib.hid (V1.out.below hb); obtain ⟨p0, p1, p2, p3⟩ := row4 R3.out; clear hb g)
      | (refine (put_any _ w1 (by omega)).mono ?_; rintro e w2 ⟨⟨v1, rfl, g⟩, hb⟩; obtain ⟨a1, j1, k1, rfl⟩ := shape g; have V1 := Lib.hid g; have R2 := Lib.hid ((hb.block _ Z1.out).trans R1.out); have B2 := Lib.hid (B1.out.trans (hb.mono B1.out.size)); have Z2 := Lib.hid (Nat.lt_of_lt_of_le Z1.out hb.size); obtain ⟨p0, p1, p2, p3⟩ := row4 R2.out; clear hb g))
    | (go_at_call 16; first
      | (refine (wblob_any x _ _ _ w4 (HX.out.below B4.out) (by omega)).mono ?_; rintro e w5 ⟨⟨v4, rfl, g⟩, hb⟩; obtain ⟨a4, j4, k4, rfl⟩ := shape g; have V4 := Lib.hid g; have B5 := Lib.hid (B4.out.trans (hb.mono B4.out.size)); have V1d := Lib.hid (V1c.out.below hb); have V2d := Lib.hid (V2c.out.below hb); have V3d := Lib.hid (V3.out.below hb); clear hb g)
      | (refine (wblob_any k _ _ _ w3 (HK.out.below B3.out) (by omega)).mono ?_; rintro e w4 ⟨⟨v3, rfl, g⟩, hb⟩; obtain ⟨a3, j3, k3, rfl⟩ := shape g; have V3 := Lib.hid g; have R4 := Lib.hid ((hb.block _ Z3.out).trans R3.out); have B4 := Lib.hid (B3.out.trans (hb.mono B3.out.size)); have V1c := Lib.hid (V1b.out.below hb); have V2c := Lib.hid (V2.out.below hb); obtain ⟨p0, p1, p2, p3⟩ := row4 R4.out; clear hb g))
    | fail)
  have hr := heap_alloc_new w5 (.cells #[.slice a1 j1 k1, .slice a2 j2 k2, .slice a3 j3 k3, .slice a4 j4 k4] 22)
  have hb6 := (Below.refl w5.heap.size w5).alloc (Nat.le_refl _) (.cells #[.slice a1 j1 k1, .slice a2 j2 k2, .slice a3 j3 k3, .slice a4 j4 k4] 22)
  have hlen : ([be 8 a, be 8 b, be 2 k.length ++ k, be 2 x.length ++ x] : List (List Nat)).flatten.length ≤ 1000000 := by
    rw [flat4]; simp only [List.length_append, be_len]; omega
  refine (join_any [be 8 a, be 8 b, be 2 k.length ++ k, be 2 x.length ++ x] _ _ _ _ (list4 hr (V1d.out.below hb6) (V2d.out.below hb6) (V3d.out.below hb6) (V4.out.below hb6) _) hlen (by simp)).mono ?_
  rintro e w7 ⟨⟨v, rfl, g1⟩, g2⟩
  rw [flat4] at g1
  have hb7 := B5.out.trans ((hb6.trans (g2.mono hb6.size)).mono B5.out.size)
  go_wp2
  go_ret2
  exact ⟨⟨_, rfl, g1⟩, hb7⟩
end Go.Proofs.Hb
