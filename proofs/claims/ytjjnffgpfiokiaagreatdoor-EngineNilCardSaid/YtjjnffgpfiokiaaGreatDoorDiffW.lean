/- The walks of slices.Clone on bytes and of page.Diff, over the seat's own translation. -/
import Derived.Test.YtjjnffgpfiokiaaGreatDoorDfE
import Derived.Test.YtjjnffgpfiokiaaGreatDoorProg
import Derived.WalkKit
import Derived.ProofKit
import Derived.KernelRfl
import Derived.IntWalk
import Derived.Lib.Hide
import Derived.BigRegion
import Derived.OwnWalk
import Derived.Test.YtjjnffgpfiokiaaGreatDoorEvJ
namespace Go.Proofs.YtjjnffgpfiokiaaGreatDoor.crc
open Go Go.RowKit Go.Crc
def u8v (l : List Nat) : List Value := l.map (fun x : Nat => Value.int .u8 (x : Int))
theorem u8v_len (l : List Nat) : (u8v l).length = l.length := List.length_map ..
theorem u8v_one (l : List Nat) : ∀ u ∈ u8v l, u.oneCell' = true := by
  intro u hu
  obtain ⟨x, _, rfl⟩ := List.mem_map.1 hu
  rfl
theorem infoU : (Tryz.prog.info? 5).map (fun i => (i.zero, i.size, i.bytes)) = some (some (.int .u8 0), 1, 1) := by kernel_rfl
/-- What a copy is: a row of its own. -/
def Fresh (w w' : World) (v : Value) (l : List Nat) : Prop := ∃ g cap cur, v = .slice (some ⟨g, 0, none⟩) l.length cap ∧ w.heap.size ≤ g ∧ w'.heap[g]? = some (.cells cur 5 (0, 0)) ∧ l.length ≤ cap ∧ cur.size = cap ∧ cur.toList.take l.length = u8v l
theorem nil_ne (b : Addr) (n c : Nat) (w : World) : Sem.run Tryz.prog (binOp BinOp.eql 70 (.slice (some b) n c) (.slice none 0 0)) w = .ok (.bool false) w := by
  rw [Go.Ev.binOp_eql _ rfl]
  have h := Go.Ev.eqn_sl_r (P := Tryz.prog) w 9999 Tryz.underlying70 b n c 0 0
  simp [Op.equal, Op.maxDepth, h]
set_option maxRecDepth 100000 in
theorem clone_any (ad : Addr) (c : Nat) (l : List Nat) (w : World) (hc : ∀ j u, (u8v l)[j]? = some u → w.cell? (ad.add j) = some u) (hl : l.length < 1000000) :
    Calls Tryz.prog 161 #[.slice (some ad) l.length c] w fun e w' => (∃ v, e = .returned v ∧ Fresh w w' v l) ∧ Below w.heap.size w w' := by
  obtain ⟨i0, hi, hz0, hz1, hz2⟩ := info_parts infoU
  have hs := nil_ne ad l.length c w
  have HC := Lib.hid hc
  clear hc
  have HN := Lib.hid (World.ownsRow_made (e := 5) (size := 1) w #[] 0 (Nat.le_refl w.heap.size) (by unfold maxLen; omega) rfl)
  have HB := Lib.hid ((Below.refl w.heap.size w).alloc (Nat.le_refl _) (.cells #[] 5))
  go_enter Tryz.func161, Tryz.ntmps161
  go_wp2_with (at_builtin; refine wpList_append_own _ rfl _ _ 70 rfl w.heap.size 5 i0 (.int .u8 0) 1 1 Tryz.underlying70 hi hz0 hz1 hz2 rfl (by decide) _ _ _ rfl HN.out ad l.length c (u8v l) rfl (by rw [u8v_len, Nat.mul_one]) (fun j u h => cell_below HB.out rfl (HC.out j u h)) (u8v_one l) (by unfold maxLen; omega) (by omega) HB.out.size ?_; intro v1 w1 hown1 hgrow1 hnil)
  go_ret
  refine ⟨⟨v1, rfl, ?_⟩, HB.out.grown hgrow1 HB.out.size (fun j hj => by cases hj; exact Nat.le_refl _)⟩
  rcases hown1.2 with ⟨h0, _⟩ | ⟨g, cap, cur, rfl, h1, h2, h3, _, h4, h5⟩
  · exact absurd (hnil.1 h0).1 (fun e => by cases e)
  · rw [Nat.zero_add] at h3 h5 ⊢
    rw [Nat.mul_one] at h4 h5
    exact ⟨g, cap, cur, rfl, h1, h2, h3, h4, by rw [h5, List.nil_append]⟩
theorem row_cell {W : World} {N T : Nat} {l : List Nat} (h : W.heap[N]? = some (.cells (u8v l).toArray T)) {j : Nat} (hj : j < l.length) : W.cell? ⟨N, j, none⟩ = some (.int .u8 (l[j] : Nat)) := by
  unfold World.cell?
  rw [h]
  show (u8v l).toArray[j]? = _
  rw [List.getElem?_toArray]
  unfold u8v
  rw [List.getElem?_map, List.getElem?_eq_getElem hj]
  rfl
theorem dst_ne {la lb : List Nat} {i : Nat} {s : Nat × Nat} (ha : i < la.length) (hb : i < lb.length) (h : la[i] ≠ lb[i]) : dst la lb i s = (i, if s.1 = 1024 then i + 1 else s.2) := by
  unfold dst
  rw [List.getD_eq_getElem?_getD, List.getD_eq_getElem?_getD, List.getElem?_eq_getElem ha, List.getElem?_eq_getElem hb]
  exact if_neg h
theorem dst_eq {la lb : List Nat} {i : Nat} {s : Nat × Nat} (ha : i < la.length) (hb : i < lb.length) (h : la[i] = lb[i]) : dst la lb i s = s := by
  unfold dst
  rw [List.getD_eq_getElem?_getD, List.getD_eq_getElem?_getD, List.getElem?_eq_getElem ha, List.getElem?_eq_getElem hb]
  exact if_pos h
set_option maxRecDepth 100000 in
set_option maxHeartbeats 2000000 in
theorem diff_any (la lb : List Nat) (w : World) (ha : la.length = 1024) (hb : lb.length = 1024) :
    Calls Tryz.prog 458 #[.agg (u8v la).toArray, .agg (u8v lb).toArray] w fun e w' => (∃ v, e = .returned (.tuple #[.int .i64 ((dif la lb 1012).1 : Nat), v]) ∧ Fresh w w' v ((lb.drop (dif la lb 1012).1).take ((dif la lb 1012).2 - (dif la lb 1012).1))) ∧ Below w.heap.size w w' := by
  have HA := Lib.hid ha
  have HBL := Lib.hid hb
  clear ha hb
  go_enter Tryz.func458, Tryz.ntmps458
  go_wp2
  have RA := Lib.hid (heap_alloc2_old w (.cells (u8v la).toArray 120) (.cells (u8v lb).toArray 120))
  have RB := Lib.hid (heap_alloc2_new w (.cells (u8v la).toArray 120) (.cells (u8v lb).toArray 120))
  have B0 := Lib.hid (((Below.refl w.heap.size w).alloc (Nat.le_refl _) (.cells (u8v la).toArray 120)).alloc (by simp) (.cells (u8v lb).toArray 120))
  generalize (w.alloc (.cells (u8v la).toArray 120)).alloc (.cells (u8v lb).toArray 120) = W0 at RA RB B0 ⊢
  go_loopw [6, 7, 8] (fun t6 t7 t8 wr => ∃ n : Nat, n ≤ 1012 ∧ t8 = .int .i64 ((1023 - n : Nat) : Int) ∧ t6 = .int .i64 ((dif la lb n).1 : Nat) ∧ t7 = .int .i64 ((dif la lb n).2 : Nat) ∧ Below W0.heap.size W0 wr) (fun _ _ t8 _ => (intOf t8).toNat)
  case atStart => exact ⟨0, by omega, rfl, rfl, rfl, Below.refl _ _⟩
  case round =>
    obtain ⟨n, hn, rfl, rfl, rfl, hnx⟩ := hrel
    have HX := Lib.hid hnx
    have hd := dif_le la lb n hn
    have HD := Lib.hid hd
    clear hnx
    by_cases hlt : n < 1012
    · obtain ⟨i, hi⟩ : ∃ i, i = 1023 - n := ⟨_, rfl⟩
      rw [← hi]
      have hia : i < la.length := by rw [HA.out]; omega
      have hib : i < lb.length := by rw [HBL.out]; omega
      have hi12 : 12 ≤ i := by omega
      have hi1024 : i < 1024 := by omega
      have hstep : dif la lb (n + 1) = dst la lb i (dif la lb n) := by rw [hi]; rfl
      have HS := Lib.hid hstep
      have HI := Lib.hid hi
      have q0 : wr.drew.cell? ⟨w.heap.size, i, none⟩ = some (.int .u8 (la[i] : Nat)) := cell_below HX.out rfl (row_cell RA.out hia)
      have q1 : wr.drew.cell? ⟨w.heap.size + 1, i, none⟩ = some (.int .u8 (lb[i] : Nat)) := cell_below HX.out rfl (row_cell RB.out hib)
      clear hstep hi hd
      generalize dif la lb n = s at HS HD ⊢
      obtain ⟨s1, s2⟩ := s
      go_wp2
      go_region
      go_wp2
      · have hne : la[i] ≠ lb[i] := by
          have hh : ((la[i] : Int) != (lb[i] : Int)) = true := by assumption
          intro e; rw [e] at hh; simp at hh
        have h1 : s1 = 1024 := by
          have hh : ((s1 : Int) == 1024) = true := by assumption
          have h2 : (s1 : Int) = 1024 := by simpa using hh
          omega
        have e0 : dif la lb (n + 1) = (i, i + 1) := by rw [HS.out, dst_ne hia hib hne, h1]; rfl
        have e1 : (i : Int) - 1 = ((1023 - (n + 1) : Nat) : Int) := by have := HI.out; omega
        refine ⟨⟨n + 1, by omega, by rw [e1], by rw [e0], by rw [e0]; go_num, HX.out.drew⟩, by simp [intOf]; omega⟩
      · have hne : la[i] ≠ lb[i] := by
          have hh : ((la[i] : Int) != (lb[i] : Int)) = true := by assumption
          intro e; rw [e] at hh; simp at hh
        have h1 : ¬ s1 = 1024 := by
          have hh : ((s1 : Int) == 1024) = false := by assumption
          have h2 : ¬ (s1 : Int) = 1024 := by simpa using hh
          omega
        have e0 : dif la lb (n + 1) = (i, s2) := by rw [HS.out, dst_ne hia hib hne, if_neg h1]
        have e1 : (i : Int) - 1 = ((1023 - (n + 1) : Nat) : Int) := by have := HI.out; omega
        refine ⟨⟨n + 1, by omega, by rw [e1], by rw [e0], by rw [e0], HX.out.drew⟩, by simp [intOf]; omega⟩
      · have heq : la[i] = lb[i] := by
          have hh : ((la[i] : Int) != (lb[i] : Int)) = false := by assumption
          have h2 : (la[i] : Int) = (lb[i] : Int) := by simpa using hh
          omega
        have e0 : dif la lb (n + 1) = (s1, s2) := by rw [HS.out, dst_eq hia hib heq]
        have e1 : (i : Int) - 1 = ((1023 - (n + 1) : Nat) : Int) := by have := HI.out; omega
        refine ⟨⟨n + 1, by omega, by rw [e1], by rw [e0], by rw [e0], HX.out.drew⟩, by simp [intOf]; omega⟩
    · have hn2 : n = 1012 := by omega
      subst hn2
      obtain ⟨⟨s1, s2⟩, hs⟩ : ∃ s, s = dif la lb 1012 := ⟨_, rfl⟩
      rw [← hs] at hd ⊢
      have HSS := Lib.hid hs
      clear hs HD
      simp only at hd
      obtain ⟨-, g2, g3⟩ := hd
      have k1 : (s1 : Int) ≤ s2 := by omega
      have k2 : (s2 : Int) ≤ 1024 := by omega
      have hBr := Lib.hid (B0.out.trans (HX.out.mono B0.out.size))
      have hlen : s2 - s1 = ((lb.drop s1).take (s2 - s1)).length := by
        rw [List.length_take, List.length_drop, HBL.out]; omega
      have HLn := Lib.hid hlen
      have HCl : Hid (∀ j u, (u8v ((lb.drop s1).take (s2 - s1)))[j]? = some u → wr.cell? ((⟨w.heap.size + 1, s1, none⟩ : Addr).add j) = some u) := Lib.hid (by
        intro j u hu
        have hj : j < ((lb.drop s1).take (s2 - s1)).length := by
          have := (List.getElem?_eq_some_iff.1 hu).1
          rwa [u8v_len] at this
        unfold u8v at hu
        rw [List.getElem?_map, List.getElem?_eq_getElem hj] at hu
        cases hu
        rw [Addr.add_lit]
        have hj2 : s1 + j < lb.length := by rw [← hlen] at hj; rw [HBL.out]; omega
        have := cell_below HX.out rfl (row_cell RB.out hj2)
        rw [this]
        simp)
      clear hlen
      go_wp2_with fail
      · have hs1 : s2 - s1 = 0 := by
          have hh : (1024 : Nat) = s1 := by assumption
          omega
        rw [hs1] at HCl HLn ⊢
        refine (clone_any ⟨w.heap.size + 1, 0, none⟩ 0 [] wr (fun j u h => by simp [u8v] at h) (by simp)).mono ?_
        rintro e w' ⟨⟨v, rfl, hf⟩, hbb⟩
        obtain ⟨g, cap, cur, rfl, f1, f2, f3, f4, f5⟩ := hf
        have hB2 := hBr.out.trans (hbb.mono hBr.out.size)
        go_wp2
        go_ret2
        rw [← HSS.out]
        refine ⟨⟨_, rfl, ⟨g, cap, cur, ?_, Nat.le_trans hBr.out.size f1, f2, ?_, f4, ?_⟩⟩, hB2⟩
        · rw [hs1]; rfl
        · rw [hs1]; exact f3
        · rw [hs1]; exact f5
      · have hcl := clone_any ⟨w.heap.size + 1, s1, none⟩ (1024 - s1) ((lb.drop s1).take (s2 - s1)) wr HCl.out (by rw [← HLn.out]; omega)
        rw [← HLn.out] at hcl
        refine hcl.mono ?_
        clear hcl
        rintro e w' ⟨⟨v, rfl, hf⟩, hbb⟩
        obtain ⟨g, cap, cur, hv, f1, f2, f3, f4, f5⟩ := hf
        rw [← HLn.out] at hv f3 f5
        subst hv
        have hB2 := hBr.out.trans (hbb.mono hBr.out.size)
        have F5 := Lib.hid f5
        clear f5
        go_wp2
        go_ret2
        rw [← HSS.out]
        refine ⟨⟨_, rfl, ⟨g, cap, cur, ?_, Nat.le_trans hBr.out.size f1, f2, ?_, f4, ?_⟩⟩, hB2⟩
        · show _ = Value.slice (some ⟨g, 0, none⟩) ((lb.drop s1).take (s2 - s1)).length cap
          rw [← HLn.out]
          rfl
        · show ((lb.drop s1).take (s2 - s1)).length ≤ cap
          rw [← HLn.out]; exact f3
        · show cur.toList.take ((lb.drop s1).take (s2 - s1)).length = _
          rw [← HLn.out]; exact F5.out
theorem diff_known (la lb : List Nat) (w : World) (ha : la.length = 1024) (hb : lb.length = 1024) : Calls Tryz.prog 458 #[.agg (la.map (fun x : Nat => Value.int .u8 (x : Int))).toArray, .agg (lb.map (fun x : Nat => Value.int .u8 (x : Int))).toArray] w fun e w' =>
      (∃ g cap, ∃ cur : Array Value, e = .returned (.tuple #[.int .i64 ((dif la lb 1012).1 : Nat), .slice (some ⟨g, 0, none⟩) ((dif la lb 1012).2 - (dif la lb 1012).1) cap]) ∧ w.heap.size ≤ g ∧ w'.heap[g]? = some (.cells cur 5 (0, 0)) ∧ (dif la lb 1012).2 - (dif la lb 1012).1 ≤ cap ∧ cur.size = cap ∧
        cur.toList.take ((dif la lb 1012).2 - (dif la lb 1012).1) = (((lb.drop (dif la lb 1012).1).take ((dif la lb 1012).2 - (dif la lb 1012).1)).map (fun x : Nat => Value.int .u8 (x : Int)))) ∧ Below w.heap.size w w' := by
  refine (diff_any la lb w ha hb).mono ?_
  rintro e w' ⟨⟨v, rfl, g, cap, cur, hv, f1, f2, f3, f4, f5⟩, hbb⟩
  obtain ⟨-, d2, d3⟩ := dif_le la lb 1012 (Nat.le_refl _)
  have hl : ((lb.drop (dif la lb 1012).1).take ((dif la lb 1012).2 - (dif la lb 1012).1)).length = (dif la lb 1012).2 - (dif la lb 1012).1 := by
    rw [List.length_take, List.length_drop, hb]; omega
  rw [hl] at hv f3 f5
  subst hv
  exact ⟨⟨g, cap, cur, rfl, f1, f2, f3, f4, f5⟩, hbb⟩
end Go.Proofs.YtjjnffgpfiokiaaGreatDoor.crc
