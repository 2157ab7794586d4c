/- The walk of what a sector has, and of a file made to last, over the seat's own translation. -/
import Derived.Test.YtjjnffgpfiokiaaGreatDoorSyE
import Derived.Test.YtjjnffgpfiokiaaGreatDoorProg
import Derived.WalkKit
import Derived.ProofKit
import Derived.KernelRfl
import Derived.Lib.Hide
namespace Go.Proofs.YtjjnffgpfiokiaaGreatDoor.crc
open Go Go.RowKit Go.Ev
theorem szS : szOf Tryz.prog 320 = some 256 := by kernel_rfl
theorem szW : szOf Tryz.prog 402 = some 1 := by kernel_rfl
theorem agS : isAggB Tryz.prog 320 = some true := by kernel_rfl
theorem agW : isAggB Tryz.prog 402 = some false := by kernel_rfl
theorem fo0 : fieldOff Tryz.prog 404 0 = some 0 := by kernel_rfl
theorem fo1 : fieldOff Tryz.prog 404 1 = some 256 := by kernel_rfl
theorem infoS : ∃ i z, Tryz.prog.info? 320 = some i ∧ i.zero = some z ∧ z.cells.size = 256 := by
  have h : ((Tryz.prog.info? 320).bind fun i => i.zero.map fun z => z.cells.size) = some 256 := by kernel_rfl
  obtain ⟨i, h1, h2⟩ := Option.bind_eq_some_iff.1 h
  obtain ⟨z, h3, h4⟩ := Option.map_eq_some_iff.1 h2
  exact ⟨i, z, h1, h3, h4⟩
set_option maxRecDepth 100000 in
theorem has_some (b : Nat) (c : Array Value) (T : TypeId) (fr : Nat × Nat) (r : Option Addr) (n k : Nat) (w : World) (h : SecOk w b c T fr r n k) :
    Calls Tryz.prog 292 #[.pointer (some ⟨b, 0, none⟩)] w fun e w' => e = .returned (.agg (sR w b).toArray) ∧ Below w.heap.size w w' := by
  have HS := Lib.hid h
  have hlt := (Array.getElem?_eq_some_iff.1 h.blk).1
  obtain ⟨i, z, hi, hz, hz2⟩ := infoS
  have HB := Lib.hid ((Below.refl w.heap.size w).alloc (Nat.le_refl _) (.cells z.cells 320))
  have HN := Lib.hid (heap_alloc_new w (.cells z.cells 320))
  have hC := sC_of h.blk
  have hwr := h.wr
  have hrow := h.row
  clear h
  have HW := Lib.hid (show (w.alloc (.cells z.cells 320)).heap[b]? = some (.cells c T fr) from (heap_alloc_old w _ hlt).trans HS.out.blk)
  have HG := Lib.hid (show ∀ g cg eg frg, w.heap[g]? = some (.cells cg eg frg) → (w.alloc (.cells z.cells 320)).heap[g]? = some (.cells cg eg frg) from fun g cg eg frg hh => (heap_alloc_old w _ (Array.getElem?_eq_some_iff.1 hh).1).trans hh)
  rcases Nat.eq_zero_or_pos n with hn | hn
  · have hR : sR w b = (c.toList.drop 0).take 256 := by
      unfold sR; rw [hC, hwr, hn]; cases r <;> rfl
    have HR := Lib.hid hR
    have HL := Lib.hid (show ((c.toList.drop 0).take 256).length = 256 by simp [HS.out.size])
    have HO := Lib.hid (show ∀ u ∈ (c.toList.drop 0).take 256, u.oneCell' = true from fun u hu => HS.out.one u (by rw [hR]; exact hu))
    clear hR hrow hwr
    subst hn
    go_enter Tryz.func292, Tryz.ntmps292
    go_wp2_with (first
      | refine wl_alloc rfl 320 rfl _ (al_run hi hz) ?_; generalize w.alloc (.cells z.cells 320) = W at HB HN HW HG ⊢
      | refine wl_fa rfl 404 _ 1 rfl b 0 256 rfl fo1 ?_
      | refine wl_fa rfl 404 _ 0 rfl b 0 0 rfl fo0 ?_
      | refine wl_load rfl 402 _ rfl ⟨b, 256, none⟩ rfl (.slice r 0 k) (ld_one HW.out agW HS.out.wr) ?_
      | refine wl_load rfl 320 _ rfl ⟨b, 0, none⟩ rfl _ (ld_agg HW.out agS szS (by rw [HS.out.size]; omega)) ?_; generalize (c.toList.drop 0).take 256 = L at HR HL HO ⊢
      | refine wl_whole rfl 320 _ _ rfl w.heap.size rfl L rfl 256 z.cells 320 HN.out hz2 HL.out szS HO.out ?_)
    exact ⟨rfl, _, res_cell rfl _ _ w.heap.size 320 256 L rfl (by rw [putB_get, if_pos rfl, if_pos (Array.getElem?_eq_some_iff.1 HN.out).1]) agS szS HL.out, by rw [HR.out], below_putB HB.out (Nat.le_refl _) _⟩
  · obtain ⟨g, off, cg, eg, frg, rfl, hg, hle⟩ := hrow.resolve_left (by omega)
    obtain ⟨m, hm⟩ : ∃ m, n = m + 1 := ⟨n - 1, by omega⟩
    have hwm : RowKit.wrap64 ((n : Int) - 1) = (m : Int) := by
      have := HS.out.small
      unfold RowKit.wrap64; omega
    have hR : sR w b = (cg.toList.drop (off + m * 256)).take 256 := by
      unfold sR; rw [hC, hwr, hm]
      show ((sC w g).toList.drop (off + m * 256)).take 256 = _
      rw [sC_of hg]
    have HR := Lib.hid hR
    have hle2 : off + m * 256 + 256 ≤ cg.size := by rw [hm] at hle; omega
    have HL := Lib.hid (show ((cg.toList.drop (off + m * 256)).take 256).length = 256 by simp; omega)
    have HO := Lib.hid (show ∀ u ∈ (cg.toList.drop (off + m * 256)).take 256, u.oneCell' = true from fun u hu => HS.out.one u (by rw [hR]; exact hu))
    have HC := Lib.hid (HG.out g cg eg frg hg)
    have HM := Lib.hid (show m < n by omega)
    have HWM := Lib.hid hwm
    clear hR hrow hwr hwm hm hle
    go_enter Tryz.func292, Tryz.ntmps292
    go_wp2_with (first
      | refine wl_alloc rfl 320 rfl _ (al_run hi hz) ?_; generalize w.alloc (.cells z.cells 320) = W at HB HN HW HG HC ⊢
      | refine wl_fa rfl 404 _ 1 rfl b 0 256 rfl fo1 ?_
      | refine wl_load rfl 402 _ rfl ⟨b, 256, none⟩ rfl (.slice (some ⟨g, off, none⟩) n k) (ld_one HW.out agW HS.out.wr) ?_
      | refine wl_ia rfl 402 _ _ rfl 320 g off n k 256 m rfl (congrArg (Value.int .i64) HWM.out) Tryz.underlying402 szS HM.out ?_
      | refine wl_load rfl 320 _ rfl ⟨g, off + m * 256, none⟩ rfl _ (ld_agg HC.out agS szS hle2) ?_; generalize (cg.toList.drop (off + m * 256)).take 256 = L at HR HL HO ⊢
      | refine wl_whole rfl 320 _ _ rfl w.heap.size rfl L rfl 256 z.cells 320 HN.out hz2 HL.out szS HO.out ?_)
    · exact ⟨rfl, _, res_cell rfl _ _ w.heap.size 320 256 L rfl (by rw [putB_get, if_pos rfl, if_pos (Array.getElem?_eq_some_iff.1 HN.out).1]) agS szS HL.out, by rw [HR.out], below_putB HB.out (Nat.le_refl _) _⟩
theorem agM : isAggB Tryz.prog 398 = some false := by kernel_rfl
theorem undM : ∃ k e, Tryz.prog.underlying 398 = some (.map k e) := ⟨_, _, Tryz.underlying398⟩
set_option maxRecDepth 100000 in
theorem sync_any (bf bm : Nat) (cf : Array Value) (ef : TypeId) (frf : Nat × Nat) (es : Array MapEntry) (clock : Nat) (w : World) (hf : w.heap[bf]? = some (.cells cf ef frf)) (hf0 : cf[0]? = some (.map (some bm))) (h : FileOk w bm es clock) :
    Calls Tryz.prog 291 #[.pointer (some ⟨bf, 0, none⟩)] w fun e w' => e = .returned (.tuple #[]) ∧ ∃ seen, Mid w bm es clock seen w' ∧ (leftOf es seen).size = 0 := by
  obtain ⟨tk, te, hu⟩ := undM
  have HF := Lib.hid hf
  have HH := Lib.hid h
  have hmap := h.map
  clear h hf
  go_enter Tryz.func291, Tryz.ntmps291
  go_wp2_with (first
    | refine wl_load rfl 398 _ rfl ⟨bf, 0, none⟩ rfl _ (ld_one HF.out agM hf0) ?_
    | refine wl_range rfl 398 _ rfl tk te bm es clock rfl hu hmap ?_)
  simp only [Act.put, List.setIfInBounds_toArray, List.set_cons_succ, List.set_cons_zero]
  go_loopw [] (fun wr => ∃ seen, Mid w bm es clock seen wr) (fun wr => (leftOf es (wr.iterSeen w.heap.size)).size)
  case atStart => exact ⟨#[], Mid.start⟩
  case round =>
    obtain ⟨seen, hmid⟩ := hrel
    have HM := Lib.hid hmid
    clear hmid
    go_wp2_with (refine wl_next rfl _ rfl w.heap.size bm clock seen es rfl HM.out.iter (HM.out.map HH.out) HH.out.old ?_ ?_)
    · intro h0
      go_wp2
      exact ⟨rfl, _, by simp [results, Tryz.f291], rfl, seen, HM.out, by rw [h0]; rfl⟩
    · rintro e w1 ⟨he, hw1⟩
      obtain ⟨he1, he2⟩ := mem_left he
      obtain ⟨c, T, fr, r, n, k, hsec⟩ := HH.out.sec e he1
      have hp := HH.out.ptr e he1
      rw [hp]
      have HP := Lib.hid hp
      have hrlt := HM.out.size
      have hsz1 : w1.heap.size = wr.heap.size := by rcases hw1 with rfl | rfl <;> rfl
      have hbk1 : ∀ j : Nat, w1.heap[j]? = wr.heap[j]? := fun j => by rcases hw1 with rfl | rfl <;> rfl
      have hbl := (Array.getElem?_eq_some_iff.1 hsec.blk).1
      have hml := (Array.getElem?_eq_some_iff.1 HH.out.map).1
      have hit2 : (putB w1 w.heap.size (.mapIter (some bm) clock (seen.push e.born) clock)).heap[w.heap.size]? = some (.mapIter (some bm) clock (seen.push e.born) clock) := by
        rw [putB_get, if_pos rfl, if_pos (by omega)]
      have hold2 : ∀ j : Nat, j < w.heap.size → (putB w1 w.heap.size (.mapIter (some bm) clock (seen.push e.born) clock)).heap[j]? = wr.heap[j]? := fun j hj => by
        rw [putB_get, if_neg (by omega), hbk1]
      have hmp2 := (hold2 bm hml).trans (HM.out.map HH.out)
      obtain ⟨hsec2, hR2⟩ := HM.out.sec HH.out he1 he2 hold2 hsec
      have HSt := Lib.hid (fun W3 hB => HM.out.step (W3 := W3) HH.out he1 he2 hw1 hB hsec)
      have hR0 : ∀ u ∈ sR w (sB e), u.oneCell' = true := hsec.one
      have hL : (sR w (sB e)).length = 256 := hsec.len
      generalize hW2 : putB w1 w.heap.size (.mapIter (some bm) clock (seen.push e.born) clock) = W2 at hit2 hmp2 hsec2 hR2 HSt ⊢
      have hhas := has_some (sB e) c T fr r n k W2 hsec2
      rw [hR2] at hhas
      have HHAS := Lib.hid hhas
      have HSEC := Lib.hid hsec
      have HSEC2 := Lib.hid hsec2
      have hbl2 := (Array.getElem?_eq_some_iff.1 hsec2.blk).1
      generalize sR w (sB e) = L at HHAS hR0 hL HSt
      clear hhas hsec hsec2 hW2 hold2 hbk1 hsz1
      go_wp2_with (first
        | refine wl_entry rfl _ rfl w.heap.size bm clock seen es e _ rfl hit2 hmp2 he1 HH.out.nodup HP.out ?_
        | (go_at_call 292; refine HHAS.out.mono ?_; rintro e3 W3 ⟨rfl, hB3⟩; have HB3 := Lib.hid hB3; have h3 := (hB3.block _ hbl2).trans HSEC2.out.blk; clear hB3)
        | refine wl_fa rfl 404 _ 0 rfl (sB e) 0 0 rfl fo0 ?_
        | refine wl_fa rfl 404 _ 1 rfl (sB e) 0 256 rfl fo1 ?_
        | refine wl_store rfl 320 _ _ rfl ⟨sB e, 0, none⟩ rfl (.agg L.toArray) rfl _ (st_any h3 HSEC.out.free szS (by simp [Value.cells, hL]) (by rw [HSEC.out.size]; omega) (by simpa [Value.cells] using hR0)) ?_
        | refine wl_store rfl 402 _ _ rfl ⟨sB e, 256, none⟩ rfl (.slice none 0 0) rfl _ (st_two h3 HSEC.out.free HSEC.out.size hL szW) ?_)
      have hnew := HSt.out W3 HB3.out
      refine ⟨⟨_, _, _, _, _, _, _, _, _, _, _, _, _, ⟨_, hnew⟩, rfl⟩, ?_⟩
      rw [hnew.seenIs, HM.out.seenIs]
      exact left_less he
end Go.Proofs.YtjjnffgpfiokiaaGreatDoor.crc
