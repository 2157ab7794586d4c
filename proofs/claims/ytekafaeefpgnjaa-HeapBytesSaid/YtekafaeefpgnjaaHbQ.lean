/- The law's walk, whatever comes in. HeapBytes: whatever the version and the bytes, the law answers true, and its arguments read behind the call as they read before. No conditions. -/
import Derived.Test.YtekafaeefpgnjaaHbN
import Derived.Test.YtekafaeefpgnjaaHbO
import Derived.Test.YtekafaeefpgnjaaRows
import Derived.WalkKit
import Derived.ProofKit
import Derived.OpenShut
import Derived.Lay
import Derived.Lib.SmallJoins
namespace Go.Proofs.Hb
open Go Go.RowKit Go.Hb Go.Crc
set_option maxRecDepth 100000 in
theorem law_big (A1 A2 A3 : Option Addr) (n1 c1 n2 c2 n3 c3 a b : Nat) (w : World) (h : 100 < n1 ∨ 300 < n2 ∨ 500 < n3) :
    Calls Try.prog 3 #[.agg #[.slice A1 n1 c1, .slice A2 n2 c2, .int .u64 a, .int .u64 b], .slice A3 n3 c3] w fun e w' => e = .returned (.bool true) ∧ Below w.heap.size w w' := by
  by_cases h1 : 100 < n1
  · clear h
    go_enter Try.func3, Try.ntmps3
    go_wp2_with (go_at_call 4; refine (known_any _).mono ?_; rintro e w1 ⟨rfl, h⟩)
    go_ret
    exact ⟨rfl, ((Below.refl _ _).alloc (Nat.le_refl _) _).trans (h.mono (by simp))⟩
  · by_cases h2 : 300 < n2
    · clear h
      go_enter Try.func3, Try.ntmps3
      go_wp2_with (go_at_call 4; refine (known_any _).mono ?_; rintro e w1 ⟨rfl, h⟩)
      go_ret
      exact ⟨rfl, ((Below.refl _ _).alloc (Nat.le_refl _) _).trans (h.mono (by simp))⟩
    · have h3 : 500 < n3 := by omega
      clear h
      go_enter Try.func3, Try.ntmps3
      go_wp2_with (go_at_call 4; refine (known_any _).mono ?_; rintro e w1 ⟨rfl, h⟩)
      go_ret
      exact ⟨rfl, ((Below.refl _ _).alloc (Nat.le_refl _) _).trans (h.mono (by simp))⟩
theorem law_any (A1 A2 A3 : Option Addr) (n1 c1 n2 c2 n3 c3 a b : Nat) (k x l : List Nat) (w : World) (ha : a < 18446744073709551616) (hb : b < 18446744073709551616) (hk : BytesAt w (.slice A1 n1 c1) k) (hx : BytesAt w (.slice A2 n2 c2) x) (hl : BytesAt w (.slice A3 n3 c3) l) (hcap : n3 ≤ c3) :
    Calls Try.prog 3 #[.agg #[.slice A1 n1 c1, .slice A2 n2 c2, .int .u64 a, .int .u64 b], .slice A3 n3 c3] w fun e w' => e = .returned (.bool true) ∧ Below w.heap.size w w' := by
  have e1 := bytes_len hk
  have e2 := bytes_len hx
  have e3 := bytes_len hl
  by_cases h : 100 < n1 ∨ 300 < n2 ∨ 500 < n3
  · exact law_big A1 A2 A3 n1 c1 n2 c2 n3 c3 a b w h
  · cases hm : may k.length x.length a b <;> cases ho : ok l
    · exact law_ff A1 A2 A3 n1 c1 n2 c2 n3 c3 a b k x l w ha hb hk hx hl hcap (by omega) (by omega) (by omega) hm ho
    · exact law_ft A1 A2 A3 n1 c1 n2 c2 n3 c3 a b k x l w ha hb hk hx hl hcap (by omega) (by omega) (by omega) hm ho
    · exact law_tf A1 A2 A3 n1 c1 n2 c2 n3 c3 a b k x l w ha hb hk hx hl hcap (by omega) (by omega) (by omega) hm ho
    · exact law_tt A1 A2 A3 n1 c1 n2 c2 n3 c3 a b k x l w ha hb hk hx hl hcap (by omega) (by omega) (by omega) hm ho
end Go.Proofs.Hb
namespace Go.Proofs.Ytekafaeefpgnjaa.said
set_option maxRecDepth 100000
open Go Go.Joins Go.Ev Go.ChangeShapes Go.WideShapes Go.ChangeAt Go.RowKit Go.Hb Go.Crc
theorem own : ownKnob Try.prog.godebug = none := by kernel_rfl
theorem laidOut : laidOutB Try.prog = true := by kernel_rfl
theorem add_at (b off j : Nat) : (⟨b, off, none⟩ : Addr).add (0 + j) = ⟨b, off + j, none⟩ := Hb.add_at b off j
theorem addr_of (b off j : Nat) : (⟨b, off, none⟩ : Addr).add j = ⟨b, off + j, none⟩ := by
  have := add_at b off j
  rwa [Nat.zero_add] at this
theorem u8_wf {n : Int} (h : (Lit.int .u8 n).wf = true) : 0 ≤ n ∧ n < 256 := by
  have h2 : (decide ((0 : Int) ≤ n) && decide (n ≤ 255)) = true := h
  simp only [Bool.and_eq_true, decide_eq_true_eq] at h2
  omega
theorem bytes_open {H : Type} {enc : TypeId × Value → H} {W : World} {r : Reach} {b0 base : Nat} {sp : Nat → Bool} {held : Bool} {v : Value} {d : DataW H} {ps : List MemPlace} (h : Value.okWide Try.prog W r base 22 v) (ht : DataW.Trod enc Try.prog W b0 sp held 22 v d ps) : ∃ A n c l, v = .slice A n c ∧ BytesAt W (.slice A n c) l ∧ n ≤ c := by
  obtain ⟨A, n, c, rfl⟩ := okWide_slice Try.underlying22 h
  simp only [Value.okWide, Try.underlying22, Cell.okWide, Cell.ok] at h
  obtain ⟨fuel, h1⟩ := ht
  have h1 : DataW.trod enc Try.prog W b0 sp held fuel 22 [.slice A n c] = some (d, ps) := h1
  rcases open_ints Try.underlying22 Try.underlying5 (by kernel_rfl) h1 with ⟨h2, _⟩ | ⟨a, len, cap, zs, h2, _, h4, _, h5, _, h6, h7⟩
  · cases h2
    exact ⟨none, 0, 0, [], rfl, ⟨fun x hx => by simp at hx, .inl ⟨rfl, rfl⟩⟩, Nat.le_refl _⟩
  · cases h2
    obtain ⟨b, off, spot⟩ := a
    have hsp : spot = none := h.2.2.2.1
    subst hsp
    have hzl : n ≤ zs.length := by rw [h5]; split <;> omega
    have hz : ∀ i, (hi : i < zs.length) → zs[i] = ((zs[i].toNat : Nat) : Int) ∧ zs[i].toNat < 256 := fun i hi => by
      have := h7 _ (List.getElem_mem hi)
      have := u8_wf this
      omega
    refine ⟨some ⟨b, off, none⟩, n, c, (zs.take n).map Int.toNat, rfl, ⟨fun x hx => ?_, .inr ⟨b, off, c, ?_, fun j hj => ?_⟩⟩, h4⟩
    · obtain ⟨z, hz1, rfl⟩ := List.mem_map.1 hx
      obtain ⟨i, hi, rfl⟩ := List.getElem_of_mem (List.mem_of_mem_take hz1)
      exact (hz i hi).2
    · rw [List.length_map, List.length_take, Nat.min_eq_left hzl]
    · have hj2 : j < zs.length := by
        rw [List.length_map, List.length_take] at hj; omega
      have := h6 j hj2
      rw [addr_of, List.getD_eq_getElem?_getD, List.getElem?_eq_getElem hj2, Option.getD_some] at this
      rw [this, List.getElem_map, List.getElem_take, ← (hz j hj2).1]
theorem u64_wf {n : Int} (h : (Lit.int .u64 n).wf = true) : 0 ≤ n ∧ n < 18446744073709551616 := by
  have h2 : (decide ((0 : Int) ≤ n) && decide (n ≤ 18446744073709551615)) = true := h
  simp only [Bool.and_eq_true, decide_eq_true_eq] at h2
  omega
theorem u64_open {H : Type} {enc : TypeId × Value → H} {W : World} {b0 fuel : Nat} {sp : Nat → Bool} {held : Bool} {v : Value} {y : DataW H × List MemPlace} (h : DataW.trod enc Try.prog W b0 sp held fuel 23 [v] = some y) : ∃ a : Nat, v = .int .u64 a ∧ a < 18446744073709551616 := by
  obtain ⟨n, e, _, hw⟩ := DataW.trod_int Try.underlying23 h
  have h2 := u64_wf hw
  obtain rfl : v = .int .u64 n := by simpa using e
  refine ⟨n.toNat, ?_, by omega⟩
  rw [Int.toNat_of_nonneg h2.1]
theorem cells_open {W : World} {r : Reach} {base : Nat} {c0 c1 c2 c3 : Value} (h : Value.okWide Try.prog W r base 25 (.agg #[c0, c1, c2, c3])) : Value.okWide Try.prog W r base 22 c0 ∧ Value.okWide Try.prog W r base 22 c1 := by
  have hu := Try.underlying22
  simp only [Value.okWide, Try.underlying25] at h
  obtain ⟨cs, he, hsz, ts, hts, _, hall⟩ := h
  have e2 : Try.prog.cellTypes Try.prog.depth 25 = some [22, 22, 23, 23] := by kernel_rfl
  rw [e2] at hts
  cases hts
  cases he
  obtain ⟨u0, g0, k0⟩ := hall 0 c0 rfl
  obtain ⟨u1, g1, k1⟩ := hall 1 c1 rfl
  cases g0; cases g1
  exact ⟨by simp only [Value.okWide, hu]; exact k0, by simp only [Value.okWide, hu]; exact k1⟩
theorem key_open {H : Type} {enc : TypeId × Value → H} {W : World} {r : Reach} {b0 base : Nat} {sp : Nat → Bool} {held : Bool} {v : Value} {d : DataW H} {ps : List MemPlace} (h : Value.okWide Try.prog W r base 25 v) (ht : DataW.Trod enc Try.prog W b0 sp held 25 v d ps) :
    ∃ A1 n1 c1 A2 n2 c2, ∃ a b : Nat, ∃ k x, v = .agg #[.slice A1 n1 c1, .slice A2 n2 c2, .int .u64 a, .int .u64 b] ∧ a < 18446744073709551616 ∧ b < 18446744073709551616 ∧ BytesAt W (.slice A1 n1 c1) k ∧ BytesAt W (.slice A2 n2 c2) x := by
  obtain ⟨v0, v1, v2, v3, y0, y1, y2, y3, n, rfl, _, _, h0, h1, h2, h3⟩ := open_agg4 Try.underlying25 (by kernel_rfl) (by kernel_rfl) h ht
  obtain ⟨o0, o1⟩ := cells_open h
  obtain ⟨a, rfl, ha⟩ := u64_open h2
  obtain ⟨b, rfl, hb⟩ := u64_open h3
  have s0 := slice_form Try.underlying22 h0
  have s1 := slice_form Try.underlying22 h1
  obtain ⟨A1, n1, c1, e0⟩ := s0
  obtain ⟨A2, n2, c2, e1⟩ := s1
  cases e0; cases e1
  obtain ⟨_, _, _, k, e, hk, _⟩ := bytes_open o0 ⟨n, h0⟩
  cases e
  obtain ⟨_, _, _, x, e, hx, _⟩ := bytes_open o1 ⟨n, h1⟩
  cases e
  exact ⟨A1, n1, c1, A2, n2, c2, a, b, k, x, rfl, ha, hb, hk, hx⟩
theorem post_low {H : Type} {enc : TypeId × Value → H} {P : Program} {f : Func} {s : ChangeSpec} {apart fresh handsOn again : Bool} {W W' : World} {args : Array Value} {v : Value} {ds gs : List (DataW H)} {before pa pv : List MemPlace}
    (hW : DataW.Whole enc P f.params.toList s.vars apart W args.toList ds gs before)
    (hres : ∀ (b : Nat) (sp : Nat → Bool) (hd : Bool), DataW.TrodAll enc P W' b sp hd f.resultTypes.toList (v.resultList f.resultTypes.size) (s.fn H (ds ++ gs)).results [])
    (hargs : ∀ sp : Nat → Bool, (∀ p ∈ before, sp p.block = true) → DataW.TrodAll enc P W' 0 sp true f.params.toList args.toList (s.fn H (ds ++ gs)).args pa)
    (hvars : ∀ sp : Nat → Bool, (∀ p ∈ before, sp p.block = true) → DataW.TrodVars enc P W' sp s.vars (s.fn H (ds ++ gs)).vars pv)
    (hps : before = pa ++ pv) (hk : Below W.heap.size W W')
    (hok : ∀ (j : Nat) (t : TypeId) (r : Value), f.resultTypes[j]? = some t → (v.resultList f.resultTypes.size)[j]? = some r → Value.okWide P W' .any 0 t r) :
    s.post enc P f apart fresh handsOn again W args v W' := by
  have hold : ∀ p ∈ before, (fun b => decide (b < W.heap.size)) p.block = true := fun p hp => by simpa using hW.lt p hp
  have hlt := hW.lt
  refine ⟨ds, gs, before, [], pa, pv, hW, hres _ _ _, hargs _ hold, hvars _ hold, hk.frame _, fun _ => ?_⟩
  obtain ⟨_, _, _, _, _, hz, hn⟩ := hW
  refine ⟨hok, _, _, ([] ++ pa) ++ pv, ⟨[] ++ pa, pv, trodAll_append (hargs _ (fun _ _ => rfl)) (hres _ _ _), hvars _ (fun _ _ => rfl), rfl, ?_, ?_⟩, ?_⟩
  · intro b off hp
    have hp' := hp
    rw [List.nil_append, ← hps] at hp'
    rw [hk.frozen (hlt _ hp')]
    exact hz b off hp'
  · intro ha
    have := hn ha
    rw [hps] at this
    simpa using this
  · intro p hp _
    rw [hps]
    simpa using hp

theorem stays {H : Type} {enc : TypeId × Value → H} {t : TypeId} {W W' : World} {v : Value} {d : DataW H} {ps : List MemPlace} {sp : Nat → Bool} (h : DataW.Trod enc Try.prog W 0 (fun _ => true) true t v d ps) (hb : Below W.heap.size W W') (hr : Try.prog.readableRec t = true) (hrow : t < Try.prog.types.size) (hlt : ∀ x ∈ ps, x.block < W.heap.size) (hsp : ∀ x ∈ ps, sp x.block = true) : DataW.Trod enc Try.prog W' 0 sp true t v d ps :=
  WideElems.Trod_stays laidOut hr hrow h (fun x hx => hb.same (hlt x hx)) (fun x hx => hsp x hx)
theorem lifted (os : Os) (started : os.Started) (H : Type) (enc : TypeId × Value → H) :
    ReturnsInHanded {} Try.checked os 3 .any (Rows.heapBytesSpec.pre6 enc Try.prog Try.f3 Rows.heapBytesRow.domain false) (Rows.heapBytesSpec.post enc Try.prog Try.f3 false true false false) := by
  refine returnsInHanded_of_change (C := Try.checked) own started (by kernel_rfl) Try.func3
    (ChangeSpec.witness6 (enc := enc) (C := Try.checked) false ⟨#[], #[.agg #[.slice none 0 0, .slice none 0 0, .int .u64 0, .int .u64 0], .slice none 0 0], []⟩ 8 (by kernel_rfl) (by kernel_rfl) (by kernel_rfl) (by kernel_rfl)) ?_
  intro W base args ds gs before hval0 hW hcnd _
  have hval : ∀ (j : Nat) t v, Try.f3.params[j]? = some t → args[j]? = some v → Value.okWide Try.prog W .any base t v := hval0
  have hW' := hW
  obtain ⟨p, q, hA0, hV, rfl, hfz, hnd⟩ := hW
  have hA : DataW.TrodAll enc Try.prog W 0 (fun _ => true) true Try.f3.params.toList args.toList ds p := hA0
  rw [Try.params3] at hA hval
  obtain ⟨v0, v1, d0, d1, p0, p1, rfl, rfl, rfl, h0, h1⟩ := trodAll_two hA
  obtain ⟨rfl, rfl⟩ := trodVars_none hV
  obtain ⟨A1, n1, c1, A2, n2, c2, a, b, k, x, rfl, ha, hb, hk, hx⟩ := key_open (hval 0 25 v0 rfl rfl) h0
  obtain ⟨A, n, c, l, rfl, hl, hc⟩ := bytes_open (hval 1 22 v1 rfl rfl) h1
  clear hA0 hval0
  simp only [List.append_nil] at hW'
  refine (Hb.law_any A1 A2 A n1 c1 n2 c2 n c a b k x l W ha hb hk hx hl hc).mono fun e W' ⟨he, hg⟩ => ?_
  subst he
  have hlt : ∀ z ∈ p0 ++ p1, z.block < W.heap.size := fun z hz => by simpa using hW'.lt z hz
  exact ⟨_, rfl, post_low (pa := p0 ++ p1) (pv := []) hW' (fun _ _ _ => trodAll_mk1 (shut_bool Try.underlying4 _))
    (fun sp hsp => trodAll_mk2 (stays h0 hg (by kernel_rfl) (of_decide_eq_true (by kernel_rfl)) (fun z hz => hlt z (by simp [hz])) (fun z hz => hsp z (by simp [hz]))) (stays h1 hg (by kernel_rfl) (of_decide_eq_true (by kernel_rfl)) (fun z hz => hlt z (by simp [hz])) (fun z hz => hsp z (by simp [hz])))) (fun _ _ => rfl) (by simp) hg (ok_one (by kernel_rfl) rfl (okWide_bool_mk Try.underlying4 _))⟩
theorem bytes : Rows.HeapBytesSaid :=
  OpenClaim.holds_of_wide 3 Try.f3 rfl rfl rfl rfl rfl rfl rfl ⟨rfl, rfl, rfl, rfl, rfl⟩ rfl rfl rfl rfl rfl (by kernel_rfl) Try.func3 (by kernel_rfl)
    (of_decide_eq_true (by kernel_rfl)) (by unfold Func.isWrapper; first | (rw [if_pos (by decide +kernel)]; kernel_rfl) | (rw [if_neg (by decide +kernel)]; exact ⟨rfl, rfl⟩))
    (fun os started H enc _ => lifted os started H enc)
#print axioms bytes
end Go.Proofs.Ytekafaeefpgnjaa.said
