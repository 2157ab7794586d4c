import Derived.Test.YtddedbajcpefiaaGreatIeF
import Derived.Test.YtddedbajcpefiaaGreatRows
import Derived.WalkKit
import Derived.ProofKit
import Derived.OpenShut
import Derived.Lay
namespace Go.Proofs.YtddedbajcpefiaaGreat.said
set_option maxRecDepth 100000
open Go Go.Ev Go.ChangeShapes Go.WideShapes Go.ChangeAt Go.RowKit Go.Ie Go.Crc
theorem own : ownKnob Tryz.prog.godebug = none := by kernel_rfl
theorem laidOut : laidOutB Tryz.prog = true := by kernel_rfl
theorem key_open {W : World} {r : Reach} {base : Nat} {v : Value} (h : Value.okWide Tryz.prog W r base 25 v) : ∃ s p q, v = .agg #[.string s, .int .i64 p, .int .i64 q] := by
  simp only [Value.okWide, Tryz.underlying25] at h
  obtain ⟨cs, rfl, hsz, ts, hts, _, hall⟩ := h
  have e1 : Tryz.prog.cellsOf 25 = 3 := by kernel_rfl
  have e2 : Tryz.prog.cellTypes Tryz.prog.depth 25 = some [9, 3, 3] := by kernel_rfl
  rw [e1] at hsz
  rw [e2] at hts
  cases hts
  obtain ⟨l⟩ := cs
  match l, hsz with
  | [a, b, c], _ =>
    obtain ⟨u0, g0, k0⟩ := hall 0 a rfl
    obtain ⟨u1, g1, k1⟩ := hall 1 b rfl
    obtain ⟨u2, g2, k2⟩ := hall 2 c rfl
    cases g0; cases g1; cases g2
    have hs : ∃ s, a = .string s := okWide_string (t := 9) Tryz.underlying9 (by simp only [Value.okWide, Tryz.underlying9]; exact k0)
    have hp : ∃ n, b = .int .i64 n := okWide_int (t := 3) Tryz.underlying3 (by simp only [Value.okWide, Tryz.underlying3]; exact k1)
    have hq : ∃ n, c = .int .i64 n := okWide_int (t := 3) Tryz.underlying3 (by simp only [Value.okWide, Tryz.underlying3]; exact k2)
    obtain ⟨s, rfl⟩ := hs
    obtain ⟨p, rfl⟩ := hp
    obtain ⟨q, rfl⟩ := hq
    exact ⟨s, p, q, rfl⟩
theorem addr_of (b off j : Nat) : (⟨b, off, none⟩ : Addr).add j = ⟨b, off + j, none⟩ := by
  have := Ie.add_at b off j
  rwa [Nat.zero_add] at this
theorem u8_wf {n : Int} (h : (Lit.int .u8 n).wf = true) : 0 ≤ n ∧ n < 256 := by
  have h2 : (decide ((0 : Int) ≤ n) && decide (n ≤ 255)) = true := h
  simp only [Bool.and_eq_true, decide_eq_true_eq] at h2
  omega
theorem bytes_open {H : Type} {enc : TypeId × Value → H} {W : World} {r : Reach} {b0 base : Nat} {sp : Nat → Bool} {held : Bool} {v : Value} {d : DataW H} {ps : List MemPlace} (h : Value.okWide Tryz.prog W r base 26 v) (ht : DataW.Trod enc Tryz.prog W b0 sp held 26 v d ps) : ∃ A n c l, v = .slice A n c ∧ BytesAt W (.slice A n c) l ∧ n ≤ c := by
  obtain ⟨A, n, c, rfl⟩ := okWide_slice Tryz.underlying26 h
  simp only [Value.okWide, Tryz.underlying26, Cell.okWide, Cell.ok] at h
  obtain ⟨fuel, h1⟩ := ht
  have h1 : DataW.trod enc Tryz.prog W b0 sp held fuel 26 [.slice A n c] = some (d, ps) := h1
  rcases open_ints Tryz.underlying26 Tryz.underlying5 (by kernel_rfl) h1 with ⟨h2, _⟩ | ⟨a, len, cap, zs, h2, _, h4, _, h5, _, h6, h7⟩
  · cases h2
    exact ⟨none, 0, 0, [], rfl, ⟨fun x hx => by simp at hx, .inl ⟨rfl, rfl⟩⟩, Nat.le_refl _⟩
  · cases h2
    obtain ⟨b, off, spot⟩ := a
    have hsp : spot = none := h.2.2.2.1
    subst hsp
    have hzl : n ≤ zs.length := by rw [h5]; split <;> omega
    have hz : ∀ i, (hi : i < zs.length) → zs[i] = ((zs[i].toNat : Nat) : Int) ∧ zs[i].toNat < 256 := fun i hi => by
      have := h7 _ (List.getElem_mem hi)
      have := u8_wf this
      omega
    refine ⟨some ⟨b, off, none⟩, n, c, (zs.take n).map Int.toNat, rfl, ⟨fun x hx => ?_, .inr ⟨b, off, c, ?_, fun j hj => ?_⟩⟩, h4⟩
    · obtain ⟨z, hz1, rfl⟩ := List.mem_map.1 hx
      obtain ⟨i, hi, rfl⟩ := List.getElem_of_mem (List.mem_of_mem_take hz1)
      exact (hz i hi).2
    · rw [List.length_map, List.length_take, Nat.min_eq_left hzl]
    · have hj2 : j < zs.length := by
        rw [List.length_map, List.length_take] at hj; omega
      have := h6 j hj2
      rw [addr_of, List.getD_eq_getElem?_getD, List.getElem?_eq_getElem hj2, Option.getD_some] at this
      rw [this, List.getElem_map, List.getElem_take, ← (hz j hj2).1]
theorem post_low {H : Type} {enc : TypeId × Value → H} {P : Program} {f : Func} {s : ChangeSpec} {apart fresh handsOn again : Bool} {W W' : World} {args : Array Value} {v : Value} {ds gs : List (DataW H)} {before pa pv : List MemPlace}
    (hW : DataW.Whole enc P f.params.toList s.vars apart W args.toList ds gs before)
    (hres : ∀ (b : Nat) (sp : Nat → Bool) (hd : Bool), DataW.TrodAll enc P W' b sp hd f.resultTypes.toList (v.resultList f.resultTypes.size) (s.fn H (ds ++ gs)).results [])
    (hargs : ∀ sp : Nat → Bool, (∀ p ∈ before, sp p.block = true) → DataW.TrodAll enc P W' 0 sp true f.params.toList args.toList (s.fn H (ds ++ gs)).args pa)
    (hvars : ∀ sp : Nat → Bool, (∀ p ∈ before, sp p.block = true) → DataW.TrodVars enc P W' sp s.vars (s.fn H (ds ++ gs)).vars pv)
    (hps : before = pa ++ pv) (hk : Below W.heap.size W W')
    (hok : ∀ (j : Nat) (t : TypeId) (r : Value), f.resultTypes[j]? = some t → (v.resultList f.resultTypes.size)[j]? = some r → Value.okWide P W' .any 0 t r) :
    s.post enc P f apart fresh handsOn again W args v W' := by
  have hold : ∀ p ∈ before, (fun b => decide (b < W.heap.size)) p.block = true := fun p hp => by simpa using hW.lt p hp
  have hlt := hW.lt
  refine ⟨ds, gs, before, [], pa, pv, hW, hres _ _ _, hargs _ hold, hvars _ hold, hk.frame _, fun _ => ?_⟩
  obtain ⟨_, _, _, _, _, hz, hn⟩ := hW
  refine ⟨hok, _, _, ([] ++ pa) ++ pv, ⟨[] ++ pa, pv, trodAll_append (hargs _ (fun _ _ => rfl)) (hres _ _ _), hvars _ (fun _ _ => rfl), rfl, ?_, ?_⟩, ?_⟩
  · intro b off hp
    have hp' := hp
    rw [List.nil_append, ← hps] at hp'
    rw [hk.frozen (hlt _ hp')]
    exact hz b off hp'
  · intro ha
    have := hn ha
    rw [hps] at this
    simpa using this
  · intro p hp _
    rw [hps]
    simpa using hp

theorem stays {H : Type} {enc : TypeId × Value → H} {t : TypeId} {W W' : World} {v : Value} {d : DataW H} {ps : List MemPlace} {sp : Nat → Bool} (h : DataW.Trod enc Tryz.prog W 0 (fun _ => true) true t v d ps) (hb : Below W.heap.size W W') (hr : Tryz.prog.readableRec t = true) (hrow : t < Tryz.prog.types.size) (hlt : ∀ x ∈ ps, x.block < W.heap.size) (hsp : ∀ x ∈ ps, sp x.block = true) : DataW.Trod enc Tryz.prog W' 0 sp true t v d ps :=
  WideElems.Trod_stays laidOut hr hrow h (fun x hx => hb.same (hlt x hx)) (fun x hx => hsp x hx)
theorem lifted (os : Os) (started : os.Started) (H : Type) (enc : TypeId × Value → H) :
    ReturnsInHanded {} Tryz.checked os 3 .any (Rows.indexEntriesSpec.pre6 enc Tryz.prog Tryz.f3 Rows.indexEntriesRow.domain false) (Rows.indexEntriesSpec.post enc Tryz.prog Tryz.f3 false true false false) := by
  refine returnsInHanded_of_change (C := Tryz.checked) own started (by kernel_rfl) Tryz.func3
    (ChangeSpec.witness6 (enc := enc) (C := Tryz.checked) false ⟨#[], #[.agg #[.string ByteArray.empty, .int .i64 0, .int .i64 0], .agg #[.string ByteArray.empty, .int .i64 0, .int .i64 0], .slice none 0 0], []⟩ 8 (by kernel_rfl) (by kernel_rfl) (by kernel_rfl) (by kernel_rfl)) ?_
  intro W base args ds gs before hval0 hW hcnd _
  have hval : ∀ (j : Nat) t v, Tryz.f3.params[j]? = some t → args[j]? = some v → Value.okWide Tryz.prog W .any base t v := hval0
  have hW' := hW
  obtain ⟨p, q, hA0, hV, rfl, hfz, hnd⟩ := hW
  have hA : DataW.TrodAll enc Tryz.prog W 0 (fun _ => true) true Tryz.f3.params.toList args.toList ds p := hA0
  rw [Tryz.params3] at hA hval
  obtain ⟨v0, v1, v2, d0, d1, d2, p0, p1, p2, rfl, rfl, rfl, h0, h1, h2⟩ := trodAll_three hA
  obtain ⟨rfl, rfl⟩ := trodVars_none hV
  obtain ⟨s, x, y, rfl⟩ := key_open (hval 0 25 v0 rfl rfl)
  obtain ⟨s', x', y', rfl⟩ := key_open (hval 1 25 v1 rfl rfl)
  obtain ⟨A, n, c, l, rfl, hl, hc⟩ := bytes_open (hval 2 26 v2 rfl rfl) h2
  clear hA0 hval0
  simp only [List.append_nil] at hW'
  refine (Ie.entries_any s x y s' x' y' l n c A W hl (fun A' n' c' e => by cases e; exact hc)).mono fun e W' ⟨he, hg⟩ => ?_
  subst he
  have hlt : ∀ z ∈ p0 ++ p1 ++ p2, z.block < W.heap.size := fun z hz => by simpa using hW'.lt z hz
  exact ⟨_, rfl, post_low (pa := p0 ++ (p1 ++ p2)) (pv := []) hW' (fun _ _ _ => trodAll_mk1 (shut_bool Tryz.underlying4 _))
    (fun sp hsp => trodAll_mk3 ((stays h0 hg (by kernel_rfl) (of_decide_eq_true (by kernel_rfl)) (fun z hz => hlt z (by simp [hz])) (fun z hz => hsp z (by simp [hz])))) (stays h1 hg (by kernel_rfl) (of_decide_eq_true (by kernel_rfl)) (fun z hz => hlt z (by simp [hz])) (fun z hz => hsp z (by simp [hz]))) (stays h2 hg (by kernel_rfl) (of_decide_eq_true (by kernel_rfl)) (fun z hz => hlt z (by simp [hz])) (fun z hz => hsp z (by simp [hz])))) (fun _ _ => rfl) (by simp) hg (ok_one (by kernel_rfl) rfl (okWide_bool_mk Tryz.underlying4 _))⟩
theorem entries : Rows.IndexEntriesSaid :=
  OpenClaim.holds_of_wide 3 Tryz.f3 rfl rfl rfl rfl rfl rfl rfl ⟨rfl, rfl, rfl, rfl, rfl⟩ rfl rfl rfl rfl rfl (by kernel_rfl) Tryz.func3 (by kernel_rfl)
    (of_decide_eq_true (by kernel_rfl)) (by unfold Func.isWrapper; first | (rw [if_pos (by decide +kernel)]; kernel_rfl) | (rw [if_neg (by decide +kernel)]; exact ⟨rfl, rfl⟩))
    (fun os started H enc _ => lifted os started H enc)
#print axioms entries
end Go.Proofs.YtddedbajcpefiaaGreat.said
