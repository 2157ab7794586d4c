/- A file made to last, as the evaluator knows it. -/
import Derived.Test.YtjdjpjebbdcfeaaGreatDoorSyN
namespace Go.Ev
open Go.RowKit Go.MapKept
/-! ### What it computes -/
noncomputable def eidA (e : Ent) : Option Nat := match e.2.1 with
  | .ptr s off => cnd (Nat.beq off 0) (some s) none
  | _ => none
noncomputable def idsA (es : List Ent) : Option (List Nat) := List.rec (motive := fun _ => Option (List Nat)) (some []) (fun e _ ih => obind (eidA e) fun s => obind ih fun r => some (s :: r)) es
noncomputable def distA (l : List Nat) : Bool := List.rec (motive := fun _ => Bool) true (fun x t ih => cnd (hasN x t) false ih) l
/-- What the writes come to: none, or the block and the place of the last one. -/
noncomputable def wrsA (v : AV) : Option (Option (Nat × Nat × Nat)) := match v with
  | .nils => some none
  | .slice g off len _ => Nat.rec (motive := fun _ => Option (Option (Nat × Nat × Nat))) (some none) (fun n _ => some (some (g, off, n))) len
  | .slx g off len _ => Nat.rec (motive := fun _ => Option (Option (Nat × Nat × Nat))) (some none) (fun n _ => some (some (g, off, n))) len
  | _ => none
noncomputable def resA (H : Hp) (ids : List Nat) (r : AV) (p : Option (Nat × Nat × Nat)) : Option AV :=
  Option.rec (motive := fun _ => Option AV) (rowTake r 256) (fun q => cnd (notB (hasN q.1 ids)) (cnd (Nat.blt q.2.2 999999) (obind (cellsAt H q.1) fun rg => obind (rowDrop rg (Nat.add q.2.1 (Nat.mul q.2.2 256))) fun d => rowTake d 256) none) none) p
noncomputable def newA (H : Hp) (ids : List Nat) (s : Nat) : Option AO := obind (H.get s) fun o => match o with
  | .cells r e false => cnd (Nat.beq (rowSize r) 257) (obind (rowGet r 256) fun sl => obind (wrsA sl) fun p => obind (resA H ids r p) fun res => cnd (okRow res) (some (.cells (rowApp (.rone .nils .rnil) res) e false)) none) none
  | _ => none
noncomputable def allN (H : Hp) (ids : List Nat) (l : List Nat) : Option (Tr AO) := List.rec (motive := fun _ => Option (Tr AO)) (some H.tr) (fun s _ ih => obind (newA H ids s) fun o => obind ih fun t => some (t.put s (some o))) l
noncomputable def syM (H : Hp) (es : List Ent) (clock : Nat) : Option (AV × Hp) :=
  cnd (allA (fun b => Nat.blt b clock) es) (cnd (distA (lmp (fun e : Ent => e.2.2) es)) (obind (idsA es) fun ids => cnd (distA ids) (obind (allN H ids ids) fun t => some (.tup .rnil, ⟨H.next, t⟩)) none) none) none
noncomputable def syA (l : List AV) (H : Hp) : Option (AV × Hp) := match l with
  | [.ptr cid off] => cnd (Nat.beq off 0) (obind (cellsAt H cid) fun r => obind (rowGet r 0) fun v => match v with
    | .map m => obind (H.get m) fun o => match o with
      | .map es clock => syM H es clock
      | _ => none
    | _ => none) none
  | _ => none

/-! ### That it does -/
theorem F2.get_l {α β : Type} {r : α → β → Prop} : ∀ {a : List α} {b : List β}, F2 r a b → ∀ {k : Nat} {x : α}, a[k]? = some x → ∃ y, b[k]? = some y ∧ r x y
  | _, _, .nil, k, x, h => by simp at h
  | _, _, .cons h t, 0, x, hh => by
    simp only [List.getElem?_cons_zero, Option.some.injEq] at hh
    subst hh
    exact ⟨_, rfl, h⟩
  | _, _, .cons h t, k + 1, x, hh => by
    rw [List.getElem?_cons_succ] at hh
    obtain ⟨y, h1, h2⟩ := F2.get_l t hh
    exact ⟨y, by rw [List.getElem?_cons_succ]; exact h1, h2⟩
theorem distA_nodup : ∀ {l : List Nat}, distA l = true → l.Nodup
  | [], _ => List.nodup_nil
  | x :: t, h => by
    have h' : cnd (hasN x t) false (distA t) = true := h
    rw [cnd_eq, hasN_eq] at h'
    split at h'
    · cases h'
    · rename_i hc
      exact List.nodup_cons.2 ⟨by simpa using hc, distA_nodup h'⟩
theorem eidA_some {e : Ent} {s : Nat} (h : eidA e = some s) : e.2.1 = .ptr s 0 := by
  unfold eidA at h
  split at h
  · rename_i s' off he
    obtain ⟨h1, h2⟩ := cnd_some h
    cases h2
    rw [he, Nat.eq_of_beq_eq_true h1]
  · cases h
theorem idsA_get : ∀ {es : List Ent} {ids : List Nat}, idsA es = some ids → F2 (fun e s => eidA e = some s) es ids
  | [], _, h => by cases h; exact .nil
  | e :: es, ids, h => by
    have h' : (obind (eidA e) fun s => obind (idsA es) fun r => some (s :: r)) = some ids := h
    obtain ⟨s, h1, h2⟩ := obind_some h'
    obtain ⟨r, h3, h4⟩ := obind_some h2
    cases h4
    exact .cons h1 (idsA_get h3)
theorem allN_get {H : Hp} {ids : List Nat} : ∀ {l : List Nat} {t : Tr AO}, allN H ids l = some t → (∀ s ∈ l, ∃ o, newA H ids s = some o) ∧ ∀ id, t.get id = if id ∈ l then newA H ids id else H.tr.get id
  | [], t, h => by cases h; exact ⟨fun s hs => (by cases hs), fun id => (by rw [if_neg (by simp)])⟩
  | s :: l, t, h => by
    have h' : (obind (newA H ids s) fun o => obind (allN H ids l) fun t => some (t.put s (some o))) = some t := h
    obtain ⟨o, h1, h2⟩ := obind_some h'
    obtain ⟨t', h3, h4⟩ := obind_some h2
    cases h4
    obtain ⟨k1, k2⟩ := allN_get h3
    refine ⟨fun s' hs => ?_, fun id => ?_⟩
    · rcases List.mem_cons.1 hs with rfl | hs
      · exact ⟨o, h1⟩
      · exact k1 s' hs
    · rw [Tr.get_put]
      by_cases e : id = s
      · subst e
        rw [if_pos rfl, if_pos List.mem_cons_self, h1]
      · rw [if_neg e, k2]
        have : id ∈ s :: l ↔ id ∈ l := by simp [e]
        simp only [this]
/-- What is known of a slice of writes. -/
theorem wrsA_rel {E : Env} {v : AV} {c : Value} {p : Option (Nat × Nat × Nat)} (hv : V E v c) (h : wrsA v = some p) :
    (p = none ∧ ∃ r k, c = .slice r 0 k) ∨ ∃ g off n b z k, p = some (g, off, n) ∧ E g = some (b, z) ∧ c = .slice (some ⟨b, off, none⟩) (n + 1) k := by
  unfold wrsA at h
  split at h
  · cases h; exact .inl ⟨rfl, _, _, V_nils hv⟩
  · rename_i g off len cap
    obtain ⟨hle, b, z, h1, h2⟩ := V_slice hv
    cases len with
    | zero => cases h; exact .inl ⟨rfl, _, _, h2⟩
    | succ n => cases h; exact .inr ⟨g, off, n, b, z, _, rfl, h1, h2⟩
  · rename_i g off len size
    obtain ⟨b, z, o', cc, h1, h2, h3, h4⟩ := V_slx hv
    cases len with
    | zero => cases h; exact .inl ⟨rfl, _, _, h2⟩
    | succ n =>
      cases h
      rcases h4 with ⟨rfl, _⟩ | ⟨h4, _⟩
      · exact .inr ⟨g, _, n, b, z, _, rfl, h1, h2⟩
      · cases h4
  · cases h
theorem arith1 {off n x y : Nat} (h1 : off + n * 256 ≤ x) (h2 : 256 ≤ x - (off + n * 256)) (h3 : x ≤ y) : off + (n + 1) * 256 ≤ y := by
  rw [Nat.succ_mul]
  generalize n * 256 = m at h1 h2 ⊢
  exact Nat.le_trans (Nat.le_trans (Nat.le_of_eq (Nat.add_assoc off m 256).symm) (Nat.le_trans (Nat.add_le_add_left h2 _) (Nat.le_of_eq (Nat.add_sub_of_le h1)))) h3
theorem newA_rel {E : Env} {H : Hp} {w : World} {ids : List Nat} {s b z : Nat} {o : AO} (hH : HR E H.get w) (he : E s = some (b, z)) (h : newA H ids s = some o) :
    ∃ c T fr r n k, SecOk w b c T fr r n k ∧ ORel E z o (.cells (sR w b ++ [Value.slice none 0 0]).toArray T fr) ∧ (∀ a n' k', c[256]? = some (.slice (some a) n' k') → n' = 0 ∨ ∃ g og zg, g ∉ ids ∧ H.get g = some og ∧ E g = some (a.block, zg)) := by
  unfold newA at h
  obtain ⟨o1, h1, h2⟩ := obind_some h
  split at h2
  · rename_i r e
    obtain ⟨h3, h4⟩ := cnd_some h2
    obtain ⟨sl, h5, h6⟩ := obind_some h4
    obtain ⟨p, h7, h8⟩ := obind_some h6
    obtain ⟨res, h9, h10⟩ := obind_some h8
    obtain ⟨h11, h12⟩ := cnd_some h10
    cases h12
    obtain ⟨b', z', x, g1, g2, c, fr, rfl, hz, hu, l, x', hc, hr, hx⟩ := hH.obj _ _ h1
    rw [he] at g1; injection g1 with g1; injection g1 with g1 g1'; subst g1; subst g1'
    rw [hx rfl, List.append_nil] at hc
    have hsz : c.size = 257 := by
      have := rowSize_rel hr
      rw [← Array.length_toList, hc, this]
      exact Nat.eq_of_beq_eq_true h3
    obtain ⟨cv, k1, k2⟩ := rowGet_rel hr h5
    have hcv : c[256]? = some cv := by rw [← Array.getElem?_toList, hc]; exact k1
    have hC := sC_of g2
    have key : ∀ (r0 : Option Addr) (n k : Nat), cv = .slice r0 n k → n < 1000000 → (n = 0 ∨ ∃ g off cg eg frg, r0 = some ⟨g, off, none⟩ ∧ w.heap[g]? = some (.cells cg eg frg) ∧ off + n * 256 ≤ cg.size) → R E res (sR w b) →
        (∀ a n' k', c[256]? = some (.slice (some a) n' k') → n' = 0 ∨ ∃ g og zg, g ∉ ids ∧ H.get g = some og ∧ E g = some (a.block, zg)) →
        ∃ c' T fr r n k, SecOk w b c' T fr r n k ∧ ORel E z (.cells (rowApp (.rone .nils .rnil) res) e false) (.cells (sR w b ++ [Value.slice none 0 0]).toArray T fr) ∧ (∀ a n' k', c'[256]? = some (.slice (some a) n' k') → n' = 0 ∨ ∃ g og zg, g ∉ ids ∧ H.get g = some og ∧ E g = some (a.block, zg)) := by
      intro r0 n k e0 hn hrow hres hap
      subst e0
      have hsec : SecOk w b c e fr r0 n k := ⟨g2, hu, hsz, hcv, hn, hrow, okRow_rel hres h11⟩
      refine ⟨c, e, fr, r0, n, k, hsec, ?_, hap⟩
      have hl := hsec.len
      refine ⟨_, fr, rfl, ?_, ?_, _, [], by rw [List.append_nil], ?_, fun _ => rfl⟩
      · simp [hl]; omega
      · have : (sR w b ++ [Value.slice none 0 0]).toArray.size = c.size := by simp [hl, hsz]
        rw [this]; exact hu
      · exact rowApp_rel (s := .rone .nils .rnil) (l2 := [Value.slice none 0 0]) ⟨_, [], rfl, rfl, rfl⟩ hres
    rcases wrsA_rel k2 h7 with ⟨rfl, r0, k, e0⟩ | ⟨g, off, n, bg, zg, k, rfl, q1, e0⟩
    · have h9' : rowTake r 256 = some res := h9
      refine key r0 0 k e0 (by omega) (.inl rfl) ?_ ?_
      · have hR : sR w b = c.toList.take 256 := by
          unfold sR; rw [hC, hcv, e0]; cases r0 <;> rfl
        rw [hR, hc]
        exact (rowTake_rel hr h9').1
      · intro a n' k' hh
        rw [hcv, e0] at hh
        injection hh with hh; injection hh with _ hh _
        exact .inl hh.symm
    · have h9' : cnd (notB (hasN g ids)) (cnd (Nat.blt n 999999) (obind (cellsAt H g) fun rg => obind (rowDrop rg (Nat.add off (Nat.mul n 256))) fun d => rowTake d 256) none) none = some res := h9
      obtain ⟨m1, m2⟩ := cnd_some h9'
      obtain ⟨m3, m4⟩ := cnd_some m2
      obtain ⟨rg, m5, m6⟩ := obind_some m4
      obtain ⟨d, m7, m8⟩ := obind_some m6
      obtain ⟨eg, xg, m9⟩ := cellsAt_some m5
      obtain ⟨bg', zg', xo, u1, u2, cg, frg, rfl, ug, uu, lg, xg', uc, ur, _⟩ := hH.obj _ _ m9
      rw [q1] at u1; injection u1 with u1; injection u1 with u1 u1'; subst u1; subst u1'
      obtain ⟨v1, v2⟩ := rowDrop_rel ur m7
      obtain ⟨v3, v4⟩ := rowTake_rel v1 m8
      have v2' : off + n * 256 ≤ lg.length := v2
      rw [List.length_drop] at v4
      have v4' : 256 ≤ lg.length - (off + n * 256) := v4
      clear v2 v4
      have hlg : lg.length ≤ cg.size := by rw [← Array.length_toList, uc, List.length_append]; omega
      have hn : n < 999999 := by simpa [Nat.blt_eq] using m3
      have hn1 : n + 1 < 1000000 := by omega
      have hle1 : off + (n + 1) * 256 ≤ cg.size := arith1 v2' v4' hlg
      refine key (some ⟨bg, off, none⟩) (n + 1) k e0 hn1 (.inr ⟨bg, off, cg, eg, frg, rfl, u2, hle1⟩) ?_ ?_
      · have hR : sR w b = (cg.toList.drop (off + n * 256)).take 256 := by
          unfold sR; rw [hC, hcv, e0]
          show ((sC w bg).toList.drop (off + n * 256)).take 256 = _
          rw [sC_of u2]
        rw [hR, uc, List.drop_append_of_le_length v2', List.take_append_of_le_length (by rw [List.length_drop]; exact v4')]
        exact v3
      · intro a n' k' hh
        rw [hcv, e0] at hh
        injection hh with hh; injection hh with hh _ _
        injection hh with hh
        subst hh
        refine .inr ⟨g, _, zg, ?_, m9, q1⟩
        rw [hasN_eq] at m1
        intro hm
        have : ids.contains g = true := by simpa using hm
        rw [this] at m1
        cases m1
  · cases h2
theorem born_list {E : Env} : ∀ {es : List Ent} {cs : List MapEntry}, F2 (ERel E) es cs → cs.map (·.born) = lmp (fun e : Ent => e.2.2) es
  | [], [], .nil => rfl
  | e :: es, c :: cs, .cons h t => by
    show c.born :: cs.map (·.born) = e.2.2 :: lmp (fun e : Ent => e.2.2) es
    rw [born_list t, h.2.2]
theorem nodup_idx {l : List Nat} (h : l.Nodup) {i j x : Nat} (h1 : l[i]? = some x) (h2 : l[j]? = some x) : i = j := by
  exact (List.getElem?_inj (List.getElem?_eq_some_iff.1 h1).1 h).1 (h1.trans h2.symm)
theorem sy_known {P : Program} {f : FuncId} {base : Nat} {w0 : World}
    (hs : ∀ (bf bm : Nat) (cf : Array Value) (ef : TypeId) (frf : Nat × Nat) (es : Array MapEntry) (clock : Nat) (w : World), w.heap[bf]? = some (.cells cf ef frf) → cf[0]? = some (.map (some bm)) → FileOk w bm es clock →
      Calls P f #[.pointer (some ⟨bf, 0, none⟩)] w fun e w' => e = .returned (.tuple #[]) ∧ ∃ seen, Mid w bm es clock seen w' ∧ (leftOf es seen).size = 0) :
    ∀ l E H w (args : Array Value) r, syA l H = some r → F2 (V E) l args.toList → Inv E H w base w0 → Calls P f args w (RetOk E H w r) := by
  intro l E H w args r h hl hI
  have hH := hI.hr
  unfold syA at h
  split at h
  · rename_i cid off
    obtain ⟨h0, h1⟩ := cnd_some h
    obtain rfl : off = 0 := Nat.eq_of_beq_eq_true h0
    obtain ⟨rc, h2, h3⟩ := obind_some h1
    obtain ⟨v, h4, h5⟩ := obind_some h3
    obtain ⟨ec, xc, h6⟩ := cellsAt_some h2
    split at h5
    · rename_i m
      obtain ⟨o, h7, h8⟩ := obind_some h5
      split at h8
      · rename_i es clock
        unfold syM at h8
        obtain ⟨a1, a2⟩ := cnd_some h8
        obtain ⟨a3, a4⟩ := cnd_some a2
        obtain ⟨ids, a5, a6⟩ := obind_some a4
        obtain ⟨a7, a8⟩ := cnd_some a6
        obtain ⟨t, a9, a10⟩ := obind_some a8
        cases a10
        cases args with
        | mk al =>
        cases hl with
        | cons hx ht =>
        cases ht
        obtain ⟨bf, zf, k1, rfl⟩ := V_ptr hx
        obtain ⟨bf', zf', xf, k2, k3, cf, frf, rfl, kz, ku, lf, xf', kc, kr, _⟩ := hH.obj _ _ h6
        rw [k1] at k2; injection k2 with k2; injection k2 with k2 k2'; subst k2; subst k2'
        obtain ⟨cv, k4, k5⟩ := rowGet_rel kr h4
        obtain ⟨bm, zm, k6, rfl⟩ := V_map k5
        have hf0 : cf[0]? = some (.map (some bm)) := by
          rw [← Array.getElem?_toList, kc, List.getElem?_append_left (List.getElem?_eq_some_iff.1 k4).1]; exact k4
        obtain ⟨bm', zm', xm, j1, j2, cs, rfl, j3⟩ := hH.obj _ _ h7
        rw [k6] at j1; injection j1 with j1; injection j1 with j1 j1'; subst j1; subst j1'
        have j3' : F2 (ERel E) es cs.toList := j3
        have hids := idsA_get a5
        have hnd := distA_nodup a7
        obtain ⟨n1, n2⟩ := allN_get a9
        -- an entry, its number, its block
        have look : ∀ e ∈ cs.toList, ∃ (i : Nat) (s : Nat) (z : Nat), cs.toList[i]? = some e ∧ ids[i]? = some s ∧ E s = some (sB e, z) ∧ e.val = .pointer (some ⟨sB e, 0, none⟩) := by
          intro e he
          obtain ⟨i, hi, hie⟩ := List.getElem_of_mem he
          have hi' : cs.toList[i]? = some e := by rw [List.getElem?_eq_getElem hi, hie]
          obtain ⟨x, y1, y2⟩ := j3'.get_r hi'
          obtain ⟨s, y3, y4⟩ := hids.get_l y1
          have y5 := y2.2.1
          rw [eidA_some y4] at y5
          obtain ⟨b, z, y6, y7⟩ := V_ptr y5
          have y8 : sB e = b := by unfold sB; rw [y7]
          exact ⟨i, s, z, hi', y3, by rw [y8]; exact y6, by rw [y8]; exact y7⟩
        have back : ∀ s ∈ ids, ∃ e ∈ cs.toList, ∃ z, E s = some (sB e, z) := by
          intro s hs
          obtain ⟨i, hi, hie⟩ := List.getElem_of_mem hs
          have hi' : ids[i]? = some s := by rw [List.getElem?_eq_getElem hi, hie]
          obtain ⟨x, y1, y2⟩ := hids.get_r hi'
          obtain ⟨e, y3, y4⟩ := j3'.get_l y1
          have y5 := y4.2.1
          rw [eidA_some y2] at y5
          obtain ⟨b, z, y6, y7⟩ := V_ptr y5
          have y8 : sB e = b := by unfold sB; rw [y7]
          exact ⟨e, List.mem_of_getElem? y3, z, by rw [y8]; exact y6⟩
        have live : ∀ s ∈ ids, ∃ o, H.get s = some o := fun s hs => by
          obtain ⟨o, ho⟩ := n1 s hs
          unfold newA at ho
          obtain ⟨o1, q1, _⟩ := obind_some ho
          exact ⟨o1, q1⟩
        have hfile : FileOk w bm cs clock := by
          refine ⟨j2, ?_, ?_, fun e he => ?_, fun e he => ?_, fun e he e' he' hb => ?_, fun e he e' he' a n k hh => ?_⟩
          · have := allA_rel (f := fun b => Nat.blt b clock) j3'
            rw [a1] at this
            intro e he
            have := List.all_eq_true.1 this.symm e he
            simpa [Nat.blt_eq] using this
          · rw [born_list j3']; exact distA_nodup a3
          · obtain ⟨i, s, z, _, _, _, q⟩ := look e he; exact q
          · obtain ⟨i, s, z, q1, q2, q3, _⟩ := look e he
            obtain ⟨o, ho⟩ := n1 s (List.mem_of_getElem? q2)
            obtain ⟨c, T, fr, r, n, k, q4, _⟩ := newA_rel hH q3 ho
            exact ⟨c, T, fr, r, n, k, q4⟩
          · obtain ⟨i, s, z, q1, q2, q3, _⟩ := look e he
            obtain ⟨i', s', z', q1', q2', q3', _⟩ := look e' he'
            obtain ⟨o1, p1⟩ := live s (List.mem_of_getElem? q2)
            obtain ⟨o2, p2⟩ := live s' (List.mem_of_getElem? q2')
            rw [← hb] at q3'
            have hss : s = s' := hH.inj s s' o1 o2 (sB e) z z' p1 p2 q3 q3'
            subst hss
            have hii := nodup_idx hnd q2 q2'
            subst hii
            rw [q1] at q1'; exact Option.some.inj q1'
          · obtain ⟨i, s, z, q1, q2, q3, _⟩ := look e he
            obtain ⟨o, ho⟩ := n1 s (List.mem_of_getElem? q2)
            obtain ⟨c, T, fr, r, n', k', q4, _, q5⟩ := newA_rel hH q3 ho
            rw [sC_of q4.blk] at hh
            rcases q5 a n k hh with q6 | ⟨g, og, zg, q6, q7, q8⟩
            · exact .inl q6
            · right
              intro hb
              obtain ⟨i', s', z', q1', q2', q3', _⟩ := look e' he'
              obtain ⟨o2, p2⟩ := live s' (List.mem_of_getElem? q2')
              rw [← hb] at q3'
              have : g = s' := hH.inj g s' og o2 a.block zg z' q7 p2 q8 q3'
              subst this
              exact q6 (List.mem_of_getElem? q2')
        refine (hs bf bm cf ec frf cs clock w k3 hf0 hfile).mono ?_
        rintro e w' ⟨rfl, seen, hmid, hend⟩
        have hfin := hmid.stop hend
        have hitOf : ∀ s b z, s ∈ ids → E s = some (b, z) → (cs.toList.any fun e => decide (sB e = b)) = true := fun s b z hs hE => by
          obtain ⟨e, he, z', q⟩ := back s hs
          rw [hE] at q; injection q with q; injection q with q _
          rw [List.any_eq_true]
          exact ⟨e, he, by simp [q]⟩
        have noHit : ∀ id o b z, H.get id = some o → id ∉ ids → E id = some (b, z) → (cs.toList.any fun e => decide (sB e = b)) = false := fun id o b z ho hid hE => by
          rw [List.any_eq_false]
          intro e he hh
          have hh' : sB e = b := by simpa using hh
          obtain ⟨i, s, z', _, q2, q3, _⟩ := look e he
          obtain ⟨o2, p2⟩ := live s (List.mem_of_getElem? q2)
          rw [hh'] at q3
          have : id = s := hH.inj id s o o2 b z z' ho p2 hE q3
          subst this
          exact hid (List.mem_of_getElem? q2)
        have liveNew : ∀ id o, t.get id = some o → ∃ o0, H.get id = some o0 := fun id o ho => by
          rw [n2] at ho
          split at ho
          · rename_i hm; exact live id hm
          · exact ⟨o, ho⟩
        refine ⟨E, _, rfl, ⟨Env.le_refl E, fun _ _ h => .inl h, Nat.le_refl _, ⟨fun id o ho => ?_, fun id id' o o' b z z' g1 g2 g3 g4 => ?_⟩, hmid.os, hmid.tape, hmid.output, Nat.le_of_lt hmid.size, fun b hb hno => ?_, fun id o b z g1 g2 => ?_⟩, ?_⟩
        · have ho' : t.get id = some o := ho
          rw [n2] at ho'
          split at ho'
          · rename_i hm
            obtain ⟨o0, p0⟩ := live id hm
            obtain ⟨b, z, x, p1, p2, _⟩ := hH.obj id o0 p0
            obtain ⟨c, T, fr, r, n, k, q4, q5, _⟩ := newA_rel hH p1 ho'
            have hlt := (Array.getElem?_eq_some_iff.1 p2).1
            refine ⟨b, z, _, p1, ?_, q5⟩
            rw [hfin b hlt, hitOf id b z hm p1, if_pos rfl]
            unfold finO
            rw [q4.blk]
          · rename_i hm
            obtain ⟨b, z, x, p1, p2, p3⟩ := hH.obj id o ho'
            have hlt := (Array.getElem?_eq_some_iff.1 p2).1
            refine ⟨b, z, x, p1, ?_, p3⟩
            rw [hfin b hlt, noHit id o b z ho' hm p1]
            exact p2
        · obtain ⟨o1, p1⟩ := liveNew id o g1
          obtain ⟨o2, p2⟩ := liveNew id' o' g2
          exact hH.inj id id' o1 o2 b z z' p1 p2 g3 g4
        · rw [hfin b hb]
          have : (cs.toList.any fun e => decide (sB e = b)) = false := by
            rw [List.any_eq_false]
            intro e he hh
            have hh' : sB e = b := by simpa using hh
            obtain ⟨i, s, z', _, q2, q3, _⟩ := look e he
            obtain ⟨o2, p2⟩ := live s (List.mem_of_getElem? q2)
            rw [hh'] at q3
            exact hno s o2 z' p2 q3
          rw [this]; rfl
        · obtain ⟨o1, p1⟩ := liveNew id o g1
          exact .inr ⟨id, o1, z, p1, g2⟩
        · exact ⟨#[], rfl, rfl⟩
      · cases h8
    · cases h5
  · cases h
end Go.Ev
