/- The run gives the certificate: one step. -/
import Derived.Test.YtjjnffgpfiokiaaGreatDoorEvZb
namespace Go.Ev
open Go.RowKit Go.MapKept

inductive StC (P : Program) (gl : Nat → Option AV) (call rnd : Caller) (ops : Array Oper) (n0 k : Nat) (o : Oper) (s s' : Ps) : Prop
  | doit (w : Bool) (h1 : isDo o.op = true) (h2 : wantA ops s.T o.guard = some w) (h3 : chkB P gl (mask ops k) s.bl s'.H = some s'.bl) (h4 : fmPut s.T s'.lv o.dst = some s'.T) (h6 : s'.pend = rest (mask ops k) s.pend) (h7 : s'.hs = (k, s.H) :: s.hs) (h8 : s'.lw = w) (h9 : s'.lo = none)
      (h10 : w = true → evOp P gl call rnd s.T (place n0 (mask ops k) s.pend s.H) o.op = some (s'.lv, s'.H)) (h11 : w = false → s'.lv = .tup .rnil ∧ s'.H = place n0 (mask ops k) s.pend s.H)
  | off (h1 : isDo o.op = false) (h2 : wantA ops s.T o.guard = some false) (h4 : fmPut s.T s'.lv o.dst = some s'.T) (h5 : s'.lv = .tup .rnil) (h3 : s'.H = s.H) (h6 : s'.pend = s.pend) (h10 : s'.bl = s.bl) (h7 : s'.hs = s.hs) (h8 : s'.lw = false) (h9 : s'.lo = none)
  | free (H' : Hp) (h1 : isDo o.op = false) (h2 : wantA ops s.T o.guard = some true) (h4 : fmPut s.T s'.lv o.dst = some s'.T) (h5 : evN P gl s.T ⟨n0 + k, .leaf⟩ o.op = some (s'.lv, H')) (h11 : H'.next ≤ n0 + k + 1) (h3 : s'.H = s.H) (h6 : s'.pend = addP k s'.lo s.pend) (h10 : s'.bl = s.bl) (h7 : s'.hs = s.hs) (h8 : s'.lw = true) (h9 : s'.lo = H'.get (n0 + k))
  | rd (h1 : isDo o.op = false) (h2 : wantA ops s.T o.guard = some true) (h4 : fmPut s.T s'.lv o.dst = some s'.T) (h5 : evN P gl s.T s.H o.op = some (s'.lv, s.H)) (h11 : roOp P o.op = true) (h12 : backB P gl (mask ops k) s.hs o.op s.T s'.lv = true) (h3 : s'.H = s.H) (h6 : s'.pend = s.pend) (h10 : s'.bl = (k, o.op, s.T, s'.lv) :: s.bl) (h7 : s'.hs = s.hs) (h8 : s'.lw = true) (h9 : s'.lo = none)

  | mark (y : Nat) (a : AO) (h1 : isDo o.op = false) (h2 : wantA ops s.T o.guard = some true) (h4 : fmPut s.T s'.lv o.dst = some s'.T) (hy : (y, a) ∈ s.pend) (hb : pmB ops k y = true) (hal : ∀ d, d < ops.size → isDx ops d = true → pmB ops d y = true → pmB ops d k = true)
      (h5 : evN P gl s.T ⟨n0 + k, (Tr.leaf : Tr AO).put (n0 + y) (some a)⟩ o.op = some (s'.lv, ⟨n0 + k, (Tr.leaf : Tr AO).put (n0 + y) (some a)⟩)) (h3 : s'.H = s.H) (h6 : s'.pend = s.pend) (h10 : s'.bl = s.bl) (h7 : s'.hs = s.hs) (h8 : s'.lw = true) (h9 : s'.lo = none)

theorem pendA_mem {y : Nat} {a : AO} : ∀ {l : List (Nat × AO)}, pendA y l = some a → (y, a) ∈ l
  | [], h => by cases h
  | p :: l, h => by
    have h' : cnd (Nat.beq p.1 y) (some p.2) (pendA y l) = some a := h
    rw [cnd_eq] at h'
    split at h'
    · rename_i e
      cases h'
      have e := Nat.eq_of_beq_eq_true e
      subst e
      exact .head _
    · exact .tail _ (pendA_mem h')
/-- A mark leaves what is known as it was. -/
theorem mark_same {P : Program} {gl : Nat → Option AV} {T : Fm} {op : Op} {id : Nat} {H : Hp} {r : AV × Hp} (hm : mkOf T op = some id) (h : evN P gl T H op = some r) : r.2 = H := by
  unfold mkOf at hm
  split at hm
  · rename_i s d q
    obtain ⟨h1, h2⟩ := cnd_some hm
    have h1 := Nat.eq_of_beq_eq_true h1
    subst h1
    have h : (obind (opd T q) fun x => Option.rec (motive := fun _ => Option (AV × Hp)) (Option.rec (motive := fun _ => Option (AV × Hp)) (Option.rec (motive := fun _ => Option (AV × Hp)) (Option.rec (motive := fun _ => Option (AV × Hp)) (s2sA P H s s x) (fun r => some r) (s2bA P H s s x)) (fun v => some (v, H)) (upA P H s s x)) (fun v => some (v, H)) (b2sA P H s s x)) (fun v => some (v, H)) (cvA P s s x)) = some r := h
    obtain ⟨x, h3, h4⟩ := obind_some h
    cases hc : cvA P s s x with
    | some v => rw [hc] at h4; cases h4; rfl
    | none =>
      rw [hc] at h4
      cases hc2 : b2sA P H s s x with
      | some v => rw [hc2] at h4; cases h4; rfl
      | none =>
        rw [hc2] at h4
        cases hc3 : upA P H s s x with
        | some v => rw [hc3] at h4; cases h4; rfl
        | none =>
          rw [hc3] at h4
          cases hc4 : s2bA P H s s x with
          | some q =>
            exfalso
            unfold s2bA at hc4
            obtain ⟨us, g1, g2⟩ := obind_some hc4
            obtain ⟨ud, g3, g4⟩ := obind_some g2
            rw [g1] at g3; cases g3
            cases us <;> cases g4
          | none =>
            rw [hc4] at h4
            have h4 : s2sA P H s s x = some r := h4
            unfold s2sA at h4
            obtain ⟨us, g1, g2⟩ := obind_some h4
            split at g2
            · obtain ⟨ue, g3, g4⟩ := obind_some g2
              split at g4
              · obtain ⟨_, g5⟩ := cnd_some g4
                obtain ⟨_, g6⟩ := cnd_some g5
                obtain ⟨i, _, g7⟩ := obind_some g6
                obtain ⟨row, _, g8⟩ := obind_some g7
                cases g8; rfl
              · cases g4
            · cases g2
  · cases hm

theorem stepP_inv {P : Program} {gl : Nat → Option AV} {call rnd : Caller} {ops : Array Oper} {n0 k : Nat} {o : Oper} {s s' : Ps} (h : stepP P gl call rnd ops n0 k o s = some s') : StC P gl call rnd ops n0 k o s s' := by
  unfold stepP at h
  obtain ⟨b, h1, h2⟩ := obind_some h
  rw [cnd_eq] at h2
  have D : ∀ (v : AV) (w : Bool) (H' : Hp), isDo o.op = true → wantA ops s.T o.guard = some w → (w = true → evOp P gl call rnd s.T (place n0 (mask ops k) s.pend s.H) o.op = some (v, H')) → (w = false → v = .tup .rnil ∧ H' = place n0 (mask ops k) s.pend s.H) →
      doD P gl k (mask ops k) s o.dst v w H' = some s' → StC P gl call rnd ops n0 k o s s' := by
    intro v w H' g1 g2 g3 g4 g5
    unfold doD at g5
    obtain ⟨bl', k1, k2⟩ := obind_some g5
    rw [forceV_eq, omap_eq, Option.map_eq_some_iff] at k2
    obtain ⟨T', k3, rfl⟩ := k2
    exact .doit w g1 g2 k1 k3 rfl rfl rfl rfl g3 g4
  split at h2
  · rename_i hb
    subst hb
    rw [cnd_eq] at h2
    split at h2
    · rename_i hd
      obtain ⟨r, h3, h4⟩ := obind_some h2
      exact D r.1 true r.2 hd h1 (fun _ => h3) (fun e => by cases e) h4
    · rename_i hd
      have hd' : isDo o.op = false := by simpa using hd
      cases hf : evN P gl s.T ⟨Nat.add n0 k, .leaf⟩ o.op with
      | some r =>
        rw [hf] at h2
        have h2' : cnd (Nat.ble r.2.next (Nat.succ (Nat.add n0 k))) (forceV r.1 fun v => omap (fun T' => (⟨T', s.H, addP k (r.2.get (Nat.add n0 k)) s.pend, s.bl, s.hs, v, true, r.2.get (Nat.add n0 k)⟩ : Ps)) (fmPut s.T v o.dst)) none = some s' := h2
        obtain ⟨h3, h4⟩ := cnd_some h2'
        rw [forceV_eq, omap_eq, Option.map_eq_some_iff] at h4
        obtain ⟨T', k3, rfl⟩ := h4
        exact .free r.2 hd' h1 k3 hf (ble_iff.1 h3) rfl rfl rfl rfl rfl rfl
      | none =>
        rw [hf] at h2
        cases hmk : mkOf s.T o.op with
        | some id =>
          rw [hmk] at h2
          have h2' : (obind (pendA (Nat.sub id n0) s.pend) fun a => cnd (mkAll ops (Nat.sub id n0) k) (cnd (pmB ops k (Nat.sub id n0)) (obind (evN P gl s.T ⟨Nat.add n0 k, (Tr.leaf : Tr AO).put (Nat.add n0 (Nat.sub id n0)) (some a)⟩ o.op) fun r => forceV r.1 fun v => omap (fun T' => (⟨T', s.H, s.pend, s.bl, s.hs, v, true, none⟩ : Ps)) (fmPut s.T v o.dst)) none) none) = some s' := h2
          obtain ⟨a, h3, h4⟩ := obind_some h2'
          obtain ⟨h5, h6⟩ := cnd_some h4
          obtain ⟨h7, h8⟩ := cnd_some h6
          obtain ⟨r, h9, h10⟩ := obind_some h8
          rw [forceV_eq, omap_eq, Option.map_eq_some_iff] at h10
          obtain ⟨T', k3, rfl⟩ := h10
          have hr := mark_same hmk h9
          obtain ⟨v, H⟩ := r
          have hr : H = _ := hr
          subst hr
          refine .mark (Nat.sub id n0) a hd' h1 k3 (pendA_mem h3) h7 (fun d hd2 hdx hp => ?_) h9 rfl rfl rfl rfl rfl rfl
          unfold mkAll at h5
          have h11 := List.all_eq_true.1 h5 d (List.mem_range.2 hd2)
          rw [hdx, hp] at h11
          simpa using h11
        | none =>
        rw [hmk] at h2
        have h2' : cnd (roOp P o.op) (obind (evN P gl s.T s.H o.op) fun r => cnd (backB P gl (mask ops k) s.hs o.op s.T r.1) (forceV r.1 fun v => omap (fun T' => (⟨T', s.H, s.pend, (k, o.op, s.T, v) :: s.bl, s.hs, v, true, none⟩ : Ps)) (fmPut s.T v o.dst)) none) none = some s' := h2
        obtain ⟨h3, h4⟩ := cnd_some h2'
        obtain ⟨r, h5, h6⟩ := obind_some h4
        obtain ⟨h7, h8⟩ := cnd_some h6
        rw [forceV_eq, omap_eq, Option.map_eq_some_iff] at h8
        obtain ⟨T', k3, rfl⟩ := h8
        have hr := roOp_rel h3 h5
        obtain ⟨v, H⟩ := r
        have hr : H = s.H := hr
        subst hr
        exact .rd hd' h1 k3 h5 h3 h7 rfl rfl rfl rfl rfl rfl
  · rename_i hb
    have hb' : b = false := by simpa using hb
    subst hb'
    rw [cnd_eq] at h2
    split at h2
    · rename_i hd
      exact D (.tup .rnil) false _ hd h1 (fun e => by cases e) (fun _ => ⟨rfl, rfl⟩) h2
    · rename_i hd
      rw [omap_eq, Option.map_eq_some_iff] at h2
      obtain ⟨T', k3, rfl⟩ := h2
      exact .off (by simpa using hd) h1 k3 rfl rfl rfl rfl rfl rfl rfl

/-! ### Lists that the run keeps -/
section
variable {P : Program} {gl : Nat → Option AV} {n0 : Nat}
theorem place_next (mk : Nat) : ∀ (pend : List (Nat × AO)) (H : Hp), (place n0 mk pend H).next = H.next
  | [], H => rfl
  | p :: l, H => by
    show (cnd (Nat.testBit mk p.1) (⟨(place n0 mk l H).next, (place n0 mk l H).tr.put (Nat.add n0 p.1) (some p.2)⟩ : Hp) (place n0 mk l H)).next = _
    rw [cnd_eq]
    split <;> exact place_next mk l H
theorem place_get (mk : Nat) (H : Hp) (po : Nat → Option AO) : ∀ (pend : List (Nat × AO)), (∀ p ∈ pend, po p.1 = some p.2) →
    (∀ y ob, (y, ob) ∈ pend → Nat.testBit mk y = true → (place n0 mk pend H).get (n0 + y) = po y) ∧ (∀ id, (∀ y ob, (y, ob) ∈ pend → id = n0 + y → Nat.testBit mk y = false) → (place n0 mk pend H).get id = H.get id)
  | [], _ => ⟨fun y ob h => (by cases h), fun id _ => rfl⟩
  | p :: l, h => by
    obtain ⟨i1, i2⟩ := place_get mk H po l (fun q hq => h q (.tail _ hq))
    have e : place n0 mk (p :: l) H = cnd (Nat.testBit mk p.1) (⟨(place n0 mk l H).next, (place n0 mk l H).tr.put (Nat.add n0 p.1) (some p.2)⟩ : Hp) (place n0 mk l H) := rfl
    have hget : ∀ id, Nat.testBit mk p.1 = true → (place n0 mk (p :: l) H).get id = if id = n0 + p.1 then some p.2 else (place n0 mk l H).get id := by
      intro id hb
      rw [e, cnd_eq, if_pos hb]
      show Hp.get ⟨_, (place n0 mk l H).tr.put _ _⟩ id = _
      rw [upd_put (place n0 mk l H)]
      rfl
    refine ⟨fun y ob hy hb => ?_, fun id hid => ?_⟩
    · by_cases hp : Nat.testBit mk p.1 = true
      · rw [hget _ hp]
        by_cases e1 : y = p.1
        · subst e1
          rw [if_pos rfl, h p (.head _)]
        · rw [if_neg (by omega)]
          rcases List.mem_cons.1 hy with e2 | e2
          · exact absurd (congrArg Prod.fst e2) e1
          · exact i1 y ob e2 hb
      · rw [e, cnd_eq, if_neg hp]
        rcases List.mem_cons.1 hy with e2 | e2
        · subst e2; exact absurd hb hp
        · exact i1 y ob e2 hb
    · have ih := i2 id (fun y ob hy => hid y ob (.tail _ hy))
      by_cases hp : Nat.testBit mk p.1 = true
      · rw [hget _ hp, if_neg]
        · exact ih
        · intro e1
          have := hid p.1 p.2 (.head _) e1
          rw [hp] at this; cases this
      · rw [e, cnd_eq, if_neg hp]; exact ih
theorem placeAll_next : ∀ (pend : List (Nat × AO)) (H : Hp), (placeAll n0 pend H).next = H.next
  | [], H => rfl
  | _ :: l, H => placeAll_next l H
theorem placeAll_get (H : Hp) (po : Nat → Option AO) : ∀ (pend : List (Nat × AO)), (∀ p ∈ pend, po p.1 = some p.2) →
    ∀ id, (∃ y ob, (y, ob) ∈ pend ∧ id = n0 + y ∧ (placeAll n0 pend H).get id = po y) ∨ ((∀ y ob, (y, ob) ∈ pend → id ≠ n0 + y) ∧ (placeAll n0 pend H).get id = H.get id)
  | [], _, id => .inr ⟨fun y ob h => (by cases h), rfl⟩
  | p :: l, h, id => by
    have hget : (placeAll n0 (p :: l) H).get id = if id = n0 + p.1 then some p.2 else (placeAll n0 l H).get id := by
      show Hp.get ⟨_, (placeAll n0 l H).tr.put _ _⟩ id = _
      rw [upd_put (placeAll n0 l H)]
      rfl
    rw [hget]
    by_cases e : id = n0 + p.1
    · rw [if_pos e]
      exact .inl ⟨p.1, p.2, .head _, e, (h p (.head _)).symm⟩
    · rw [if_neg e]
      rcases placeAll_get H po l (fun q hq => h q (.tail _ hq)) id with ⟨y, ob, h1, h2, h3⟩ | ⟨h1, h2⟩
      · exact .inl ⟨y, ob, .tail _ h1, h2, h3⟩
      · refine .inr ⟨fun y ob hy => ?_, h2⟩
        rcases List.mem_cons.1 hy with e2 | e2
        · subst e2; exact e
        · exact h1 y ob e2
theorem rest_mem (mk : Nat) : ∀ (pend : List (Nat × AO)) (q : Nat × AO), q ∈ rest mk pend ↔ (q ∈ pend ∧ Nat.testBit mk q.1 = false)
  | [], q => ⟨fun h => (by cases h), fun h => h.1⟩
  | p :: l, q => by
    have e : rest mk (p :: l) = cnd (Nat.testBit mk p.1) (rest mk l) (p :: rest mk l) := rfl
    rw [e, cnd_eq]
    have ih := rest_mem mk l q
    split
    · rename_i hp
      rw [ih]
      constructor
      · rintro ⟨h1, h2⟩; exact ⟨.tail _ h1, h2⟩
      · rintro ⟨h1, h2⟩
        rcases List.mem_cons.1 h1 with e2 | e2
        · subst e2; rw [hp] at h2; cases h2
        · exact ⟨e2, h2⟩
    · rename_i hp
      rw [List.mem_cons, ih, List.mem_cons]
      constructor
      · rintro (rfl | ⟨h1, h2⟩)
        · exact ⟨.inl rfl, by simpa using hp⟩
        · exact ⟨.inr h1, h2⟩
      · rintro ⟨rfl | h1, h2⟩
        · exact .inl rfl
        · exact .inr ⟨h1, h2⟩
theorem chkB_mem {mk : Nat} {H : Hp} : ∀ {bl bl' : List (Nat × Op × Fm × AV)}, chkB P gl mk bl H = some bl' → ∀ b ∈ bl, Nat.testBit mk b.1 = true ∨ (b ∈ bl' ∧ ∃ r, evN P gl b.2.2.1 H b.2.1 = some r ∧ r.1 = b.2.2.2)
  | [], bl', _, b, hb => by cases hb
  | c :: l, bl', h, b, hb => by
    have h : cnd (Nat.testBit mk c.1) (chkB P gl mk l H) (obind (evN P gl c.2.2.1 H c.2.1) fun r => cnd (aveq r.1 c.2.2.2) (omap (fun l => c :: l) (chkB P gl mk l H)) none) = some bl' := h
    rw [cnd_eq] at h
    split at h
    · rename_i hc
      rcases List.mem_cons.1 hb with e | e
      · subst e; exact .inl hc
      · exact chkB_mem h b e
    · obtain ⟨r, h1, h2⟩ := obind_some h
      obtain ⟨h3, h4⟩ := cnd_some h2
      rw [omap_eq, Option.map_eq_some_iff] at h4
      obtain ⟨l', h5, rfl⟩ := h4
      rcases List.mem_cons.1 hb with e | e
      · subst e; exact .inr ⟨.head _, r, h1, aveq_eq h3⟩
      · rcases chkB_mem h5 b e with k | ⟨k1, k2⟩
        · exact .inl k
        · exact .inr ⟨.tail _ k1, k2⟩
end
end Go.Ev
