/- append is the model's; copy, len, make. -/
import Derived.Test.YtjjnffgpfiokiaaGreatDoorEvM
namespace Go.Ev
open Go.RowKit

/-- A block takes a new name, the old one is let go; its content may turn. -/
theorem HR.rename {E : Env} {f : Nat → Option AO} {w : World} (h : HR E f w) {n id id' b z : Nat} {o o' : AO} {x : Obj} (hf : f id = some o) (he : E id = some (b, z)) (hid : E id' = none) (hn : n ≤ id')
    (hx : ORel (E.new id' b z) z o' x) : Stp E f n w (E.new id' b z) (upd (upd f id none) id' (some o')) (id' + 1) (putB w b x) := by
  obtain ⟨b0, z0, x0, he0, hb0, _⟩ := h.obj id o hf
  rw [he] at he0
  injection he0 with he0
  injection he0 with hbb hzz
  subst hbb; subst hzz
  have hlt : b < w.heap.size := (Array.getElem?_eq_some_iff.1 hb0).1
  have hle := Env.new_le (b := b) (z := z) hid
  have hne : id ≠ id' := fun e => by subst e; rw [hid] at he; cases he
  have live : ∀ j oj, j ≠ id' → upd (upd f id none) id' (some o') j = some oj → j ≠ id ∧ f j = some oj := fun j oj hj hu => by
    unfold upd at hu
    rw [if_neg hj] at hu
    by_cases e : j = id
    · rw [if_pos e] at hu; cases hu
    · rw [if_neg e] at hu; exact ⟨e, hu⟩
  refine ⟨hle, fun j y hj => ?_, by omega, ⟨fun j oj hj => ?_, fun j j' oj oj' b1 z1 z2 h1 h2 h3 h4 => ?_⟩, rfl, rfl, rfl, by rw [putB_size]; exact Nat.le_refl _, fun b1 hb1 hno => ?_, fun j oj b1 z1 h1 h2 => ?_⟩
  · unfold Env.new at hj
    by_cases e : j = id'
    · subst e; exact .inr ⟨hid, hn, Nat.lt_succ_self _⟩
    · rw [if_neg e] at hj; exact .inl hj
  · by_cases e : j = id'
    · subst e
      have : oj = o' := by unfold upd at hj; rw [if_pos rfl] at hj; injection hj with hj; exact hj.symm
      subst this
      exact ⟨b, z, x, Env.new_self _ _ _ _, by rw [putB_get, if_pos rfl, if_pos hlt], hx⟩
    · obtain ⟨hji, hfj⟩ := live j oj e hj
      obtain ⟨b1, z1, x1, h1, h2, h3⟩ := h.obj j oj hfj
      refine ⟨b1, z1, x1, hle j _ h1, ?_, h3.mono hle⟩
      rw [putB_get, if_neg (fun eb => hji (h.inj j id oj o b1 z1 z hfj hf h1 (by rw [← eb]; exact he)))]
      exact h2
  · have key : ∀ k ok zk, k ≠ id' → upd (upd f id none) id' (some o') k = some ok → E.new id' b z k = some (b, zk) → False := fun k ok zk hk hu hE => by
      obtain ⟨hki, hfk⟩ := live k ok hk hu
      unfold Env.new at hE; rw [if_neg hk] at hE
      exact hki (h.inj k id ok o b zk z hfk hf hE he)
    by_cases e1 : j = id'
    · by_cases e2 : j' = id'
      · rw [e1, e2]
      · subst e1
        rw [Env.new_self] at h3; injection h3 with h3; injection h3 with h3 _; subst h3
        exact (key j' oj' z2 e2 h2 h4).elim
    · by_cases e2 : j' = id'
      · subst e2
        rw [Env.new_self] at h4; injection h4 with h4; injection h4 with h4 _; subst h4
        exact (key j oj z1 e1 h1 h3).elim
      · obtain ⟨_, g1⟩ := live j oj e1 h1
        obtain ⟨_, g2⟩ := live j' oj' e2 h2
        unfold Env.new at h3 h4; rw [if_neg e1] at h3; rw [if_neg e2] at h4
        exact h.inj j j' oj oj' b1 z1 z2 g1 g2 h3 h4
  · rw [putB_get, if_neg (fun eb => hno id o z hf (by rw [← eb]; exact he))]
  · by_cases e : j = id'
    · subst e
      rw [Env.new_self] at h2; injection h2 with h2; injection h2 with h2 _; subst h2
      exact .inr ⟨id, o, z, hf, he⟩
    · obtain ⟨_, g1⟩ := live j oj e h1
      unfold Env.new at h2; rw [if_neg e] at h2
      exact .inr ⟨j, oj, z1, g1, h2⟩

theorem apPut_rel {E : Env} {H H' : Hp} {w : World} {id at_ b z : Nat} {row : AV} {ln : List Value} (hH : HR E H.get w) (he : E id = some (b, z)) (hr : R E row ln) (h : apPut H id at_ row = some H') :
    ∃ c e fr, w.heap[b]? = some (.cells c e fr) ∧ FrU fr c.size ∧ at_ + ln.length ≤ c.size ∧ (∀ v ∈ ln, v.oneCell' = true) ∧ Stp E H.get H.next w E H'.get H'.next (putB w b (.cells (wrL c.toList at_ ln).toArray e fr)) := by
  unfold apPut at h
  obtain ⟨h1, ha⟩ := cnd_some h
  obtain ⟨o, h2, hb⟩ := obind_some ha
  split at hb
  · rename_i r e x
    obtain ⟨r', h3, hc⟩ := obind_some hb
    cases hc
    obtain ⟨b', z', oo, h7, h8, c, fr, rfl, hz, hu, l, x', hcl, hrl, hx⟩ := hH.obj id _ h2
    rw [he] at h7; injection h7 with h7; injection h7 with h7 h7'; subst h7; subst h7'
    obtain ⟨h9, h10⟩ := rowPut_rel hrl hr h3
    have hlen : c.size = l.length + x'.length := by rw [← Array.length_toList, hcl, List.length_append]
    refine ⟨c, e, fr, h8, hu, by omega, okRow_rel hr h1, ?_⟩
    rw [upd_put]
    have hsz : (wrL c.toList at_ ln).toArray.size = c.size := by simp [wrL]; omega
    refine hH.put h2 he ⟨_, fr, rfl, by rw [hsz]; exact hz, by rw [hsz]; exact hu, wrL l at_ ln, x', ?_, h9, hx⟩
    simp only [wrL]
    rw [hcl, List.take_append_of_le_length (by omega), List.drop_append_of_le_length (by omega)]
    simp
  · cases hb

theorem firstCells_zero {P : Program} (z : Nat) (a : Addr) (l c : Nat) (w : World) : (Builtin.firstCells z 0 (.slice (some a) l c)).run P w = .ok #[] w := by
  simp [Builtin.firstCells, loadCells, loadCellsFrom]

theorem hp_get2 (H : Hp) (id : Nat) (o : AO) : (Hp.get ⟨H.next + 1, (H.tr.put id none).put H.next (some o)⟩) = upd (upd H.get id none) H.next (some o) := by
  have h1 := upd_put ⟨H.next + 1, H.tr.put id none⟩ H.next (H.next + 1) (some o)
  rw [upd_put H id (H.next + 1) none] at h1
  exact h1

theorem sub_none {H : Hp} {id j : Nat} {oj : AO} (hj : Hp.get ⟨H.next, H.tr.put id none⟩ j = some oj) : H.get j = some oj := by
  rw [upd_put] at hj; unfold upd at hj
  split at hj
  · cases hj
  · exact hj

set_option maxHeartbeats 1000000 in
theorem apX_rel {P : Program} {E : Env} {H : Hp} {w : World} {st xt ty e : TypeId} {z n id len b zz o' cc : Nat} {cx : Value} {row : AV} {ln : List Value} {r : AV × Hp} (hH : HR E H.get w) (hb : E H.next = none)
    (hu : P.underlying st = some (.slice e)) (hz : szOf P e = some z) (hxt : notInt P xt = true) (he : E id = some (b, zz)) (hlc : len ≤ cc) (hor : (o' = 0 ∧ 0 + cc * z ≤ zz) ∨ (len = 0 ∧ cc = 0)) (hn : n ≠ 0)
    (g1 : (Builtin.lenOf cx).run P w = .ok n w) (g2 : (Builtin.firstCells z n cx).run P w = .ok ln.toArray w) {ln' : List Value} (g2' : (Builtin.firstCells z n cx).run P w.drew = .ok ln'.toArray w.drew) (g3 : R E row ln) (g4 : ln.length = n * z) (g3' : R E row ln') (g4' : ln'.length = n * z)
    (h6 : apX P H e z id len n row = some r) :
    ∃ E' c w', (Builtin.append_ #[st, xt] ty #[.slice (some ⟨b, o', none⟩) len cc, cx]).run P w = .ok c w' ∧ Stp E H.get H.next w E' r.2.get r.2.next w' ∧ V E' r.1 c := by
  unfold apX at h6
  obtain ⟨k1, k2⟩ := cnd_some h6
  obtain ⟨o, k3, k4⟩ := obind_some k2
  clear h6 k2
  split at k4
  · rename_i r0 e' x0
    obtain ⟨k5, k6⟩ := cnd_some k4
    obtain rfl : e = e' := by simpa using k5
    obtain ⟨old, k7, k8⟩ := obind_some k6
    obtain ⟨k9, k10⟩ := cnd_some k8
    obtain ⟨k11, k12⟩ := cnd_some k10
    rw [newV_eq, forceN_eq] at k12
    cases k12
    clear k4 k6 k8 k10 k5
    have k11' : len + n < 1073741824 := small_lt k11
    obtain ⟨b', zz', oo, m1, m2, c, fr, rfl, hsz, hfr, l, x', hcl, hrl, hxx⟩ := hH.obj id _ k3
    rw [he] at m1; injection m1 with m1; injection m1 with m1 m1'; subst m1; subst m1'
    obtain ⟨m3, m4⟩ := rowTake_rel hrl k7
    have m3 : R E old (l.take (len * z)) := m3
    have m4 : len * z ≤ l.length := m4
    have hlen : c.size = l.length + x'.length := by rw [← Array.length_toList, hcl, List.length_append]
    by_cases hin : len + n ≤ cc
    · -- in place
      obtain ⟨rfl, hfit⟩ : o' = 0 ∧ 0 + cc * z ≤ zz := by
        rcases hor with h | h
        · exact h
        · omega
      have hmul : len * z + n * z ≤ cc * z := by rw [← Nat.add_mul]; exact Nat.mul_le_mul_right _ hin
      have hroom : 0 + len * z + ln.length ≤ c.size := by rw [g4]; omega
      have hrun := run_room (ty := ty) (off := 0) (new := ln) hu hz hxt hin g1 g2 m2 hfr hroom (okRow_rel g3 k1)
      refine ⟨E.new H.next b zz, _, _, hrun, ?_, ?_⟩
      · show Stp E H.get H.next w _ (Hp.get ⟨H.next + 1, (H.tr.put id none).put H.next (some (.cells (rowApp row old) e true))⟩) (H.next + 1) _
        rw [hp_get2]
        have hsz2 : (wrL c.toList (0 + len * z) ln).toArray.size = c.size := by
          simp only [wrL, List.size_toArray, List.length_append, List.length_take, List.length_drop, Array.length_toList]; omega
        refine hH.rename k3 he hb (Nat.le_refl _) ⟨_, fr, rfl, by rw [hsz2]; exact hsz, by rw [hsz2]; exact hfr, l.take (len * z) ++ ln, (c.toList).drop (len * z + ln.length), ?_, ?_, fun h => by cases h⟩
        · simp only [wrL, Nat.zero_add]
          rw [hcl, List.take_append_of_le_length m4]
        · exact (rowApp_rel g3 m3).mono (Env.new_le hb)
      · exact ⟨b, zz, 0, cc, Env.new_self _ _ _ _, rfl, hin, .inl ⟨rfl, hfit⟩⟩
    · -- laid anew
      have hrest : ∃ lo : List Value, (Builtin.firstCells z len (.slice (some ⟨b, o', none⟩) len cc)).run P w.drew = .ok lo.toArray w.drew ∧ R E old lo ∧ lo.length = len * z := by
        by_cases hl0 : len = 0
        · subst hl0
          refine ⟨[], by rw [firstCells_zero], ?_, by simp⟩
          rw [Nat.zero_mul, List.take_zero] at m3
          exact m3
        · obtain ⟨rfl, _⟩ : o' = 0 ∧ 0 + cc * z ≤ zz := by
            rcases hor with h | h
            · exact h
            · omega
          refine ⟨l.take (len * z), ?_, m3, by rw [List.length_take]; omega⟩
          have m2' : w.drew.heap[b]? = some (.cells c e fr) := m2
          have := run_loadCells P m2' (off := 0) (n := len * z) (by omega)
          simp only [Builtin.firstCells]
          rw [this, hcl, List.drop_zero, List.take_append_of_le_length m4]
      obtain ⟨lo, p1, p2, p3⟩ := hrest
      obtain ⟨newCap, rest, q1, q2, q3⟩ := run_grow (ty := ty) hu hz hxt k9 (by omega) (by omega) g1 g2' p1 p3 g4'
      have hH1 : HR E (Hp.get ⟨H.next, H.tr.put id none⟩) w := hH.sub (fun j oj hj => sub_none hj)
      obtain ⟨E', q4, q5⟩ := grow_stp (H := ⟨H.next, H.tr.put id none⟩) (e := e) hH1 hb p2 g3' q1 q2
      refine ⟨E', _, _, q3, ?_, q5⟩
      exact ⟨q4.le, q4.dom, q4.next, q4.hr, q4.os, q4.tape, q4.output, q4.size,
        fun bb hbb hno => q4.kept bb hbb (fun j oj zj hj hE => hno j oj zj (sub_none hj) hE),
        fun j oj bj zj h1 h2 => by
          rcases q4.own j oj bj zj h1 h2 with h3 | ⟨id0, o0, z0, h3, h4⟩
          · exact .inl h3
          · exact .inr ⟨id0, o0, z0, sub_none h3, h4⟩⟩
  · cases k4

set_option maxHeartbeats 1000000 in
theorem apA_rel {P : Program} {E : Env} {H : Hp} {w : World} {st xt ty : TypeId} {s x : AV} {cs cx : Value} {r : AV × Hp} (hH : HR E H.get w) (hb : E H.next = none) (hs : V E s cs) (hx : V E x cx) (h : apA P H st xt s x = some r) :
    ∃ E' c w', (Builtin.append_ #[st, xt] ty #[cs, cx]).run P w = .ok c w' ∧ Stp E H.get H.next w E' r.2.get r.2.next w' ∧ V E' r.1 c := by
  unfold apA at h
  obtain ⟨hxt, h1⟩ := cnd_some h
  obtain ⟨u, hu, h2⟩ := obind_some h1
  clear h h1
  split at h2
  · rename_i e
    obtain ⟨z, hz, h3⟩ := obind_some h2
    obtain ⟨⟨n, row⟩, hq, h4⟩ := obind_some h3
    clear h2 h3
    dsimp only at h4
    obtain ⟨ln, g1, g2, g3, g4⟩ := srcA_rel (P := P) hH hx hq
    obtain ⟨ln', g1', g2', g3', g4'⟩ := srcA_rel (P := P) hH.drew hx hq
    have gl : (Builtin.lenOf cx).run P w = .ok n w := g1
    have rn : R E .rnil [] := rfl
    have hl0 : ∀ k, ([] : List Value).length = 0 * k := fun k => by simp
    split at h4
    · obtain rfl := V_nils hs
      rw [cnd_eq] at h4
      split at h4
      · rename_i h0
        obtain rfl : n = 0 := by simpa using h0
        cases h4
        exact ⟨E, .slice none 0 0, w, run_room_nil (n := 0) (sLen := 0) (sCap := 0) (new := ln) hu hz hxt (Nat.le_refl _) g1 g2, Stp.refl hH, rfl⟩
      · rename_i h0
        have h0' : n ≠ 0 := by simpa using h0
        exact apGrow_rel (len := 0) (cap := 0) (base := none) (lo := []) (old := .rnil) (ln := ln') hH hb hu hz hxt rn g3' g1 g2' (by simp [Builtin.firstCells]) (hl0 z) g4' (by omega) h4
    · rename_i id off len cap
      obtain ⟨hlc, b, zz, he, rfl⟩ := V_slice hs
      rw [cnd_eq] at h4
      split at h4
      · rename_i h0
        obtain rfl : n = 0 := by simpa using h0
        cases h4
        have hl0 : ln = [] := by cases ln with | nil => rfl | cons a t => simp at g4
        subst hl0
        exact ⟨E, _, w, run_room_zero hu hz hxt hlc g1 g2, Stp.refl hH, hs⟩
      · rename_i h0
        have h0' : n ≠ 0 := by simpa using h0
        rw [cnd_eq] at h4
        split at h4
        · rename_i hroom
          have hroom' : len + n ≤ cap := ble_iff.1 hroom
          rw [omap_eq, Option.map_eq_some_iff] at h4
          obtain ⟨H', k1, k2⟩ := h4
          rw [forceN_eq] at k2
          cases k2
          obtain ⟨c, e', fr, k3, k4, k5, k6, k7⟩ := apPut_rel hH he g3 k1
          have k5' : off + len * z + ln.length ≤ c.size := k5
          refine ⟨E, .slice (some ⟨b, off, none⟩) (len + n) cap, _, run_room hu hz hxt hroom' g1 g2 k3 k4 k5' k6, k7, hroom', b, zz, he, rfl⟩
        · rename_i hroom
          have hroom' : ¬ len + n ≤ cap := fun hh => hroom (ble_iff.2 hh)
          rw [cnd_eq] at h4
          split at h4
          · rename_i hl0'
            obtain rfl : len = 0 := by simpa using hl0'
            exact apGrow_rel (len := 0) (cap := cap) (base := some ⟨b, off, none⟩) (lo := []) (old := .rnil) (ln := ln') hH hb hu hz hxt rn g3' g1 g2' (firstCells_zero _ _ _ _ _) (hl0 z) g4' (by omega) h4
          · obtain ⟨old, k1, k2⟩ := obind_some h4
            obtain ⟨lo, k3, k4, k5, _⟩ := preA_rel (P := P) hH.drew he k1
            exact apGrow_rel (len := len) (cap := cap) (base := some ⟨b, off, none⟩) hH hb hu hz hxt k4 g3' g1 g2' (by simpa [Builtin.firstCells] using k3) k5 g4' (by omega) k2
    · rename_i id off len z'
      obtain ⟨b, zz, o', cc, he, rfl, hlc, hor⟩ := V_slx hs
      rw [cnd_eq] at h4
      split at h4
      · rename_i h0
        obtain rfl : n = 0 := by simpa using h0
        cases h4
        have hl0 : ln = [] := by cases ln with | nil => rfl | cons a t => simp at g4
        subst hl0
        exact ⟨E, _, w, run_room_zero hu hz hxt hlc g1 g2, Stp.refl hH, hs⟩
      · rename_i h0
        have h0' : n ≠ 0 := by simpa using h0
        obtain ⟨hoff, h5⟩ := cnd_some h4
        obtain ⟨hzz, h6⟩ := cnd_some h5
        clear h4 h5
        obtain rfl : off = 0 := by simpa using hoff
        obtain rfl : z = z' := by simpa using hzz
        exact apX_rel hH hb hu hz hxt he hlc hor h0' g1 g2 g2' g3 g4 g3' g4' h6
    · cases h4
  · cases h2

end Go.Ev
