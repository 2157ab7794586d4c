/- Drawn regions: the evaluator's answer is every order's. -/
import Derived.Test.YtjjnffgpfiokiaaGreatDoorEvZd
namespace Go.Ev
open Go.RowKit Go.MapKept
open Classical

theorem cnt_le (S : Nat → Prop) : ∀ k, cnt S k ≤ k
  | 0 => Nat.le_refl _
  | k + 1 => by
    have := cnt_le S k
    show cnt S k + (if S k then 0 else 1) ≤ k + 1
    split <;> omega

theorem Stp.refl' {E : Env} {f g : Nat → Option AO} {n n' : Nat} {w : World} (h : HR E f w) (hn : n ≤ n') (hg : ∀ id o, g id = some o → f id = some o) : Stp E f n w E g n' w :=
  ⟨Env.le_refl E, fun _ _ h => .inl h, hn, h.sub hg, rfl, rfl, rfl, Nat.le_refl _, fun _ _ _ => rfl, fun id o _b z h1 h2 => .inr ⟨id, o, z, hg _ _ h1, h2⟩⟩

theorem drawn_ok {P : Program} {gl : Nat → Option AV} {base : Nat} {w0 : World} (hm : P.follows .mixedOrders = true) (hG : GlOk gl base w0) : DrwOk P base w0 (drawn P gl) := by
  intro call rnd hC hR F n E H w T a ops id r hF h hI hT Q hq
  unfold drawn at h
  obtain ⟨hs, h1⟩ := cnd_some h
  rw [forceN_eq] at h1
  obtain ⟨s', h2, h3⟩ := obind_some h1
  cases h3
  obtain ⟨σ, g1, g2, g3⟩ := pass_row h2
  have hr : Row P gl call rnd ops T H σ := ⟨statOk_rel hs, g1, fun k o ho => by
    have := g3 k o (by rw [Array.getElem?_toList]; exact ho)
    rw [Nat.zero_add] at this
    exact stepP_inv this⟩
  rw [Nat.zero_add, Array.length_toList] at g2
  have hc := cert_of hr
  refine wpIn_region_any hm ?_
  have hI1 : Inv E H w.drew base w0 := ⟨hI.hr.drew, hI.bd, hI.live, hI.size, hI.low⟩
  have h0 : rkA ops 0 = 0 := by unfold rkA; exact rkL_zero _
  have hFS0 : ∀ j, FS ops H (pmB ops) (isDx ops) (rkA ops) (hA ops σ) (oA σ) (fun _ => False) 0 j = H.get j := by
    intro j
    unfold FS
    rw [if_neg (fun hh => hh.2.2.1), hc.hp0]
    rfl
  have hJ0 : Jn ops T H (pmB ops) (isDx ops) (rkA ops) (rkA ops ops.size) (vA σ) (hA ops σ) (oA σ) E a w.drew (fun _ => False) a w.drew E 0 := by
    refine ⟨fun x hx _ => ?_, fun x _ hx => hx.elim, hT.1.1, fun x t _ hx => hx.elim, fun t _ => rfl, rfl, fun x _ hx => hx.elim, Nat.zero_le _, fun d _ _ => ⟨fun h => h.elim, fun h => absurd h (Nat.not_lt_zero _)⟩, ?_, ?_⟩
    · cases he : E (H.next + x) with
      | none => rfl
      | some q => have := hI.bd _ _ he; omega
    · rw [hc.hp0]
      refine Stp.refl' hI1.hr (Nat.le_add_right _ _) fun j ob hj => ?_
      rw [hFS0] at hj
      exact hj
    · rw [hc.hp0]; exact Nat.le_refl _
  refine cert_any hc hC hR hG hF hI1 hT (fun E' S a' w' hall hJ => ?_) ops.size (Array.replicate ops.size false) (fun _ => False) a _ E 0 (by simp) (fun i => ?_) (cnt_le _ _) hJ0
  · -- the end
    obtain ⟨r1, r2, r3, r4⟩ := row_T hr (k := ops.size) (Nat.le_refl _)
    obtain ⟨p1, p2⟩ := row_pend hr (k := ops.size) (Nat.le_refl _)
    have hH : hA ops σ (rkA ops ops.size) = (σ ops.size).H := row_hA hr (Nat.le_refl _)
    refine hq E' a' w' ?_ ?_
    · have hnx : (placeAll H.next s'.pend s'.H).next = (hA ops σ (rkA ops ops.size)).next := by
        rw [placeAll_next, hH, g2]
      show Stp E H.get H.next w E' (placeAll H.next s'.pend s'.H).get (placeAll H.next s'.pend s'.H).next w'
      rw [hnx]
      refine (hJ.st.less fun j ob hj => ?_).drew_first
      rw [← g2] at hj
      rcases placeAll_get (n0 := H.next) (σ ops.size).H (oA σ) (σ ops.size).pend (fun p h => (p1 p h).2.1) j with ⟨y, o', k1, k2, k3⟩ | ⟨k1, k2⟩
      · rw [k3] at hj
        obtain ⟨q1, q2, q3⟩ := p1 _ k1
        have q1 : y < ops.size := q1
        unfold FS
        subst k2
        rw [Nat.add_sub_cancel_left, if_pos ⟨by omega, q1, hall y q1, fun d hd hdD _ => q3 d hd hdD, by rw [hj]; simp⟩]
        exact hj
      · rw [k2] at hj
        unfold FS
        rw [if_neg]
        · rw [hH]; exact hj
        · rintro ⟨c1, c2, c3, c4, c5⟩
          cases hq' : oA σ (j - H.next) with
          | none => exact c5 hq'
          | some ob' =>
            have := p2 (j - H.next) ob' c2 hq' fun d hd hdD => c4 d hd hdD (rkA_lt hdD hd (Nat.le_refl _))
            exact k1 _ _ this (by omega)
    · show FR E' s'.T a'
      rw [← g2]
      refine ⟨⟨by rw [r1]; exact hJ.sz, fun t => ?_⟩, ?_⟩
      · show V E' ((σ ops.size).T.get t) _
        by_cases hy : ∃ y, y < ops.size ∧ dstA ops y = some t
        · obtain ⟨y, hy, hd⟩ := hy
          rw [(r3 y t hy hd).2]
          exact hJ.t1 y t hy (hall y hy) hd
        · rw [r4 t fun y hy' hd => hy ⟨y, hy', hd⟩, hJ.t0 t fun y hy' _ hd => hy ⟨y, hy', hd⟩]
          exact (hT.get t).mono hJ.st.le
      · rw [r2, hJ.df]
        exact (hT.mono hJ.st.le).2
  · constructor
    · intro h; exact h.elim
    · intro h
      exfalso
      rw [Array.getD_eq_getD_getElem?] at h
      cases hq : (Array.replicate ops.size false)[i]? with
      | none => rw [hq] at h; cases h
      | some b =>
        rw [hq] at h
        obtain ⟨_, hb⟩ := Array.getElem?_eq_some_iff.1 hq
        simp at hb
        subst hb
        cases h
end Go.Ev
