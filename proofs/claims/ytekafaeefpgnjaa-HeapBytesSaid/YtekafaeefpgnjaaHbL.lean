/- Both readings of bytes agree. -/
import Derived.Test.YtekafaeefpgnjaaHbK
namespace Go.Proofs.Hb
open Go Go.RowKit Go.Hb Go.Crc
theorem refOf_any (l : List Nat) (A0 : Option Addr) (n c0 : Nat) (w : World) (h : BytesAt w (.slice A0 n c0) l) (hcap : n ≤ c0) (hl : l.length ≤ 1000) : Calls Try.prog 11 #[.slice A0 n c0] w fun e w' => RefPost l w e w' := by
  by_cases hs : l.length < 20
  · exact refOf_short l A0 n c0 w h hs
  · obtain rfl := bytes_len h
    obtain ⟨b, off, rfl⟩ : ∃ b off, A0 = some ⟨b, off, none⟩ := by
      obtain ⟨_, ⟨h0, h1⟩ | ⟨b, off, c, h0, _⟩⟩ := h
      · rw [h1] at hs; simp at hs
      · cases h0; exact ⟨b, off, rfl⟩
    by_cases hk : l.length < 20 + kk l
    · exact refOf_mid l b off c0 w h hcap (by omega) hk
    · have hif : (if c0 = 20 + kk l then (some ⟨b, off, none⟩ : Option Addr) else some ⟨b, off + (20 + kk l), none⟩) = some ⟨b, if c0 = 20 + kk l then off else off + (20 + kk l), none⟩ := by split <;> rfl
      have hv : BytesAt w (.slice (some ⟨b, if c0 = 20 + kk l then off else off + (20 + kk l), none⟩) (l.length - (20 + kk l)) (c0 - (20 + kk l))) (valu l) := by
        have hlen : (valu l).length = l.length - (20 + kk l) := by unfold valu; rw [List.length_drop]
        by_cases e : c0 = 20 + kk l
        · have h0 : valu l = [] := List.eq_nil_of_length_eq_zero (by omega)
          have h1 : l.length - (20 + kk l) = 0 := by omega
          rw [h0, h1]
          exact ⟨fun x hx => by simp at hx, .inr ⟨b, _, _, rfl, fun j hj => by simp at hj⟩⟩
        · rw [if_neg e]
          have := cut h (p := 20 + kk l) (n := l.length - (20 + kk l)) (by omega) (c0 - (20 + kk l))
          rwa [List.take_of_length_le (by rw [List.length_drop]; exact Nat.le_refl _)] at this
      cases hm : may (kk l) (l.length - (20 + kk l)) (vl (l.take 8)) (vl ((l.drop 8).take 8))
      · exact refOf_longF l b off _ c0 w h hif hv hcap (by omega) (by omega) hl hm
      · exact refOf_long l b off _ c0 w h hif hv hcap (by omega) (by omega) hl hm
theorem adv_some {l : List Nat} {st : Option Nat} {n q : Nat} (h : adv l st n = some q) : ∃ p, st = some p ∧ p + n = q ∧ q ≤ l.length := by
  cases st with
  | none => cases h
  | some p =>
    by_cases e : p + n ≤ l.length
    · rw [adv_t e] at h; cases h; exact ⟨p, rfl, rfl, e⟩
    · rw [adv_f e] at h; cases h
theorem s4_len {l : List Nat} (h : s4 l = some l.length) : 20 + kk l + xx l = l.length := by
  obtain ⟨p4, h4, e4, g4⟩ := adv_some h
  obtain ⟨p3, h3, e3, g3⟩ := adv_some h4
  obtain ⟨p2', h2', e2', g2'⟩ := adv_some (show adv l (adv l (s2 l) 2) (vl (got l (s2 l) 2)) = some p3 from h3)
  obtain ⟨p2, h2, e2, g2⟩ := adv_some h2'
  obtain ⟨p1, h1, e1, g1⟩ := adv_some (show adv l (s1 l) 8 = some p2 from h2)
  obtain ⟨p0, h0, e0, g0⟩ := adv_some (show adv l (some 0) 8 = some p1 from h1)
  cases h0
  have hp2 : p2 = 16 := by omega
  subst hp2
  rw [h2, got_t (by omega), kk_eq (by omega)] at e2'
  have hp3 : p3 = 18 + kk l := by omega
  subst hp3
  rw [h3, got_t (by omega), xx_eq (by omega)] at e4
  omega
theorem okI_ok (l : List Nat) : okI l = ok l ∧ (ok l = true → iK l = key l ∧ iV l = valu l ∧ iA l = aa l ∧ iB l = bb l) := by
  by_cases h : 20 + kk l + xx l ≤ l.length
  · have h1 : s1 l = some 8 := adv_t (by omega)
    have h2 : s2 l = some 16 := by unfold s2; rw [h1]; exact adv_t (by omega)
    have hk : vl (got l (s2 l) 2) = kk l := by rw [h2, got_t (by omega), kk_eq (by omega)]
    have h2' : adv l (s2 l) 2 = some 18 := by rw [h2]; exact adv_t (by omega)
    have h3 : s3 l = some (18 + kk l) := by unfold s3; rw [hk, h2']; exact adv_t (by omega)
    have hx : vl (got l (s3 l) 2) = xx l := by rw [h3, got_t (by omega), xx_eq (by omega)]
    have h3' : adv l (s3 l) 2 = some (20 + kk l) := by
      rw [h3, adv_t (by omega)]
      congr 1
      omega
    have h4 : s4 l = some (20 + kk l + xx l) := by unfold s4; rw [hx, h3']; exact adv_t (by omega)
    have ia : iA l = aa l := by unfold iA; rw [got_t (by omega)]; rfl
    have ib : iB l = bb l := by unfold iB; rw [h1, got_t (by omega)]; rfl
    have ik : iK l = key l := by unfold iK; rw [hk, h2', got_t (by omega)]; rfl
    have iv : iV l = (valu l).take (xx l) := by unfold iV; rw [hx, h3', got_t (by omega)]; rfl
    have hkl : (key l).length = kk l := by unfold key; rw [List.length_take, List.length_drop]; omega
    have hvl : ((valu l).take (xx l)).length = xx l := by unfold valu; rw [List.length_take, List.length_drop]; omega
    refine ⟨?_, fun ho => ⟨ik, ?_, ia, ib⟩⟩
    · unfold okI ok
      rw [h4, ik, iv, ia, ib, hkl, hvl, decide_eq_true (show 20 ≤ l.length by omega), decide_eq_true (show 20 + kk l ≤ l.length by omega)]
      simp
    · rw [iv, List.take_of_length_le]
      have := valu_len ho
      omega
  · have ho : ok l = false := by
      unfold ok
      rw [decide_eq_false (show ¬ (20 + kk l + xx l = l.length) by omega)]; simp
    have hi : okI l = false := by
      unfold okI
      rw [decide_eq_false (fun e => h (by have := s4_len e; omega)), Bool.false_and]
    rw [ho, hi]
    exact ⟨rfl, fun e => by cases e⟩
theorem of_any' (l : List Nat) (A0 : Option Addr) (n c0 : Nat) (w : World) (h : BytesAt w (.slice A0 n c0) l) (hl : l.length < 140737488355327) : Calls Try.prog 8 #[.slice A0 n c0] w fun e w' => (∃ v1 v2, ∃ a b : Nat, ∃ E : Int, e = .returned (.tuple #[.agg #[v1, v2, .int .u64 a, .int .u64 b], .int .i64 E]) ∧ E = (if ok l then 0 else 13) ∧ a = (if ok l then aa l else 0) ∧ b = (if ok l then bb l else 0) ∧ BytesAt w' v1 (if ok l then key l else []) ∧ BytesAt w' v2 (if ok l then valu l else [])) ∧ Below w.heap.size w w' := by
  refine (of_any l A0 n c0 w h hl).mono ?_
  rintro e w' ⟨⟨v1, v2, rfl, h1, h2⟩, hb⟩
  obtain ⟨e1, e2⟩ := okI_ok l
  rw [e1] at h1 h2 ⊢
  cases ho : ok l
  · rw [ho] at h1 h2
    exact ⟨⟨v1, v2, _, _, _, rfl, rfl, rfl, rfl, h1, h2⟩, hb⟩
  · rw [ho] at h1 h2
    obtain ⟨g1, g2, g3, g4⟩ := e2 ho
    rw [if_pos rfl, g1] at h1
    rw [if_pos rfl, g2] at h2
    rw [if_pos rfl, if_pos rfl, if_pos rfl, g3, g4]
    exact ⟨⟨v1, v2, _, _, _, rfl, rfl, rfl, rfl, h1, h2⟩, hb⟩
end Go.Proofs.Hb
