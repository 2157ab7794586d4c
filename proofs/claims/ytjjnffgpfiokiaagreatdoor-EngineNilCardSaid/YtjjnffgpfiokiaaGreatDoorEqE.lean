/- Two slices of bytes compared, as the evaluator knows it. -/
import Derived.Test.YtjjnffgpfiokiaaGreatDoorCrcE
namespace Go.Ev
open Go.RowKit Go.MapKept Go.Crc
noncomputable def bytN (H : Hp) (v : AV) : Option (Nat × Nat) := obind (slRow H v) fun p => obind (rowB p.2) fun q => cnd (Nat.blt p.1 1000000) (cnd (Nat.beq q.1 p.1) (some q) none) none
theorem bytN_rel {E : Env} {H : Hp} {w : World} {v : AV} {c : Value} {m d : Nat} (hH : HR E H.get w) (hv : V E v c) (h : bytN H v = some (m, d)) : m < 1000000 ∧ d < 2 ^ (8 * m) ∧ BytesAt w c (toL 8 m d) := by
  unfold bytN at h
  obtain ⟨⟨n, row⟩, h1, h2⟩ := obind_some h
  obtain ⟨⟨m', d'⟩, h3, h4⟩ := obind_some h2
  obtain ⟨h5, h6⟩ := cnd_some h4
  obtain ⟨h7, h8⟩ := cnd_some h6
  obtain rfl : m' = n := Nat.eq_of_beq_eq_true h7
  cases h8
  obtain ⟨l, k1, k2, k3⟩ := slRow_rel hH hv h1
  obtain ⟨rfl, hd⟩ := rowB_rel k1 h3
  refine ⟨blt_iff.1 h5, hd, fun x hx => toL_lt 8 m d x hx, ?_⟩
  rcases k3 with ⟨rfl, rfl⟩ | ⟨b, off, c, rfl, k4⟩
  · exact .inl ⟨rfl, rfl⟩
  · refine .inr ⟨b, off, c, by rw [toL_length], fun j hj => k4 j _ ?_⟩
    rw [List.getElem?_map, List.getElem?_eq_getElem hj]
    rfl
noncomputable def eqA (l : List AV) (H : Hp) : Option (AV × Hp) := match l with
  | [x, y] => obind (bytN H x) fun p => obind (bytN H y) fun q => some (.bool (cnd (Nat.beq p.1 q.1) (Nat.beq p.2 q.2) false), H)
  | _ => none
theorem eq_known {P : Program} {f : FuncId} {base : Nat} {w0 : World}
    (hs : ∀ (x y : Value) (l l' : List Nat) (w : World), BytesAt w x l → BytesAt w y l' → l.length < 1000000 → l'.length < 1000000 → Calls P f #[x, y] w fun e w' => e = .returned (.bool (decide (l = l'))) ∧ Below w.heap.size w w') :
    ∀ l E H w (args : Array Value) r, eqA l H = some r → F2 (V E) l args.toList → Inv E H w base w0 → Calls P f args w (RetOk E H w r) := by
  intro l E H w args r h hl hI
  unfold eqA at h
  split at h
  · rename_i x y
    obtain ⟨⟨m, d⟩, h1, h2⟩ := obind_some h
    obtain ⟨⟨m', d'⟩, h3, h4⟩ := obind_some h2
    cases h4
    cases args with
    | mk t =>
      cases hl with
      | cons hx ht =>
        cases ht with
        | cons hy ht =>
          cases ht with
          | nil =>
            rename_i cx cy
            obtain ⟨g1, g2, g3⟩ := bytN_rel hI.hr hx h1
            obtain ⟨k1, k2, k3⟩ := bytN_rel hI.hr hy h3
            refine (hs cx cy _ _ w g3 k3 (by rw [toL_length]; exact g1) (by rw [toL_length]; exact k1)).mono ?_
            rintro e w' ⟨rfl, hb⟩
            refine ⟨E, _, rfl, below_stp hI.hr hb, ?_⟩
            have : decide (toL 8 m d = toL 8 m' d') = cnd (Nat.beq m m') (Nat.beq d d') false := by
              rw [cnd_eq]
              split
              · rename_i e
                obtain rfl := Nat.eq_of_beq_eq_true e
                rw [Bool.eq_iff_iff, decide_eq_true_eq, Nat.beq_eq]
                exact ⟨fun h => toL_inj _ _ _ _ g2 k2 h, fun h => by rw [h]⟩
              · rename_i e
                refine decide_eq_false (fun h => e ?_)
                have := congrArg List.length h
                rw [toL_length, toL_length] at this
                rw [this]; exact Nat.beq_refl _
            rw [this]
            rfl
  · cases h
end Go.Ev
