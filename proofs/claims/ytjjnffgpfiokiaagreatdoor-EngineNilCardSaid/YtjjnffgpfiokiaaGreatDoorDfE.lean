/- Where pages differ, plainly. No program in sight. -/
import Derived.Test.YtjjnffgpfiokiaaGreatDoorCrcE
import Derived.Test.YtjjnffgpfiokiaaGreatDoorEqE
namespace Go.Crc
def dst (la lb : List Nat) (i : Nat) (s : Nat × Nat) : Nat × Nat := if la.getD i 0 = lb.getD i 0 then s else (i, if s.1 = 1024 then i + 1 else s.2)
def dif (la lb : List Nat) : Nat → Nat × Nat
  | 0 => (1024, 1024)
  | n + 1 => dst la lb (1023 - n) (dif la lb n)
theorem dif_le (la lb : List Nat) : ∀ n, n ≤ 1012 → 1024 - n ≤ (dif la lb n).1 ∧ (dif la lb n).1 ≤ (dif la lb n).2 ∧ (dif la lb n).2 ≤ 1024
  | 0, _ => by simp [dif]
  | n + 1, h => by
    obtain ⟨h1, h2, h3⟩ := dif_le la lb n (by omega)
    show _ ≤ (dst la lb (1023 - n) (dif la lb n)).1 ∧ (dst la lb (1023 - n) (dif la lb n)).1 ≤ (dst la lb (1023 - n) (dif la lb n)).2 ∧ (dst la lb (1023 - n) (dif la lb n)).2 ≤ 1024
    unfold dst
    split
    · omega
    · refine ⟨by simp only; omega, ?_, ?_⟩
      · simp only; split <;> omega
      · simp only; split <;> omega
end Go.Crc

/- Where pages differ, as the evaluator knows it. -/
namespace Go.Ev
open Go.RowKit Go.MapKept Go.Crc
/-- A callee has laid a row of its own. -/
theorem fresh_stp {E : Env} {H : Hp} {w w' : World} (hH : HR E H.get w) (hb : E H.next = none) (hB : Below w.heap.size w w') {g z : Nat} {o : AO} {x : Obj} (hg : w.heap.size ≤ g) (hgx : w'.heap[g]? = some x) (hx : ORel (E.new H.next g z) z o x) :
    Stp E H.get H.next w (E.new H.next g z) (Hp.get ⟨H.next + 1, H.tr.put H.next (some o)⟩) (H.next + 1) w' := by
  rw [upd_put]
  have hle : E.le (E.new H.next g z) := Env.new_le hb
  have hold : ∀ j oj, j ≠ H.next → H.get j = some oj → ∀ b z', E.new H.next g z j = some (b, z') → b < w.heap.size := fun j oj hj hf b z' he => by
    unfold Env.new at he
    rw [if_neg hj] at he
    obtain ⟨b1, z1, x1, h1, h2, _⟩ := hH.obj j oj hf
    rw [he] at h1; injection h1 with h1; injection h1 with h1 _; subst h1
    exact (Array.getElem?_eq_some_iff.1 h2).1
  refine ⟨hle, fun j y hj => ?_, by omega, ⟨fun j oj hj => ?_, fun j j' oj oj' b1 z1 z2 h1 h2 h3 h4 => ?_⟩, hB.os, hB.tape, hB.output, hB.size, fun b1 hb1 _ => hB.block b1 hb1, fun j oj b1 z1 h1 h2 => ?_⟩
  · unfold Env.new at hj
    split at hj
    · rename_i e; subst e; exact .inr ⟨hb, Nat.le_refl _, Nat.lt_succ_self _⟩
    · exact .inl hj
  · unfold upd at hj
    split at hj
    · rename_i e; subst e; cases hj
      exact ⟨g, z, x, Env.new_self _ _ _ _, hgx, hx⟩
    · rename_i e
      obtain ⟨b1, z1, x1, h1, h2, h3⟩ := hH.obj j oj hj
      exact ⟨b1, z1, x1, hle j _ h1, (hB.block b1 (Array.getElem?_eq_some_iff.1 h2).1).trans h2, h3.mono hle⟩
  · unfold upd at h1 h2
    by_cases e1 : j = H.next
    · by_cases e2 : j' = H.next
      · rw [e1, e2]
      · rw [if_neg e2] at h2
        have := hold j' oj' e2 h2 b1 z2 h4
        subst e1
        rw [Env.new_self] at h3; injection h3 with h3; injection h3 with h3 _; omega
    · by_cases e2 : j' = H.next
      · rw [if_neg e1] at h1
        have := hold j oj e1 h1 b1 z1 h3
        subst e2
        rw [Env.new_self] at h4; injection h4 with h4; injection h4 with h4 _; omega
      · rw [if_neg e1] at h1; rw [if_neg e2] at h2
        unfold Env.new at h3 h4
        rw [if_neg e1] at h3; rw [if_neg e2] at h4
        exact hH.inj j j' oj oj' b1 z1 z2 h1 h2 h3 h4
  · unfold upd at h1
    by_cases e1 : j = H.next
    · subst e1
      rw [Env.new_self] at h2; injection h2 with h2; injection h2 with h2 _
      exact .inl (by omega)
    · rw [if_neg e1] at h1
      unfold Env.new at h2
      rw [if_neg e1] at h2
      exact .inr ⟨j, oj, z1, h1, h2⟩
/-- The places between which two packed pages differ. -/
noncomputable def difN (a b : Nat) (n : Nat) : Nat × Nat := Nat.rec (motive := fun _ => Nat × Nat) (1024, 1024)
  (fun n s => forceN (Nat.sub 1023 n) fun i => cnd (Nat.beq (digit 8 a i) (digit 8 b i)) s (i, cnd (Nat.beq s.1 1024) (Nat.succ i) s.2)) n
theorem difN_eq (a b : Nat) : ∀ n, n ≤ 1012 → difN a b n = dif (toL 8 1024 a) (toL 8 1024 b) n
  | 0, _ => rfl
  | n + 1, h => by
    have e : difN a b (n + 1) = forceN (Nat.sub 1023 n) fun i => cnd (Nat.beq (digit 8 a i) (digit 8 b i)) (difN a b n) (i, cnd (Nat.beq (difN a b n).1 1024) (Nat.succ i) (difN a b n).2) := rfl
    rw [e, forceN_eq, difN_eq a b n (by omega)]
    show _ = dst (toL 8 1024 a) (toL 8 1024 b) (1023 - n) (dif (toL 8 1024 a) (toL 8 1024 b) n)
    have hi : 1023 - n < 1024 := by omega
    unfold dst
    rw [List.getD_eq_getElem?_getD, List.getD_eq_getElem?_getD, toL_get 8 1024 a _ hi, toL_get 8 1024 b _ hi, Option.getD_some, Option.getD_some, cnd_eq, cnd_eq]
    show (if Nat.beq (digit 8 a (1023 - n)) (digit 8 b (1023 - n)) = true then _ else _) = _
    by_cases h1 : digit 8 a (1023 - n) = digit 8 b (1023 - n)
    · rw [if_pos (by rw [h1]; exact Nat.beq_refl _), if_pos h1]
    · rw [if_neg (fun e => h1 (Nat.eq_of_beq_eq_true e)), if_neg h1]
      show (1023 - n, if Nat.beq (dif (toL 8 1024 a) (toL 8 1024 b) n).1 1024 = true then 1023 - n + 1 else (dif (toL 8 1024 a) (toL 8 1024 b) n).2) = _
      by_cases h2 : (dif (toL 8 1024 a) (toL 8 1024 b) n).1 = 1024
      · rw [if_pos (by rw [h2]; rfl), if_pos h2]
      · rw [if_neg (fun e => h2 (Nat.eq_of_beq_eq_true e)), if_neg h2]
noncomputable def dfA (U : Nat) (l : List AV) (H : Hp) : Option (AV × Hp) := match l with
  | [.agg x, .agg y] => obind (rowB (strip x)) fun p => obind (rowB (strip y)) fun q => cnd (Nat.beq p.1 1024) (cnd (Nat.beq q.1 1024)
      ((fun s : Nat × Nat => forceN s.1 fun f => forceN (Nat.sub s.2 f) fun m => obind (rowDrop (strip y) f) fun r => obind (rowTake r m) fun row =>
        some (newV H (.cells row U true) fun id H' => (.tup (.rone (.int .i64 (Int.ofNat f)) (.rone (.slx id 0 m 1) .rnil)), H'))) (difN p.2 q.2 1012)) none) none
  | _ => none
theorem df_known {P : Program} {f : FuncId} {base : Nat} {w0 : World} {U : Nat}
    (hs : ∀ (la lb : List Nat) (w : World), la.length = 1024 → lb.length = 1024 → Calls P f #[.agg (la.map (fun x : Nat => Value.int .u8 (x : Int))).toArray, .agg (lb.map (fun x : Nat => Value.int .u8 (x : Int))).toArray] w fun e w' =>
      (∃ g cap, ∃ cur : Array Value, e = .returned (.tuple #[.int .i64 ((dif la lb 1012).1 : Nat), .slice (some ⟨g, 0, none⟩) ((dif la lb 1012).2 - (dif la lb 1012).1) cap]) ∧ w.heap.size ≤ g ∧ w'.heap[g]? = some (.cells cur U (0, 0)) ∧ (dif la lb 1012).2 - (dif la lb 1012).1 ≤ cap ∧ cur.size = cap ∧
        cur.toList.take ((dif la lb 1012).2 - (dif la lb 1012).1) = (((lb.drop (dif la lb 1012).1).take ((dif la lb 1012).2 - (dif la lb 1012).1)).map (fun x : Nat => Value.int .u8 (x : Int)))) ∧ Below w.heap.size w w') :
    ∀ l E H w (args : Array Value) r, dfA U l H = some r → F2 (V E) l args.toList → Inv E H w base w0 → Calls P f args w (RetOk E H w r) := by
  intro l E H w args r h hl hI
  unfold dfA at h
  split at h
  · rename_i x y
    obtain ⟨⟨m1, a⟩, h1, h2⟩ := obind_some h
    obtain ⟨⟨m2, b⟩, h3, h4⟩ := obind_some h2
    obtain ⟨h5, h6⟩ := cnd_some h4
    obtain ⟨h7, h8⟩ := cnd_some h6
    obtain rfl : m1 = 1024 := Nat.eq_of_beq_eq_true h5
    obtain rfl : m2 = 1024 := Nat.eq_of_beq_eq_true h7
    have h9 : (forceN (difN a b 1012).1 fun f => forceN (Nat.sub (difN a b 1012).2 f) fun m => obind (rowDrop (strip y) f) fun r => obind (rowTake r m) fun row =>
        some (newV H (.cells row U true) fun id H' => (AV.tup (.rone (.int .i64 (Int.ofNat f)) (.rone (.slx id 0 m 1) .rnil)), H'))) = some r := h8
    rw [forceN_eq, forceN_eq, difN_eq a b 1012 (Nat.le_refl _)] at h9
    obtain ⟨r1, h10, h11⟩ := obind_some h9
    obtain ⟨row, h12, h13⟩ := obind_some h11
    rw [newV_eq] at h13
    cases h13
    cases args with
    | mk t =>
      cases hl with
      | cons hx ht =>
        cases ht with
        | cons hy ht =>
          cases ht with
          | nil =>
            obtain ⟨cx, rfl, k1⟩ := V_agg hx
            obtain ⟨cy, rfl, k2⟩ := V_agg hy
            obtain ⟨e1, -⟩ := rowB_rel (strip_rel k1) h1
            obtain ⟨e2, -⟩ := rowB_rel (strip_rel k2) h3
            obtain ⟨k3, -⟩ := rowDrop_rel (strip_rel k2) h10
            obtain ⟨k4, -⟩ := rowTake_rel k3 h12
            have ex : cx = ((toL 8 1024 a).map (fun x : Nat => Value.int .u8 (x : Int))).toArray := by
              apply Array.ext'
              rw [e1]; rfl
            have ey : cy = ((toL 8 1024 b).map (fun x : Nat => Value.int .u8 (x : Int))).toArray := by
              apply Array.ext'
              rw [e2]; rfl
            rw [e2] at k4
            rw [ex, ey]
            refine (hs (toL 8 1024 a) (toL 8 1024 b) w (toL_length _ _ _) (toL_length _ _ _)).mono ?_
            generalize dif (toL 8 1024 a) (toL 8 1024 b) 1012 = s at h10 h12 k4 ⊢
            rintro e w' ⟨⟨g, cap, cur, rfl, f1, f2, f3, f4, f5⟩, hbb⟩
            have hst := fresh_stp (z := cap) (o := .cells row U true) hI.hr hI.bd.none hbb f1 f2
              ⟨cur, (0, 0), rfl, f4, .inl rfl, cur.toList.take (s.2 - s.1), cur.toList.drop (s.2 - s.1), by rw [List.take_append_drop], by
                rw [f5]
                rw [← List.map_drop, ← List.map_take] at k4
                exact k4.mono (Env.new_le hI.bd.none), fun h => by cases h⟩
            refine ⟨_, _, rfl, hst, ?_⟩
            refine ⟨_, rfl, _, _, rfl, rfl, _, _, rfl, ?_, rfl⟩
            exact ⟨g, cap, 0, cap, Env.new_self _ _ _ _, rfl, f3, .inl ⟨rfl, by omega⟩⟩
  · cases h
end Go.Ev
