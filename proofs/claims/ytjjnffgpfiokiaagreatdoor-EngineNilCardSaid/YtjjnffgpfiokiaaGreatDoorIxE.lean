/- The first place of a bool. -/
import Derived.Test.YtjjnffgpfiokiaaGreatDoorSyE
import Derived.Test.YtjjnffgpfiokiaaGreatDoorDfE
namespace Go.Ev
open Go Go.RowKit
def fndI (f : Nat → Bool) (b : Bool) : Nat → Nat → Int
  | 0, _ => -1
  | m + 1, i => if f i = b then (i : Int) else fndI f b m (i + 1)
theorem fndI_step (f : Nat → Bool) (b : Bool) {m i : Nat} (h : 0 < m) : fndI f b m i = if f i = b then (i : Int) else fndI f b (m - 1) (i + 1) := by
  obtain ⟨k, rfl⟩ : ∃ k, m = k + 1 := ⟨m - 1, by omega⟩
  rfl
end Go.Ev

/- The first place of a bool, as the evaluator knows it. -/
namespace Go.Ev
open Go.RowKit Go.MapKept
noncomputable def boA (v : AV) : Option Bool := AV.rec (motive := fun _ => Option Bool) (fun b => some b) (fun _ _ => none)
    (fun _ _ => none) none (fun _ _ => none) (fun _ _ => none) none (fun _ _ _ _ => none) (fun _ _ _ _ => none)
    none (fun _ => none) none (fun _ _ _ _ _ => none) (fun _ => none) none (fun _ _ _ => none) (fun _ _ => none) (fun _ _ => none) none (fun _ _ _ _ => none) (fun _ _ _ _ _ => none) v
theorem boA_eq {v : AV} {b : Bool} (h : boA v = some b) : v = .bool b := by
  cases v with
  | bool x => have h : some x = some b := h; cases h; rfl
  | _ => cases h
/-- The first place, looked for from place i on; every cell must be a bool. -/
noncomputable def fdA (row : AV) (b : Bool) (m : Nat) : Nat → Option AV := Nat.rec (motive := fun _ => Nat → Option AV) (fun _ => some (.int .i64 (Int.negSucc 0)))
  (fun _ ih i => obind (obind (rowGet row i) boA) fun x => cnd (beqB x b) (some (.int .i64 (Int.ofNat i))) (forceN (Nat.succ i) ih)) m
/-- Every cell is a bool. -/
noncomputable def allBo (row : AV) (m : Nat) : Bool := Nat.rec (motive := fun _ => Bool) true (fun i ih => Option.rec (motive := fun _ => Bool) false (fun _ => ih) (obind (rowGet row i) boA)) m
theorem allBo_some {row : AV} : ∀ {m : Nat}, allBo row m = true → ∀ i, i < m → ∃ b, obind (rowGet row i) boA = some b
  | 0, _, i, h => by omega
  | m + 1, h, i, hi => by
    have h' : Option.rec (motive := fun _ => Bool) false (fun _ => allBo row m) (obind (rowGet row m) boA) = true := h
    cases he : obind (rowGet row m) boA with
    | none => rw [he] at h'; cases h'
    | some x =>
      rw [he] at h'
      by_cases e : i = m
      · subst e; exact ⟨x, he⟩
      · exact allBo_some (m := m) h' i (by omega)
noncomputable def ixA (l : List AV) (H : Hp) : Option (AV × Hp) := match l with
  | [x, .bool b] => obind (slRow H x) fun p => cnd (Nat.blt p.1 1000000) (cnd (Nat.blt 0 p.1) (cnd (allBo p.2 p.1) (omap (fun v => (v, H)) (fdA p.2 b p.1 0)) none) none) none
  | _ => none
theorem fdA_rel {row : AV} {f : Nat → Bool} {b : Bool} : ∀ {m i : Nat} {v : AV}, (∀ j, j < i + m → obind (rowGet row j) boA = some (f j)) → fdA row b m i = some v → v = .int .i64 (fndI f b m i)
  | 0, i, v, _, h => by cases h; rfl
  | m + 1, i, v, hf, h => by
    have h' : (obind (obind (rowGet row i) boA) fun x => cnd (beqB x b) (some (.int .i64 (Int.ofNat i))) (forceN (Nat.succ i) (fdA row b m))) = some v := h
    rw [hf i (by omega)] at h'
    have h2 : cnd (beqB (f i) b) (some (.int .i64 (Int.ofNat i))) (forceN (Nat.succ i) (fdA row b m)) = some v := h'
    rw [cnd_eq, forceN_eq] at h2
    unfold fndI
    split at h2
    · rename_i hb
      cases h2
      rw [if_pos (beqB_eq hb)]
      rfl
    · rename_i hb
      rw [if_neg (fun e => hb (by rw [e]; cases b <;> rfl))]
      exact fdA_rel (m := m) (i := i + 1) (fun j hj => hf j (by omega)) h2
theorem ix_known {P : Program} {fn : FuncId} {base : Nat} {w0 : World}
    (hs : ∀ (g off n cap : Nat) (f : Nat → Bool) (b : Bool) (w : World), (∀ j, j < n → w.cell? ⟨g, off + j, none⟩ = some (.bool (f j))) → n < 1000000 →
      Calls P fn #[.slice (some ⟨g, off, none⟩) n cap, .bool b] w fun e w' => e = .returned (.int .i64 (fndI f b n 0)) ∧ Below w.heap.size w w') :
    ∀ l E H w (args : Array Value) r, ixA l H = some r → F2 (V E) l args.toList → Inv E H w base w0 → Calls P fn args w (RetOk E H w r) := by
  intro l E H w args r h hl hI
  unfold ixA at h
  split at h
  · rename_i x b
    obtain ⟨⟨n, row⟩, h1, h2⟩ := obind_some h
    obtain ⟨h3, h4⟩ := cnd_some h2
    obtain ⟨h5, h6⟩ := cnd_some h4
    obtain ⟨h7, h8⟩ := cnd_some h6
    rw [omap_eq, Option.map_eq_some_iff] at h8
    obtain ⟨v, h9, rfl⟩ := h8
    cases args with
    | mk al =>
    cases hl with
    | cons hx ht =>
    cases ht with
    | cons hy ht =>
    cases ht
    obtain rfl := V_bool hy
    obtain ⟨ls, k1, k2, k3⟩ := slRow_rel hI.hr hx h1
    have hpos : 0 < n := by simpa [Nat.blt_eq] using h5
    rcases k3 with ⟨_, k4⟩ | ⟨g, off, c, rfl, k4⟩
    · omega
    · have hall := allBo_some h7
      let f : Nat → Bool := fun j => (obind (rowGet row j) boA).getD false
      have hf : ∀ j, j < n → obind (rowGet row j) boA = some (f j) := fun j hj => by
        obtain ⟨bb, hb⟩ := hall j hj
        show _ = some ((obind (rowGet row j) boA).getD false)
        rw [hb]; rfl
      refine (hs g off n c f b w (fun j hj => ?_) (blt_iff.1 h3)).mono ?_
      · obtain ⟨u, g1, g2⟩ := obind_some (hf j hj)
        have g3 := boA_eq g2
        obtain ⟨cv, g4, g5⟩ := rowGet_rel k1 g1
        rw [g3] at g5
        rw [V_bool g5] at g4
        exact k4 j _ g4
      · rintro e w' ⟨rfl, hb⟩
        refine ⟨E, _, rfl, below_stp hI.hr hb, ?_⟩
        rw [fdA_rel (f := f) (fun j hj => hf j (by omega)) h9]
        exact rfl
  · cases h
end Go.Ev
