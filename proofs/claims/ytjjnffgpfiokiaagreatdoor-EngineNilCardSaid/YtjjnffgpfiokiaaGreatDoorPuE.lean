/- A number's bytes. -/
import Derived.Test.YtjjnffgpfiokiaaGreatDoorSyE
import Derived.Deep.OwnRows
import Derived.Test.YtjjnffgpfiokiaaGreatDoorDfE
namespace Go.Ev
open Go Go.RowKit
/-- The last m bytes of a number. -/
def beB (v : Nat) : Nat → List Nat
  | 0 => []
  | m + 1 => (v / 256 ^ m % 256) :: beB v m
theorem beB_len (v : Nat) : ∀ m, (beB v m).length = m
  | 0 => rfl
  | m + 1 => by simp [beB, beB_len v m]
def u8L (l : List Nat) : List Value := l.map (fun x : Nat => Value.int .u8 (x : Int))
theorem u8L_len (l : List Nat) : (u8L l).length = l.length := List.length_map ..
/-- A row of k cells of which the last m are written. -/
def rowM (v k m : Nat) : List Value := List.replicate (k - m) (Value.int .u8 0) ++ u8L (beB v m)
theorem rowM_len {v k m : Nat} (h : m ≤ k) : (rowM v k m).length = k := by unfold rowM; simp [u8L_len, beB_len]; omega
theorem rowM_zero (v k : Nat) : (madeCells #[Value.int .u8 0] k) = (rowM v k 0).toArray := by
  apply Array.ext'
  unfold madeCells rowM u8L beB
  simp
  apply List.ext_getElem
  · simp
  · intro i h1 h2
    simp [Nat.mod_one]
theorem rowM_step {v k m : Nat} (h : m < k) : wrL (rowM v k m) (k - 1 - m) [Value.int .u8 ((v / 256 ^ m % 256 : Nat) : Int)] = rowM v k (m + 1) := by
  have h1 : k - m = (k - 1 - m) + 1 := by omega
  have h2 : k - (m + 1) = k - 1 - m := by omega
  unfold wrL rowM
  rw [h1, h2, List.take_append_of_le_length (by simp), List.take_replicate, List.drop_append, List.drop_eq_nil_of_le (by simp)]
  simp [u8L, beB]
theorem rowM_full (v k : Nat) : rowM v k k = u8L (beB v k) := by unfold rowM; simp
end Go.Ev

/- A number's bytes, as the evaluator knows them. -/
namespace Go.Ev
open Go.RowKit Go.MapKept
noncomputable def beN (v : Nat) (k : Nat) : Nat := Nat.rec (motive := fun _ => Nat) 0 (fun m ih => forceN ih fun b => Nat.add (Nat.mod (Nat.div v (Nat.pow 256 m)) 256) (Nat.mul 256 b)) k
theorem beN_eq (v : Nat) : ∀ k, toL 8 k (beN v k) = beB v k ∧ beN v k < 2 ^ (8 * k)
  | 0 => ⟨rfl, Nat.zero_lt_one⟩
  | m + 1 => by
    obtain ⟨h1, h2⟩ := beN_eq v m
    have e : beN v (m + 1) = v / 256 ^ m % 256 + 256 * beN v m := by
      show forceN (beN v m) (fun b => Nat.add (Nat.mod (Nat.div v (Nat.pow 256 m)) 256) (Nat.mul 256 b)) = _
      rw [forceN_eq]; rfl
    have hlt : v / 256 ^ m % 256 < 256 := Nat.mod_lt _ (by decide)
    constructor
    · rw [e]
      show (v / 256 ^ m % 256 + 256 * beN v m) % 2 ^ 8 :: toL 8 m ((v / 256 ^ m % 256 + 256 * beN v m) / 2 ^ 8) = _
      have a1 : (v / 256 ^ m % 256 + 256 * beN v m) % 2 ^ 8 = v / 256 ^ m % 256 := by
        show (v / 256 ^ m % 256 + 256 * beN v m) % 256 = _
        rw [Nat.add_mul_mod_self_left, Nat.mod_mod]
      have a2 : (v / 256 ^ m % 256 + 256 * beN v m) / 2 ^ 8 = beN v m := by
        show (v / 256 ^ m % 256 + 256 * beN v m) / 256 = _
        rw [Nat.add_mul_div_left _ _ (by decide), Nat.div_eq_of_lt hlt, Nat.zero_add]
      rw [a1, a2, h1]; rfl
    · rw [e]
      have : 2 ^ (8 * (m + 1)) = 256 * 2 ^ (8 * m) := by rw [Nat.mul_succ, Nat.pow_add, Nat.mul_comm]
      rw [this]
      have h3 : beN v m + 1 ≤ 2 ^ (8 * m) := h2
      calc v / 256 ^ m % 256 + 256 * beN v m < 256 + 256 * beN v m := Nat.add_lt_add_right hlt _
        _ = 256 * (beN v m + 1) := by rw [Nat.mul_succ, Nat.add_comm]
        _ ≤ 256 * 2 ^ (8 * m) := Nat.mul_le_mul_left _ h3
noncomputable def puA (U : Nat) (l : List AV) (H : Hp) : Option (AV × Hp) := match l with
  | [.int .u64 (.ofNat v), .int .i64 (.ofNat k)] => cnd (Nat.ble 1 k) (cnd (Nat.ble k 8) (cnd (Nat.blt v (Nat.pow 256 k)) (cnd (Nat.blt v 18446744073709551616)
      (forceN (beN v k) fun d => some (newV H (.cells (.rpk true k d .rnil) U false) fun id H' => (.tup (.rone (.slice id 0 k k) (.rone (.int .i64 (.ofNat 0)) .rnil)), H'))) none) none) none) none
  | _ => none
theorem pu_known {P : Program} {f : FuncId} {base : Nat} {w0 : World} {U : Nat}
    (hs : ∀ (v k : Nat), 1 ≤ k → k ≤ 8 → v < 18446744073709551616 → v < 256 ^ k → ∀ w : World, Calls P f #[.int .u64 (v : Int), .int .i64 (k : Int)] w fun e w' =>
      (∃ g, e = .returned (.tuple #[.slice (some ⟨g, 0, none⟩) k k, .int .i64 0]) ∧ w.heap.size ≤ g ∧ w'.heap[g]? = some (.cells (u8L (beB v k)).toArray U (0, 0))) ∧ Below w.heap.size w w') :
    ∀ l E H w (args : Array Value) r, puA U l H = some r → F2 (V E) l args.toList → Inv E H w base w0 → Calls P f args w (RetOk E H w r) := by
  intro l E H w args r h hl hI
  unfold puA at h
  split at h
  · rename_i v k
    obtain ⟨h1, h2⟩ := cnd_some h
    obtain ⟨h3, h4⟩ := cnd_some h2
    obtain ⟨h5, h6⟩ := cnd_some h4
    obtain ⟨h7, h8⟩ := cnd_some h6
    rw [forceN_eq, newV_eq] at h8
    cases h8
    cases args with
    | mk al =>
    cases hl with
    | cons hx ht =>
    cases ht with
    | cons hy ht =>
    cases ht
    obtain rfl := V_int hx
    obtain rfl := V_int hy
    have hv2 : v < 256 ^ k := by simpa [Nat.blt_eq] using h5
    have hv : v < 18446744073709551616 := by simpa [Nat.blt_eq] using h7
    refine (hs v k (Nat.le_of_ble_eq_true h1) (Nat.le_of_ble_eq_true h3) hv hv2 w).mono ?_
    rintro e w' ⟨⟨g, rfl, f1, f2⟩, hbb⟩
    obtain ⟨b1, b2⟩ := beN_eq v k
    have hst := fresh_stp (z := k) (o := .cells (.rpk true k (beN v k) .rnil) U false) hI.hr hI.bd.none hbb f1 f2
      ⟨_, (0, 0), rfl, by simp [u8L_len, beB_len], .inl rfl, u8L (beB v k), [], by simp, ⟨b2, [], by rw [List.append_nil]; show _ = Sum.inr (List.map (pv true) (toL 8 k (beN v k))); rw [b1]; rfl, rfl⟩, fun _ => rfl⟩
    refine ⟨_, _, rfl, hst, ?_⟩
    refine ⟨_, rfl, _, _, rfl, ⟨Nat.le_refl _, g, k, Env.new_self _ _ _ _, rfl⟩, _, _, rfl, rfl, rfl⟩
  · cases h
end Go.Ev
