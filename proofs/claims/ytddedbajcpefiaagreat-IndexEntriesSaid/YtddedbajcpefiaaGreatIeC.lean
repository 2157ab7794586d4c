import Derived.Test.YtddedbajcpefiaaGreatIeB
import Derived.Laws.BytesString
namespace Go.Proofs.Ie
open Go Go.RowKit Go.Ie Go.Crc
def strOf (l : List Nat) : ByteArray := ⟨(l.map UInt8.ofNat).toArray⟩
theorem strOf_size (l : List Nat) : (strOf l).size = l.length := by
  show ((l.map UInt8.ofNat).toArray).size = _
  rw [List.size_toArray, List.length_map]
theorem fold_str : ∀ (l : List Nat) (a : ByteArray), (l.map (fun x : Nat => (x : Int))).foldl (fun r n => r.push (UInt8.ofNat n.toNat)) a = ⟨a.data ++ (l.map UInt8.ofNat).toArray⟩
  | [], a => by simp
  | x :: l, a => by
    rw [List.map_cons, List.foldl_cons, fold_str l]
    congr 1
    apply Array.ext'
    simp [ByteArray.push]
def okE (l : List Nat) : Bool := decide (2 ≤ l.length) && mayB (l.length - 2) (l.getD 0 0 : Nat) (l.getD 1 0 : Nat)
def sE (l : List Nat) : ByteArray := if okE l then strOf (l.drop 2) else ByteArray.empty
def pE (l : List Nat) : Int := if okE l then (l.getD 0 0 : Nat) else 0
def qE (l : List Nat) : Int := if okE l then (l.getD 1 0 : Nat) else 0
def agE (l : List Nat) : Value := .agg #[.string (sE l), .int .i64 (pE l), .int .i64 (qE l)]
theorem agE_f {l : List Nat} (h : okE l = false) : agE l = .agg #[.string ByteArray.empty, .int .i64 0, .int .i64 0] := by
  unfold agE sE pE qE; rw [h]; rfl
theorem aggAt {W : World} {N : Nat} {s : ByteArray} {p q : Int} {T : Nat} {fr : Nat × Nat} (h : W.heap[N]? = some (.cells #[.string s, .int .i64 p, .int .i64 q] T fr)) : W.cell? ⟨N, 0, none⟩ = some (.string s) ∧ W.cell? ⟨N, 1, none⟩ = some (.int .i64 p) ∧ W.cell? ⟨N, 2, none⟩ = some (.int .i64 q) := by
  unfold World.cell?
  rw [h]
  exact ⟨rfl, rfl, rfl⟩
theorem agg_below {w w' : World} {s : ByteArray} {p q : Int} {T : Nat} {B : Nat} (hb : Below B (w.alloc (.cells #[.string s, .int .i64 p, .int .i64 q] T)) w') (hB : w.heap.size < B) : w'.cell? ⟨w.heap.size, 0, none⟩ = some (.string s) ∧ w'.cell? ⟨w.heap.size, 1, none⟩ = some (.int .i64 p) ∧ w'.cell? ⟨w.heap.size, 2, none⟩ = some (.int .i64 q) :=
  aggAt ((hb.block _ hB).trans (heap_alloc_new _ _))
set_option maxRecDepth 100000 in
theorem bytesE_any (s : ByteArray) (p q : Int) (w : World) : Calls Tryz.prog 5 #[.agg #[.string s, .int .i64 p, .int .i64 q]] w fun e w' => (∃ v, e = .returned (.tuple #[v, .int .i64 (if mayB s.size p q = true then 0 else 2)]) ∧ BytesAt w' v (if mayB s.size p q = true then ofE s p q else [])) ∧ Below w.heap.size w w' := by
  cases hm : mayB s.size p q
  · go_enter Tryz.func5, Tryz.ntmps5
    go_wp2_with (go_at_call 8; refine (may_any _ _ _ _).mono ?_; rw [hm]; rintro e w' ⟨rfl, hb⟩)
    go_ret2
    exact ⟨⟨_, rfl, ⟨fun x hx => by simp at hx, .inl ⟨rfl, rfl⟩⟩⟩, ((Below.refl _ _).alloc (Nat.le_refl _) _).trans (hb.mono (by simp))⟩
  · have hm' := hm
    unfold mayB at hm'
    simp only [Bool.and_eq_true, decide_eq_true_eq] at hm'
    go_enter Tryz.func5, Tryz.ntmps5
    go_wp2_with (first | (go_at_call 8; refine (may_any _ _ _ _).mono ?_; rw [hm]; rintro e w' ⟨rfl, hb⟩; obtain ⟨c0, c1, c2⟩ := agg_below hb (by simp)) | (go_at_call 21; refine (bytes_any _ _ _ _ (by omega) (by omega) (by omega) (by omega) (by omega) (by omega)).mono ?_; rintro e w'' ⟨⟨v, rfl, hv⟩, hb2⟩))
    go_ret2
    have hb0 := ((Below.refl _ _).alloc (Nat.le_refl _) _).trans (hb.mono (by simp))
    exact ⟨⟨v, rfl, hv⟩, hb0.trans (hb2.mono hb0.size)⟩
end Go.Proofs.Ie
