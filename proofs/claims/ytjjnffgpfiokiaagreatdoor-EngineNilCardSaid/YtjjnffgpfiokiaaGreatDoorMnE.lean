/- Which names a file may have. -/
import Derived.Test.YtjjnffgpfiokiaaGreatDoorSyE
import Derived.Lib.ConvBytes
import Derived.Lib.AtoiErrMem
import Derived.IntWalk
namespace Go.Ev
open Go Go.RowKit
theorem wl_conv {P : Program} {ops : Array Oper} {rest : List Oper} {o : Oper} {a : Act} {w : World} {Q : Exit → Act → World → Prop} (hg : o.guard = none) (sr d : TypeId) (x : Operand) (hop : o.op = .convert sr d x) (v : Value) (hx : a.eval x = v) (v' : Value) (w' : World) (hr : (convert sr d v).run P w = .ok v' w')
    (h : wpList P ops Q rest (a.put o.dst v') w') : wpList P ops Q (o :: rest) a w := by
  refine wl_run hg v' w' ?_ h
  simp [execOp, hop, hx, hr]
def okC (c : Nat) : Bool := !((Nat.blt c 97 || Nat.blt 122 c) && (Nat.blt c 48 || Nat.blt 57 c) && !Nat.beq c 46 && !Nat.beq c 45)
def mayL (l : List Nat) : Bool := l.all okC && decide (1 ≤ l.length) && decide (l.length ≤ 32)
def sB8 (s : ByteArray) : List Nat := s.data.toList.map (·.toNat)
theorem sB8_len (s : ByteArray) : (sB8 s).length = s.size := by unfold sB8; rw [List.length_map]; exact Array.length_toList
theorem sB8_get {s : ByteArray} {i : Nat} (h : i < s.size) : s.data.toList.getD i 0 = UInt8.ofNat ((sB8 s).getD i 0) ∧ ((s.data.toList.getD i 0).toNat = (sB8 s).getD i 0) := by
  have hl : i < s.data.toList.length := by rw [Array.length_toList]; exact h
  have e : (sB8 s).getD i 0 = (s.data.toList[i]).toNat := by
    unfold sB8
    rw [List.getD_eq_getElem?_getD, List.getElem?_map, List.getElem?_eq_getElem hl]; rfl
  rw [List.getD_eq_getElem?_getD, List.getElem?_eq_getElem hl, e]
  exact ⟨by simp, rfl⟩
theorem okC_false {c : Nat} (h1 : c < 97 ∨ 122 < c) (h2 : c < 48 ∨ 57 < c) (h3 : c ≠ 46) (h4 : c ≠ 45) : okC c = false := by
  unfold okC
  have a1 : (Nat.blt c 97 || Nat.blt 122 c) = true := by simp [Nat.blt_eq]; omega
  have a2 : (Nat.blt c 48 || Nat.blt 57 c) = true := by simp [Nat.blt_eq]; omega
  have a3 : Nat.beq c 46 = false := by rw [← Bool.not_eq_true]; exact fun h => h3 (Nat.eq_of_beq_eq_true h)
  have a4 : Nat.beq c 45 = false := by rw [← Bool.not_eq_true]; exact fun h => h4 (Nat.eq_of_beq_eq_true h)
  rw [a1, a2, a3, a4]; rfl
theorem okC_true {c : Nat} (h : ¬((c < 97 ∨ 122 < c) ∧ (c < 48 ∨ 57 < c) ∧ c ≠ 46 ∧ c ≠ 45)) : okC c = true := by
  unfold okC
  rw [Bool.not_eq_true', ← Bool.not_eq_true]
  intro hh
  simp only [Bool.and_eq_true, Bool.or_eq_true, Nat.blt_eq, Bool.not_eq_true'] at hh
  apply h
  refine ⟨by omega, by omega, ?_, ?_⟩
  · intro e; subst e; simp at hh
  · intro e; subst e; simp at hh
theorem all_step {l : List Nat} {i : Nat} (h : (l.take i).all okC = true) (hi : i < l.length) (ho : okC (l.getD i 0) = true) : (l.take (i + 1)).all okC = true := by
  rw [List.take_succ_eq_append_getElem hi, List.all_append, h]
  rw [List.getD_eq_getElem?_getD, List.getElem?_eq_getElem hi] at ho
  simpa using ho
theorem all_bad {l : List Nat} {i : Nat} (hi : i < l.length) (ho : okC (l.getD i 0) = false) : mayL l = false := by
  unfold mayL
  have : l.all okC = false := by
    rw [List.all_eq_false]
    rw [List.getD_eq_getElem?_getD, List.getElem?_eq_getElem hi] at ho
    exact ⟨l[i], List.getElem_mem hi, by simpa using ho⟩
  rw [this]; rfl
theorem may_end {l : List Nat} {n : Nat} (h : (l.take n).all okC = true) (hl : l.length = n) : mayL l = (decide (1 ≤ n) && decide (n ≤ 32)) := by
  unfold mayL
  rw [← hl, List.take_length] at h
  rw [h, hl, Bool.true_and]
theorem may_yes {l : List Nat} {n : Nat} (h : (l.take n).all okC = true) (hl : l.length = n) (h1 : 1 ≤ (n : Int)) : decide ((n : Int) ≤ 32) = mayL l := by
  rw [may_end h hl]
  have e1 : decide (1 ≤ n) = true := decide_eq_true (by omega)
  rw [e1, Bool.true_and]
  exact decide_eq_decide.2 (by omega)
theorem may_no {l : List Nat} {n : Nat} (h : (l.take n).all okC = true) (hl : l.length = n) (h1 : ¬ 1 ≤ (n : Int)) : false = mayL l := by
  rw [may_end h hl]
  have e1 : decide (1 ≤ n) = false := decide_eq_false (by omega)
  rw [e1, Bool.false_and]
end Go.Ev

/- Which names a file may have, as the evaluator knows it. -/
namespace Go.Ev
open Go.RowKit Go.MapKept
noncomputable def allD (d n : Nat) : Bool := Nat.rec (motive := fun _ => Bool) true (fun i ih => cnd (forceN (digit 8 d i) okC) ih false) n
theorem allD_eq (d m : Nat) : ∀ n, n ≤ m → allD d n = ((toL 8 m d).take n).all okC
  | 0, _ => by rw [List.take_zero]; rfl
  | n + 1, h => by
    have hn : n < (toL 8 m d).length := by rw [toL_length]; omega
    have h1 : allD d (n + 1) = cnd (forceN (digit 8 d n) okC) (allD d n) false := rfl
    have h2 : (toL 8 m d)[n] = digit 8 d n := by
      have := toL_get 8 m d n (by omega)
      rw [List.getElem?_eq_getElem hn] at this
      exact Option.some.inj this
    rw [h1, forceN_eq, cnd_eq, allD_eq d m n (by omega), List.take_succ_eq_append_getElem hn, List.all_append, h2]
    show (if okC (digit 8 d n) = true then ((toL 8 m d).take n).all okC else false) = (((toL 8 m d).take n).all okC && (okC (digit 8 d n) && true))
    generalize ((toL 8 m d).take n).all okC = A
    generalize okC (digit 8 d n) = B
    cases A <;> cases B <;> rfl
noncomputable def mnA (l : List AV) (H : Hp) : Option (AV × Hp) := match l with
  | [.str n d] => cnd (Nat.ble n 1000) (some (.bool (cnd (Nat.ble 1 n) (cnd (Nat.ble n 32) (allD d n) false) false), H)) none
  | _ => none
theorem sB8_str {s : ByteArray} {n d : Nat} (h : s.data.toList = bytesOf n d) : sB8 s = toL 8 n d := by
  unfold sB8
  rw [h]
  unfold bytesOf
  rw [List.map_map]
  have : ∀ x ∈ toL 8 n d, ((fun b : UInt8 => b.toNat) ∘ UInt8.ofNat) x = x := fun x hx => by
    have := toL_lt 8 n d x hx
    simp
    omega
  rw [List.map_congr_left this, List.map_id'']
  intro x; rfl
theorem mn_known {P : Program} {f : FuncId} {base : Nat} {w0 : World}
    (hs : ∀ (s : ByteArray), s.size < 1000000 → ∀ w : World, Calls P f #[.string s] w fun e w' => e = .returned (.bool (mayL (sB8 s))) ∧ Below w.heap.size w w') :
    ∀ l E H w (args : Array Value) r, mnA l H = some r → F2 (V E) l args.toList → Inv E H w base w0 → Calls P f args w (RetOk E H w r) := by
  intro l E H w args r h hl hI
  unfold mnA at h
  split at h
  · rename_i n d
    obtain ⟨h1, h2⟩ := cnd_some h
    cases h2
    cases args with
    | mk al =>
    cases hl with
    | cons hx ht =>
    cases ht
    obtain ⟨h3, s, rfl, h4⟩ := V_str hx
    have hn := Nat.le_of_ble_eq_true h1
    have e1 := sB8_str h4
    have e2 : s.size = n := by rw [← sB8_len, e1, toL_length]
    refine (hs s (by omega) w).mono ?_
    rintro e w' ⟨rfl, hb⟩
    refine ⟨E, _, rfl, below_stp hI.hr hb, ?_⟩
    have e3 : mayL (sB8 s) = cnd (Nat.ble 1 n) (cnd (Nat.ble n 32) (allD d n) false) false := by
      rw [e1]
      unfold mayL
      rw [toL_length, allD_eq d n n (Nat.le_refl n)]
      have : (toL 8 n d).take n = toL 8 n d := by rw [List.take_of_length_le]; rw [toL_length]; exact Nat.le_refl n
      rw [this, cnd_eq, cnd_eq]
      by_cases a1 : 1 ≤ n
      · by_cases a2 : n ≤ 32
        · rw [if_pos (Nat.ble_eq_true_of_le a1), if_pos (Nat.ble_eq_true_of_le a2), decide_eq_true a1, decide_eq_true a2]; simp
        · rw [if_pos (Nat.ble_eq_true_of_le a1), if_neg (fun h => a2 (Nat.le_of_ble_eq_true h)), decide_eq_false a2]; simp
      · rw [if_neg (fun h => a1 (Nat.le_of_ble_eq_true h)), decide_eq_false a1]; simp
    rw [e3]
    exact rfl
  · cases h
end Go.Ev
