/- Entries, plainly. No program in sight. -/
import GoSem.Op.String
import Derived.Lib.Bytealg
namespace Go.Ie
/-- May an entry be? -/
def mayB (n : Nat) (p q : Int) : Bool := decide (1 ≤ n) && decide (n ≤ 32) && decide (32 ≤ p) && decide (p < 128) && decide (0 ≤ q) && decide (q ≤ 255)
def keyB (n : Nat) : Bool := decide (1 ≤ n) && decide (n ≤ 32)
theorem cmpB_lt : ∀ (a b : List UInt8), (Lib.compareBytes a b < 0) = (Op.bytesLess a b = true)
  | [], [] => by simp [Lib.compareBytes, Op.bytesLess]
  | [], _ :: _ => by simp [Lib.compareBytes, Op.bytesLess]
  | _ :: _, [] => by simp [Lib.compareBytes, Op.bytesLess]
  | x :: a, y :: b => by
    have ih := cmpB_lt a b
    unfold Lib.compareBytes Op.bytesLess
    by_cases h : x < y
    · simp [h]
    · by_cases h2 : y < x
      · have hne : (x == y) = false := by
          rw [beq_eq_false_iff_ne]; rintro rfl; exact h h2
        simp [h, h2, hne]
      · have he : x = y := UInt8.le_antisymm (UInt8.not_lt.1 h2) (UInt8.not_lt.1 h)
        subst he
        simp [h, ih]
theorem cmpB_zero : ∀ (a b : List UInt8), (Lib.compareBytes a b = 0) = (a = b)
  | [], [] => by simp [Lib.compareBytes]
  | [], _ :: _ => by simp [Lib.compareBytes]
  | _ :: _, [] => by simp [Lib.compareBytes]
  | x :: a, y :: b => by
    have ih := cmpB_zero a b
    unfold Lib.compareBytes
    by_cases h : x < y
    · have hne : x ≠ y := by rintro rfl; exact UInt8.lt_irrefl x h
      simp [h, hne]
    · by_cases h2 : y < x
      · have hne : x ≠ y := by rintro rfl; exact h h2
        simp [h, h2, hne]
      · have he : x = y := UInt8.le_antisymm (UInt8.not_lt.1 h2) (UInt8.not_lt.1 h)
        subst he
        simp [h, ih]
def cmpI (x y : Int) : Int := if x < y then -1 else if y < x then 1 else 0
def or3 (x y z : Int) : Int := if x ≠ 0 then x else if y ≠ 0 then y else z
def pick3 (x y z : Int) (i : Nat) : Int := if i = 0 then x else if i = 1 then y else z
def cmpE (s : ByteArray) (p q : Int) (s' : ByteArray) (p' q' : Int) : Int := or3 (Lib.compareBytes s.data.toList s'.data.toList) (cmpI p p') (cmpI q q')
def lessB (s : ByteArray) (p q : Int) (s' : ByteArray) (p' q' : Int) : Bool := decide (cmpE s p q s' p' q' < 0)
theorem less_ne {s s' : ByteArray} (h : (!s.toList == s'.toList) = true) (p q p' q' : Int) : lessB s p q s' p' q' = Op.bytesLess s.toList s'.toList := by
  rw [ByteArray.toList_eq, ByteArray.toList_eq] at h ⊢
  have hne : s.data.toList ≠ s'.data.toList := by simpa using h
  have hz : Lib.compareBytes s.data.toList s'.data.toList ≠ 0 := by rw [ne_eq, cmpB_zero]; exact hne
  unfold lessB cmpE or3
  rw [if_pos hz, Bool.eq_iff_iff, decide_eq_true_iff, cmpB_lt]
theorem less_eq {s s' : ByteArray} (h : (!s.toList == s'.toList) = false) (p q p' q' : Int) : lessB s p q s' p' q' = (decide (p < p') || (decide (p = p') && decide (q < q'))) := by
  rw [ByteArray.toList_eq, ByteArray.toList_eq] at h
  have he : s.data.toList = s'.data.toList := by simpa using h
  have hz : Lib.compareBytes s.data.toList s'.data.toList = 0 := by rw [cmpB_zero]; exact he
  unfold lessB cmpE or3
  rw [hz]
  unfold cmpI
  rw [Bool.eq_iff_iff]
  simp only [ne_eq, not_true_eq_false, if_false, decide_eq_true_eq, Bool.or_eq_true, Bool.and_eq_true]
  by_cases h1 : p < p'
  · simp [h1]
  · by_cases h2 : p' < p
    · simp [h1, h2]; omega
    · have : p = p' := by omega
      subst this
      by_cases h3 : q < q'
      · simp [h3]
      · by_cases h4 : q' < q
        · simp [h3, h4]
        · simp [h3, h4]
end Go.Ie
