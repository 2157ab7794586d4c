/- Where pages differ, plainly. No program in sight. -/
import Derived.Test.YtjdjpjebbdcfeaaGreatDoorCrcP
namespace Go.Crc
def dst (la lb : List Nat) (i : Nat) (s : Nat × Nat) : Nat × Nat := if la.getD i 0 = lb.getD i 0 then s else (i, if s.1 = 1024 then i + 1 else s.2)
def dif (la lb : List Nat) : Nat → Nat × Nat
  | 0 => (1024, 1024)
  | n + 1 => dst la lb (1023 - n) (dif la lb n)
theorem dif_le (la lb : List Nat) : ∀ n, n ≤ 1012 → 1024 - n ≤ (dif la lb n).1 ∧ (dif la lb n).1 ≤ (dif la lb n).2 ∧ (dif la lb n).2 ≤ 1024
  | 0, _ => by simp [dif]
  | n + 1, h => by
    obtain ⟨h1, h2, h3⟩ := dif_le la lb n (by omega)
    show _ ≤ (dst la lb (1023 - n) (dif la lb n)).1 ∧ (dst la lb (1023 - n) (dif la lb n)).1 ≤ (dst la lb (1023 - n) (dif la lb n)).2 ∧ (dst la lb (1023 - n) (dif la lb n)).2 ≤ 1024
    unfold dst
    split
    · omega
    · refine ⟨by simp only; omega, ?_, ?_⟩
      · simp only; split <;> omega
      · simp only; split <;> omega
end Go.Crc
