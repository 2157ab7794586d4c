/- The run gives the certificate: tables, ranks, steps. -/
import Derived.Test.YtaogiffafckmlaaGreatDoorEvZa
namespace Go.Ev
open Go.RowKit Go.MapKept

theorem rkL_zero (l : List Oper) : rkL l 0 = 0 := by cases l <;> rfl
theorem rkL_succ : ∀ {l : List Oper} {k : Nat} {o : Oper}, l[k]? = some o → rkL l (k + 1) = rkL l k + (if isDo o.op = true then 1 else 0)
  | [], k, o, h => by cases h
  | q :: l, 0, o, h => by
    cases h
    show Nat.add (cnd (isDo q.op) 1 0) (rkL l 0) = 0 + _
    rw [rkL_zero, cnd_eq]
    simp
  | q :: l, k + 1, o, h => by
    have := rkL_succ (l := l) (k := k) (o := o) (by simpa using h)
    show Nat.add (cnd (isDo q.op) 1 0) (rkL l (k + 1)) = Nat.add (cnd (isDo q.op) 1 0) (rkL l k) + _
    rw [this]
    simp only [Nat.add_eq]; omega

section st
variable {ops : Array Oper}
noncomputable def rkA (ops : Array Oper) (x : Nat) : Nat := rkL ops.toList x
theorem rkA_succ {k : Nat} (hk : k < ops.size) : rkA ops (k + 1) = rkA ops k + (if isDx ops k = true then 1 else 0) := by
  have ho : ops[k]? = some ops[k] := Array.getElem?_eq_getElem hk
  unfold rkA
  rw [rkL_succ (o := ops[k]) (by rw [Array.getElem?_toList]; exact ho)]
  unfold isDx
  rw [ho]
theorem rkA_mono {k : Nat} : ∀ {j : Nat}, k + j ≤ ops.size → rkA ops k ≤ rkA ops (k + j)
  | 0, _ => Nat.le_refl _
  | j + 1, h => by
    have h1 := rkA_mono (k := k) (j := j) (by omega)
    have h2 := rkA_succ (ops := ops) (k := k + j) (by omega)
    rw [show k + (j + 1) = k + j + 1 by omega, h2]
    omega
theorem rkA_le {k k' : Nat} (h : k ≤ k') (h' : k' ≤ ops.size) : rkA ops k ≤ rkA ops k' := by
  have := rkA_mono (ops := ops) (k := k) (j := k' - k) (by omega)
  rwa [show k + (k' - k) = k' by omega] at this
theorem rkA_lt {d k : Nat} (hd : isDx ops d = true) (h : d < k) (h' : k ≤ ops.size) : rkA ops d < rkA ops k := by
  have h1 := rkA_succ (ops := ops) (k := d) (by omega)
  rw [if_pos hd] at h1
  have := rkA_le (ops := ops) (k := d + 1) (k' := k) (by omega) h'
  omega
theorem rkA_sur : ∀ {k : Nat}, k ≤ ops.size → ∀ g, g < rkA ops k → ∃ d, d < k ∧ isDx ops d = true ∧ rkA ops d = g
  | 0, _, g, h => by unfold rkA at h; rw [rkL_zero] at h; exact absurd h (Nat.not_lt_zero _)
  | k + 1, hk, g, h => by
    rw [rkA_succ (by omega)] at h
    by_cases hd : isDx ops k = true
    · rw [if_pos hd] at h
      rcases Nat.lt_or_ge g (rkA ops k) with h1 | h1
      · obtain ⟨d, h2, h3, h4⟩ := rkA_sur (k := k) (by omega) g h1
        exact ⟨d, by omega, h3, h4⟩
      · exact ⟨k, by omega, hd, by omega⟩
    · rw [if_neg hd] at h
      obtain ⟨d, h2, h3, h4⟩ := rkA_sur (k := k) (by omega) g h
      exact ⟨d, by omega, h3, h4⟩

theorem maskOf_bit {mk : Nat → Nat} : ∀ {l : List Edge} {y : Nat}, Nat.testBit (maskOf mk l) y = true → ∃ e ∈ l, Region.binds .any e = true ∧ (y = e.on ∨ Nat.testBit (mk e.on) y = true)
  | [], y, h => by
    have h : Nat.testBit 0 y = true := h
    simp at h
  | e :: l, y, h => by
    have h : Nat.testBit (cnd (Region.binds .any e) (Nat.lor (Nat.lor (Nat.shiftLeft 1 e.on) (mk e.on)) (maskOf mk l)) (maskOf mk l)) y = true := h
    rw [cnd_eq] at h
    split at h
    · rename_i hb
      have h : Nat.testBit ((1 <<< e.on ||| mk e.on) ||| maskOf mk l) y = true := h
      rw [Nat.testBit_or, Nat.testBit_or] at h
      simp only [Bool.or_eq_true] at h
      rcases h with (h | h) | h
      · refine ⟨e, .head _, hb, .inl ?_⟩
        rw [Nat.one_shiftLeft, Nat.testBit_two_pow] at h
        have := of_decide_eq_true h
        omega
      · exact ⟨e, .head _, hb, .inr h⟩
      · obtain ⟨e', h1, h2⟩ := maskOf_bit h
        exact ⟨e', .tail _ h1, h2⟩
    · obtain ⟨e', h1, h2⟩ := maskOf_bit h
      exact ⟨e', .tail _ h1, h2⟩

theorem sameT_iff {a b : Option Tmp} {t : Tmp} (h : sameT a b = false) (ha : a = some t) : b ≠ some t := by
  subst ha
  rintro rfl
  simp [sameT] at h

structure Stat (ops : Array Oper) : Prop where
  back : ∀ x (o : Oper), ops[x]? = some o → ∀ e ∈ o.after, Region.binds .any e = true → e.on < x
  pre : ∀ x (o : Oper), ops[x]? = some o → ∀ y, pmB ops x y = true → ∃ e ∈ o.after, Region.binds .any e = true ∧ (y = e.on ∨ pmB ops e.on y = true)
  tot : ∀ x y, x < ops.size → y < x → isDx ops x = true → isDx ops y = true → pmB ops x y = true
  dst : ∀ x y t, x < ops.size → y < ops.size → dstA ops x = some t → dstA ops y = some t → x = y
  look : ∀ x (o : Oper), ops[x]? = some o → ∀ t ∈ o.looksAt ops, ∀ y, y < ops.size → dstA ops y = some t → pmB ops x y = true ∨ pmB ops y x = true ∨ y = x

theorem statOk_rel (h : statOk ops = true) : Stat ops := by
  have key : ∀ x (o : Oper), ops[x]? = some o → (Nat.beq (mask ops x) (maskOf (mask ops) o.after.toList) = true ∧ (∀ e ∈ o.after.toList, Region.binds .any e = true → e.on < x) ∧
      (isDo o.op = true → ∀ y, y < x → isDx ops y = true → pmB ops x y = true) ∧ (∀ y, y < x → sameT o.dst (dstA ops y) = false) ∧
      (∀ t ∈ o.looksAt ops, ∀ y, y < ops.size → sameT (some t) (dstA ops y) = true → pmB ops x y = true ∨ pmB ops y x = true ∨ y = x)) := by
    intro x o ho
    have hx : x < ops.size := (Array.getElem?_eq_some_iff.1 ho).1
    have h1 := List.all_eq_true.1 h x (List.mem_range.2 hx)
    rw [ho] at h1
    simp only [Bool.and_eq_true, List.all_eq_true, Bool.or_eq_true, Bool.not_eq_true', List.mem_range] at h1
    obtain ⟨⟨⟨⟨g1, g2⟩, g3⟩, g4⟩, g5⟩ := h1
    refine ⟨g1, fun e he hb => ?_, fun hd y hy hyd => ?_, fun y hy => g4 y hy, fun t ht y hy hs => ?_⟩
    · rcases g2 e he with k | k
      · rw [hb] at k; cases k
      · exact blt_iff.1 k
    · rcases g3 with k | k
      · rw [hd] at k; cases k
      · rcases k y hy with k | k
        · rw [hyd] at k; cases k
        · exact k
    · rcases g5 t ht y hy with ((k | k) | k) | k
      · rw [hs] at k; cases k
      · exact .inl k
      · exact .inr (.inl k)
      · exact .inr (.inr (Nat.eq_of_beq_eq_true k))
  refine ⟨fun x o ho e he hb => (key x o ho).2.1 e (by simpa using he) hb, fun x o ho y hy => ?_, fun x y hx hy hdx hdy => ?_, fun x y t hx hy h1 h2 => ?_, fun x o ho t ht y hy hd => ?_⟩
  · have e1 := Nat.eq_of_beq_eq_true (key x o ho).1
    unfold pmB at hy
    rw [e1] at hy
    obtain ⟨e, g1, g2, g3⟩ := maskOf_bit hy
    exact ⟨e, by simpa using g1, g2, g3⟩
  · have ho : ops[x]? = some ops[x] := Array.getElem?_eq_getElem hx
    refine (key x _ ho).2.2.1 ?_ y hy hdy
    unfold isDx at hdx
    rw [ho] at hdx
    exact hdx
  · have no : ∀ x y, y < x → x < ops.size → dstA ops x = some t → dstA ops y = some t → False := by
      intro x y hyx hx h1 h2
      have ho : ops[x]? = some ops[x] := Array.getElem?_eq_getElem hx
      rw [dst_of ho] at h1
      exact sameT_iff ((key x _ ho).2.2.2.1 y hyx) h1 h2
    rcases Nat.lt_trichotomy x y with h | h | h
    · exact (no y x h hy h2 h1).elim
    · exact h
    · exact (no x y h hx h1 h2).elim
  · refine (key x o ho).2.2.2.2 t ht y hy ?_
    rw [hd]
    simp [sameT]

theorem Stat.lt (hs : Stat ops) : ∀ {x y : Nat}, x < ops.size → pmB ops x y = true → y < x := by
  intro x
  induction x using Nat.strongRecOn with
  | _ x ih =>
    intro y hx hy
    have ho : ops[x]? = some ops[x] := Array.getElem?_eq_getElem hx
    obtain ⟨e, h1, h2, h3⟩ := hs.pre x _ ho y hy
    have h4 := hs.back x _ ho e h1 h2
    rcases h3 with rfl | h3
    · exact h4
    · have := ih e.on h4 (by omega) h3; omega
end st
end Go.Ev
