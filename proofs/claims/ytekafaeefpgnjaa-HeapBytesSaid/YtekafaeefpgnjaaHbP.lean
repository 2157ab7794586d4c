/- Versions' bytes, plainly. No program in sight. -/

namespace Go.Hb
/-- The s lowest bytes of n, the greatest first. -/
def be : Nat → Nat → List Nat
  | 0, _ => []
  | s + 1, n => be s (n / 256) ++ [n % 256]
/-- The number that bytes write. -/
def vl (l : List Nat) : Nat := l.foldl (fun r b => r * 256 + b) 0
theorem be_len : ∀ s n, (be s n).length = s
  | 0, _ => rfl
  | s + 1, n => by simp [be, be_len s]
theorem be_lt : ∀ s n, ∀ x ∈ be s n, x < 256
  | 0, _, x, h => by cases h
  | s + 1, n, x, h => by
    rcases List.mem_append.1 h with h | h
    · exact be_lt s _ x h
    · rw [List.mem_singleton.1 h]; exact Nat.mod_lt _ (by decide)
theorem vl_snoc (l : List Nat) (x : Nat) : vl (l ++ [x]) = vl l * 256 + x := by
  unfold vl; rw [List.foldl_append]; rfl
theorem vl_be : ∀ s n, vl (be s n) = n % 256 ^ s
  | 0, n => by rw [Nat.pow_zero, Nat.mod_one]; rfl
  | s + 1, n => by
    show vl (be s (n / 256) ++ [n % 256]) = _
    rw [vl_snoc, vl_be s, Nat.pow_succ, Nat.mul_comm (256 ^ s) 256, Nat.mod_mul]
    omega
theorem be_get : ∀ s n j, j < s → (be s n).getD j 0 = n / 256 ^ (s - 1 - j) % 256
  | 0, _, j, h => absurd h (by omega)
  | s + 1, n, j, h => by
    show (be s (n / 256) ++ [n % 256]).getD j 0 = _
    rw [List.getD_eq_getElem?_getD]
    by_cases e : j < s
    · rw [List.getElem?_append_left (by rw [be_len]; exact e), ← List.getD_eq_getElem?_getD, be_get s _ j e, Nat.div_div_eq_div_mul]
      congr 2
      rw [show s + 1 - 1 - j = (s - 1 - j) + 1 by omega, Nat.pow_succ, Nat.mul_comm]
    · have : j = s := by omega
      subst this
      rw [List.getElem?_append_right (by rw [be_len]; exact Nat.le_refl _), be_len]
      simp
theorem vl_lt : ∀ (l : List Nat), (∀ x ∈ l, x < 256) → vl l < 256 ^ l.length := by
  intro l
  suffices h : ∀ (l : List Nat) (r : Nat), (∀ x ∈ l, x < 256) → l.foldl (fun r b => r * 256 + b) r < (r + 1) * 256 ^ l.length by
    intro hl; have := h l 0 hl; simpa [vl] using this
  intro l
  induction l with
  | nil => intro r _; simp
  | cons x l ih =>
    intro r hl
    have h1 := ih (r * 256 + x) (fun y hy => hl y (List.mem_cons_of_mem _ hy))
    have hx := hl x List.mem_cons_self
    rw [List.foldl_cons, List.length_cons, Nat.pow_succ]
    refine Nat.lt_of_lt_of_le h1 ?_
    rw [Nat.mul_comm (256 ^ l.length) 256, ← Nat.mul_assoc]
    exact Nat.mul_le_mul_right _ (by omega)
/-- May a version be, by its key's and its value's length and its two numbers? -/
def may (k x a b : Nat) : Bool := decide (1 ≤ k) && decide (k ≤ 32) && decide (x ≤ 128) && decide (1 ≤ a) && decide (a ≤ 4000) && decide (b ≤ 4000)
/-- A version's bytes. -/
def enc (k x : List Nat) (a b : Nat) : List Nat := be 8 a ++ be 8 b ++ (be 2 k.length ++ k) ++ (be 2 x.length ++ x)
def kk (l : List Nat) : Nat := l.getD 16 0 * 256 + l.getD 17 0
def xx (l : List Nat) : Nat := l.getD (18 + kk l) 0 * 256 + l.getD (19 + kk l) 0
def aa (l : List Nat) : Nat := vl (l.take 8)
def bb (l : List Nat) : Nat := vl ((l.drop 8).take 8)
def key (l : List Nat) : List Nat := (l.drop 18).take (kk l)
def valu (l : List Nat) : List Nat := l.drop (20 + kk l)
/-- Are bytes some version's? -/
def ok (l : List Nat) : Bool := decide (20 ≤ l.length) && decide (20 + kk l ≤ l.length) && decide (20 + kk l + xx l = l.length) && may (kk l) (xx l) (aa l) (bb l)
theorem key_len {l : List Nat} (h : ok l = true) : (key l).length = kk l := by
  unfold ok at h
  simp only [Bool.and_eq_true, decide_eq_true_eq] at h
  unfold key
  rw [List.length_take, List.length_drop]
  omega
theorem valu_len {l : List Nat} (h : ok l = true) : (valu l).length = xx l := by
  unfold ok at h
  simp only [Bool.and_eq_true, decide_eq_true_eq] at h
  unfold valu
  rw [List.length_drop]
  omega
theorem vl2 (x y : Nat) : vl [x, y] = x * 256 + y := by simp [vl]
theorem be2 (n : Nat) : be 2 n = [n / 256 % 256, n % 256] := rfl
theorem drop_be (s n : Nat) (r : List Nat) : (be s n ++ r).drop s = r := by
  have := List.drop_left (l₁ := be s n) (l₂ := r)
  rwa [be_len] at this
theorem take_be (s n : Nat) (r : List Nat) : (be s n ++ r).take s = be s n := by
  have := List.take_left (l₁ := be s n) (l₂ := r)
  rwa [be_len] at this
theorem enc_len (k x : List Nat) (a b : Nat) : (enc k x a b).length = 20 + k.length + x.length := by
  unfold enc
  simp only [List.length_append, be_len]
  omega
theorem enc_16 (k x : List Nat) (a b : Nat) : (enc k x a b).drop 16 = be 2 k.length ++ k ++ (be 2 x.length ++ x) := by
  unfold enc
  rw [List.append_assoc (be 8 a ++ be 8 b)]
  have : (be 8 a ++ be 8 b).length = 16 := by rw [List.length_append, be_len, be_len]
  rw [← this, List.drop_left]
theorem getD_drop (l : List Nat) (n j : Nat) : l.getD (n + j) 0 = (l.drop n).getD j 0 := by
  rw [List.getD_eq_getElem?_getD, List.getD_eq_getElem?_getD, List.getElem?_drop]
theorem enc_kk (k x : List Nat) (a b : Nat) (hk : k.length < 65536) : kk (enc k x a b) = k.length := by
  unfold kk
  rw [show 16 = 16 + 0 from rfl, show 17 = 16 + 1 from rfl, getD_drop, getD_drop, enc_16, be2]
  simp
  omega
theorem enc_18 (k x : List Nat) (a b : Nat) : (enc k x a b).drop 18 = k ++ (be 2 x.length ++ x) := by
  rw [show 18 = 16 + 2 from rfl, ← List.drop_drop, enc_16, List.append_assoc, drop_be]
theorem enc_18k (k x : List Nat) (a b : Nat) : (enc k x a b).drop (18 + k.length) = be 2 x.length ++ x := by
  rw [← List.drop_drop, enc_18, List.drop_left]
theorem enc_xx (k x : List Nat) (a b : Nat) (hk : k.length < 65536) (hx : x.length < 65536) : xx (enc k x a b) = x.length := by
  unfold xx
  rw [enc_kk k x a b hk, show 18 + k.length = 18 + k.length + 0 from rfl, show 19 + k.length = 18 + k.length + 1 by omega, getD_drop, getD_drop, enc_18k, be2]
  simp
  omega
theorem enc_key (k x : List Nat) (a b : Nat) (hk : k.length < 65536) : key (enc k x a b) = k := by
  unfold key
  rw [enc_kk k x a b hk, enc_18, List.take_left]
theorem enc_valu (k x : List Nat) (a b : Nat) (hk : k.length < 65536) : valu (enc k x a b) = x := by
  unfold valu
  rw [enc_kk k x a b hk, show 20 + k.length = (18 + k.length) + 2 by omega, ← List.drop_drop, enc_18k, drop_be]
theorem enc_aa (k x : List Nat) (a b : Nat) (ha : a < 256 ^ 8) : aa (enc k x a b) = a := by
  unfold aa enc
  rw [List.append_assoc, List.append_assoc, take_be, vl_be, Nat.mod_eq_of_lt ha]
theorem enc_bb (k x : List Nat) (a b : Nat) (hb : b < 256 ^ 8) : bb (enc k x a b) = b := by
  unfold bb enc
  rw [List.append_assoc, List.append_assoc]
  rw [drop_be, take_be, vl_be, Nat.mod_eq_of_lt hb]
theorem enc_ok {k x : List Nat} {a b : Nat} (h : may k.length x.length a b = true) : ok (enc k x a b) = true := by
  have h' := h
  unfold may at h'
  simp only [Bool.and_eq_true, decide_eq_true_eq] at h'
  unfold ok
  have hk : k.length < 65536 := by omega
  have hx : x.length < 65536 := by omega
  rw [enc_kk k x a b hk, enc_xx k x a b hk hx, enc_aa k x a b (by omega), enc_bb k x a b (by omega), enc_len, h]
  simp
  omega
end Go.Hb
