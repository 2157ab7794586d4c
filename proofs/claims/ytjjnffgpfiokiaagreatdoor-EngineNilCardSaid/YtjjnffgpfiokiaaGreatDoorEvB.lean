/- Data of the evaluator: tries, packed rows, abstract values. No program in sight. -/
import GoSem.Core.World
namespace Go.Ev

/-! ### Tries by numbers -/
inductive Tr (α : Type) where
  | leaf
  | node (l : Tr α) (v : Option α) (r : Tr α)

noncomputable def Tr.get {α : Type} : Tr α → Nat → Option α :=
  Tr.rec (motive := fun _ => Nat → Option α) (fun _ => none)
    (fun _ v _ gl gr n => Nat.rec (motive := fun _ => Option α) v
      (fun m _ => Nat.rec (motive := fun _ => Option α) (gl (Nat.div m 2)) (fun _ _ => gr (Nat.div m 2)) (Nat.mod m 2)) n)

noncomputable def Tr.set {α : Type} (x : Option α) : Tr α → Nat → Nat → Tr α :=
  -- fuel first (the number's own bits suffice), for leaves
  Tr.rec (motive := fun _ => Nat → Nat → Tr α)
    (fun f n => Nat.rec (motive := fun _ => Nat → Tr α) (fun _ => .leaf)
      (fun _ ih n => Nat.rec (motive := fun _ => Tr α) (.node .leaf x .leaf)
        (fun m _ => Nat.rec (motive := fun _ => Tr α) (.node (ih (Nat.div m 2)) none .leaf) (fun _ _ => .node .leaf none (ih (Nat.div m 2))) (Nat.mod m 2)) n) f n)
    (fun l v r sl sr f n => Nat.rec (motive := fun _ => Tr α) (.node l x r)
      (fun m _ => Nat.rec (motive := fun _ => Tr α) (.node (sl f (Nat.div m 2)) v r) (fun _ _ => .node l v (sr f (Nat.div m 2))) (Nat.mod m 2)) n)

theorem Tr.get_leaf {α : Type} (n : Nat) : (Tr.leaf : Tr α).get n = none := rfl
theorem Tr.get_zero {α : Type} (l r : Tr α) (v : Option α) : (Tr.node l v r).get 0 = v := rfl
theorem Tr.get_even {α : Type} (l r : Tr α) (v : Option α) (m : Nat) (h : m % 2 = 0) : (Tr.node l v r).get (m + 1) = l.get (m / 2) := by
  show Nat.rec (motive := fun _ => Option α) (l.get (Nat.div m 2)) (fun _ _ => r.get (Nat.div m 2)) (m % 2) = _
  rw [h]; rfl
theorem Tr.get_odd {α : Type} (l r : Tr α) (v : Option α) (m : Nat) (h : m % 2 = 1) : (Tr.node l v r).get (m + 1) = r.get (m / 2) := by
  show Nat.rec (motive := fun _ => Option α) (l.get (Nat.div m 2)) (fun _ _ => r.get (Nat.div m 2)) (m % 2) = _
  rw [h]; rfl
theorem Tr.set_zero {α : Type} (x : Option α) (l r : Tr α) (v : Option α) (f : Nat) : (Tr.node l v r).set x f 0 = .node l x r := rfl
theorem Tr.set_even {α : Type} (x : Option α) (l r : Tr α) (v : Option α) (f m : Nat) (h : m % 2 = 0) : (Tr.node l v r).set x f (m + 1) = .node (l.set x f (m / 2)) v r := by
  show Nat.rec (motive := fun _ => Tr α) (.node (l.set x f (Nat.div m 2)) v r) (fun _ _ => .node l v (r.set x f (Nat.div m 2))) (m % 2) = _
  rw [h]; rfl
theorem Tr.set_odd {α : Type} (x : Option α) (l r : Tr α) (v : Option α) (f m : Nat) (h : m % 2 = 1) : (Tr.node l v r).set x f (m + 1) = .node l v (r.set x f (m / 2)) := by
  show Nat.rec (motive := fun _ => Tr α) (.node (l.set x f (Nat.div m 2)) v r) (fun _ _ => .node l v (r.set x f (Nat.div m 2))) (m % 2) = _
  rw [h]; rfl
theorem Tr.set_leaf_zero {α : Type} (x : Option α) (f : Nat) : (Tr.leaf : Tr α).set x (f + 1) 0 = .node .leaf x .leaf := rfl
theorem Tr.set_leaf_even {α : Type} (x : Option α) (f m : Nat) (h : m % 2 = 0) : (Tr.leaf : Tr α).set x (f + 1) (m + 1) = .node ((Tr.leaf : Tr α).set x f (m / 2)) none .leaf := by
  show Nat.rec (motive := fun _ => Tr α) (.node ((Tr.leaf : Tr α).set x f (Nat.div m 2)) none .leaf) (fun _ _ => .node .leaf none ((Tr.leaf : Tr α).set x f (Nat.div m 2))) (m % 2) = _
  rw [h]; rfl
theorem Tr.set_leaf_odd {α : Type} (x : Option α) (f m : Nat) (h : m % 2 = 1) : (Tr.leaf : Tr α).set x (f + 1) (m + 1) = .node .leaf none ((Tr.leaf : Tr α).set x f (m / 2)) := by
  show Nat.rec (motive := fun _ => Tr α) (.node ((Tr.leaf : Tr α).set x f (Nat.div m 2)) none .leaf) (fun _ _ => .node .leaf none ((Tr.leaf : Tr α).set x f (Nat.div m 2))) (m % 2) = _
  rw [h]; rfl

/-- What a trie reads behind a set: the fuel is more than the place. -/
theorem Tr.get_set_leaf {α : Type} (x : Option α) : ∀ (f n : Nat), n < f → ∀ j, ((Tr.leaf : Tr α).set x f n).get j = if j = n then x else none
  | 0, n, h, _ => absurd h (Nat.not_lt_zero _)
  | f + 1, 0, _, j => by
    rw [Tr.set_leaf_zero]
    cases j with
    | zero => rfl
    | succ j =>
      rcases Nat.mod_two_eq_zero_or_one j with h | h
      · rw [Tr.get_even _ _ _ _ h, if_neg (by omega)]; rfl
      · rw [Tr.get_odd _ _ _ _ h, if_neg (by omega)]; rfl
  | f + 1, m + 1, hf, j => by
    rcases Nat.mod_two_eq_zero_or_one m with hm | hm
    · rw [Tr.set_leaf_even _ _ _ hm]
      cases j with
      | zero => rw [if_neg (by omega)]; rfl
      | succ j =>
        rcases Nat.mod_two_eq_zero_or_one j with h | h
        · rw [Tr.get_even _ _ _ _ h, Tr.get_set_leaf x f (m / 2) (by omega)]
          by_cases e : j / 2 = m / 2
          · rw [if_pos e, if_pos (by omega)]
          · rw [if_neg e, if_neg (by omega)]
        · rw [Tr.get_odd _ _ _ _ h, if_neg (by omega)]; rfl
    · rw [Tr.set_leaf_odd _ _ _ hm]
      cases j with
      | zero => rw [if_neg (by omega)]; rfl
      | succ j =>
        rcases Nat.mod_two_eq_zero_or_one j with h | h
        · rw [Tr.get_even _ _ _ _ h, if_neg (by omega)]; rfl
        · rw [Tr.get_odd _ _ _ _ h, Tr.get_set_leaf x f (m / 2) (by omega)]
          by_cases e : j / 2 = m / 2
          · rw [if_pos e, if_pos (by omega)]
          · rw [if_neg e, if_neg (by omega)]

theorem Tr.get_set_any {α : Type} (x : Option α) : ∀ (t : Tr α) (f n : Nat), n < f → ∀ j, (t.set x f n).get j = if j = n then x else t.get j := by
  intro t
  induction t with
  | leaf => intro f n h j; rw [Tr.get_set_leaf x f n h j]; rfl
  | node l v r hl hr =>
    intro f n hf j
    cases n with
    | zero =>
      rw [Tr.set_zero]
      cases j with
      | zero => rfl
      | succ j =>
        rw [if_neg (by omega)]
        rcases Nat.mod_two_eq_zero_or_one j with h | h
        · rw [Tr.get_even _ _ _ _ h, Tr.get_even _ _ _ _ h]
        · rw [Tr.get_odd _ _ _ _ h, Tr.get_odd _ _ _ _ h]
    | succ m =>
      rcases Nat.mod_two_eq_zero_or_one m with hm | hm
      · rw [Tr.set_even _ _ _ _ _ _ hm]
        cases j with
        | zero => rw [if_neg (by omega)]; rfl
        | succ j =>
          rcases Nat.mod_two_eq_zero_or_one j with h | h
          · rw [Tr.get_even _ _ _ _ h, Tr.get_even _ _ _ _ h, hl f (m / 2) (by omega)]
            by_cases e : j / 2 = m / 2
            · rw [if_pos e, if_pos (by omega)]
            · rw [if_neg e, if_neg (by omega)]
          · rw [Tr.get_odd _ _ _ _ h, Tr.get_odd _ _ _ _ h, if_neg (by omega)]
      · rw [Tr.set_odd _ _ _ _ _ _ hm]
        cases j with
        | zero => rw [if_neg (by omega)]; rfl
        | succ j =>
          rcases Nat.mod_two_eq_zero_or_one j with h | h
          · rw [Tr.get_even _ _ _ _ h, Tr.get_even _ _ _ _ h, if_neg (by omega)]
          · rw [Tr.get_odd _ _ _ _ h, Tr.get_odd _ _ _ _ h, hr f (m / 2) (by omega)]
            by_cases e : j / 2 = m / 2
            · rw [if_pos e, if_pos (by omega)]
            · rw [if_neg e, if_neg (by omega)]

/-- Set, with fuel enough. -/
noncomputable def Tr.put {α : Type} (t : Tr α) (n : Nat) (x : Option α) : Tr α := t.set x (Nat.succ n) n
theorem Tr.get_put {α : Type} (t : Tr α) (n : Nat) (x : Option α) (j : Nat) : (t.put n x).get j = if j = n then x else t.get j :=
  Tr.get_set_any x t (n + 1) n (Nat.lt_succ_self n) j

end Go.Ev

/- Lists of digits in one number. No program in sight. -/
namespace Go.Ev

/-- The n lowest digits of w bits. -/
def toL (w : Nat) : Nat → Nat → List Nat
  | 0, _ => []
  | n + 1, d => d % 2 ^ w :: toL w n (d / 2 ^ w)

theorem toL_length (w : Nat) : ∀ n d, (toL w n d).length = n
  | 0, _ => rfl
  | n + 1, d => by simp [toL, toL_length w n]

theorem toL_zero (w : Nat) : ∀ n, toL w n 0 = List.replicate n 0
  | 0 => rfl
  | n + 1 => by simp [toL, toL_zero w n, List.replicate_succ]

theorem pow_split (w n : Nat) : 2 ^ (w * (n + 1)) = 2 ^ w * 2 ^ (w * n) := by
  rw [Nat.mul_add, Nat.mul_one, Nat.pow_add, Nat.mul_comm]

theorem toL_append (w : Nat) : ∀ n m d e, d < 2 ^ (w * n) → toL w (n + m) (d + e * 2 ^ (w * n)) = toL w n d ++ toL w m e
  | 0, m, d, e, h => by
    have hd : d = 0 := by simpa using h
    subst hd
    simp [toL]
  | n + 1, m, d, e, h => by
    have hp : 0 < 2 ^ w := Nat.two_pow_pos w
    have e1 : e * 2 ^ (w * (n + 1)) = 2 ^ w * (e * 2 ^ (w * n)) := by
      rw [pow_split, Nat.mul_left_comm]
    have hs : n + 1 + m = (n + m) + 1 := by omega
    rw [hs]
    simp only [toL, List.cons_append]
    rw [e1, Nat.add_mul_mod_self_left, Nat.add_mul_div_left _ _ hp]
    rw [toL_append w n m (d / 2 ^ w) e]
    rw [pow_split] at h
    exact Nat.div_lt_of_lt_mul h

theorem toL_drop (w : Nat) : ∀ l n d, (toL w n d).drop l = toL w (n - l) (d / 2 ^ (w * l))
  | 0, n, d => by simp
  | l + 1, 0, d => by simp [toL]
  | l + 1, n + 1, d => by
    simp only [toL, List.drop_succ_cons]
    rw [toL_drop w l n, Nat.div_div_eq_div_mul, ← pow_split]
    congr 1
    omega

theorem toL_mod (w : Nat) : ∀ n m d, n ≤ m → toL w n (d % 2 ^ (w * m)) = toL w n d
  | 0, _, _, _ => rfl
  | n + 1, 0, _, h => absurd h (by omega)
  | n + 1, m + 1, d, h => by
    simp only [toL]
    have h1 : d % 2 ^ (w * (m + 1)) % 2 ^ w = d % 2 ^ w := by
      rw [pow_split]; exact Nat.mod_mul_right_mod _ _ _
    have h2 : d % 2 ^ (w * (m + 1)) / 2 ^ w = d / 2 ^ w % 2 ^ (w * m) := by
      rw [pow_split]; exact Nat.mod_mul_right_div_self _ _ _
    rw [h1, h2, toL_mod w n m _ (by omega)]

theorem toL_take (w : Nat) : ∀ l n d, l ≤ n → (toL w n d).take l = toL w l d
  | 0, _, _, _ => by simp [toL]
  | l + 1, 0, _, h => absurd h (by omega)
  | l + 1, n + 1, d, h => by
    simp only [toL, List.take_succ_cons]
    rw [toL_take w l n _ (by omega)]

/-- Digit number j. -/
def digit (w d j : Nat) : Nat := Nat.mod (Nat.shiftRight d (Nat.mul w j)) (Nat.pow 2 w)
theorem digit_eq (w d j : Nat) : digit w d j = d / 2 ^ (w * j) % 2 ^ w := by
  show (d >>> (w * j)) % 2 ^ w = _
  rw [Nat.shiftRight_eq_div_pow]

theorem toL_get (w : Nat) (n d j : Nat) (h : j < n) : (toL w n d)[j]? = some (digit w d j) := by
  have h1 : (toL w n d)[j]? = ((toL w n d).drop j)[0]? := by simp
  rw [h1, toL_drop, digit_eq]
  obtain ⟨k, hk⟩ : ∃ k, n - j = k + 1 := ⟨n - j - 1, by omega⟩
  rw [hk]; rfl

theorem digit_lt (w d j : Nat) : digit w d j < 2 ^ w := by rw [digit_eq]; exact Nat.mod_lt _ (Nat.two_pow_pos w)

/-- With digit j set to v. -/
def setDigit (w d j v : Nat) : Nat :=
  Nat.add (Nat.mod d (Nat.pow 2 (Nat.mul w j))) (Nat.shiftLeft (Nat.add v (Nat.shiftLeft (Nat.shiftRight d (Nat.mul w (Nat.succ j))) w)) (Nat.mul w j))
theorem setDigit_eq (w d j v : Nat) : setDigit w d j v = d % 2 ^ (w * j) + (v + d / 2 ^ (w * (j + 1)) * 2 ^ w) * 2 ^ (w * j) := by
  show d % 2 ^ (w * j) + ((v + (d >>> (w * (j + 1))) <<< w) <<< (w * j)) = _
  rw [Nat.shiftLeft_eq, Nat.shiftLeft_eq, Nat.shiftRight_eq_div_pow]

theorem toL_set (w n d j v : Nat) (h : j < n) (hv : v < 2 ^ w) : toL w n (setDigit w d j v) = (toL w n d).set j v := by
  have hp : 0 < 2 ^ w := Nat.two_pow_pos w
  rw [setDigit_eq]
  have hn : n = j + (n - j) := by omega
  rw [hn, toL_append w j (n - j) _ _ (Nat.mod_lt _ (Nat.two_pow_pos _))]
  obtain ⟨k, hk⟩ : ∃ k, n - j = k + 1 := ⟨n - j - 1, by omega⟩
  have e2 : toL w (n - j) (v + d / 2 ^ (w * (j + 1)) * 2 ^ w) = v :: toL w k (d / 2 ^ (w * (j + 1))) := by
    rw [hk]
    simp only [toL]
    rw [Nat.add_mul_mod_self_right, Nat.mod_eq_of_lt hv, Nat.add_mul_div_right _ _ hp, Nat.div_eq_of_lt hv, Nat.zero_add]
  rw [e2, ← hn, List.set_eq_take_append_cons_drop, if_pos (by rw [toL_length]; exact h)]
  rw [toL_mod w j j d (Nat.le_refl _), toL_take w j n d (by omega), toL_drop w (j + 1) n d]
  congr 3
  omega

theorem setDigit_lt (w n d j v : Nat) (hj : j < n) (hd : d < 2 ^ (w * n)) (hv : v < 2 ^ w) : setDigit w d j v < 2 ^ (w * n) := by
  rw [setDigit_eq]
  obtain ⟨k, hk⟩ : ∃ k, n = j + 1 + k := ⟨n - j - 1, by omega⟩
  have hlo : d % 2 ^ (w * j) < 2 ^ (w * j) := Nat.mod_lt _ (Nat.two_pow_pos _)
  have hhi : d / 2 ^ (w * (j + 1)) < 2 ^ (w * k) := by
    apply Nat.div_lt_of_lt_mul
    rw [← Nat.pow_add, ← Nat.mul_add, ← hk]; exact hd
  have h1 : v + d / 2 ^ (w * (j + 1)) * 2 ^ w < 2 ^ (w * (k + 1)) := by
    have hpk : 2 ^ (w * (k + 1)) = 2 ^ (w * k) * 2 ^ w := by rw [pow_split, Nat.mul_comm]
    rw [hpk]
    calc v + d / 2 ^ (w * (j + 1)) * 2 ^ w < 2 ^ w + d / 2 ^ (w * (j + 1)) * 2 ^ w := by omega
      _ = (d / 2 ^ (w * (j + 1)) + 1) * 2 ^ w := by rw [Nat.add_mul, Nat.one_mul, Nat.add_comm]
      _ ≤ 2 ^ (w * k) * 2 ^ w := Nat.mul_le_mul_right _ hhi
  have e3 : 2 ^ (w * n) = 2 ^ (w * (k + 1)) * 2 ^ (w * j) := by
    rw [← Nat.pow_add, ← Nat.mul_add]; congr 2; omega
  rw [e3]
  calc d % 2 ^ (w * j) + (v + d / 2 ^ (w * (j + 1)) * 2 ^ w) * 2 ^ (w * j) < 2 ^ (w * j) + (v + d / 2 ^ (w * (j + 1)) * 2 ^ w) * 2 ^ (w * j) := by omega
    _ = (v + d / 2 ^ (w * (j + 1)) * 2 ^ w + 1) * 2 ^ (w * j) := by rw [Nat.add_mul _ 1, Nat.one_mul, Nat.add_comm]
    _ ≤ 2 ^ (w * (k + 1)) * 2 ^ (w * j) := Nat.mul_le_mul_right _ h1

/-- Two, one behind the other. -/
def catD (w n d e : Nat) : Nat := Nat.add d (Nat.shiftLeft e (Nat.mul w n))
theorem catD_eq (w n d e : Nat) : catD w n d e = d + e * 2 ^ (w * n) := by
  show d + e <<< (w * n) = _
  rw [Nat.shiftLeft_eq]
theorem toL_cat (w n m d e : Nat) (h : d < 2 ^ (w * n)) : toL w (n + m) (catD w n d e) = toL w n d ++ toL w m e := by
  rw [catD_eq, toL_append _ _ _ _ _ h]
theorem catD_lt (w n m d e : Nat) (h : d < 2 ^ (w * n)) (he : e < 2 ^ (w * m)) : catD w n d e < 2 ^ (w * (n + m)) := by
  rw [catD_eq, Nat.mul_add, Nat.pow_add]
  calc d + e * 2 ^ (w * n) < 2 ^ (w * n) + e * 2 ^ (w * n) := by omega
    _ = (e + 1) * 2 ^ (w * n) := by rw [Nat.add_mul, Nat.one_mul, Nat.add_comm]
    _ ≤ 2 ^ (w * m) * 2 ^ (w * n) := Nat.mul_le_mul_right _ he
    _ = 2 ^ (w * n) * 2 ^ (w * m) := Nat.mul_comm _ _

/-- The first l digits; what stands behind them. -/
def loD (w d l : Nat) : Nat := Nat.mod d (Nat.pow 2 (Nat.mul w l))
def hiD (w d l : Nat) : Nat := Nat.shiftRight d (Nat.mul w l)
theorem hiD_eq (w d l : Nat) : hiD w d l = d / 2 ^ (w * l) := by
  show d >>> (w * l) = _
  rw [Nat.shiftRight_eq_div_pow]
theorem toL_lo (w n d l : Nat) (h : l ≤ n) : toL w l (loD w d l) = (toL w n d).take l := by
  show toL w l (d % 2 ^ (w * l)) = _
  rw [toL_mod w l l d (Nat.le_refl _), toL_take w l n d h]
theorem toL_hi (w n d l : Nat) : toL w (n - l) (hiD w d l) = (toL w n d).drop l := by
  rw [hiD_eq, toL_drop]
theorem loD_lt (w d l : Nat) : loD w d l < 2 ^ (w * l) := Nat.mod_lt _ (Nat.two_pow_pos _)
theorem hiD_lt (w n d l : Nat) (hl : l ≤ n) (hd : d < 2 ^ (w * n)) : hiD w d l < 2 ^ (w * (n - l)) := by
  rw [hiD_eq]
  apply Nat.div_lt_of_lt_mul
  rw [← Nat.pow_add, ← Nat.mul_add]
  rwa [show l + (n - l) = n by omega]

theorem toL_inj (w : Nat) : ∀ n d e, d < 2 ^ (w * n) → e < 2 ^ (w * n) → toL w n d = toL w n e → d = e
  | 0, d, e, hd, he, _ => by simp at hd he; omega
  | n + 1, d, e, hd, he, h => by
    simp only [toL, List.cons.injEq] at h
    rw [pow_split] at hd he
    have h2 := toL_inj w n _ _ (Nat.div_lt_of_lt_mul hd) (Nat.div_lt_of_lt_mul he) h.2
    have h3 := Nat.div_add_mod d (2 ^ w)
    have h4 := Nat.div_add_mod e (2 ^ w)
    rw [h2, h.1] at h3
    omega

theorem toL_lt (w : Nat) : ∀ n d x, x ∈ toL w n d → x < 2 ^ w
  | 0, _, _, h => by simp [toL] at h
  | n + 1, d, x, h => by
    simp only [toL, List.mem_cons] at h
    rcases h with rfl | h
    · exact Nat.mod_lt _ (Nat.two_pow_pos w)
    · exact toL_lt w n _ x h

end Go.Ev
