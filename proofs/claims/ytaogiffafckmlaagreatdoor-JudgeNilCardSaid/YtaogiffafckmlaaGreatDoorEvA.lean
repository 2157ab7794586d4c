/- Data of the evaluator: tries, packed rows, abstract values. No program in sight. -/
import GoSem.Core.World
namespace Go.Ev

/-! ### Tries by numbers -/
inductive Tr (α : Type) where
  | leaf
  | node (l : Tr α) (v : Option α) (r : Tr α)

noncomputable def Tr.get {α : Type} : Tr α → Nat → Option α :=
  Tr.rec (motive := fun _ => Nat → Option α) (fun _ => none)
    (fun _ v _ gl gr n => Nat.rec (motive := fun _ => Option α) v
      (fun m _ => Nat.rec (motive := fun _ => Option α) (gl (Nat.div m 2)) (fun _ _ => gr (Nat.div m 2)) (Nat.mod m 2)) n)

noncomputable def Tr.set {α : Type} (x : Option α) : Tr α → Nat → Nat → Tr α :=
  -- fuel first (the number's own bits suffice), for leaves
  Tr.rec (motive := fun _ => Nat → Nat → Tr α)
    (fun f n => Nat.rec (motive := fun _ => Nat → Tr α) (fun _ => .leaf)
      (fun _ ih n => Nat.rec (motive := fun _ => Tr α) (.node .leaf x .leaf)
        (fun m _ => Nat.rec (motive := fun _ => Tr α) (.node (ih (Nat.div m 2)) none .leaf) (fun _ _ => .node .leaf none (ih (Nat.div m 2))) (Nat.mod m 2)) n) f n)
    (fun l v r sl sr f n => Nat.rec (motive := fun _ => Tr α) (.node l x r)
      (fun m _ => Nat.rec (motive := fun _ => Tr α) (.node (sl f (Nat.div m 2)) v r) (fun _ _ => .node l v (sr f (Nat.div m 2))) (Nat.mod m 2)) n)

theorem Tr.get_leaf {α : Type} (n : Nat) : (Tr.leaf : Tr α).get n = none := rfl
theorem Tr.get_zero {α : Type} (l r : Tr α) (v : Option α) : (Tr.node l v r).get 0 = v := rfl
theorem Tr.get_even {α : Type} (l r : Tr α) (v : Option α) (m : Nat) (h : m % 2 = 0) : (Tr.node l v r).get (m + 1) = l.get (m / 2) := by
  show Nat.rec (motive := fun _ => Option α) (l.get (Nat.div m 2)) (fun _ _ => r.get (Nat.div m 2)) (m % 2) = _
  rw [h]; rfl
theorem Tr.get_odd {α : Type} (l r : Tr α) (v : Option α) (m : Nat) (h : m % 2 = 1) : (Tr.node l v r).get (m + 1) = r.get (m / 2) := by
  show Nat.rec (motive := fun _ => Option α) (l.get (Nat.div m 2)) (fun _ _ => r.get (Nat.div m 2)) (m % 2) = _
  rw [h]; rfl
theorem Tr.set_zero {α : Type} (x : Option α) (l r : Tr α) (v : Option α) (f : Nat) : (Tr.node l v r).set x f 0 = .node l x r := rfl
theorem Tr.set_even {α : Type} (x : Option α) (l r : Tr α) (v : Option α) (f m : Nat) (h : m % 2 = 0) : (Tr.node l v r).set x f (m + 1) = .node (l.set x f (m / 2)) v r := by
  show Nat.rec (motive := fun _ => Tr α) (.node (l.set x f (Nat.div m 2)) v r) (fun _ _ => .node l v (r.set x f (Nat.div m 2))) (m % 2) = _
  rw [h]; rfl
theorem Tr.set_odd {α : Type} (x : Option α) (l r : Tr α) (v : Option α) (f m : Nat) (h : m % 2 = 1) : (Tr.node l v r).set x f (m + 1) = .node l v (r.set x f (m / 2)) := by
  show Nat.rec (motive := fun _ => Tr α) (.node (l.set x f (Nat.div m 2)) v r) (fun _ _ => .node l v (r.set x f (Nat.div m 2))) (m % 2) = _
  rw [h]; rfl
theorem Tr.set_leaf_zero {α : Type} (x : Option α) (f : Nat) : (Tr.leaf : Tr α).set x (f + 1) 0 = .node .leaf x .leaf := rfl
theorem Tr.set_leaf_even {α : Type} (x : Option α) (f m : Nat) (h : m % 2 = 0) : (Tr.leaf : Tr α).set x (f + 1) (m + 1) = .node ((Tr.leaf : Tr α).set x f (m / 2)) none .leaf := by
  show Nat.rec (motive := fun _ => Tr α) (.node ((Tr.leaf : Tr α).set x f (Nat.div m 2)) none .leaf) (fun _ _ => .node .leaf none ((Tr.leaf : Tr α).set x f (Nat.div m 2))) (m % 2) = _
  rw [h]; rfl
theorem Tr.set_leaf_odd {α : Type} (x : Option α) (f m : Nat) (h : m % 2 = 1) : (Tr.leaf : Tr α).set x (f + 1) (m + 1) = .node .leaf none ((Tr.leaf : Tr α).set x f (m / 2)) := by
  show Nat.rec (motive := fun _ => Tr α) (.node ((Tr.leaf : Tr α).set x f (Nat.div m 2)) none .leaf) (fun _ _ => .node .leaf none ((Tr.leaf : Tr α).set x f (Nat.div m 2))) (m % 2) = _
  rw [h]; rfl

/-- What a trie reads behind a set: the fuel is more than the place. -/
theorem Tr.get_set_leaf {α : Type} (x : Option α) : ∀ (f n : Nat), n < f → ∀ j, ((Tr.leaf : Tr α).set x f n).get j = if j = n then x else none
  | 0, n, h, _ => absurd h (Nat.not_lt_zero _)
  | f + 1, 0, _, j => by
    rw [Tr.set_leaf_zero]
    cases j with
    | zero => rfl
    | succ j =>
      rcases Nat.mod_two_eq_zero_or_one j with h | h
      · rw [Tr.get_even _ _ _ _ h, if_neg (by omega)]; rfl
      · rw [Tr.get_odd _ _ _ _ h, if_neg (by omega)]; rfl
  | f + 1, m + 1, hf, j => by
    rcases Nat.mod_two_eq_zero_or_one m with hm | hm
    · rw [Tr.set_leaf_even _ _ _ hm]
      cases j with
      | zero => rw [if_neg (by omega)]; rfl
      | succ j =>
        rcases Nat.mod_two_eq_zero_or_one j with h | h
        · rw [Tr.get_even _ _ _ _ h, Tr.get_set_leaf x f (m / 2) (by omega)]
          by_cases e : j / 2 = m / 2
          · rw [if_pos e, if_pos (by omega)]
          · rw [if_neg e, if_neg (by omega)]
        · rw [Tr.get_odd _ _ _ _ h, if_neg (by omega)]; rfl
    · rw [Tr.set_leaf_odd _ _ _ hm]
      cases j with
      | zero => rw [if_neg (by omega)]; rfl
      | succ j =>
        rcases Nat.mod_two_eq_zero_or_one j with h | h
        · rw [Tr.get_even _ _ _ _ h, if_neg (by omega)]; rfl
        · rw [Tr.get_odd _ _ _ _ h, Tr.get_set_leaf x f (m / 2) (by omega)]
          by_cases e : j / 2 = m / 2
          · rw [if_pos e, if_pos (by omega)]
          · rw [if_neg e, if_neg (by omega)]

theorem Tr.get_set_any {α : Type} (x : Option α) : ∀ (t : Tr α) (f n : Nat), n < f → ∀ j, (t.set x f n).get j = if j = n then x else t.get j := by
  intro t
  induction t with
  | leaf => intro f n h j; rw [Tr.get_set_leaf x f n h j]; rfl
  | node l v r hl hr =>
    intro f n hf j
    cases n with
    | zero =>
      rw [Tr.set_zero]
      cases j with
      | zero => rfl
      | succ j =>
        rw [if_neg (by omega)]
        rcases Nat.mod_two_eq_zero_or_one j with h | h
        · rw [Tr.get_even _ _ _ _ h, Tr.get_even _ _ _ _ h]
        · rw [Tr.get_odd _ _ _ _ h, Tr.get_odd _ _ _ _ h]
    | succ m =>
      rcases Nat.mod_two_eq_zero_or_one m with hm | hm
      · rw [Tr.set_even _ _ _ _ _ _ hm]
        cases j with
        | zero => rw [if_neg (by omega)]; rfl
        | succ j =>
          rcases Nat.mod_two_eq_zero_or_one j with h | h
          · rw [Tr.get_even _ _ _ _ h, Tr.get_even _ _ _ _ h, hl f (m / 2) (by omega)]
            by_cases e : j / 2 = m / 2
            · rw [if_pos e, if_pos (by omega)]
            · rw [if_neg e, if_neg (by omega)]
          · rw [Tr.get_odd _ _ _ _ h, Tr.get_odd _ _ _ _ h, if_neg (by omega)]
      · rw [Tr.set_odd _ _ _ _ _ _ hm]
        cases j with
        | zero => rw [if_neg (by omega)]; rfl
        | succ j =>
          rcases Nat.mod_two_eq_zero_or_one j with h | h
          · rw [Tr.get_even _ _ _ _ h, Tr.get_even _ _ _ _ h, if_neg (by omega)]
          · rw [Tr.get_odd _ _ _ _ h, Tr.get_odd _ _ _ _ h, hr f (m / 2) (by omega)]
            by_cases e : j / 2 = m / 2
            · rw [if_pos e, if_pos (by omega)]
            · rw [if_neg e, if_neg (by omega)]

/-- Set, with fuel enough. -/
noncomputable def Tr.put {α : Type} (t : Tr α) (n : Nat) (x : Option α) : Tr α := t.set x (Nat.succ n) n
theorem Tr.get_put {α : Type} (t : Tr α) (n : Nat) (x : Option α) (j : Nat) : (t.put n x).get j = if j = n then x else t.get j :=
  Tr.get_set_any x t (n + 1) n (Nat.lt_succ_self n) j

end Go.Ev
