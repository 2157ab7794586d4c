/- Abstract values, how they read as the model's values, and rows of cells. -/
import Derived.Test.YtjjnffgpfiokiaaGreatDoorEvB
import GoSem.Dispatch
namespace Go.Ev

inductive AV where
  | bool (b : Bool) | int (k : IntKind) (n : Int) | str (n d : Nat)
  | nilp | ptr (id off : Nat) | gptr (g off : Nat)
  | nils | slice (id off len cap : Nat) | slx (id off len size : Nat)
  | nilm | map (id : Nat)
  | nilf | func (fn : Fn) (first captured : AV) | yld (id : Nat)
  | nili | iface (t : Nat) (v : AV)
  | agg (r : AV) | tup (r : AV)
  | rnil | rone (v r : AV) | rpk (k : Bool) (n d : Nat) (r : AV)

/-- Where abstract blocks lie: the block, and how many cells it has. -/
abbrev Env := Nat → Option (Nat × Nat)
def Env.le (E E' : Env) : Prop := ∀ id x, E id = some x → E' id = some x
theorem Env.le_refl (E : Env) : E.le E := fun _ _ h => h
theorem Env.le_trans {A B C : Env} (h : A.le B) (k : B.le C) : A.le C := fun i x e => k i x (h i x e)

/-- A packed cell's width, and its value: bytes (true), bools (false). -/
noncomputable def wd (k : Bool) : Nat := Bool.rec 1 8 k
def pv : Bool → Nat → Value
  | true, x => .int .u8 x
  | false, x => .bool (Nat.beq x 1)
/-- A string's bytes. -/
def bytesOf (n d : Nat) : List UInt8 := (toL 8 n d).map UInt8.ofNat

def Rel (E : Env) : AV → Sum Value (List Value) → Prop
  | .bool b, x => x = .inl (.bool b)
  | .int k n, x => x = .inl (.int k n)
  | .str n d, x => d < 2 ^ (8 * n) ∧ ∃ s : ByteArray, x = .inl (.string s) ∧ s.data.toList = bytesOf n d
  | .nilp, x => x = .inl (.pointer none)
  | .ptr id off, x => ∃ b z, E id = some (b, z) ∧ x = .inl (.pointer (some ⟨b, off, none⟩))
  | .gptr g off, x => x = .inl (.pointer (some ⟨g, off, none⟩))
  | .nils, x => x = .inl (.slice none 0 0)
  | .slice id off len cap, x => len ≤ cap ∧ ∃ b z, E id = some (b, z) ∧ x = .inl (.slice (some ⟨b, off, none⟩) len cap)
  | .slx id off len size, x => ∃ b z off' c, E id = some (b, z) ∧ x = .inl (.slice (some ⟨b, off', none⟩) len c) ∧ len ≤ c ∧
      ((off' = off ∧ off + c * size ≤ z) ∨ (len = 0 ∧ c = 0))
  | .nilm, x => x = .inl (.map none)
  | .map id, x => ∃ b z, E id = some (b, z) ∧ x = .inl (.map (some b))
  | .nilf, x => x = .inl .nilFunc
  | .func fn p q, x => (∀ l, fn ≠ .yield l) ∧ ∃ ps qs, x = .inl (.func fn ps qs) ∧ Rel E p (.inr ps.toList) ∧ Rel E q (.inr qs.toList)
  | .yld id, x => ∃ b z, E id = some (b, z) ∧ x = .inl (.func (.yield b) #[] #[])
  | .nili, x => x = .inl .nilIface
  | .iface t v, x => ∃ c, x = .inl (.iface t c) ∧ Rel E v (.inl c)
  | .agg r, x => ∃ cs, x = .inl (.agg cs) ∧ Rel E r (.inr cs.toList)
  | .tup r, x => ∃ cs, x = .inl (.tuple cs) ∧ Rel E r (.inr cs.toList)
  | .rnil, x => x = .inr []
  | .rone v r, x => ∃ c l, x = .inr (c :: l) ∧ Rel E v (.inl c) ∧ Rel E r (.inr l)
  | .rpk k n d r, x => d < 2 ^ (wd k * n) ∧ ∃ l, x = .inr ((toL (wd k) n d).map (pv k) ++ l) ∧ Rel E r (.inr l)

/-- An abstract value reads as a value; a row as a list of cells. -/
abbrev V (E : Env) (v : AV) (c : Value) : Prop := Rel E v (.inl c)
abbrev R (E : Env) (r : AV) (l : List Value) : Prop := Rel E r (.inr l)

theorem Rel.mono {E E' : Env} (h : E.le E') : ∀ {v : AV} {x : Sum Value (List Value)}, Rel E v x → Rel E' v x := by
  intro v
  induction v with
  | bool b => exact fun h => h
  | int k n => exact fun h => h
  | str n d => exact fun h => h
  | nilp => exact fun h => h
  | ptr id off => rintro x ⟨b, z, he, rfl⟩; exact ⟨b, z, h _ _ he, rfl⟩
  | gptr g off => exact fun h => h
  | nils => exact fun h => h
  | slice id off len cap => rintro x ⟨hl, b, z, he, rfl⟩; exact ⟨hl, b, z, h _ _ he, rfl⟩
  | slx id off len size => rintro x ⟨b, z, o, c, he, rfl, hr⟩; exact ⟨b, z, o, c, h _ _ he, rfl, hr⟩
  | nilm => exact fun h => h
  | map id => rintro x ⟨b, z, he, rfl⟩; exact ⟨b, z, h _ _ he, rfl⟩
  | nilf => exact fun h => h
  | func fn p q hp hq => rintro x ⟨hf, ps, qs, rfl, h1, h2⟩; exact ⟨hf, ps, qs, rfl, hp h1, hq h2⟩
  | yld id => rintro x ⟨b, z, he, rfl⟩; exact ⟨b, z, h _ _ he, rfl⟩
  | nili => exact fun h => h
  | iface t v hv => rintro x ⟨c, rfl, h1⟩; exact ⟨c, rfl, hv h1⟩
  | agg r hr => rintro x ⟨c, rfl, h1⟩; exact ⟨c, rfl, hr h1⟩
  | tup r hr => rintro x ⟨c, rfl, h1⟩; exact ⟨c, rfl, hr h1⟩
  | rnil => exact fun h => h
  | rone v r hv hr => rintro x ⟨c, l, rfl, h1, h2⟩; exact ⟨c, l, rfl, hv h1, hr h2⟩
  | rpk k n d r hr => rintro x ⟨hd, l, rfl, h1⟩; exact ⟨hd, l, rfl, hr h1⟩

/-! ### Forcing a number -/
noncomputable def forceN {α : Type} (n : Nat) (k : Nat → α) : α := Nat.rec (motive := fun _ => α) (k 0) (fun m _ => k (Nat.succ m)) n
theorem forceN_eq {α : Type} (n : Nat) (k : Nat → α) : forceN n k = k n := by cases n <;> rfl
noncomputable def omap {α β : Type} (f : α → β) (x : Option α) : Option β := Option.rec (motive := fun _ => Option β) none (fun a => some (f a)) x
theorem omap_eq {α β : Type} (f : α → β) (x : Option α) : omap f x = x.map f := by cases x <;> rfl
noncomputable def obind {α β : Type} (x : Option α) (f : α → Option β) : Option β := Option.rec (motive := fun _ => Option β) none f x
theorem obind_some {α β : Type} {x : Option α} {f : α → Option β} {b : β} (h : obind x f = some b) : ∃ a, x = some a ∧ f a = some b := by
  cases x with
  | none => cases h
  | some a => exact ⟨a, rfl, h⟩
noncomputable def cnd {α : Type} (b : Bool) (x y : α) : α := Bool.rec (motive := fun _ => α) y x b
theorem cnd_eq {α : Type} (b : Bool) (x y : α) : cnd b x y = if b then x else y := by cases b <;> rfl

/-! ### Rows -/
noncomputable def rowRec {β : Type} (bad : β) (nil : β) (one : AV → AV → β → β) (pk : Bool → Nat → Nat → AV → β → β) : AV → β :=
  AV.rec (motive := fun _ => β) (fun _ => bad) (fun _ _ => bad) (fun _ _ => bad) bad (fun _ _ => bad) (fun _ _ => bad) bad (fun _ _ _ _ => bad) (fun _ _ _ _ => bad)
    bad (fun _ => bad) bad (fun _ _ _ _ _ => bad) (fun _ => bad) bad (fun _ _ _ => bad) (fun _ _ => bad) (fun _ _ => bad) nil (fun v r _ ih => one v r ih) (fun k n d r ih => pk k n d r ih)

noncomputable def rowSize : AV → Nat := rowRec 0 0 (fun _ _ ih => Nat.succ ih) (fun _ n _ _ ih => Nat.add n ih)
noncomputable def pav (k : Bool) (x : Nat) : AV := Bool.rec (motive := fun _ => AV) (.bool (Nat.beq x 1)) (.int .u8 (Int.ofNat x)) k
theorem pav_rel (E : Env) (k : Bool) (x : Nat) : V E (pav k x) (pv k x) := by
  cases k
  · rfl
  · rfl

noncomputable def rowGet : AV → Nat → Option AV :=
  rowRec (fun _ => none) (fun _ => none) (fun v _ ih i => Nat.rec (motive := fun _ => Option AV) (some v) (fun m _ => ih m) i)
    (fun k n d _ ih i => cnd (Nat.blt i n) (some (forceN (digit (wd k) d i) (pav k))) (ih (Nat.sub i n)))

theorem R_nil {E : Env} {l : List Value} (h : R E .rnil l) : l = [] := by
  have : (Sum.inr l : Sum Value (List Value)) = .inr [] := h
  injection this

theorem rowSize_rel {E : Env} : ∀ {r : AV} {l : List Value}, R E r l → l.length = rowSize r := by
  intro r
  induction r with
  | rnil => intro l h; rw [R_nil h]; rfl
  | rone v r _ hr => rintro l ⟨c, l', h, _, h2⟩; injection h with h; subst h; rw [List.length_cons, hr h2]; rfl
  | rpk k n d r hr =>
    rintro l ⟨hd, l', h, h2⟩; injection h with h; subst h
    rw [List.length_append, List.length_map, toL_length, hr h2]; rfl
  | func fn p q _ _ => rintro l ⟨_, _, _, h, _⟩; cases h
  | _ => intro l h; simp [R, Rel] at h

theorem rowGet_rel {E : Env} : ∀ {r : AV} {l : List Value} {i : Nat} {v : AV}, R E r l → rowGet r i = some v → ∃ c, l[i]? = some c ∧ V E v c := by
  intro r
  induction r with
  | rnil => intro l i v h hg; cases hg
  | rone v r _ hr =>
    rintro l i u ⟨c, l', h, h1, h2⟩ hg; injection h with h; subst h
    cases i with
    | zero => cases hg; exact ⟨c, rfl, h1⟩
    | succ i => exact hr (i := i) h2 hg
  | rpk k n d r hr =>
    rintro l i u ⟨hd, l', h, h2⟩ hg; injection h with h; subst h
    have hg' : cnd (Nat.blt i n) (some (forceN (digit (wd k) d i) (pav k))) (rowGet r (i - n)) = some u := hg
    rw [cnd_eq, forceN_eq] at hg'
    by_cases hin : i < n
    · rw [if_pos (by simpa [Nat.blt_eq] using hin)] at hg'
      cases hg'
      refine ⟨pv k (digit (wd k) d i), ?_, pav_rel E k _⟩
      rw [List.getElem?_append_left (by rw [List.length_map, toL_length]; exact hin), List.getElem?_map, toL_get _ _ _ _ hin]; rfl
    · rw [if_neg (by simpa [Nat.blt_eq] using hin)] at hg'
      obtain ⟨c, h3, h4⟩ := hr h2 hg'
      refine ⟨c, ?_, h4⟩
      rw [List.getElem?_append_right (by rw [List.length_map, toL_length]; omega), List.length_map, toL_length]; exact h3
  | _ => intro l i v _ hg; cases hg

/-- A value as a packed cell's digit. -/
noncomputable def punpB : AV → Option Nat :=
  AV.rec (motive := fun _ => Option Nat) (fun _ => none) (fun k n => IntKind.rec (motive := fun _ => Option Nat) none none none none (Int.rec (motive := fun _ => Option Nat) (fun x => cnd (Nat.blt x 256) (some x) none) (fun _ => none) n) none none none k)
    (fun _ _ => none) none (fun _ _ => none) (fun _ _ => none) none (fun _ _ _ _ => none) (fun _ _ _ _ => none)
    none (fun _ => none) none (fun _ _ _ _ _ => none) (fun _ => none) none (fun _ _ _ => none) (fun _ _ => none) (fun _ _ => none) none (fun _ _ _ _ => none) (fun _ _ _ _ _ => none)
noncomputable def punpA : AV → Option Nat :=
  AV.rec (motive := fun _ => Option Nat) (fun b => some (Bool.rec 0 1 b)) (fun _ _ => none)
    (fun _ _ => none) none (fun _ _ => none) (fun _ _ => none) none (fun _ _ _ _ => none) (fun _ _ _ _ => none)
    none (fun _ => none) none (fun _ _ _ _ _ => none) (fun _ => none) none (fun _ _ _ => none) (fun _ _ => none) (fun _ _ => none) none (fun _ _ _ _ => none) (fun _ _ _ _ _ => none)
noncomputable def punp (k : Bool) (v : AV) : Option Nat := cnd k (punpB v) (punpA v)
theorem punp_rel {E : Env} {k : Bool} {v : AV} {x : Nat} {c : Value} (h : punp k v = some x) (hv : V E v c) : x < 2 ^ wd k ∧ c = pv k x := by
  cases k
  · cases v with
    | bool b =>
      have hc : (Sum.inl c : Sum Value (List Value)) = .inl (.bool b) := hv
      injection hc with hc; subst hc
      have : some (Bool.rec 0 1 b : Nat) = some x := h
      injection this with this; subst this
      cases b
      · exact ⟨by decide, rfl⟩
      · exact ⟨by decide, rfl⟩
    | _ => cases h
  · cases v with
    | int kk n =>
      have hc : (Sum.inl c : Sum Value (List Value)) = .inl (.int kk n) := hv
      injection hc with hc; subst hc
      cases kk
      case u8 =>
        cases n with
        | ofNat m =>
          have h' : cnd (Nat.blt m 256) (some m) none = some x := h
          rw [cnd_eq] at h'
          by_cases hm : m < 256
          · rw [if_pos (by simpa [Nat.blt_eq] using hm)] at h'
            cases h'; exact ⟨hm, rfl⟩
          · rw [if_neg (by simpa [Nat.blt_eq] using hm)] at h'; cases h'
        | negSucc m => cases h
      all_goals cases h
    | _ => cases h

noncomputable def rowSet (v : AV) : AV → Nat → Option AV :=
  rowRec (fun _ => none) (fun _ => none) (fun x r ih i => Nat.rec (motive := fun _ => Option AV) (some (.rone v r)) (fun m _ => omap (.rone x) (ih m)) i)
    (fun k n d r ih i => cnd (Nat.blt i n) (obind (punp k v) fun x => some (forceN (setDigit (wd k) d i x) fun e => .rpk k n e r)) (omap (.rpk k n d) (ih (Nat.sub i n))))

theorem rowSet_rel {E : Env} {v : AV} {c : Value} (hv : V E v c) : ∀ {r r' : AV} {l : List Value} {i : Nat}, R E r l → rowSet v r i = some r' → R E r' (l.set i c) ∧ i < l.length := by
  intro r
  induction r with
  | rnil => intro r' l i h hg; cases hg
  | rone x r _ hr =>
    rintro r' l i ⟨c', l', h, h1, h2⟩ hg; injection h with h; subst h
    cases i with
    | zero => cases hg; exact ⟨⟨c, l', rfl, hv, h2⟩, by simp⟩
    | succ i =>
      have hg' : omap (.rone x) (rowSet v r i) = some r' := hg
      rw [omap_eq, Option.map_eq_some_iff] at hg'
      obtain ⟨r1, h3, rfl⟩ := hg'
      obtain ⟨h4, h5⟩ := hr h2 h3
      exact ⟨⟨c', l'.set i c, rfl, h1, h4⟩, by simpa using h5⟩
  | rpk k n d r hr =>
    rintro r' l i ⟨hd, l', h, h2⟩ hg; injection h with h; subst h
    have hg' : cnd (Nat.blt i n) (obind (punp k v) fun x => some (forceN (setDigit (wd k) d i x) fun e => .rpk k n e r)) (omap (.rpk k n d) (rowSet v r (i - n))) = some r' := hg
    rw [cnd_eq] at hg'
    by_cases hin : i < n
    · rw [if_pos (by simpa [Nat.blt_eq] using hin)] at hg'
      obtain ⟨x, hx, h3⟩ := obind_some hg'
      rw [forceN_eq] at h3
      cases h3
      obtain ⟨hx1, rfl⟩ := punp_rel hx hv
      refine ⟨⟨setDigit_lt _ _ _ _ _ hin hd hx1, l', ?_, h2⟩, ?_⟩
      · rw [toL_set _ _ _ _ _ hin hx1, List.map_set, List.set_append_left _ _ (by rw [List.length_map, toL_length]; exact hin)]
      · rw [List.length_append, List.length_map, toL_length]; omega
    · rw [if_neg (by simpa [Nat.blt_eq] using hin), omap_eq, Option.map_eq_some_iff] at hg'
      obtain ⟨r1, h3, rfl⟩ := hg'
      obtain ⟨h4, h5⟩ := hr h2 h3
      refine ⟨⟨hd, l'.set (i - n) c, ?_, h4⟩, ?_⟩
      · rw [List.set_append_right _ _ (by rw [List.length_map, toL_length]; omega), List.length_map, toL_length]
      · rw [List.length_append, List.length_map, toL_length]; omega
  | _ => intro r' l i _ hg; cases hg

noncomputable def rowTake : AV → Nat → Option AV :=
  rowRec (fun _ => none) (fun m => Nat.rec (motive := fun _ => Option AV) (some .rnil) (fun _ _ => none) m)
    (fun v _ ih m => Nat.rec (motive := fun _ => Option AV) (some .rnil) (fun j _ => omap (.rone v) (ih j)) m)
    (fun k n d _ ih m => cnd (Nat.blt m n) (some (forceN (loD (wd k) d m) fun e => .rpk k m e .rnil)) (omap (.rpk k n d) (ih (Nat.sub m n))))
noncomputable def rowDrop : AV → Nat → Option AV :=
  rowRec (fun _ => none) (fun m => Nat.rec (motive := fun _ => Option AV) (some .rnil) (fun _ _ => none) m)
    (fun v r ih m => Nat.rec (motive := fun _ => Option AV) (some (.rone v r)) (fun j _ => ih j) m)
    (fun k n d r ih m => cnd (Nat.blt m n) (some (forceN (hiD (wd k) d m) fun e => forceN (Nat.sub n m) fun n' => .rpk k n' e r)) (ih (Nat.sub m n)))

theorem rowTake_rel {E : Env} : ∀ {r r' : AV} {l : List Value} {m : Nat}, R E r l → rowTake r m = some r' → R E r' (l.take m) ∧ m ≤ l.length := by
  intro r
  induction r with
  | rnil =>
    intro r' l m h hg; rw [R_nil h]
    cases m with
    | zero => cases hg; exact ⟨rfl, by simp⟩
    | succ m => cases hg
  | rone x r _ hr =>
    rintro r' l m ⟨c', l', h, h1, h2⟩ hg; injection h with h; subst h
    cases m with
    | zero => cases hg; exact ⟨rfl, by simp⟩
    | succ m =>
      have hg' : omap (.rone x) (rowTake r m) = some r' := hg
      rw [omap_eq, Option.map_eq_some_iff] at hg'
      obtain ⟨r1, h3, rfl⟩ := hg'
      obtain ⟨h4, h5⟩ := hr h2 h3
      exact ⟨⟨c', l'.take m, rfl, h1, h4⟩, by simpa using h5⟩
  | rpk k n d r hr =>
    rintro r' l m ⟨hd, l', h, h2⟩ hg; injection h with h; subst h
    have hg' : cnd (Nat.blt m n) (some (forceN (loD (wd k) d m) fun e => AV.rpk k m e .rnil)) (omap (.rpk k n d) (rowTake r (m - n))) = some r' := hg
    rw [cnd_eq, forceN_eq] at hg'
    by_cases hin : m < n
    · rw [if_pos (by simpa [Nat.blt_eq] using hin)] at hg'
      cases hg'
      refine ⟨⟨loD_lt _ _ _, [], ?_, rfl⟩, ?_⟩
      · rw [List.append_nil, toL_lo _ n _ _ (by omega), List.map_take, List.take_append_of_le_length (by rw [List.length_map, toL_length]; omega)]
      · rw [List.length_append, List.length_map, toL_length]; omega
    · rw [if_neg (by simpa [Nat.blt_eq] using hin), omap_eq, Option.map_eq_some_iff] at hg'
      obtain ⟨r1, h3, rfl⟩ := hg'
      obtain ⟨h4, h5⟩ := hr h2 h3
      refine ⟨⟨hd, l'.take (m - n), ?_, h4⟩, ?_⟩
      · rw [List.take_append, List.length_map, toL_length, List.take_of_length_le (by rw [List.length_map, toL_length]; omega)]
      · rw [List.length_append, List.length_map, toL_length]; omega
  | _ => intro r' l i _ hg; cases hg

theorem rowDrop_rel {E : Env} : ∀ {r r' : AV} {l : List Value} {m : Nat}, R E r l → rowDrop r m = some r' → R E r' (l.drop m) ∧ m ≤ l.length := by
  intro r
  induction r with
  | rnil =>
    intro r' l m h hg; rw [R_nil h]
    cases m with
    | zero => cases hg; exact ⟨rfl, by simp⟩
    | succ m => cases hg
  | rone x r _ hr =>
    rintro r' l m ⟨c', l', h, h1, h2⟩ hg; injection h with h; subst h
    cases m with
    | zero => cases hg; exact ⟨⟨c', l', rfl, h1, h2⟩, by simp⟩
    | succ m =>
      obtain ⟨h4, h5⟩ := hr h2 hg
      exact ⟨h4, by simpa using h5⟩
  | rpk k n d r hr =>
    rintro r' l m ⟨hd, l', h, h2⟩ hg; injection h with h; subst h
    have hg' : cnd (Nat.blt m n) (some (forceN (hiD (wd k) d m) fun e => forceN (Nat.sub n m) fun n' => AV.rpk k n' e r)) (rowDrop r (m - n)) = some r' := hg
    rw [cnd_eq, forceN_eq, forceN_eq] at hg'
    by_cases hin : m < n
    · rw [if_pos (by simpa [Nat.blt_eq] using hin)] at hg'
      cases hg'
      refine ⟨⟨hiD_lt _ _ _ _ (by omega) hd, l', ?_, h2⟩, ?_⟩
      · show (Sum.inr _ : Sum Value (List Value)) = .inr (List.map (pv k) (toL (wd k) (n - m) (hiD (wd k) d m)) ++ l')
        rw [toL_hi, List.map_drop, List.drop_append_of_le_length (by rw [List.length_map, toL_length]; omega)]
      · rw [List.length_append, List.length_map, toL_length]; omega
    · rw [if_neg (by simpa [Nat.blt_eq] using hin)] at hg'
      obtain ⟨h4, h5⟩ := hr h2 hg'
      refine ⟨?_, ?_⟩
      · rw [List.drop_append, List.length_map, toL_length, List.drop_eq_nil_of_le (by rw [List.length_map, toL_length]; omega)]; exact h4
      · rw [List.length_append, List.length_map, toL_length]; omega
  | _ => intro r' l i _ hg; cases hg

noncomputable def beqB (a b : Bool) : Bool := cnd a b (cnd b false true)
theorem beqB_eq {a b : Bool} (h : beqB a b = true) : a = b := by cases a <;> cases b <;> first | rfl | cases h
noncomputable def joinP (k : Bool) (n d : Nat) (t : AV) : AV :=
  rowRec (.rpk k n d t) (.rpk k n d t) (fun _ _ _ => .rpk k n d t)
    (fun k' m e t' _ => cnd (beqB k k') (forceN (catD (wd k) n d e) fun x => forceN (Nat.add n m) fun y => .rpk k y x t') (.rpk k n d t)) t
theorem joinP_rel {E : Env} {k : Bool} {n d : Nat} {t : AV} {l : List Value} (hd : d < 2 ^ (wd k * n)) (h : R E t l) : R E (joinP k n d t) ((toL (wd k) n d).map (pv k) ++ l) := by
  have h0 : R E (.rpk k n d t) ((toL (wd k) n d).map (pv k) ++ l) := ⟨hd, l, rfl, h⟩
  cases t with
  | rpk k' m e t' =>
    show R E (cnd (beqB k k') (forceN (catD (wd k) n d e) fun x => forceN (Nat.add n m) fun y => .rpk k y x t') (.rpk k n d (.rpk k' m e t'))) _
    rw [cnd_eq, forceN_eq, forceN_eq]
    split
    · rename_i hb
      obtain rfl := beqB_eq hb
      obtain ⟨he, l', h1, h2⟩ := h
      injection h1 with h1; subst h1
      refine ⟨catD_lt _ _ _ _ _ hd he, l', ?_, h2⟩
      show (Sum.inr _ : Sum Value (List Value)) = .inr (List.map (pv k) (toL (wd k) (n + m) (catD (wd k) n d e)) ++ l')
      rw [toL_cat _ _ _ _ _ hd, List.map_append, List.append_assoc]
    · exact h0
  | _ => exact h0

noncomputable def rowApp (s : AV) : AV → AV :=
  rowRec .rnil s (fun v _ ih => .rone v ih) (fun k n d _ ih => joinP k n d ih)
theorem rowApp_rel {E : Env} {s : AV} {l2 : List Value} (hs : R E s l2) : ∀ {r : AV} {l : List Value}, R E r l → R E (rowApp s r) (l ++ l2) := by
  intro r
  induction r with
  | rnil => intro l h; rw [R_nil h]; exact hs
  | rone x r _ hr =>
    rintro l ⟨c', l', h, h1, h2⟩; injection h with h; subst h
    exact ⟨c', l' ++ l2, rfl, h1, hr h2⟩
  | rpk k n d r hr =>
    rintro l ⟨hd, l', h, h2⟩; injection h with h; subst h
    rw [List.append_assoc]
    exact joinP_rel hd (hr h2)
  | func fn p q _ _ => rintro l ⟨_, _, _, h, _⟩; cases h
  | _ => intro l h; simp [R, Rel] at h

/-- A row n times. -/
noncomputable def rowRepS (z : AV) (n : Nat) : AV := Nat.rec (motive := fun _ => AV) .rnil (fun _ ih => rowApp ih z) n
noncomputable def isRnil : AV → Bool := rowRec false true (fun _ _ _ => false) (fun _ _ _ _ _ => false)
noncomputable def rowRep (z : AV) (n : Nat) : AV :=
  rowRec (rowRepS z n) (rowRepS z n) (fun _ _ _ => rowRepS z n)
    (fun k m d t _ => cnd (cnd (Nat.beq d 0) (isRnil t) false) (forceN (Nat.mul n m) fun y => .rpk k y 0 .rnil) (rowRepS z n)) z
theorem rowRepS_rel {E : Env} {z : AV} {l : List Value} (hz : R E z l) : ∀ n, R E (rowRepS z n) (List.replicate n l).flatten
  | 0 => rfl
  | n + 1 => by
    rw [List.replicate_succ, List.flatten_cons]
    exact rowApp_rel (rowRepS_rel hz n) hz
theorem isRnil_eq {t : AV} (h : isRnil t = true) : t = .rnil := by
  cases t <;> first | rfl | cases h
theorem replicate_flatten {α : Type} (m : Nat) (x : α) : ∀ n, (List.replicate n (List.replicate m x)).flatten = List.replicate (n * m) x
  | 0 => by simp
  | n + 1 => by
    rw [List.replicate_succ, List.flatten_cons, replicate_flatten m x n, List.replicate_append_replicate]
    congr 1; rw [Nat.add_mul]; omega
theorem rowRep_rel {E : Env} {z : AV} {l : List Value} (hz : R E z l) (n : Nat) : R E (rowRep z n) (List.replicate n l).flatten := by
  have h0 := rowRepS_rel hz n
  cases z with
  | rpk k m d t =>
    show R E (cnd (cnd (Nat.beq d 0) (isRnil t) false) (forceN (Nat.mul n m) fun y => .rpk k y 0 .rnil) (rowRepS (.rpk k m d t) n)) _
    rw [cnd_eq, forceN_eq]
    by_cases hb : cnd (Nat.beq d 0) (isRnil t) false = true
    · rw [if_pos hb]
      rw [cnd_eq] at hb
      by_cases hd : Nat.beq d 0 = true
      · rw [if_pos hd] at hb
        have hd' : d = 0 := by simpa [Nat.beq_eq] using hd
        subst hd'
        obtain rfl := isRnil_eq hb
        obtain ⟨hd, l', h1, h2⟩ := hz
        injection h1 with h1; subst h1
        rw [R_nil h2, List.append_nil]
        refine ⟨Nat.two_pow_pos _, [], ?_, rfl⟩
        show (Sum.inr _ : Sum Value (List Value)) = .inr (List.map (pv k) (toL (wd k) (n * m) 0) ++ [])
        rw [toL_zero, toL_zero, List.append_nil, List.map_replicate, List.map_replicate, replicate_flatten]
      · rw [if_neg hd] at hb; cases hb
    · rw [if_neg hb]; exact h0
  | _ => exact h0

end Go.Ev
