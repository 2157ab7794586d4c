/- Operators: integers, texts, equality. -/
import Derived.Test.YtjjnffgpfiokiaaGreatDoorEvF
import Derived.Laws.StructEq
import Derived.ChangeKeysEq
namespace Go.Ev
open Go.RowKit

noncomputable def addZ (k : IntKind) (a b : Int) : AV := match a, b with
  | .ofNat m, .ofNat n => wrapN k (Nat.add m n)
  | x, y => wrapZ k (x + y)
noncomputable def subZ (k : IntKind) (a b : Int) : AV := match a, b with
  | .ofNat m, .ofNat n => cnd (Nat.ble n m) (wrapN k (Nat.sub m n)) (wrapZ k (.negSucc (Nat.sub (Nat.sub n m) 1)))
  | x, y => wrapZ k (x - y)
noncomputable def mulZ (k : IntKind) (a b : Int) : AV := match a, b with
  | .ofNat m, .ofNat n => wrapN k (Nat.mul m n)
  | x, y => wrapZ k (x * y)
theorem addZ_eq (k : IntKind) (a b : Int) : addZ k a b = .int k (k.wrap (a + b)) := by
  unfold addZ; split
  · exact wrapN_eq k _
  · exact wrapZ_eq k _
theorem mulZ_eq (k : IntKind) (a b : Int) : mulZ k a b = .int k (k.wrap (a * b)) := by
  unfold mulZ; split
  · exact wrapN_eq k _
  · exact wrapZ_eq k _
theorem subZ_eq (k : IntKind) (a b : Int) : subZ k a b = .int k (k.wrap (a - b)) := by
  unfold subZ; split
  · rename_i m n
    rw [cnd_eq]
    split
    · rename_i h
      have h' : n ≤ m := by simpa using h
      rw [wrapN_eq]
      congr 2
      show ((m - n : Nat) : Int) = (m : Int) - n
      omega
    · rename_i h
      have h' : ¬ n ≤ m := by simpa using h
      rw [wrapZ_eq]
      congr 2
      show Int.negSucc (n - m - 1) = (m : Int) - n
      rw [Int.negSucc_eq]; omega
  · exact wrapZ_eq k _
noncomputable def quoZ (k : IntKind) (a b : Int) : Option AV := match a, b with
  | .ofNat m, .ofNat (n + 1) => some (wrapN k (Nat.div m (Nat.succ n)))
  | _, .ofNat 0 => none
  | x, y => some (wrapZ k (x.tdiv y))
noncomputable def remZ (k : IntKind) (a b : Int) : Option AV := match a, b with
  | .ofNat m, .ofNat (n + 1) => some (forceN (Nat.mod m (Nat.succ n)) fun x => .int k (.ofNat x))
  | _, .ofNat 0 => none
  | x, y => some (.int k (x.tmod y))
noncomputable def bitZ (f : Nat → Nat → Nat) (k : IntKind) (a b : Int) : Option AV := match a, b with
  | .ofNat m, .ofNat n => some (wrapN k (f (Nat.mod m (kMod k)) (Nat.mod n (kMod k))))
  | _, _ => none
noncomputable def shlZ (k : IntKind) (a b : Int) : Option AV := match a, b with
  | .ofNat m, .ofNat n => some (wrapN k (Nat.mul m (Nat.pow 2 (cnd (Nat.ble n k.bits) n k.bits))))
  | x, .ofNat n => some (.int k (k.wrap (x * 2 ^ (min n k.bits))))
  | _, _ => none
noncomputable def shrZ (k : IntKind) (a b : Int) : Option AV := match a, b with
  | .ofNat m, .ofNat n => some (forceN (Nat.div m (Nat.pow 2 (cnd (Nat.ble n k.bits) n k.bits))) fun x => .int k (.ofNat x))
  | x, .ofNat n => some (.int k (x.fdiv (2 ^ (min n k.bits))))
  | _, _ => none
noncomputable def ltZ (a b : Int) : Bool := match a, b with
  | .ofNat m, .ofNat n => Nat.blt m n
  | .ofNat _, .negSucc _ => false
  | .negSucc _, .ofNat _ => true
  | .negSucc m, .negSucc n => Nat.blt n m
noncomputable def eqZ (a b : Int) : Bool := match a, b with
  | .ofNat m, .ofNat n => Nat.beq m n
  | .negSucc m, .negSucc n => Nat.beq m n
  | _, _ => false
theorem ltZ_eq (a b : Int) : ltZ a b = decide (a < b) := by
  unfold ltZ; split
  · rename_i m n; rw [Bool.eq_iff_iff, blt_iff, decide_eq_true_eq]; exact Int.ofNat_lt.symm
  · rename_i m n; symm; rw [decide_eq_false_iff_not]; intro h
    have := Int.negSucc_eq n; have h1 : (Int.ofNat m) = (m : Int) := rfl; omega
  · rename_i m n; symm; rw [decide_eq_true_eq]
    have := Int.negSucc_eq m; have h1 : (Int.ofNat n) = (n : Int) := rfl; omega
  · rename_i m n; rw [Bool.eq_iff_iff, blt_iff, decide_eq_true_eq, Int.negSucc_eq, Int.negSucc_eq]; omega
theorem eqZ_eq (a b : Int) : eqZ a b = (a == b) := by
  unfold eqZ; split
  · rename_i m n; rw [Bool.eq_iff_iff, Nat.beq_eq, beq_iff_eq]; exact ⟨fun h => by rw [h], fun h => by injection h⟩
  · rename_i m n; rw [Bool.eq_iff_iff, Nat.beq_eq, beq_iff_eq]; exact ⟨fun h => by rw [h], fun h => by injection h⟩
  · rename_i h1 h2
    symm; rw [beq_eq_false_iff_ne]; intro e; subst e
    cases a with
    | ofNat m => exact h1 m m rfl rfl
    | negSucc m => exact h2 m m rfl rfl

noncomputable def notB (b : Bool) : Bool := cnd b false true
theorem notB_eq (b : Bool) : notB b = !b := by cases b <;> rfl

noncomputable def intOp (op : BinOp) (k : IntKind) (a b : Int) : Option AV := match op with
  | .add => some (addZ k a b)
  | .sub => some (subZ k a b)
  | .mul => some (mulZ k a b)
  | .quo => quoZ k a b
  | .rem => remZ k a b
  | .and => bitZ Nat.land k a b
  | .or => bitZ Nat.lor k a b
  | .xor => bitZ Nat.xor k a b
  | .eql => some (.bool (eqZ a b))
  | .neq => some (.bool (notB (eqZ a b)))
  | .lss => some (.bool (ltZ a b))
  | .leq => some (.bool (notB (ltZ b a)))
  | .gtr => some (.bool (ltZ b a))
  | .geq => some (.bool (notB (ltZ a b)))
  | _ => none

theorem kMod_eq (k : IntKind) : kMod k = 2 ^ k.bits := by cases k <;> rfl
theorem ofInt_nat (w m : Nat) : BitVec.ofInt w (Int.ofNat m) = BitVec.ofNat w m := BitVec.ofInt_natCast w m

theorem intOp_rel {P : Program} {E : Env} {op : BinOp} {k : IntKind} {a b : Int} {v : AV} (h : intOp op k a b = some v) (t : TypeId) (w : World) :
    ∃ c, (binOp op t (.int k a) (.int k b)).run P w = .ok c w ∧ V E v c := by
  unfold intOp at h
  have le1 : ∀ x y : Int, (!decide (y < x)) = decide (x ≤ y) := fun x y => by
    rw [Bool.eq_iff_iff]; simp
  cases op <;> simp only at h
  case add => cases h; exact ⟨.int k (k.wrap (a + b)), by simp [binOp, Op.intArith], by rw [addZ_eq]; rfl⟩
  case sub => cases h; exact ⟨.int k (k.wrap (a - b)), by simp [binOp, Op.intArith], by rw [subZ_eq]; rfl⟩
  case mul => cases h; exact ⟨.int k (k.wrap (a * b)), by simp [binOp, Op.intArith], by rw [mulZ_eq]; rfl⟩
  case quo =>
    unfold quoZ at h
    split at h
    · rename_i m n
      cases h
      refine ⟨.int k (k.wrap ((Int.ofNat m).tdiv (Int.ofNat (n + 1)))), ?_, by rw [wrapN_eq]; rfl⟩
      simp only [binOp, Op.intDiv]
      rw [if_neg (by simp), if_neg (by intro e; injection e with e; cases e)]; rfl
    · cases h
    · rename_i h1 h2
      cases h
      refine ⟨.int k (k.wrap (a.tdiv b)), ?_, by rw [wrapZ_eq]; rfl⟩
      simp only [binOp, Op.intDiv]
      rw [if_neg (by simp), if_neg (fun e => by subst e; exact h1 rfl)]; rfl
  case rem =>
    unfold remZ at h
    split at h
    · rename_i m n
      rw [forceN_eq] at h
      cases h
      refine ⟨.int k ((Int.ofNat m).tmod (Int.ofNat (n + 1))), ?_, rfl⟩
      simp only [binOp, Op.intDiv]
      rw [if_neg (by simp), if_neg (by intro e; injection e with e; cases e)]; rfl
    · cases h
    · rename_i h1 h2
      cases h
      refine ⟨.int k (a.tmod b), ?_, rfl⟩
      simp only [binOp, Op.intDiv]
      rw [if_neg (by simp), if_neg (fun e => by subst e; exact h1 rfl)]; rfl
  case and =>
    unfold bitZ at h
    split at h
    · rename_i m n
      cases h
      refine ⟨_, by simp [binOp, Op.intBits]; rfl, ?_⟩
      rw [wrapN_eq, kMod_eq]
      show (Sum.inl _ : Sum Value (List Value)) = _
      congr 3
      all_goals (rw [ofInt_nat, ofInt_nat]; first | (simp; done) | (simp; rfl))
    · cases h
  case or =>
    unfold bitZ at h
    split at h
    · rename_i m n
      cases h
      refine ⟨_, by simp [binOp, Op.intBits]; rfl, ?_⟩
      rw [wrapN_eq, kMod_eq]
      show (Sum.inl _ : Sum Value (List Value)) = _
      congr 3
      all_goals (rw [ofInt_nat, ofInt_nat]; first | (simp; done) | (simp; rfl))
    · cases h
  case xor =>
    unfold bitZ at h
    split at h
    · rename_i m n
      cases h
      refine ⟨_, by simp [binOp, Op.intBits]; rfl, ?_⟩
      rw [wrapN_eq, kMod_eq]
      show (Sum.inl _ : Sum Value (List Value)) = _
      congr 3
      all_goals (rw [ofInt_nat, ofInt_nat]; first | (simp; done) | (simp; rfl))
    · cases h
  case eql => cases h; exact ⟨_, by simp [binOp, Op.intCmp]; rfl, by rw [eqZ_eq]; rfl⟩
  case neq => cases h; exact ⟨_, by simp [binOp, Op.intCmp]; rfl, by rw [eqZ_eq, notB_eq]; rfl⟩
  case lss => cases h; exact ⟨_, by simp [binOp, Op.intCmp]; rfl, by rw [ltZ_eq]; rfl⟩
  case leq => cases h; exact ⟨_, by simp [binOp, Op.intCmp]; rfl, by rw [ltZ_eq, notB_eq, le1]; rfl⟩
  case gtr => cases h; exact ⟨_, by simp [binOp, Op.intCmp]; rfl, by rw [ltZ_eq]; rfl⟩
  case geq => cases h; exact ⟨_, by simp [binOp, Op.intCmp]; rfl, by rw [ltZ_eq, notB_eq, le1]; rfl⟩
  all_goals cases h

/-- shifts: the two kinds may differ. -/
noncomputable def shOp (op : BinOp) (k : IntKind) (a b : Int) : Option AV := match op with
  | .shl => shlZ k a b
  | .shr => shrZ k a b
  | _ => none
theorem cmin (n m : Nat) : (cnd (Nat.ble n m) n m) = min n m := by
  rw [cnd_eq]; split
  · rename_i h; have : n ≤ m := by simpa using h
    omega
  · rename_i h; have : ¬ n ≤ m := by simpa using h
    omega
theorem shOp_rel {P : Program} {E : Env} {op : BinOp} {k yk : IntKind} {a b : Int} {v : AV} (h : shOp op k a b = some v) (t : TypeId) (w : World) :
    ∃ c, (binOp op t (.int k a) (.int yk b)).run P w = .ok c w ∧ V E v c := by
  unfold shOp at h
  cases op <;> simp only at h
  case shl =>
    unfold shlZ at h
    split at h
    · rename_i m n
      cases h
      refine ⟨.int k (k.wrap (Int.ofNat m * 2 ^ (min n k.bits))), ?_, ?_⟩
      · simp only [binOp, Op.shift]
        rw [if_neg (by simp)]
        show (Pure.pure _ : Sem Value).run P w = _
        simp
      · rw [wrapN_eq, cmin]
        show (Sum.inl _ : Sum Value (List Value)) = _
        congr 3
    · rename_i n _
      cases h
      refine ⟨_, ?_, rfl⟩
      simp only [binOp, Op.shift]
      rw [if_neg (by simp)]
      show (Pure.pure _ : Sem Value).run P w = _
      simp
    · cases h
  case shr =>
    unfold shrZ at h
    split at h
    · rename_i m n
      rw [forceN_eq] at h
      cases h
      refine ⟨.int k ((Int.ofNat m).fdiv (2 ^ (min n k.bits))), ?_, ?_⟩
      · simp only [binOp, Op.shift]
        rw [if_neg (by simp)]
        show (Pure.pure _ : Sem Value).run P w = _
        simp
      · rw [cmin]
        show (Sum.inl _ : Sum Value (List Value)) = _
        congr 2
        show (Int.ofNat m).fdiv ((2 : Int) ^ (min n k.bits)) = Int.ofNat (m / 2 ^ (min n k.bits))
        rw [show ((2 : Int) ^ (min n k.bits)) = ((2 ^ (min n k.bits) : Nat) : Int) by simp]
        rw [Int.fdiv_eq_ediv_of_nonneg _ (Int.natCast_nonneg _)]
        exact (Int.natCast_ediv m (2 ^ (min n k.bits))).symm
    · rename_i n _
      cases h
      refine ⟨_, ?_, rfl⟩
      simp only [binOp, Op.shift]
      rw [if_neg (by simp)]
      show (Pure.pure _ : Sem Value).run P w = _
      simp
    · cases h
  all_goals cases h

end Go.Ev
