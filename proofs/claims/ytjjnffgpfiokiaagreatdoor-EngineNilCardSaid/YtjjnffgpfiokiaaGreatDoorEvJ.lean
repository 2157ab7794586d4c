/- Binary and unary operators, conversions of numbers, addresses, parts, slices: what they answer, and that the model answers so. -/
import Derived.Test.YtjjnffgpfiokiaaGreatDoorEvI
namespace Go.Ev
open Go.RowKit

noncomputable def isSh (op : BinOp) : Bool := match op with
  | .shl => true
  | .shr => true
  | _ => false
noncomputable def eqOp (P : Program) (op : BinOp) (t : TypeId) (x y : AV) : Option AV := match op with
  | .eql => omap .bool (aEq P 10000 t x y)
  | .neq => omap (fun b => .bool (notB b)) (aEq P 10000 t x y)
  | _ => none
noncomputable def binA (P : Program) (op : BinOp) (t : TypeId) (x y : AV) : Option AV := match x, y with
  | .int k a, .int k' b => cnd (isSh op) (shOp op k a b) (cnd (kEq k k') (intOp op k a b) none)
  | .str n d, .str m e => strOp op n d m e
  | .int _ _, _ => none
  | .str _ _, _ => none
  | x, y => eqOp P op t x y

/-- no integer, no text, no float: what '==' compares by its type -/
noncomputable def byType : Value → Bool
  | .int .. => false
  | .string _ => false
  | .float .. => false
  | .complex .. => false
  | _ => true
theorem binOp_eql {t : TypeId} {x : Value} (y : Value) (h : byType x = true) : binOp .eql t x y = (do pure (.bool (← Op.equal t x y))) := by
  cases x with
  | int k n => cases h
  | string s => cases h
  | float k n => cases h
  | complex k n m => cases h
  | _ => cases y <;> rfl
theorem binOp_neq {t : TypeId} {x : Value} (y : Value) (h : byType x = true) : binOp .neq t x y = (do pure (.bool (!(← Op.equal t x y)))) := by
  cases x with
  | int k n => cases h
  | string s => cases h
  | float k n => cases h
  | complex k n m => cases h
  | _ => cases y <;> rfl

theorem eqOp_rel {P : Program} {E : Env} {op : BinOp} {t : TypeId} {x y v : AV} {cx cy : Value} (hx : V E x cx) (hy : V E y cy) (hb : byType cx = true) (h : eqOp P op t x y = some v) (w : World) :
    ∃ c, (binOp op t cx cy).run P w = .ok c w ∧ V E v c := by
  unfold eqOp at h
  split at h
  · rw [omap_eq, Option.map_eq_some_iff] at h
    obtain ⟨b, h1, rfl⟩ := h
    refine ⟨.bool b, ?_, rfl⟩
    rw [binOp_eql cy hb]
    simp [Op.equal, Op.maxDepth, aEq_run w 10000 t x y b cx cy h1 hx hy]
  · rw [omap_eq, Option.map_eq_some_iff] at h
    obtain ⟨b, h1, rfl⟩ := h
    refine ⟨.bool (!b), ?_, by rw [notB_eq]; rfl⟩
    rw [binOp_neq cy hb]
    simp [Op.equal, Op.maxDepth, aEq_run w 10000 t x y b cx cy h1 hx hy]
  · cases h

theorem binA_rel {P : Program} {E : Env} {op : BinOp} {t : TypeId} {x y v : AV} {cx cy : Value} (hx : V E x cx) (hy : V E y cy) (h : binA P op t x y = some v) (w : World) :
    ∃ c, (binOp op t cx cy).run P w = .ok c w ∧ V E v c := by
  unfold binA at h
  split at h
  · rename_i k a k' b
    obtain rfl := V_int hx
    obtain rfl := V_int hy
    rw [cnd_eq] at h
    split at h
    · exact shOp_rel h t w
    · rw [cnd_eq] at h
      split at h
      · rename_i hk; obtain rfl := kEq_eq hk; exact intOp_rel h t w
      · cases h
  · obtain ⟨hd, s, rfl, hs⟩ := V_str hx
    obtain ⟨he, r, rfl, hr⟩ := V_str hy
    exact strOp_rel hd he hs hr h t w
  · cases h
  · cases h
  · rename_i h1 h2 h3 h4
    refine eqOp_rel hx hy ?_ h w
    cases x with
    | bool b => rw [V_bool hx]; rfl
    | int k n => first | exact (h1 _ _ rfl).elim | exact (h2 _ _ rfl).elim | exact (h3 _ _ rfl).elim | exact (h4 _ _ rfl).elim
    | str n d => first | exact (h1 _ _ rfl).elim | exact (h2 _ _ rfl).elim | exact (h3 _ _ rfl).elim | exact (h4 _ _ rfl).elim
    | nilp => rw [V_nilp hx]; rfl
    | ptr i o => obtain ⟨_, _, _, rfl⟩ := V_ptr hx; rfl
    | gptr i o => rw [V_gptr hx]; rfl
    | nils => rw [V_nils hx]; rfl
    | slice a b c d => obtain ⟨_, _, _, _, rfl⟩ := V_slice hx; rfl
    | slx a b c d => obtain ⟨_, _, _, _, _, rfl, _⟩ := V_slx hx; rfl
    | nilm => rw [V_nilm hx]; rfl
    | map i => obtain ⟨_, _, _, rfl⟩ := V_map hx; rfl
    | nilf => rw [V_nilf hx]; rfl
    | func f p q => obtain ⟨_, _, _, rfl, _⟩ := V_func hx; rfl
    | yld i => obtain ⟨_, _, _, h5⟩ := hx; injection h5 with h5; subst h5; rfl
    | nili => rw [V_nili hx]; rfl
    | iface t v => obtain ⟨_, rfl, _⟩ := V_iface hx; rfl
    | agg r => obtain ⟨_, rfl, _⟩ := V_agg hx; rfl
    | tup r => obtain ⟨_, rfl, _⟩ := V_tup hx; rfl
    | rnil => cases hx
    | rone v r => obtain ⟨_, _, h, _⟩ := hx; cases h
    | rpk k n d r => obtain ⟨_, _, h, _⟩ := hx; cases h

/-- The look ahead of '==' lets by. -/
noncomputable def isCst (o : Operand) : Bool := match o with
  | .const _ => true
  | _ => false
noncomputable def isEq (op : BinOp) : Bool := match op with
  | .eql => true
  | .neq => true
  | _ => false
noncomputable def gdA (P : Program) (op : BinOp) (t : TypeId) (ox oy : Operand) (x y : AV) : Bool :=
  cnd (isEq op) (match x, y with
    | .nili, .nili => cnd (isCst ox) true (isCst oy)
    | .agg _, .agg _ => notB (P.eqGuardType P.depth t)
    | .agg _, _ => false
    | .nili, .iface _ _ => true
    | .nili, _ => false
    | _, _ => true) true
theorem gd_other {P : Program} {op : BinOp} {t : TypeId} {ox oy : Operand} {a b : Value} (w : World) (h1 : ∀ c, a ≠ .agg c) (h2 : a = .nilIface → b ≠ .nilIface) : (eqGuard op t ox oy a b).run P w = .ok () w := by
  unfold eqGuard
  cases op <;> simp <;> (split <;> simp_all)
theorem gdA_rel {P : Program} {E : Env} {op : BinOp} {t : TypeId} {ox oy : Operand} {x y : AV} {cx cy : Value} (hx : V E x cx) (hy : V E y cy) (h : gdA P op t ox oy x y = true) (w : World) :
    (eqGuard op t ox oy cx cy).run P w = .ok () w := by
  unfold gdA at h
  rw [cnd_eq] at h
  split at h
  · split at h
    · rw [V_nili hx, V_nili hy]
      have hc : isCst ox = true ∨ isCst oy = true := by
        rw [cnd_eq] at h
        split at h
        · exact .inl ‹_›
        · exact .inr h
      unfold eqGuard
      rcases hc with hc | hc
      · cases ox with
        | const v => cases op <;> simp
        | _ => cases hc
      · cases oy with
        | const v => cases op <;> cases ox <;> simp
        | _ => cases hc
    · obtain ⟨_, rfl, _⟩ := V_agg hx
      obtain ⟨_, rfl, _⟩ := V_agg hy
      exact run_eqGuard_agg w op t ox oy _ _ (by simpa [notB_eq] using h)
    · cases h
    · obtain ⟨_, rfl, _⟩ := V_iface hy
      rw [V_nili hx]
      exact gd_other w (fun c e => by cases e) (fun _ e => by cases e)
    · cases h
    · rename_i h1 h2 h3 h4 h5
      refine gd_other w (fun c e => ?_) (fun e1 e2 => ?_)
      · subst e
        cases x with
        | agg r => first | exact (h1 _ rfl) | exact (h2 _ rfl) | exact (h3 _ rfl) | exact (h4 _ rfl) | exact (h5 _ rfl)
        | func f p q => obtain ⟨_, _, _, hh, _⟩ := V_func hx; cases hh
        | str n d => obtain ⟨_, _, hh, _⟩ := V_str hx; cases hh
        | ptr i o => obtain ⟨_, _, _, hh⟩ := V_ptr hx; cases hh
        | slice a b c d => obtain ⟨_, _, _, _, hh⟩ := V_slice hx; cases hh
        | slx a b c d => obtain ⟨_, _, _, _, _, hh, _⟩ := V_slx hx; cases hh
        | map i => obtain ⟨_, _, _, hh⟩ := V_map hx; cases hh
        | yld i => obtain ⟨_, _, _, hh⟩ := hx; cases hh
        | iface t v => obtain ⟨_, hh, _⟩ := V_iface hx; cases hh
        | tup r => obtain ⟨_, hh, _⟩ := V_tup hx; cases hh
        | rone v r => obtain ⟨_, _, hh, _⟩ := hx; cases hh
        | rpk k n d r => obtain ⟨_, _, hh, _⟩ := hx; cases hh
        | _ => cases hx
      · subst e1
        cases x with
        | nili => first | exact h1 rfl | exact h2 rfl | exact h3 rfl | exact h4 rfl | exact h5 rfl
        | func f p q => obtain ⟨_, _, _, hh, _⟩ := V_func hx; cases hh
        | str n d => obtain ⟨_, _, hh, _⟩ := V_str hx; cases hh
        | ptr i o => obtain ⟨_, _, _, hh⟩ := V_ptr hx; cases hh
        | slice a b c d => obtain ⟨_, _, _, _, hh⟩ := V_slice hx; cases hh
        | slx a b c d => obtain ⟨_, _, _, _, _, hh, _⟩ := V_slx hx; cases hh
        | map i => obtain ⟨_, _, _, hh⟩ := V_map hx; cases hh
        | yld i => obtain ⟨_, _, _, hh⟩ := hx; cases hh
        | iface t v => obtain ⟨_, hh, _⟩ := V_iface hx; cases hh
        | agg r => obtain ⟨_, hh, _⟩ := V_agg hx; cases hh
        | tup r => obtain ⟨_, hh, _⟩ := V_tup hx; cases hh
        | rone v r => obtain ⟨_, _, hh, _⟩ := hx; cases hh
        | rpk k n d r => obtain ⟨_, _, hh, _⟩ := hx; cases hh
        | _ => cases hx
  · rename_i hq
    unfold eqGuard
    cases op <;> first | (exfalso; exact hq rfl) | simp

/-! ### Unary -/
noncomputable def unA (op : UnOp) (x : AV) : Option AV := match op, x with
  | .neg, .int k n => some (subZ k 0 n)
  | .xor, .int k (.ofNat m) => some (wrapN k (Nat.xor (Nat.sub (kMod k) 1) (Nat.mod m (kMod k))))
  | .not, .bool b => some (.bool (notB b))
  | _, _ => none
theorem unA_rel {P : Program} {E : Env} {op : UnOp} {x v : AV} {cx : Value} (hx : V E x cx) (h : unA op x = some v) (w : World) : ∃ c, (Op.unary op cx).run P w = .ok c w ∧ V E v c := by
  unfold unA at h
  split at h
  · rename_i k n
    cases h
    obtain rfl := V_int hx
    exact ⟨.int k (k.wrap (0 - n)), by simp [Op.unary, Op.intArith], by rw [subZ_eq]; rfl⟩
  · rename_i k m
    cases h
    obtain rfl := V_int hx
    refine ⟨.int k (k.wrap (BitVec.ofInt k.bits (if k.signed then -1 else k.max) ^^^ BitVec.ofInt k.bits (Int.ofNat m)).toNat), by simp [Op.unary, Op.intBits], ?_⟩
    rw [wrapN_eq, kMod_eq]
    show (Sum.inl _ : Sum Value (List Value)) = _
    congr 3
    rw [ofInt_nat, BitVec.toNat_xor, BitVec.toNat_ofNat]
    have : (BitVec.ofInt k.bits (if k.signed then -1 else k.max)).toNat = 2 ^ k.bits - 1 := by
      cases k <;> decide
    rw [this]; rfl
  · rename_i b
    cases h
    obtain rfl := V_bool hx
    exact ⟨.bool (!b), by simp [Op.unary], by rw [notB_eq]; rfl⟩
  · cases h

/-! ### Addresses and parts -/
section addr
variable (P : Program)
noncomputable def fieldOff (s : TypeId) (f : Nat) : Option Nat :=
  obind (P.underlying s) fun u => match u with
    | .struct fs => obind fs[f]? fun fd => obind (szOf P fd.type) fun z => match z with | 0 => none | _ + 1 => some fd.offset
    | _ => none
noncomputable def fieldA (s : TypeId) (x : AV) (f : Nat) : Option AV := match x with
  | .ptr id off => obind (fieldOff P s f) fun k => some (forceN (Nat.add off k) (.ptr id))
  | _ => none
noncomputable def asNat (x : AV) : Option Nat := match x with
  | .int _ (.ofNat i) => some i
  | _ => none
noncomputable def elemOf' (t : TypeId) : Option (Option Nat × TypeId) :=
  obind (P.underlying t) fun u => match u with
    | .array n e => some (some n, e)
    | .slice e => some (none, e)
    | _ => none
noncomputable def idxA (t : TypeId) (x ix : AV) : Option AV :=
  obind (asNat ix) fun i => obind (elemOf' P t) fun p => obind (szOf P p.2) fun z => match x with
    | .ptr id off => (match p.1 with
      | some n => cnd (Nat.blt i n) (some (forceN (Nat.add off (Nat.mul i z)) (.ptr id))) none
      | none => none)
    | .slice id off len _ => (match p.1 with
      | some _ => none
      | none => cnd (Nat.blt i len) (some (forceN (Nat.add off (Nat.mul i z)) (.ptr id))) none)
    | .slx id off len _ => (match p.1 with
      | some _ => none
      | none => cnd (Nat.blt i len) (some (forceN (Nat.add off (Nat.mul i z)) (.ptr id))) none)
    | _ => none
noncomputable def idxV (t : TypeId) (x ix : AV) : Option AV :=
  obind (asNat ix) fun i => obind (P.underlying t) fun u => match u, x with
    | .array n e, .agg r => cnd (Nat.blt i n) (obind (szOf P e) fun z => partA P e r (Nat.mul i z)) none
    | .string, .str n d => cnd (Nat.blt i n) (some (forceN (digit 8 d i) fun b => .int .u8 (.ofNat b))) none
    | _, _ => none
noncomputable def fldV (t : TypeId) (x : AV) (f : Nat) : Option AV :=
  obind (P.underlying t) fun u => match u, x with
    | .struct fs, .agg r => obind fs[f]? fun fd => partA P fd.type r fd.offset
    | _, _ => none
end addr

theorem asNat_rel {E : Env} {x : AV} {i : Nat} {c : Value} (h : asNat x = some i) (hx : V E x c) : ∃ k, c = .int k (i : Int) := by
  unfold asNat at h
  split at h
  · cases h; exact ⟨_, V_int hx⟩
  · cases h

theorem fieldA_rel {P : Program} {E : Env} {s : TypeId} {x v : AV} {f : Nat} {cx : Value} (hx : V E x cx) (h : fieldA P s x f = some v) (w : World) :
    ∃ c, (Instr.fieldAt s cx f).run P w = .ok c w ∧ V E v c := by
  unfold fieldA at h
  split at h
  · rename_i id off
    obtain ⟨k, h1, h2⟩ := obind_some h
    rw [forceN_eq] at h2; cases h2
    obtain ⟨b, z, he, rfl⟩ := V_ptr hx
    unfold fieldOff at h1
    obtain ⟨u, hu, h3⟩ := obind_some h1
    cases u <;> simp only at h3 <;> try (cases h3; done)
    rename_i fs
    obtain ⟨fd, hf, h4⟩ := obind_some h3
    obtain ⟨n, hn, h5⟩ := obind_some h4
    cases n with
    | zero => cases h5
    | succ n =>
      cases h5
      refine ⟨.pointer (some ⟨b, off + fd.offset, none⟩), ?_, b, z, he, rfl⟩
      simp [Instr.fieldAt, run_underlying hu, hf, Instr.sureAddr, fieldPlace, run_sizeOf' hn, add_off]
  · cases h

theorem idxA_rel {P : Program} {E : Env} {t : TypeId} {x ix v : AV} {cx ci : Value} (hx : V E x cx) (hi : V E ix ci) (h : idxA P t x ix = some v) (w : World) :
    ∃ c, (Instr.indexAt t cx ci).run P w = .ok c w ∧ V E v c := by
  unfold idxA at h
  obtain ⟨i, h1, h2⟩ := obind_some h
  obtain ⟨p, h3, h4⟩ := obind_some h2
  obtain ⟨z, hz, h5⟩ := obind_some h4
  obtain ⟨k, rfl⟩ := asNat_rel h1 hi
  unfold elemOf' at h3
  obtain ⟨u, hu, h6⟩ := obind_some h3
  split at h5
  · rename_i id off
    cases u <;> simp only at h6 <;> try (cases h6; done)
    · cases h6; cases h5
    · rename_i n e
      cases h6
      dsimp only at h5 hz
      rw [cnd_eq] at h5
      split at h5
      · rename_i hlt
        have hlt' : i < n := blt_iff.1 hlt
        rw [forceN_eq] at h5; cases h5
        obtain ⟨b, zz, he, rfl⟩ := V_ptr hx
        refine ⟨.pointer (some ⟨b, off + i * z, none⟩), ?_, b, zz, he, rfl⟩
        simp [Instr.indexAt, asIntOf, run_underlying hu, Instr.sureAddr, hlt', run_sizeOf' hz, add_off]
      · cases h5
  · rename_i id off len cap
    cases u <;> simp only at h6 <;> try (cases h6; done)
    · rename_i e
      cases h6
      dsimp only at h5 hz
      rw [cnd_eq] at h5
      split at h5
      · rename_i hlt
        have hlt' : i < len := blt_iff.1 hlt
        rw [forceN_eq] at h5; cases h5
        obtain ⟨_, b, zz, he, rfl⟩ := V_slice hx
        refine ⟨.pointer (some ⟨b, off + i * z, none⟩), ?_, b, zz, he, rfl⟩
        simp [Instr.indexAt, asIntOf, run_underlying hu, hlt', run_sizeOf' hz, add_off]
      · cases h5
    · cases h6; cases h5
  · rename_i id off len cap
    cases u <;> simp only at h6 <;> try (cases h6; done)
    · rename_i e
      cases h6
      dsimp only at h5 hz
      rw [cnd_eq] at h5
      split at h5
      · rename_i hlt
        have hlt' : i < len := blt_iff.1 hlt
        rw [forceN_eq] at h5; cases h5
        obtain ⟨b, zz, o', cc, he, rfl, hlc, hor⟩ := V_slx hx
        obtain ⟨rfl, _⟩ : o' = off ∧ off + cc * cap ≤ zz := by
          rcases hor with h | h
          · exact h
          · omega
        refine ⟨.pointer (some ⟨b, o' + i * z, none⟩), ?_, b, zz, he, rfl⟩
        simp [Instr.indexAt, asIntOf, run_underlying hu, hlt', run_sizeOf' hz, add_off]
      · cases h5
    · cases h6; cases h5
  · cases h5

theorem idxV_rel {P : Program} {E : Env} {t : TypeId} {x ix v : AV} {cx ci : Value} (hx : V E x cx) (hi : V E ix ci) (h : idxV P t x ix = some v) (w : World) :
    ∃ c, (Instr.index t cx ci).run P w = .ok c w ∧ V E v c := by
  unfold idxV at h
  obtain ⟨i, h1, h2⟩ := obind_some h
  obtain ⟨u, hu, h3⟩ := obind_some h2
  obtain ⟨k, rfl⟩ := asNat_rel h1 hi
  split at h3
  · rename_i n e r
    rw [cnd_eq] at h3
    split at h3
    · rename_i hlt
      have hlt' : i < n := blt_iff.1 hlt
      obtain ⟨z, hz, h4⟩ := obind_some h3
      obtain ⟨cs, rfl, hr⟩ := V_agg hx
      obtain ⟨c, g1, g2⟩ := part_run hr h4 w
      refine ⟨c, ?_, g2⟩
      have g1' : (part e cs (i * z)).run P w = .ok c w := g1
      simp [Instr.index, asIntOf, run_underlying hu, hlt', run_sizeOf' hz, g1']
    · cases h3
  · rename_i n d
    rw [cnd_eq] at h3
    split at h3
    · rename_i hlt
      have hlt' : i < n := blt_iff.1 hlt
      rw [forceN_eq] at h3; cases h3
      obtain ⟨hd, s, rfl, hs⟩ := V_str hx
      have hsz := str_size hs
      have hget : s[i]? = some (UInt8.ofNat (digit 8 d i)) := by
        have h5 : s.data.toList[i]? = some (UInt8.ofNat (digit 8 d i)) := by
          rw [hs]; unfold bytesOf; rw [List.getElem?_map, toL_get _ _ _ _ hlt']; rfl
        rw [Array.getElem?_toList] at h5
        have hi' : i < s.size := by omega
        rw [getElem?_pos s i hi']
        rw [getElem?_pos s.data i hi'] at h5
        exact h5
      have hdl := digit_lt 8 d i
      refine ⟨.int .u8 ((UInt8.ofNat (digit 8 d i)).toNat : Int), ?_, ?_⟩
      · simp [Instr.index, asIntOf, run_underlying hu, hget]
      · show (Sum.inl _ : Sum Value (List Value)) = _
        congr 2
        show ((UInt8.ofNat (digit 8 d i)).toNat : Int) = Int.ofNat (digit 8 d i)
        simp at hdl ⊢; omega
    · cases h3
  · cases h3

theorem fldV_rel {P : Program} {E : Env} {t : TypeId} {x v : AV} {f : Nat} {cx : Value} (hx : V E x cx) (h : fldV P t x f = some v) (w : World) :
    ∃ c, (Instr.field t cx f).run P w = .ok c w ∧ V E v c := by
  unfold fldV at h
  obtain ⟨u, hu, h3⟩ := obind_some h
  split at h3
  · obtain ⟨fd, hf, h4⟩ := obind_some h3
    obtain ⟨cs, rfl, hr⟩ := V_agg hx
    obtain ⟨c, g1, g2⟩ := part_run hr h4 w
    exact ⟨c, by simp [Instr.field, run_underlying hu, hf, asAgg, g1], g2⟩
  · cases h3

end Go.Ev
