/- What types tell; constants; frames; numbers and texts. -/
import Derived.Test.YtjjnffgpfiokiaaGreatDoorEvD
import Derived.Laws.Entries
namespace Go.Ev
open Go.RowKit

/-! ### Tables -/
section tables
variable (P : Program)
noncomputable def szOf (t : TypeId) : Option Nat := omap (fun i : TypeInfo => i.size) (P.info? t)
noncomputable def aggD : TypeDesc → Bool
  | .struct _ => true
  | .array _ _ => true
  | _ => false
noncomputable def isAggB (t : TypeId) : Option Bool := omap aggD (P.underlying t)
end tables
theorem run_sizeOf' {P : Program} {t : TypeId} {n : Nat} (h : szOf P t = some n) (w : World) : (sizeOf t).run P w = .ok n w := by
  unfold szOf at h
  rw [omap_eq, Option.map_eq_some_iff] at h
  obtain ⟨i, hi, rfl⟩ := h
  simp [sizeOf, typeInfo, hi]
theorem run_isAgg' {P : Program} {t : TypeId} {b : Bool} (h : isAggB P t = some b) (w : World) : (isAgg t).run P w = .ok b w := by
  unfold isAggB at h
  rw [omap_eq, Option.map_eq_some_iff] at h
  obtain ⟨d, hd, rfl⟩ := h
  simp only [isAgg, Sem.run_bind, run_underlying hd, Result.andThen_ok]
  cases d <;> rfl

/-! ### Constants -/
noncomputable def packA (v r : AV) : AV :=
  Option.rec (motive := fun _ => AV) (Option.rec (motive := fun _ => AV) (.rone v r) (fun x => joinP false 1 x r) (punpA v)) (fun x => joinP true 1 x r) (punpB v)
theorem one_map (k : Bool) (x : Nat) (hx : x < 2 ^ wd k) : (toL (wd k) 1 x).map (pv k) = [pv k x] := by
  simp only [toL, List.map_cons, List.map_nil]
  rw [Nat.mod_eq_of_lt hx]
theorem packA_rel {E : Env} {v r : AV} {c : Value} {l : List Value} (hv : V E v c) (hr : R E r l) : R E (packA v r) (c :: l) := by
  unfold packA
  cases hB : punpB v with
  | some x =>
    obtain ⟨h1, rfl⟩ := punp_rel (k := true) (v := v) (by unfold punp; rw [cnd_eq]; exact hB) hv
    have := joinP_rel (k := true) (n := 1) (by simpa using h1) hr
    rw [one_map true x h1] at this
    exact this
  | none =>
    cases hA : punpA v with
    | some x =>
      obtain ⟨h1, rfl⟩ := punp_rel (k := false) (v := v) (by unfold punp; rw [cnd_eq]; exact hA) hv
      have := joinP_rel (k := false) (n := 1) (by simpa using h1) hr
      rw [one_map false x h1] at this
      exact this
    | none => exact ⟨c, l, rfl, hv, hr⟩

/-- A text's bytes as one number. -/
noncomputable def numOf (l : List UInt8) : Nat := List.rec (motive := fun _ => Nat) 0 (fun b _ ih => Nat.add b.toNat (Nat.mul 256 ih)) l
theorem numOf_lt : ∀ l : List UInt8, numOf l < 2 ^ (8 * l.length)
  | [] => by decide
  | b :: l => by
    have h := numOf_lt l
    show b.toNat + 256 * numOf l < 2 ^ (8 * (l.length + 1))
    rw [pow_split]
    have hb := b.toNat_lt
    have : numOf l + 1 ≤ 2 ^ (8 * l.length) := h
    have h2 : 2 ^ 8 * (numOf l + 1) ≤ 2 ^ 8 * 2 ^ (8 * l.length) := Nat.mul_le_mul_left _ this
    omega
theorem bytesOf_numOf : ∀ l : List UInt8, bytesOf l.length (numOf l) = l
  | [] => rfl
  | b :: l => by
    have ih := bytesOf_numOf l
    unfold bytesOf at ih ⊢
    have e : numOf (b :: l) = b.toNat + numOf l * 2 ^ 8 := by
      show b.toNat + 256 * numOf l = _
      rw [Nat.mul_comm]
    rw [e]
    simp only [List.length_cons, toL, List.map_cons]
    have hb := b.toNat_lt
    rw [Nat.add_mul_mod_self_right, Nat.add_mul_div_right _ _ (by decide), Nat.mod_eq_of_lt (by omega), Nat.div_eq_of_lt (by omega), Nat.zero_add, ih]
    simp
noncomputable def strA (s : ByteArray) : AV := forceN (s.data.toList.length) fun n => forceN (numOf s.data.toList) fun d => .str n d
theorem strA_rel (E : Env) (s : ByteArray) : V E (strA s) (.string s) := by
  unfold strA; rw [forceN_eq, forceN_eq]
  exact ⟨numOf_lt _, s, rfl, (bytesOf_numOf _).symm⟩

noncomputable def okFn : Fn → Bool
  | .yield _ => false
  | _ => true
noncomputable def isNilArr (a : Array Value) : Bool := match a.toList with | [] => true | _ => false
theorem isNilArr_eq {a : Array Value} (h : isNilArr a = true) : a.toList = [] := by
  unfold isNilArr at h
  split at h
  · assumption
  · cases h

noncomputable def absL (f : Value → Option AV) (l : List Value) : Option AV :=
  List.rec (motive := fun _ => Option AV) (some .rnil) (fun v _ ih => obind (f v) fun a => omap (packA a) ih) l
noncomputable def isZ8 : Value → Bool
  | .int .u8 n => Int.rec (motive := fun _ => Bool) (fun x => Nat.beq x 0) (fun _ => false) n
  | _ => false
theorem isZ8_eq {v : Value} (h : isZ8 v = true) : v = pv true 0 := by
  unfold isZ8 at h
  split at h
  · rename_i n
    cases n with
    | ofNat x =>
      have hx : x = 0 := Nat.eq_of_beq_eq_true h
      subst hx
      rfl
    | negSucc x => cases h
  · cases h
noncomputable def flush (n : Nat) (r : AV) : AV := cnd (Nat.beq n 0) r (joinP true n 0 r)
theorem flush_rel {E : Env} {n : Nat} {r : AV} {l : List Value} (h : R E r l) : R E (flush n r) (List.replicate n (pv true 0) ++ l) := by
  unfold flush
  rw [cnd_eq]
  split
  · rename_i e
    obtain rfl := Nat.eq_of_beq_eq_true e
    exact h
  · have := joinP_rel (k := true) (n := n) (d := 0) (Nat.two_pow_pos _) h
    rwa [toL_zero, List.map_replicate] at this
/-- As absL, a run of zero bytes counted first. -/
noncomputable def absF (f : Value → Option AV) (l : List Value) : Nat → Option AV :=
  List.rec (motive := fun _ => Nat → Option AV) (fun n => some (flush n .rnil)) (fun v l' ih n => cnd (isZ8 v) (forceN (Nat.succ n) ih) (omap (flush n) (absL f (v :: l')))) l
noncomputable def absStep (ih : Value → Option AV) : Value → Option AV
  | .bool b => some (.bool b)
  | .int k n => some (.int k n)
  | .string s => some (strA s)
  | .pointer none => some .nilp
  | .slice none 0 0 => some .nils
  | .map none => some .nilm
  | .nilFunc => some .nilf
  | .nilIface => some .nili
  | .iface t v => omap (.iface t) (ih v)
  | .agg cs => omap .agg (absF ih cs.toList 0)
  | .tuple cs => omap .tup (absL ih cs.toList)
  | .func fn p q => cnd (okFn fn) (cnd (isNilArr p) (cnd (isNilArr q) (some (.func fn .rnil .rnil)) none) none) none
  | _ => none
noncomputable def absV (f : Nat) : Value → Option AV := Nat.rec (motive := fun _ => Value → Option AV) (fun _ => none) (fun _ ih => absStep ih) f

theorem absL_rel {E : Env} {f : Value → Option AV} (hf : ∀ v a, f v = some a → V E a v) : ∀ {l : List Value} {a : AV}, absL f l = some a → R E a l
  | [], a, h => by cases h; rfl
  | v :: l, a, h => by
    have h' : (obind (f v) fun a => omap (packA a) (absL f l)) = some a := h
    obtain ⟨x, h1, h2⟩ := obind_some h'
    rw [omap_eq, Option.map_eq_some_iff] at h2
    obtain ⟨r, h3, rfl⟩ := h2
    exact packA_rel (hf _ _ h1) (absL_rel hf h3)
theorem absF_rel {E : Env} {f : Value → Option AV} (hf : ∀ v a, f v = some a → V E a v) : ∀ {l : List Value} {n : Nat} {a : AV}, absF f l n = some a → R E a (List.replicate n (pv true 0) ++ l)
  | [], n, a, h => by
    have h' : some (flush n .rnil) = some a := h
    cases h'
    exact flush_rel rfl
  | v :: l, n, a, h => by
    have h' : cnd (isZ8 v) (forceN (Nat.succ n) (absF f l)) (omap (flush n) (absL f (v :: l))) = some a := h
    rw [cnd_eq] at h'
    split at h'
    · rename_i hz
      rw [forceN_eq] at h'
      have := absF_rel hf h'
      rw [isZ8_eq hz]
      rw [Nat.succ_eq_add_one, List.replicate_succ', List.append_assoc] at this
      exact this
    · rw [omap_eq, Option.map_eq_some_iff] at h'
      obtain ⟨r, h3, rfl⟩ := h'
      exact flush_rel (absL_rel hf h3)
theorem absV_rel (E : Env) : ∀ (f : Nat) (v : Value) (a : AV), absV f v = some a → V E a v
  | 0, _, _, h => by cases h
  | f + 1, v, a, h => by
    have ih := absV_rel E f
    have h' : absStep (absV f) v = some a := h
    unfold absStep at h'
    split at h'
    · cases h'; rfl
    · cases h'; rfl
    · cases h'; exact strA_rel E _
    · cases h'; rfl
    · cases h'; rfl
    · cases h'; rfl
    · cases h'; rfl
    · cases h'; rfl
    · rw [omap_eq, Option.map_eq_some_iff] at h'
      obtain ⟨r, h3, rfl⟩ := h'
      exact ⟨_, rfl, ih _ _ h3⟩
    · rw [omap_eq, Option.map_eq_some_iff] at h'
      obtain ⟨r, h3, rfl⟩ := h'
      exact ⟨_, rfl, absF_rel (n := 0) ih h3⟩
    · rw [omap_eq, Option.map_eq_some_iff] at h'
      obtain ⟨r, h3, rfl⟩ := h'
      exact ⟨_, rfl, absL_rel ih h3⟩
    · rename_i fn p q
      simp only [cnd_eq] at h'
      split at h'
      · rename_i h1
        split at h'
        · rename_i h2
          split at h'
          · rename_i h3
            cases h'
            refine ⟨(fun l e => by subst e; cases h1), p, q, rfl, ?_, ?_⟩
            · rw [isNilArr_eq h2]; rfl
            · rw [isNilArr_eq h3]; rfl
          · cases h'
        · cases h'
      · cases h'
    · cases h'

noncomputable def zeroA (P : Program) (t : TypeId) : Option AV := obind (P.info? t) fun i => obind i.zero (absV 64)
theorem zeroA_rel {P : Program} {t : TypeId} {a : AV} (h : zeroA P t = some a) (E : Env) : ∃ z, (∀ w, (zeroValue t).run P w = .ok z w) ∧ V E a z := by
  unfold zeroA at h
  obtain ⟨i, h1, h2⟩ := obind_some h
  obtain ⟨z, h3, h4⟩ := obind_some h2
  exact ⟨z, fun w => by simp [zeroValue, typeInfo, h1, h3], absV_rel E _ _ _ h4⟩

/-! ### Frames -/
def FR (E : Env) (T : Fm) (a : Act) : Prop :=
  TrRel E T.n T.tr a.tmps ∧ F2 (fun id d => ∃ b z, E id = some (b, z) ∧ d = ({ target := .collected b, args := #[] } : Deferred)) T.marks a.defers
theorem FR.mono {E E' : Env} (h : E.le E') {T : Fm} {a : Act} (k : FR E T a) : FR E' T a :=
  ⟨k.1.mono h, k.2.imp fun _ _ ⟨b, z, h1, h2⟩ => ⟨b, z, h _ _ h1, h2⟩⟩
theorem FR.get {E : Env} {T : Fm} {a : Act} (h : FR E T a) (t : Nat) : V E (T.get t) (a.tmps.getD t undef) := h.1.2 t

noncomputable def fmPut (T : Fm) (v : AV) (d : Option Tmp) : Option Fm :=
  Option.rec (motive := fun _ => Option Fm) (some T) (fun d => cnd (Nat.blt d T.n) (some ⟨T.n, T.tr.put d (some v), T.marks⟩) none) d
theorem fmPut_rel {E : Env} {T T' : Fm} {a : Act} {v : AV} {c : Value} {d : Option Tmp} (h : FR E T a) (hv : V E v c) (hp : fmPut T v d = some T') : FR E T' (a.put d c) := by
  cases d with
  | none => cases hp; exact h
  | some d =>
    have hp' : cnd (Nat.blt d T.n) (some (⟨T.n, T.tr.put d (some v), T.marks⟩ : Fm)) none = some T' := hp
    rw [cnd_eq] at hp'
    split at hp'
    · rename_i hd
      cases hp'
      have hd' : d < T.n := by simpa [Nat.blt_eq] using hd
      refine ⟨⟨by simp [Act.put, h.1.1], fun t => ?_⟩, h.2⟩
      simp only [Act.put]
      rw [Tr.get_put]
      by_cases e : t = d
      · subst e
        rw [if_pos rfl]
        rw [Array.getD_eq_getD_getElem?, Array.getElem?_setIfInBounds_self_of_lt (by rw [h.1.1]; exact hd')]
        exact hv
      · rw [if_neg e]
        rw [Array.getD_eq_getD_getElem?, Array.getElem?_setIfInBounds_ne (fun e' => e e'.symm), ← Array.getD_eq_getD_getElem?]
        exact h.get t
    · cases hp'
theorem fmPut_n {T T' : Fm} {v : AV} {d : Option Tmp} (hp : fmPut T v d = some T') : T'.n = T.n ∧ T'.marks = T.marks := by
  cases d with
  | none => cases hp; exact ⟨rfl, rfl⟩
  | some d =>
    have hp' : cnd (Nat.blt d T.n) (some (⟨T.n, T.tr.put d (some v), T.marks⟩ : Fm)) none = some T' := hp
    rw [cnd_eq] at hp'
    split at hp'
    · cases hp'; exact ⟨rfl, rfl⟩
    · cases hp'

noncomputable def opd (T : Fm) (o : Operand) : Option AV :=
  Operand.rec (motive := fun _ => Option AV) (fun t => some (T.get t)) (fun v => absV 64 v) (fun g => some (.gptr g 0)) (fun f => some (.func (.func f) .rnil .rnil)) o
theorem opd_rel {E : Env} {T : Fm} {a : Act} {o : Operand} {v : AV} (h : FR E T a) (ho : opd T o = some v) : V E v (a.eval o) := by
  cases o with
  | tmp t => cases ho; exact h.get t
  | const c => exact show V E v c from absV_rel E 64 c v ho
  | global g => cases ho; rfl
  | func f => cases ho; exact ⟨(fun l e => by cases e), #[], #[], rfl, rfl, rfl⟩

/-! ### Numbers -/
noncomputable def kI (k : IntKind) : Nat := IntKind.rec (motive := fun _ => Nat) 0 1 2 3 4 5 6 7 k
noncomputable def kEq (a b : IntKind) : Bool := Nat.beq (kI a) (kI b)
theorem kEq_eq {a b : IntKind} (h : kEq a b = true) : a = b := by cases a <;> cases b <;> first | rfl | cases h
/-- 2 to the kind's bits; half of it where it is signed: what is below is no wrap. -/
noncomputable def kMod (k : IntKind) : Nat := IntKind.rec (motive := fun _ => Nat) 256 65536 4294967296 18446744073709551616 256 65536 4294967296 18446744073709551616 k
noncomputable def kLim (k : IntKind) : Nat := IntKind.rec (motive := fun _ => Nat) 128 32768 2147483648 9223372036854775808 256 65536 4294967296 18446744073709551616 k
noncomputable def kSig (k : IntKind) : Bool := IntKind.rec (motive := fun _ => Bool) true true true true false false false false k

noncomputable def wrapN (k : IntKind) (m : Nat) : AV :=
  cnd (Nat.blt m (kLim k)) (forceN m fun x => .int k (Int.ofNat x))
    (forceN (Nat.mod m (kMod k)) fun r => cnd (Nat.blt r (kLim k)) (.int k (Int.ofNat r)) (forceN (Nat.sub (Nat.sub (kMod k) r) 1) fun x => .int k (Int.negSucc x)))
noncomputable def wrapZ (k : IntKind) (z : Int) : AV :=
  Int.rec (motive := fun _ => AV) (fun m => wrapN k m)
    (fun m => cnd (cnd (kSig k) (Nat.blt m (kLim k)) false) (forceN m fun x => .int k (Int.negSucc x)) (.int k (k.wrap (Int.negSucc m)))) z

theorem blt_iff {a b : Nat} : (Nat.blt a b = true) ↔ a < b := by simp [Nat.blt_eq]
theorem wrapN_eq (k : IntKind) (m : Nat) : wrapN k m = .int k (k.wrap (Int.ofNat m)) := by
  unfold wrapN
  have em : ∀ a b : Nat, Nat.mod a b = a % b := fun _ _ => rfl
  have es : ∀ a b : Nat, Nat.sub a b = a - b := fun _ _ => rfl
  simp only [forceN_eq, cnd_eq, em, es]
  by_cases h1 : m < kLim k
  · rw [if_pos (blt_iff.2 h1)]
    congr 1
    cases k <;> simp only [kLim] at h1 <;> simp [IntKind.wrap, IntKind.bits, IntKind.signed] <;> omega
  · rw [if_neg (fun h => h1 (blt_iff.1 h))]
    by_cases h2 : m % kMod k < kLim k
    · rw [if_pos (blt_iff.2 h2)]
      congr 1
      cases k <;> simp only [kLim, kMod] at h1 h2 <;> simp [IntKind.wrap, IntKind.bits, IntKind.signed, kMod] <;> omega
    · rw [if_neg (fun h => h2 (blt_iff.1 h))]
      congr 1
      cases k <;> simp only [kLim, kMod] at h1 h2 <;> simp [IntKind.wrap, IntKind.bits, IntKind.signed, kMod] <;> omega

theorem wrapZ_eq (k : IntKind) (z : Int) : wrapZ k z = .int k (k.wrap z) := by
  cases z with
  | ofNat m => exact wrapN_eq k m
  | negSucc m =>
    show cnd (cnd (kSig k) (Nat.blt m (kLim k)) false) (forceN m fun x => AV.int k (Int.negSucc x)) (AV.int k (k.wrap (Int.negSucc m))) = _
    simp only [cnd_eq, forceN_eq]
    by_cases hs : kSig k = true
    · rw [if_pos hs]
      by_cases h1 : m < kLim k
      · rw [if_pos (blt_iff.2 h1)]
        congr 1
        rw [Int.negSucc_eq]
        have key : ∀ (b : Nat) (L M : Int), (m : Int) < L → M = 2 * L → (2 : Int) ^ b = M → (2 : Int) ^ (b - 1) = L →
            -((m : Int) + 1) = (if (true && decide ((-((m : Int) + 1)) % 2 ^ b ≥ 2 ^ (b - 1))) = true then (-((m : Int) + 1)) % 2 ^ b - 2 ^ b else (-((m : Int) + 1)) % 2 ^ b) := by
          intro b L M h2 h3 h4 h5
          rw [h4, h5, h3]
          simp only [Bool.true_and, decide_eq_true_eq]
          have e : (-((m : Int) + 1)) % (2 * L) = 2 * L - (m + 1) := by
            rw [Int.emod_eq_add_self_emod, Int.emod_eq_of_lt (by omega) (by omega)]; omega
          rw [e, if_pos (by omega)]; omega
        cases k
        case i8 => exact key 8 128 256 (by have : m < 128 := h1; omega) (by decide) (by decide) (by decide)
        case i16 => exact key 16 32768 65536 (by have : m < 32768 := h1; omega) (by decide) (by decide) (by decide)
        case i32 => exact key 32 2147483648 4294967296 (by have : m < 2147483648 := h1; omega) (by decide) (by decide) (by decide)
        case i64 => exact key 64 9223372036854775808 18446744073709551616 (by have : m < 9223372036854775808 := h1; omega) (by decide) (by decide) (by decide)
        all_goals cases hs
      · rw [if_neg (fun h => h1 (blt_iff.1 h))]
    · rw [if_neg hs]; rfl

end Go.Ev
