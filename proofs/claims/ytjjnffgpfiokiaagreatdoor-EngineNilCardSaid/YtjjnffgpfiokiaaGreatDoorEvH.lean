/- Texts; equality by types; binary and unary operators. -/
import Derived.Test.YtjjnffgpfiokiaaGreatDoorEvG
namespace Go.Ev
open Go.RowKit

theorem bytesOf_length (n d : Nat) : (bytesOf n d).length = n := by simp [bytesOf, toL_length]
theorem bytesOf_cat (n m d e : Nat) (h : d < 2 ^ (8 * n)) : bytesOf (n + m) (catD 8 n d e) = bytesOf n d ++ bytesOf m e := by
  unfold bytesOf; rw [toL_cat _ _ _ _ _ h, List.map_append]
theorem u8_inj {x y : Nat} (hx : x < 256) (hy : y < 256) (h : UInt8.ofNat x = UInt8.ofNat y) : x = y := by
  have := congrArg UInt8.toNat h
  simp at this; omega
theorem map_u8_inj : ∀ {l m : List Nat}, (∀ x ∈ l, x < 256) → (∀ x ∈ m, x < 256) → l.map UInt8.ofNat = m.map UInt8.ofNat → l = m
  | [], [], _, _, _ => rfl
  | [], _ :: _, _, _, h => by simp at h
  | _ :: _, [], _, _, h => by simp at h
  | x :: l, y :: m, hl, hm, h => by
    simp only [List.map_cons, List.cons.injEq] at h
    rw [u8_inj (hl x (by simp)) (hm y (by simp)) h.1, map_u8_inj (fun a ha => hl a (by simp [ha])) (fun a ha => hm a (by simp [ha])) h.2]
theorem bytesOf_inj {n m d e : Nat} (hd : d < 2 ^ (8 * n)) (he : e < 2 ^ (8 * m)) (h : bytesOf n d = bytesOf m e) : n = m ∧ d = e := by
  have h1 := congrArg List.length h
  rw [bytesOf_length, bytesOf_length] at h1
  subst h1
  exact ⟨rfl, toL_inj 8 n d e hd he (map_u8_inj (fun x hx => toL_lt 8 n d x hx) (fun x hx => toL_lt 8 n e x hx) h)⟩
theorem str_size {n d : Nat} {s : ByteArray} (h : s.data.toList = bytesOf n d) : s.size = n := by
  have := congrArg List.length h
  rw [bytesOf_length, Array.length_toList] at this
  exact this

noncomputable def seq (n d m e : Nat) : Bool := cnd (Nat.beq n m) (Nat.beq d e) false
theorem seq_iff {n d m e : Nat} : seq n d m e = true ↔ n = m ∧ d = e := by
  unfold seq; rw [cnd_eq]
  split
  · rename_i h; rw [Nat.beq_eq]; exact ⟨fun k => ⟨by simpa using h, k⟩, fun k => k.2⟩
  · rename_i h; exact ⟨(fun k => by cases k), fun k => absurd (by simpa using k.1) h⟩
noncomputable def sLt : Nat → Nat → Nat → Nat → Bool
  | 0, _, m, _ => Nat.blt 0 m
  | _ + 1, _, 0, _ => false
  | n + 1, d, m + 1, e => cnd (Nat.blt (d % 256) (e % 256)) true (cnd (Nat.beq (d % 256) (e % 256)) (sLt n (d / 256) m (e / 256)) false)
theorem sLt_eq : ∀ n d m e, sLt n d m e = Op.bytesLess (bytesOf n d) (bytesOf m e)
  | 0, _, 0, _ => rfl
  | 0, _, m + 1, _ => by simp [sLt, bytesOf, toL, Op.bytesLess]
  | n + 1, d, 0, e => by simp [sLt, bytesOf, toL, Op.bytesLess]
  | n + 1, d, m + 1, e => by
    have ih := sLt_eq n (d / 256) m (e / 256)
    unfold bytesOf at ih ⊢
    simp only [sLt, toL, List.map_cons, Op.bytesLess]
    rw [ih, cnd_eq, cnd_eq]
    have h1 : d % 256 < 256 := Nat.mod_lt _ (by decide)
    have h2 : e % 256 < 256 := Nat.mod_lt _ (by decide)
    have hlt : (UInt8.ofNat (d % 2 ^ 8) < UInt8.ofNat (e % 2 ^ 8)) ↔ d % 256 < e % 256 := by
      rw [UInt8.lt_iff_toNat_lt]; simp
    have heq : (UInt8.ofNat (d % 2 ^ 8) == UInt8.ofNat (e % 2 ^ 8)) = Nat.beq (d % 256) (e % 256) := by
      rw [Bool.eq_iff_iff, beq_iff_eq, Nat.beq_eq]
      exact ⟨fun h => u8_inj h1 h2 h, fun h => by show UInt8.ofNat (d % 256) = _; rw [h]⟩
    rw [heq]
    by_cases h3 : d % 256 < e % 256
    · rw [if_pos (blt_iff.2 h3)]
      simp [hlt.2 h3]
    · rw [if_neg (fun h => h3 (blt_iff.1 h))]
      have : ¬ (UInt8.ofNat (d % 2 ^ 8) < UInt8.ofNat (e % 2 ^ 8)) := fun h => h3 (hlt.1 h)
      simp only [decide_eq_false this, Bool.false_or]
      cases Nat.beq (d % 256) (e % 256) <;> simp

noncomputable def strOp (op : BinOp) (n d m e : Nat) : Option AV := match op with
  | .add => cnd (Nat.blt (Nat.add n m) 4611686018427387904) (some (forceN (catD 8 n d e) fun x => forceN (Nat.add n m) fun y => .str y x)) none
  | .eql => some (.bool (seq n d m e))
  | .neq => some (.bool (notB (seq n d m e)))
  | .lss => some (.bool (sLt n d m e))
  | .geq => some (.bool (notB (sLt n d m e)))
  | .gtr => some (.bool (notB (cnd (sLt n d m e) true (seq n d m e))))
  | .leq => some (.bool (cnd (sLt n d m e) true (seq n d m e)))
  | _ => none

theorem strOp_rel {P : Program} {E : Env} {op : BinOp} {n d m e : Nat} {v : AV} {s r : ByteArray} (hd : d < 2 ^ (8 * n)) (he : e < 2 ^ (8 * m)) (hs : s.data.toList = bytesOf n d) (hr : r.data.toList = bytesOf m e)
    (h : strOp op n d m e = some v) (t : TypeId) (w : World) : ∃ c, (binOp op t (.string s) (.string r)).run P w = .ok c w ∧ V E v c := by
  have heq : (s.toList == r.toList) = seq n d m e := by
    rw [Bool.eq_iff_iff, beq_iff_eq, ByteArray.toList_eq, ByteArray.toList_eq, hs, hr, seq_iff]
    exact ⟨fun h => bytesOf_inj hd he h, fun h => by rw [h.1, h.2]⟩
  have hlt : Op.bytesLess s.toList r.toList = sLt n d m e := by rw [ByteArray.toList_eq, ByteArray.toList_eq, hs, hr, sLt_eq]
  unfold strOp at h
  cases op <;> simp only at h
  case add =>
    rw [cnd_eq] at h
    split at h
    · rename_i hb
      rw [forceN_eq, forceN_eq] at h
      cases h
      have hb' : n + m < 4611686018427387904 := blt_iff.1 hb
      refine ⟨.string (s ++ r), ?_, catD_lt _ _ _ _ _ hd he, _, rfl, ?_⟩
      · simp only [binOp, Op.stringOp]
        rw [if_neg]
        · rfl
        · rw [str_size hs, str_size hr]; simp [IntKind.max, IntKind.signed, IntKind.bits]; omega
      · show (s ++ r).data.toList = bytesOf (n + m) (catD 8 n d e)
        rw [bytesOf_cat _ _ _ _ hd, ← hs, ← hr]; simp
    · cases h
  case eql => cases h; exact ⟨.bool (seq n d m e), by simp [binOp, Op.stringOp, heq], rfl⟩
  case neq => cases h; exact ⟨.bool (!(seq n d m e)), by simp [binOp, Op.stringOp, heq], by rw [notB_eq]; rfl⟩
  case lss => cases h; exact ⟨.bool (sLt n d m e), by simp [binOp, Op.stringOp, hlt], rfl⟩
  case geq => cases h; exact ⟨.bool (!(sLt n d m e)), by simp [binOp, Op.stringOp, hlt], by rw [notB_eq]; rfl⟩
  case leq =>
    cases h
    refine ⟨.bool (sLt n d m e || seq n d m e), by simp [binOp, Op.stringOp, hlt, heq], ?_⟩
    rw [cnd_eq]; cases sLt n d m e <;> rfl
  case gtr =>
    cases h
    refine ⟨.bool (!(sLt n d m e || seq n d m e)), by simp [binOp, Op.stringOp, hlt, heq], ?_⟩
    rw [notB_eq, cnd_eq]; cases sLt n d m e <;> rfl
  all_goals cases h

/-! ### Equality -/
section eq
variable (P : Program)
noncomputable def isStr (a b : String) : Bool := decide (a = b)
noncomputable def eqFl (f : TypeId → AV → AV → Option Bool) (r s : AV) (fs : List Field) : Option Bool :=
  List.rec (motive := fun _ => Option Bool) (some true)
    (fun fd _ ih => cnd (isStr fd.name "_") ih (obind (partA P fd.type r fd.offset) fun x => obind (partA P fd.type s fd.offset) fun y => obind (f fd.type x y) fun b => cnd b ih (some false))) fs
noncomputable def eqIt (f : AV → AV → Option Bool) (e : TypeId) (c : Nat) (r s : AV) (is : List Nat) : Option Bool :=
  List.rec (motive := fun _ => Option Bool) (some true)
    (fun i _ ih => obind (partA P e r (Nat.mul i c)) fun x => obind (partA P e s (Nat.mul i c)) fun y => obind (f x y) fun b => cnd b ih (some false)) is
/-- two rows of one packed piece each -/
noncomputable def pkEq (r s : AV) : Option Bool := match r, s with
  | .rpk k n d .rnil, .rpk k' n' d' .rnil => cnd (beqB k k') (cnd (Nat.beq n n') (some (Nat.beq d d')) none) none
  | _, _ => none
/-- without an empty piece behind the first -/
noncomputable def strip (r : AV) : AV := match r with
  | .rpk k n d (.rpk _ 0 _ .rnil) => .rpk k n d .rnil
  | r => r
noncomputable def pkTy (e : TypeId) (k : Bool) : Bool := match P.underlying e, k with
  | some (.int .u8), true => true
  | some .bool, false => true
  | _, _ => false
noncomputable def pkK (r : AV) : Bool := match r with
  | .rpk k _ _ _ => k
  | _ => false
noncomputable def pkN (r : AV) : Nat := match r with
  | .rpk _ n _ _ => n
  | _ => 0

noncomputable def aEqS (ih : TypeId → AV → AV → Option Bool) (t : TypeId) (x y : AV) : Option Bool :=
  obind (P.underlying t) fun u => match u, x, y with
    | .bool, .bool a, .bool b => some (beqB a b)
    | .int _, .int k a, .int k' b => cnd (kEq k k') (some (eqZ a b)) none
    | .string, .str n d, .str m e => some (seq n d m e)
    | .pointer _, .nilp, .nilp => some true
    | .pointer _, .nilp, .ptr _ _ => some false
    | .pointer _, .ptr _ _, .nilp => some false
    | .pointer e, .ptr i o, .ptr i' o' => cnd (Nat.beq i i') (obind (szOf P e) fun n => match n with | 0 => none | _ + 1 => some (Nat.beq o o')) none
    | .interface _, .nili, .nili => some true
    | .interface _, .nili, .iface _ _ => some false
    | .interface _, .iface _ _, .nili => some false
    | .interface _, .iface t1 v1, .iface t2 v2 => cnd (Nat.beq t1 t2) (obind (P.info? t1) fun i => cnd i.comparable (ih t1 v1 v2) none) (some false)
    | .struct fs, .agg r, .agg s => cnd (P.stoodInHeld t) none (eqFl P ih r s fs.toList)
    | .array len e, .agg r, .agg s => cnd (Nat.beq (pkN r) 0) (obind (P.info? e) fun i => eqIt P (ih e) e i.size r s (List.range len))
        (cnd (cnd (pkTy P e (pkK r)) (Nat.beq (pkN r) len) false) (obind (szOf P e) fun z => cnd (Nat.beq z 1) (obind (ih e (pav (pkK r) 0) (pav (pkK r) 0)) fun _ => pkEq (strip r) (strip s)) none) none)
    | .slice _, .nils, .nils => some true
    | .slice _, .nils, .slice _ _ _ _ => some false
    | .slice _, .nils, .slx _ _ _ _ => some false
    | .slice _, .slice _ _ _ _, .nils => some false
    | .slice _, .slx _ _ _ _, .nils => some false
    | .map _ _, .nilm, .nilm => some true
    | .map _ _, .nilm, .map _ => some false
    | .map _ _, .map _, .nilm => some false
    | .func _ _ _, .nilf, .nilf => some true
    | .func _ _ _, .nilf, .func _ _ _ => some false
    | .func _ _ _, .func _ _ _, .nilf => some false
    | _, _, _ => none
noncomputable def aEq (d : Nat) : TypeId → AV → AV → Option Bool := Nat.rec (motive := fun _ => TypeId → AV → AV → Option Bool) (fun _ _ _ => none) (fun _ ih => aEqS P ih) d
end eq

theorem strip_rel {E : Env} {r : AV} {l : List Value} (h : R E r l) : R E (strip r) l := by
  unfold strip
  split
  · obtain ⟨hd, l', h1, h2⟩ := h
    obtain ⟨_, l'', h3, h4⟩ := h2
    have h5 : (Sum.inr l'' : Sum Value (List Value)) = .inr [] := h4
    cases h5
    cases h3
    cases h1
    exact ⟨hd, [], rfl, rfl⟩
  · exact h
theorem strip_N {r : AV} : pkN (strip r) = pkN r := by unfold strip; split <;> rfl
theorem strip_K {r : AV} : pkK (strip r) = pkK r := by unfold strip; split <;> rfl
theorem part_run {P : Program} {E : Env} {t : TypeId} {r v : AV} {cs : Array Value} {off : Nat} (hr : R E r cs.toList) (h : partA P t r off = some v) (w : World) :
    ∃ c, (part t cs off).run P w = .ok c w ∧ V E v c := by
  rcases partA_list (_x := []) hr h with ⟨n, h1, h2, h3, h4⟩ | ⟨h1, c, h2, h3⟩
  · refine ⟨_, ?_, h4⟩
    simp only [part, Sem.run_bind, run_isAgg' h1, Result.andThen_ok, if_true, run_sizeOf' h2, Sem.run_pure]
    congr 2
    apply Array.ext'
    simp [List.extract_eq_take_drop]
  · refine ⟨c, ?_, h3⟩
    rw [Array.getElem?_toList] at h2
    simp [part, run_isAgg' h1, h2]

theorem eqFl_run {P : Program} {E : Env} {d : Nat} {f : TypeId → AV → AV → Option Bool} (w : World)
    (hf : ∀ t x y b cx cy, f t x y = some b → V E x cx → V E y cy → (Op.equalIn d t cx cy).run P w = .ok b w)
    {r s : AV} {xs ys : Array Value} (hr : R E r xs.toList) (hs : R E s ys.toList) : ∀ {fs : List Field} {b : Bool}, eqFl P f r s fs = some b → (Op.eqFields d xs ys fs).run P w = .ok b w
  | [], b, h => by cases h; simp [Op.eqFields]
  | fd :: fs, b, h => by
    have h' : (cnd (isStr fd.name "_") (eqFl P f r s fs) (obind (partA P fd.type r fd.offset) fun x => obind (partA P fd.type s fd.offset) fun y => obind (f fd.type x y) fun b => cnd b (eqFl P f r s fs) (some false))) = some b := h
    rw [cnd_eq] at h'
    unfold Op.eqFields
    split at h'
    · rename_i hn
      have hn' : fd.name = "_" := by unfold isStr at hn; simpa using hn
      rw [if_neg (by simp [hn'])]
      exact eqFl_run w hf hr hs h'
    · rename_i hn
      have hn' : fd.name ≠ "_" := by unfold isStr at hn; simpa using hn
      rw [if_pos hn']
      obtain ⟨x, h1, h2⟩ := obind_some h'
      obtain ⟨y, h3, h4⟩ := obind_some h2
      obtain ⟨bb, h5, h6⟩ := obind_some h4
      obtain ⟨cx, g1, g2⟩ := part_run hr h1 w
      obtain ⟨cy, g3, g4⟩ := part_run hs h3 w
      have g5 := hf _ _ _ _ _ _ h5 g2 g4
      simp only [Sem.run_bind, g1, g3, g5, Result.andThen_ok]
      rw [cnd_eq] at h6
      cases bb with
      | true => simp only [if_true] at h6; simpa using eqFl_run w hf hr hs h6
      | false => simp at h6; subst h6; simp

theorem eqIt_run {P : Program} {E : Env} {d c : Nat} {e : TypeId} {f : AV → AV → Option Bool} (w : World)
    (hf : ∀ x y b cx cy, f x y = some b → V E x cx → V E y cy → (Op.equalIn d e cx cy).run P w = .ok b w)
    {r s : AV} {xs ys : Array Value} (hr : R E r xs.toList) (hs : R E s ys.toList) : ∀ {is : List Nat} {b : Bool}, eqIt P f e c r s is = some b → (Op.eqItems d e c xs ys is).run P w = .ok b w
  | [], b, h => by cases h; simp [Op.eqItems]
  | i :: is, b, h => by
    have h' : (obind (partA P e r (Nat.mul i c)) fun x => obind (partA P e s (Nat.mul i c)) fun y => obind (f x y) fun b => cnd b (eqIt P f e c r s is) (some false)) = some b := h
    unfold Op.eqItems
    obtain ⟨x, h1, h2⟩ := obind_some h'
    obtain ⟨y, h3, h4⟩ := obind_some h2
    obtain ⟨bb, h5, h6⟩ := obind_some h4
    obtain ⟨cx, g1, g2⟩ := part_run hr h1 w
    obtain ⟨cy, g3, g4⟩ := part_run hs h3 w
    have g1' : (part e xs (i * c)).run P w = .ok cx w := g1
    have g3' : (part e ys (i * c)).run P w = .ok cy w := g3
    have g5 := hf _ _ _ _ _ h5 g2 g4
    simp only [Sem.run_bind, g1', g3', g5, Result.andThen_ok]
    rw [cnd_eq] at h6
    cases bb with
    | true => simp only [if_true] at h6; simpa using eqIt_run w hf hr hs h6
    | false => simp at h6; subst h6; simp

/-- Packed rows: the walk over their items. -/
theorem eqItems_packed {P : Program} {d : Nat} {e : TypeId} (w : World) (k : Bool) (hk : pkTy P e k = true) : ∀ (n : Nat) (xs ys : List Nat) (i : Nat) (cx cy : Array Value),
    (∀ x ∈ xs, x < 2 ^ wd k) → (∀ x ∈ ys, x < 2 ^ wd k) → xs.length = n → ys.length = n → cx.toList.drop i = xs.map (pv k) → cy.toList.drop i = ys.map (pv k) →
    (Op.eqItems (d + 1) e 1 cx cy (List.range' i n)).run P w = .ok (decide (xs = ys)) w
  | 0, [], [], i, cx, cy, _, _, _, _, _, _ => by simp [Op.eqItems]
  | n + 1, x :: xs, y :: ys, i, cx, cy, hx, hy, hxl, hyl, h1, h2 => by
    have hlx : i < cx.toList.length := by
      rcases Nat.lt_or_ge i cx.toList.length with h | h
      · exact h
      · rw [List.drop_eq_nil_of_le h] at h1; simp at h1
    have hly : i < cy.toList.length := by
      rcases Nat.lt_or_ge i cy.toList.length with h | h
      · exact h
      · rw [List.drop_eq_nil_of_le h] at h2; simp at h2
    rw [List.drop_eq_getElem_cons hlx] at h1
    rw [List.drop_eq_getElem_cons hly] at h2
    simp only [List.map_cons, List.cons.injEq] at h1 h2
    have ex : cx[i]? = some (pv k x) := by rw [← Array.getElem?_toList, List.getElem?_eq_getElem hlx, h1.1]
    have ey : cy[i]? = some (pv k y) := by rw [← Array.getElem?_toList, List.getElem?_eq_getElem hly, h2.1]
    have ih := eqItems_packed (d := d) w k hk n xs ys (i + 1) cx cy (fun a ha => hx a (by simp [ha])) (fun a ha => hy a (by simp [ha])) (by simpa using hxl) (by simpa using hyl) h1.2 h2.2
    have hag : (isAgg e).run P w = .ok false w := by
      unfold pkTy at hk
      split at hk
      · rename_i hu; simp [isAgg, run_underlying hu]
      · rename_i hu; simp [isAgg, run_underlying hu]
      · cases hk
    have heq : (Op.equalIn (d + 1) e (pv k x) (pv k y)).run P w = .ok (x == y) w := by
      have hx' := hx x (by simp)
      have hy' := hy y (by simp)
      unfold pkTy at hk
      split at hk
      · rename_i hu
        rw [show pv true x = .int .u8 x from rfl, show pv true y = .int .u8 y from rfl, run_equalIn_int w d e .u8 .u8 x y hu]
        congr 1
        rw [Bool.eq_iff_iff, beq_iff_eq, beq_iff_eq]; omega
      · rename_i hu
        rw [show pv false x = .bool (Nat.beq x 1) from rfl, show pv false y = .bool (Nat.beq y 1) from rfl, run_equalIn_bool' w d e _ _ hu]
        congr 1
        have hx2 : x < 2 := hx'
        have hy2 : y < 2 := hy'
        rcases Nat.lt_or_ge x 1 with h | h <;> rcases Nat.lt_or_ge y 1 with h' | h'
        · obtain rfl : x = 0 := by omega
          obtain rfl : y = 0 := by omega
          rfl
        · obtain rfl : x = 0 := by omega
          obtain rfl : y = 1 := by omega
          rfl
        · obtain rfl : x = 1 := by omega
          obtain rfl : y = 0 := by omega
          rfl
        · obtain rfl : x = 1 := by omega
          obtain rfl : y = 1 := by omega
          rfl
      · cases hk
    rw [List.range'_succ]
    simp only [Op.eqItems, Sem.run_bind, part, hag, Result.andThen_ok, Bool.false_eq_true, if_false, Nat.mul_one, ex, ey, Sem.run_pure, heq]
    by_cases hxy : x = y
    · subst hxy
      simp [ih]
    · have : (x == y) = false := by simpa using hxy
      simp [this, hxy]
  | n + 1, [], _, _, _, _, _, _, h, _, _, _ => by simp at h
  | n + 1, _ :: _, [], _, _, _, _, _, _, h, _, _ => by simp at h
  | 0, _ :: _, _, _, _, _, _, _, h, _, _, _ => by simp at h
  | 0, [], _ :: _, _, _, _, _, _, _, h, _, _ => by simp at h

end Go.Ev
