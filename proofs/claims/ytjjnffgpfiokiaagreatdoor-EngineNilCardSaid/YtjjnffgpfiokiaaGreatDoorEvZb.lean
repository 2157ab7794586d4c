/- The run of a region that is drawn. -/
import Derived.Test.YtjjnffgpfiokiaaGreatDoorEvZ
namespace Go.Ev
open Go.RowKit Go.MapKept

/-! ### Tables of a region -/
noncomputable def isDo (op : Op) : Bool := match op with
  | .call c => (match c.callee with
    | .builtin .len => false
    | .builtin .cap => false
    | .builtin .max => false
    | .builtin .min => false
    | _ => true)
  | .assign _ => true
  | .store _ _ _ => true
  | .mapUpdate _ _ _ _ => true
  | .insert _ _ _ _ => true
  | .mapEntry _ _ _ => true
  | .entryStore _ _ _ _ => true
  | .next _ _ => true
  | .entry _ => true
  | .range _ _ => true
  | _ => false
noncomputable def maskOf (mk : Nat → Nat) (l : List Edge) : Nat := List.rec (motive := fun _ => Nat) 0 (fun e _ ih => cnd (Region.binds .any e) (Nat.lor (Nat.lor (Nat.shiftLeft 1 e.on) (mk e.on)) ih) ih) l
noncomputable def oget (t : Tr Nat) (x : Nat) : Nat := Option.rec (motive := fun _ => Nat) 0 (fun n => n) (t.get x)
noncomputable def mkT (l : List Oper) : Nat → Tr Nat → Tr Nat :=
  List.rec (motive := fun _ => Nat → Tr Nat → Tr Nat) (fun _ t => t) (fun o _ ih i t => forceN (maskOf (oget t) o.after.toList) fun m => ih (Nat.succ i) (t.put i (some m))) l
noncomputable def mask (ops : Array Oper) (x : Nat) : Nat := oget (mkT ops.toList 0 .leaf) x
noncomputable def pmB (ops : Array Oper) (x y : Nat) : Bool := Nat.testBit (mask ops x) y
noncomputable def isDx (ops : Array Oper) (x : Nat) : Bool := match ops[x]? with | some o => isDo o.op | none => false
noncomputable def rkL (l : List Oper) : Nat → Nat := List.rec (motive := fun _ => Nat → Nat) (fun _ => 0) (fun o _ ih x => Nat.rec (motive := fun _ => Nat) 0 (fun y _ => Nat.add (cnd (isDo o.op) 1 0) (ih y)) x) l
def sameT (a b : Option Tmp) : Bool := match a, b with | some s, some t => Nat.beq s t | _, _ => false
/-- What a region's text must show. -/
noncomputable def statOk (ops : Array Oper) : Bool :=
  (List.range ops.size).all fun x => match ops[x]? with
    | none => false
    | some o => Nat.beq (mask ops x) (maskOf (mask ops) o.after.toList) && (o.after.toList.all fun e => !(Region.binds .any e) || Nat.blt e.on x) &&
      (!(isDo o.op) || (List.range x).all fun y => !(isDx ops y) || pmB ops x y) &&
      ((List.range x).all fun y => !(sameT o.dst (dstA ops y))) &&
      ((o.looksAt ops).all fun t => (List.range ops.size).all fun y => !(sameT (some t) (dstA ops y)) || pmB ops x y || pmB ops y x || Nat.beq y x)

structure Ps where
  T : Fm
  H : Hp
  pend : List (Nat × AO)
  bl : List (Nat × Op × Fm × AV)
  hs : List (Nat × Hp)
  lv : AV
  lw : Bool
  lo : Option AO

section
variable (P : Program) (gl : Nat → Option AV) (call rnd : Caller) (ops : Array Oper) (n0 : Nat)
noncomputable def place (mk : Nat) (pend : List (Nat × AO)) (H : Hp) : Hp := List.rec (motive := fun _ => Hp) H (fun p _ ih => cnd (Nat.testBit mk p.1) ⟨ih.next, ih.tr.put (Nat.add n0 p.1) (some p.2)⟩ ih) pend
noncomputable def rest (mk : Nat) (pend : List (Nat × AO)) : List (Nat × AO) := List.rec (motive := fun _ => List (Nat × AO)) [] (fun p _ ih => cnd (Nat.testBit mk p.1) ih (p :: ih)) pend
noncomputable def chkB (mk : Nat) (bl : List (Nat × Op × Fm × AV)) (H : Hp) : Option (List (Nat × Op × Fm × AV)) :=
  List.rec (motive := fun _ => Option (List (Nat × Op × Fm × AV))) (some []) (fun b _ ih => cnd (Nat.testBit mk b.1) ih (obind (evN P gl b.2.2.1 H b.2.1) fun r => cnd (aveq r.1 b.2.2.2) (omap (fun l => b :: l) ih) none)) bl
noncomputable def backB (mk : Nat) (hs : List (Nat × Hp)) (op : Op) (T : Fm) (v : AV) : Bool :=
  List.rec (motive := fun _ => Bool) true (fun h _ ih => cnd (Nat.testBit mk h.1) true (Option.rec (motive := fun _ => Bool) false (fun r => cnd (aveq r.1 v) ih false) (evN P gl T h.2 op))) hs
noncomputable def addP (k : Nat) (o : Option AO) (pend : List (Nat × AO)) : List (Nat × AO) := Option.rec (motive := fun _ => List (Nat × AO)) pend (fun a => (k, a) :: pend) o
noncomputable def doD (k mk : Nat) (s : Ps) (d : Option Tmp) (v : AV) (w : Bool) (H' : Hp) : Option Ps :=
  obind (chkB P gl mk s.bl H') fun bl' => forceV v fun v => omap (fun T' => ⟨T', H', rest mk s.pend, bl', (k, s.H) :: s.hs, v, w, none⟩) (fmPut s.T v d)
/-- A conversion of bytes to bytes: the block that it marks. -/
noncomputable def mkOf (T : Fm) (op : Op) : Option Nat := match op with
  | .convert s d q => cnd (Nat.beq s d) (obind (opd T q) idOf) none
  | _ => none
noncomputable def pendA (y : Nat) (l : List (Nat × AO)) : Option AO := List.rec (motive := fun _ => Option AO) none (fun p _ ih => cnd (Nat.beq p.1 y) (some p.2) ih) l
noncomputable def mkAll (y k : Nat) : Bool := (List.range ops.size).all fun d => !(isDx ops d) || !(pmB ops d y) || pmB ops d k
noncomputable def stepP (k : Nat) (o : Oper) (s : Ps) : Option Ps :=
  obind (wantA ops s.T o.guard) fun b => cnd b
    (cnd (isDo o.op)
      (obind (evOp P gl call rnd s.T (place n0 (mask ops k) s.pend s.H) o.op) fun r => doD P gl k (mask ops k) s o.dst r.1 true r.2)
      (Option.rec (motive := fun _ => Option Ps)
        (Option.rec (motive := fun _ => Option Ps) (cnd (roOp P o.op) (obind (evN P gl s.T s.H o.op) fun r => cnd (backB P gl (mask ops k) s.hs o.op s.T r.1) (forceV r.1 fun v => omap (fun T' => ⟨T', s.H, s.pend, (k, o.op, s.T, v) :: s.bl, s.hs, v, true, none⟩) (fmPut s.T v o.dst)) none) none)
          (fun id => obind (pendA (Nat.sub id n0) s.pend) fun a => cnd (mkAll ops (Nat.sub id n0) k) (cnd (pmB ops k (Nat.sub id n0)) (obind (evN P gl s.T ⟨Nat.add n0 k, (Tr.leaf : Tr AO).put (Nat.add n0 (Nat.sub id n0)) (some a)⟩ o.op) fun r => forceV r.1 fun v => omap (fun T' => ⟨T', s.H, s.pend, s.bl, s.hs, v, true, none⟩) (fmPut s.T v o.dst)) none) none)
          (mkOf s.T o.op))
        (fun r => cnd (Nat.ble r.2.next (Nat.succ (Nat.add n0 k))) (forceV r.1 fun v => omap (fun T' => ⟨T', s.H, addP k (r.2.get (Nat.add n0 k)) s.pend, s.bl, s.hs, v, true, r.2.get (Nat.add n0 k)⟩) (fmPut s.T v o.dst)) none)
        (evN P gl s.T ⟨Nat.add n0 k, .leaf⟩ o.op)))
    (cnd (isDo o.op) (doD P gl k (mask ops k) s o.dst (.tup .rnil) false (place n0 (mask ops k) s.pend s.H))
      (omap (fun T' => ⟨T', s.H, s.pend, s.bl, s.hs, .tup .rnil, false, none⟩) (fmPut s.T (.tup .rnil) o.dst)))
noncomputable def passP (l : List Oper) : Nat → Ps → Option Ps :=
  List.rec (motive := fun _ => Nat → Ps → Option Ps) (fun _ s => some s) (fun o _ ih k s => obind (stepP P gl call rnd ops n0 k o s) fun s' => ih (Nat.succ k) s') l
noncomputable def placeAll (pend : List (Nat × AO)) (H : Hp) : Hp := List.rec (motive := fun _ => Hp) H (fun p _ ih => ⟨ih.next, ih.tr.put (Nat.add n0 p.1) (some p.2)⟩) pend
end
noncomputable def drawn (P : Program) (gl : Nat → Option AV) : Drawer := fun call rnd ops T H => cnd (statOk ops)
  (forceN H.next fun n0 => obind (passP P gl call rnd ops n0 ops.toList 0 ⟨T, ⟨Nat.add n0 ops.size, H.tr⟩, [], [], [], .rnil, true, none⟩) fun s => some (s.T, placeAll n0 s.pend s.H)) none

/-- The run as a row of states. -/
theorem pass_row {P : Program} {gl : Nat → Option AV} {call rnd : Caller} {ops : Array Oper} {n0 : Nat} : ∀ {l : List Oper} {k : Nat} {s s' : Ps}, passP P gl call rnd ops n0 l k s = some s' →
    ∃ σ : Nat → Ps, σ k = s ∧ σ (k + l.length) = s' ∧ ∀ i o, l[i]? = some o → stepP P gl call rnd ops n0 (k + i) o (σ (k + i)) = some (σ (k + i + 1))
  | [], k, s, s', h => by cases h; exact ⟨fun _ => s, rfl, rfl, fun i o h => by cases h⟩
  | o :: l, k, s, s', h => by
    have h' : (obind (stepP P gl call rnd ops n0 k o s) fun s' => passP P gl call rnd ops n0 l (k + 1) s') = some s' := h
    obtain ⟨s1, h1, h2⟩ := obind_some h'
    obtain ⟨σ, g1, g2, g3⟩ := pass_row h2
    refine ⟨fun j => if j = k then s else σ j, by simp, ?_, fun i o' hi => ?_⟩
    · show (if k + (l.length + 1) = k then s else σ (k + (l.length + 1))) = s'
      rw [if_neg (by omega), show k + (l.length + 1) = k + 1 + l.length by omega]
      exact g2
    · cases i with
      | zero =>
        cases hi
        show stepP P gl call rnd ops n0 k o (if k = k then s else σ k) = some (if k + 1 = k then s else σ (k + 1))
        rw [if_pos rfl, if_neg (by omega), g1]
        exact h1
      | succ i =>
        have := g3 i o' (by simpa using hi)
        show stepP P gl call rnd ops n0 (k + (i + 1)) o' (if k + (i + 1) = k then s else σ (k + (i + 1))) = some (if k + (i + 1) + 1 = k then s else σ (k + (i + 1) + 1))
        rw [if_neg (by omega), if_neg (by omega)]
        rw [show k + (i + 1) = k + 1 + i by omega]
        exact this
end Go.Ev

/- The run gives the certificate: tables, ranks, steps. -/
namespace Go.Ev
open Go.RowKit Go.MapKept

theorem rkL_zero (l : List Oper) : rkL l 0 = 0 := by cases l <;> rfl
theorem rkL_succ : ∀ {l : List Oper} {k : Nat} {o : Oper}, l[k]? = some o → rkL l (k + 1) = rkL l k + (if isDo o.op = true then 1 else 0)
  | [], k, o, h => by cases h
  | q :: l, 0, o, h => by
    cases h
    show Nat.add (cnd (isDo q.op) 1 0) (rkL l 0) = 0 + _
    rw [rkL_zero, cnd_eq]
    simp
  | q :: l, k + 1, o, h => by
    have := rkL_succ (l := l) (k := k) (o := o) (by simpa using h)
    show Nat.add (cnd (isDo q.op) 1 0) (rkL l (k + 1)) = Nat.add (cnd (isDo q.op) 1 0) (rkL l k) + _
    rw [this]
    simp only [Nat.add_eq]; omega

section st
variable {ops : Array Oper}
noncomputable def rkA (ops : Array Oper) (x : Nat) : Nat := rkL ops.toList x
theorem rkA_succ {k : Nat} (hk : k < ops.size) : rkA ops (k + 1) = rkA ops k + (if isDx ops k = true then 1 else 0) := by
  have ho : ops[k]? = some ops[k] := Array.getElem?_eq_getElem hk
  unfold rkA
  rw [rkL_succ (o := ops[k]) (by rw [Array.getElem?_toList]; exact ho)]
  unfold isDx
  rw [ho]
theorem rkA_mono {k : Nat} : ∀ {j : Nat}, k + j ≤ ops.size → rkA ops k ≤ rkA ops (k + j)
  | 0, _ => Nat.le_refl _
  | j + 1, h => by
    have h1 := rkA_mono (k := k) (j := j) (by omega)
    have h2 := rkA_succ (ops := ops) (k := k + j) (by omega)
    rw [show k + (j + 1) = k + j + 1 by omega, h2]
    omega
theorem rkA_le {k k' : Nat} (h : k ≤ k') (h' : k' ≤ ops.size) : rkA ops k ≤ rkA ops k' := by
  have := rkA_mono (ops := ops) (k := k) (j := k' - k) (by omega)
  rwa [show k + (k' - k) = k' by omega] at this
theorem rkA_lt {d k : Nat} (hd : isDx ops d = true) (h : d < k) (h' : k ≤ ops.size) : rkA ops d < rkA ops k := by
  have h1 := rkA_succ (ops := ops) (k := d) (by omega)
  rw [if_pos hd] at h1
  have := rkA_le (ops := ops) (k := d + 1) (k' := k) (by omega) h'
  omega
theorem rkA_sur : ∀ {k : Nat}, k ≤ ops.size → ∀ g, g < rkA ops k → ∃ d, d < k ∧ isDx ops d = true ∧ rkA ops d = g
  | 0, _, g, h => by unfold rkA at h; rw [rkL_zero] at h; exact absurd h (Nat.not_lt_zero _)
  | k + 1, hk, g, h => by
    rw [rkA_succ (by omega)] at h
    by_cases hd : isDx ops k = true
    · rw [if_pos hd] at h
      rcases Nat.lt_or_ge g (rkA ops k) with h1 | h1
      · obtain ⟨d, h2, h3, h4⟩ := rkA_sur (k := k) (by omega) g h1
        exact ⟨d, by omega, h3, h4⟩
      · exact ⟨k, by omega, hd, by omega⟩
    · rw [if_neg hd] at h
      obtain ⟨d, h2, h3, h4⟩ := rkA_sur (k := k) (by omega) g h
      exact ⟨d, by omega, h3, h4⟩

theorem maskOf_bit {mk : Nat → Nat} : ∀ {l : List Edge} {y : Nat}, Nat.testBit (maskOf mk l) y = true → ∃ e ∈ l, Region.binds .any e = true ∧ (y = e.on ∨ Nat.testBit (mk e.on) y = true)
  | [], y, h => by
    have h : Nat.testBit 0 y = true := h
    simp at h
  | e :: l, y, h => by
    have h : Nat.testBit (cnd (Region.binds .any e) (Nat.lor (Nat.lor (Nat.shiftLeft 1 e.on) (mk e.on)) (maskOf mk l)) (maskOf mk l)) y = true := h
    rw [cnd_eq] at h
    split at h
    · rename_i hb
      have h : Nat.testBit ((1 <<< e.on ||| mk e.on) ||| maskOf mk l) y = true := h
      rw [Nat.testBit_or, Nat.testBit_or] at h
      simp only [Bool.or_eq_true] at h
      rcases h with (h | h) | h
      · refine ⟨e, .head _, hb, .inl ?_⟩
        rw [Nat.one_shiftLeft, Nat.testBit_two_pow] at h
        have := of_decide_eq_true h
        omega
      · exact ⟨e, .head _, hb, .inr h⟩
      · obtain ⟨e', h1, h2⟩ := maskOf_bit h
        exact ⟨e', .tail _ h1, h2⟩
    · obtain ⟨e', h1, h2⟩ := maskOf_bit h
      exact ⟨e', .tail _ h1, h2⟩

theorem sameT_iff {a b : Option Tmp} {t : Tmp} (h : sameT a b = false) (ha : a = some t) : b ≠ some t := by
  subst ha
  rintro rfl
  simp [sameT] at h

structure Stat (ops : Array Oper) : Prop where
  back : ∀ x (o : Oper), ops[x]? = some o → ∀ e ∈ o.after, Region.binds .any e = true → e.on < x
  pre : ∀ x (o : Oper), ops[x]? = some o → ∀ y, pmB ops x y = true → ∃ e ∈ o.after, Region.binds .any e = true ∧ (y = e.on ∨ pmB ops e.on y = true)
  tot : ∀ x y, x < ops.size → y < x → isDx ops x = true → isDx ops y = true → pmB ops x y = true
  dst : ∀ x y t, x < ops.size → y < ops.size → dstA ops x = some t → dstA ops y = some t → x = y
  look : ∀ x (o : Oper), ops[x]? = some o → ∀ t ∈ o.looksAt ops, ∀ y, y < ops.size → dstA ops y = some t → pmB ops x y = true ∨ pmB ops y x = true ∨ y = x

theorem statOk_rel (h : statOk ops = true) : Stat ops := by
  have key : ∀ x (o : Oper), ops[x]? = some o → (Nat.beq (mask ops x) (maskOf (mask ops) o.after.toList) = true ∧ (∀ e ∈ o.after.toList, Region.binds .any e = true → e.on < x) ∧
      (isDo o.op = true → ∀ y, y < x → isDx ops y = true → pmB ops x y = true) ∧ (∀ y, y < x → sameT o.dst (dstA ops y) = false) ∧
      (∀ t ∈ o.looksAt ops, ∀ y, y < ops.size → sameT (some t) (dstA ops y) = true → pmB ops x y = true ∨ pmB ops y x = true ∨ y = x)) := by
    intro x o ho
    have hx : x < ops.size := (Array.getElem?_eq_some_iff.1 ho).1
    have h1 := List.all_eq_true.1 h x (List.mem_range.2 hx)
    rw [ho] at h1
    simp only [Bool.and_eq_true, List.all_eq_true, Bool.or_eq_true, Bool.not_eq_true', List.mem_range] at h1
    obtain ⟨⟨⟨⟨g1, g2⟩, g3⟩, g4⟩, g5⟩ := h1
    refine ⟨g1, fun e he hb => ?_, fun hd y hy hyd => ?_, fun y hy => g4 y hy, fun t ht y hy hs => ?_⟩
    · rcases g2 e he with k | k
      · rw [hb] at k; cases k
      · exact blt_iff.1 k
    · rcases g3 with k | k
      · rw [hd] at k; cases k
      · rcases k y hy with k | k
        · rw [hyd] at k; cases k
        · exact k
    · rcases g5 t ht y hy with ((k | k) | k) | k
      · rw [hs] at k; cases k
      · exact .inl k
      · exact .inr (.inl k)
      · exact .inr (.inr (Nat.eq_of_beq_eq_true k))
  refine ⟨fun x o ho e he hb => (key x o ho).2.1 e (by simpa using he) hb, fun x o ho y hy => ?_, fun x y hx hy hdx hdy => ?_, fun x y t hx hy h1 h2 => ?_, fun x o ho t ht y hy hd => ?_⟩
  · have e1 := Nat.eq_of_beq_eq_true (key x o ho).1
    unfold pmB at hy
    rw [e1] at hy
    obtain ⟨e, g1, g2, g3⟩ := maskOf_bit hy
    exact ⟨e, by simpa using g1, g2, g3⟩
  · have ho : ops[x]? = some ops[x] := Array.getElem?_eq_getElem hx
    refine (key x _ ho).2.2.1 ?_ y hy hdy
    unfold isDx at hdx
    rw [ho] at hdx
    exact hdx
  · have no : ∀ x y, y < x → x < ops.size → dstA ops x = some t → dstA ops y = some t → False := by
      intro x y hyx hx h1 h2
      have ho : ops[x]? = some ops[x] := Array.getElem?_eq_getElem hx
      rw [dst_of ho] at h1
      exact sameT_iff ((key x _ ho).2.2.2.1 y hyx) h1 h2
    rcases Nat.lt_trichotomy x y with h | h | h
    · exact (no y x h hy h2 h1).elim
    · exact h
    · exact (no x y h hx h1 h2).elim
  · refine (key x o ho).2.2.2.2 t ht y hy ?_
    rw [hd]
    simp [sameT]

theorem Stat.lt (hs : Stat ops) : ∀ {x y : Nat}, x < ops.size → pmB ops x y = true → y < x := by
  intro x
  induction x using Nat.strongRecOn with
  | _ x ih =>
    intro y hx hy
    have ho : ops[x]? = some ops[x] := Array.getElem?_eq_getElem hx
    obtain ⟨e, h1, h2, h3⟩ := hs.pre x _ ho y hy
    have h4 := hs.back x _ ho e h1 h2
    rcases h3 with rfl | h3
    · exact h4
    · have := ih e.on h4 (by omega) h3; omega
end st
end Go.Ev
