/- The run gives the certificate: all of it. -/
import Derived.Test.YtjjnffgpfiokiaaGreatDoorEvZc
namespace Go.Ev
open Go.RowKit Go.MapKept
open Classical

section fin
variable {P : Program} {gl : Nat → Option AV} {call rnd : Caller} {ops : Array Oper} {T0 : Fm} {H0 : Hp} {σ : Nat → Ps}

noncomputable def vA (σ : Nat → Ps) (k : Nat) : AV := (σ (k + 1)).lv
noncomputable def wA (σ : Nat → Ps) (k : Nat) : Bool := (σ (k + 1)).lw
noncomputable def oA (σ : Nat → Ps) (k : Nat) : Option AO := (σ (k + 1)).lo
noncomputable def hA (ops : Array Oper) (σ : Nat → Ps) (g : Nat) : Hp := if h : ∃ k, k ≤ ops.size ∧ rkA ops k = g then (σ (Classical.choose h)).H else ⟨0, .leaf⟩
noncomputable def pA (ops : Array Oper) (n0 : Nat) (σ : Nat → Ps) (x : Nat) : Hp := place n0 (mask ops x) (σ x).pend (σ x).H
noncomputable def txR (ops : Array Oper) (T0 : Fm) (σ : Nat → Ps) (x : Nat) : Nat → Tr AV
  | 0 => T0.tr
  | j + 1 => if pmB ops x j = true then (match dstA ops j with | some t => (txR ops T0 σ x j).put t (some (vA σ j)) | none => txR ops T0 σ x j) else txR ops T0 σ x j
noncomputable def tA (ops : Array Oper) (T0 : Fm) (σ : Nat → Ps) (x : Nat) : Fm := ⟨T0.n, txR ops T0 σ x ops.size, T0.marks⟩

structure Row (P : Program) (gl : Nat → Option AV) (call rnd : Caller) (ops : Array Oper) (T0 : Fm) (H0 : Hp) (σ : Nat → Ps) : Prop where
  s : Stat ops
  i : σ 0 = ⟨T0, ⟨H0.next + ops.size, H0.tr⟩, [], [], [], .rnil, true, none⟩
  st : ∀ k (o : Oper), ops[k]? = some o → StC P gl call rnd ops H0.next k o (σ k) (σ (k + 1))

theorem fm_of {T T' : Fm} {v : AV} {d : Option Tmp} (h : fmPut T v d = some T') : T'.n = T.n ∧ T'.marks = T.marks ∧ (∀ t, d = some t → t < T.n ∧ T'.get t = v) ∧ (∀ t, d ≠ some t → T'.get t = T.get t) := by
  obtain ⟨h1, h2⟩ := fmPut_n h
  refine ⟨h1, h2, fun t ht => ?_, fun t ht => ?_⟩
  · subst ht
    have hp' : cnd (Nat.blt t T.n) (some (⟨T.n, T.tr.put t (some v), T.marks⟩ : Fm)) none = some T' := h
    obtain ⟨h3, h4⟩ := cnd_some hp'
    cases h4
    refine ⟨blt_iff.1 h3, ?_⟩
    unfold Fm.get
    rw [Tr.get_put, if_pos rfl]
  · cases d with
    | none => cases h; rfl
    | some d =>
      have hp' : cnd (Nat.blt d T.n) (some (⟨T.n, T.tr.put d (some v), T.marks⟩ : Fm)) none = some T' := h
      obtain ⟨h3, h4⟩ := cnd_some hp'
      cases h4
      have : t ≠ d := fun e => ht (by rw [e])
      unfold Fm.get
      rw [Tr.get_put, if_neg this]

theorem txR_get (hs : Stat ops) (x : Nat) : ∀ (j : Nat), j ≤ ops.size → (∀ y t, y < j → pmB ops x y = true → dstA ops y = some t → (Option.rec (motive := fun _ => AV) (.tup .rnil) (fun v => v) ((txR ops T0 σ x j).get t) : AV) = vA σ y) ∧
    (∀ t, (∀ y, y < j → pmB ops x y = true → dstA ops y ≠ some t) → (txR ops T0 σ x j).get t = T0.tr.get t)
  | 0, _ => ⟨fun y t h => absurd h (Nat.not_lt_zero _), fun t _ => rfl⟩
  | j + 1, hj => by
    obtain ⟨i1, i2⟩ := txR_get hs x j (by omega)
    by_cases hp : pmB ops x j = true
    · cases hd : dstA ops j with
      | none =>
        have e : txR ops T0 σ x (j + 1) = txR ops T0 σ x j := by simp only [txR]; rw [if_pos hp, hd]
        rw [e]
        refine ⟨fun y t hy h1 h2 => ?_, fun t h => i2 t fun y hy => h y (by omega)⟩
        have : y ≠ j := fun e => by subst e; rw [hd] at h2; cases h2
        exact i1 y t (by omega) h1 h2
      | some d =>
        have e : txR ops T0 σ x (j + 1) = (txR ops T0 σ x j).put d (some (vA σ j)) := by simp only [txR]; rw [if_pos hp, hd]
        rw [e]
        refine ⟨fun y t hy h1 h2 => ?_, fun t h => ?_⟩
        · rw [Tr.get_put]
          by_cases ey : y = j
          · subst ey
            rw [hd] at h2
            cases h2
            rw [if_pos rfl]
          · have : t ≠ d := fun et => by subst et; exact ey (hs.dst y j t (by omega) (by omega) h2 hd)
            rw [if_neg this]
            exact i1 y t (by omega) h1 h2
        · rw [Tr.get_put, if_neg (fun et => h j (by omega) hp (by rw [hd, et]))]
          exact i2 t fun y hy => h y (by omega)
    · have e : txR ops T0 σ x (j + 1) = txR ops T0 σ x j := by simp only [txR]; rw [if_neg hp]
      rw [e]
      refine ⟨fun y t hy h1 h2 => ?_, fun t h => i2 t fun y hy => h y (by omega)⟩
      have : y ≠ j := fun e => by subst e; exact hp h1
      exact i1 y t (by omega) h1 h2

variable (hr : Row P gl call rnd ops T0 H0 σ)
include hr
/-- The frame of the run. -/
theorem row_put {k : Nat} {o : Oper} (ho : ops[k]? = some o) : fmPut (σ k).T (vA σ k) o.dst = some (σ (k + 1)).T ∧ wantA ops (σ k).T o.guard = some (wA σ k) := by
  unfold vA wA
  cases hr.st k o ho with
  | doit w h1 h2 h3 h4 h6 h7 h8 h9 h10 h11 => exact ⟨h4, by rw [h8]; exact h2⟩
  | off h1 h2 h4 h5 h3 h6 h10 h7 h8 h9 => exact ⟨h4, by rw [h8]; exact h2⟩
  | free H' h1 h2 h4 h5 h11 h3 h6 h10 h7 h8 h9 => exact ⟨h4, by rw [h8]; exact h2⟩
  | rd h1 h2 h4 h5 h11 h12 h3 h6 h10 h7 h8 h9 => exact ⟨h4, by rw [h8]; exact h2⟩
  | mark y a h1 h2 h4 hy hb hal h5 h3 h6 h10 h7 h8 h9 => exact ⟨h4, by rw [h8]; exact h2⟩
theorem row_T : ∀ {k : Nat}, k ≤ ops.size → (σ k).T.n = T0.n ∧ (σ k).T.marks = T0.marks ∧ (∀ y t, y < k → dstA ops y = some t → t < T0.n ∧ (σ k).T.get t = vA σ y) ∧ (∀ t, (∀ y, y < k → dstA ops y ≠ some t) → (σ k).T.get t = T0.get t)
  | 0, _ => by rw [hr.i]; exact ⟨rfl, rfl, fun y t h => absurd h (Nat.not_lt_zero _), fun t _ => rfl⟩
  | k + 1, hk => by
    obtain ⟨i1, i2, i3, i4⟩ := row_T (k := k) (by omega)
    have ho : ops[k]? = some ops[k] := Array.getElem?_eq_getElem (by omega)
    obtain ⟨f1, f2, f3, f4⟩ := fm_of (row_put hr ho).1
    have hd := dst_of ho
    refine ⟨f1.trans i1, f2.trans i2, fun y t hy h => ?_, fun t h => ?_⟩
    · by_cases e : y = k
      · subst e
        rw [hd] at h
        obtain ⟨g1, g2⟩ := f3 t h
        exact ⟨by rw [← i1]; exact g1, g2⟩
      · have hne : ops[k].dst ≠ some t := fun e' => e (hr.s.dst y k t (by omega) (by omega) h (by rw [hd]; exact e'))
        rw [f4 t hne]
        exact i3 y t (by omega) h
    · rw [f4 t (by rw [← hd]; exact h k (by omega))]
      exact i4 t fun y hy => h y (by omega)
theorem row_H1 {k : Nat} (hk : k < ops.size) (hd : isDx ops k = false) : (σ (k + 1)).H = (σ k).H := by
  have ho : ops[k]? = some ops[k] := Array.getElem?_eq_getElem hk
  have hd' : isDo ops[k].op = false := by unfold isDx at hd; rw [ho] at hd; exact hd
  cases hr.st k _ ho with
  | doit w h1 h2 h3 h4 h6 h7 h8 h9 h10 h11 => rw [hd'] at h1; cases h1
  | off h1 h2 h4 h5 h3 h6 h10 h7 h8 h9 => exact h3
  | free H' h1 h2 h4 h5 h11 h3 h6 h10 h7 h8 h9 => exact h3
  | rd h1 h2 h4 h5 h11 h12 h3 h6 h10 h7 h8 h9 => exact h3
  | mark y a h1 h2 h4 hy hb hal h5 h3 h6 h10 h7 h8 h9 => exact h3
theorem row_H2 {k : Nat} : ∀ {j : Nat}, k + j ≤ ops.size → rkA ops (k + j) = rkA ops k → (σ (k + j)).H = (σ k).H
  | 0, _, _ => rfl
  | j + 1, h, he => by
    have h1 := rkA_le (ops := ops) (k := k) (k' := k + j) (by omega) (by omega)
    have h2 := rkA_succ (ops := ops) (k := k + j) (by omega)
    rw [show k + (j + 1) = k + j + 1 by omega] at he ⊢
    have hd : isDx ops (k + j) = false := by
      cases hq : isDx ops (k + j) with
      | false => rfl
      | true => rw [hq, if_pos rfl] at h2; omega
    rw [row_H1 hr (by omega) hd]
    rw [hd, if_neg (by simp)] at h2
    exact row_H2 (j := j) (by omega) (by omega)
theorem row_hA {k : Nat} (hk : k ≤ ops.size) : hA ops σ (rkA ops k) = (σ k).H := by
  have h : ∃ j, j ≤ ops.size ∧ rkA ops j = rkA ops k := ⟨k, hk, rfl⟩
  unfold hA
  rw [dif_pos h]
  obtain ⟨g1, g2⟩ := Classical.choose_spec h
  generalize Classical.choose h = j at g1 g2
  rcases Nat.le_total j k with hjk | hjk
  · have := row_H2 hr (k := j) (j := k - j) (by omega) (by rw [show j + (k - j) = k by omega]; exact g2.symm)
    rw [show j + (k - j) = k by omega] at this
    exact this.symm
  · have := row_H2 hr (k := k) (j := j - k) (by omega) (by rw [show k + (j - k) = j by omega]; exact g2)
    rw [show k + (j - k) = j by omega] at this
    exact this

/-- The steps that act, looked at from behind. -/
theorem row_hs : ∀ {k : Nat}, k ≤ ops.size → ∀ mk op T v, backB P gl mk (σ k).hs op T v = true → ∀ d, d < k → isDx ops d = true → (∀ d', d ≤ d' → d' < k → isDx ops d' = true → Nat.testBit mk d' = false) → ∃ r, evN P gl T (hA ops σ (rkA ops d)) op = some r ∧ r.1 = v
  | 0, _, mk, op, T, v, _, d, hd, _, _ => absurd hd (Nat.not_lt_zero _)
  | k + 1, hk, mk, op, T, v, h, d, hd, hdD, hno => by
    have ho : ops[k]? = some ops[k] := Array.getElem?_eq_getElem (by omega)
    have hx : isDx ops k = isDo ops[k].op := by unfold isDx; rw [ho]
    have ih := row_hs (k := k) (by omega) mk op T v
    have other : (σ (k + 1)).hs = (σ k).hs → isDx ops k = false → ∃ r, evN P gl T (hA ops σ (rkA ops d)) op = some r ∧ r.1 = v := by
      intro e1 e2
      rw [e1] at h
      have : d ≠ k := fun e => by subst e; rw [hdD] at e2; cases e2
      exact ih h d (by omega) hdD fun d' h1 h2 => hno d' h1 (by omega)
    cases hr.st k _ ho with
    | doit w h1 h2 h3 h4 h6 h7 h8 h9 h10 h11 =>
      rw [h7] at h
      have h : cnd (Nat.testBit mk k) true (Option.rec (motive := fun _ => Bool) false (fun r => cnd (aveq r.1 v) (backB P gl mk (σ k).hs op T v) false) (evN P gl T (σ k).H op)) = true := h
      rw [hno k (by omega) (by omega) (by rw [hx]; exact h1)] at h
      have h : (Option.rec (motive := fun _ => Bool) false (fun r => cnd (aveq r.1 v) (backB P gl mk (σ k).hs op T v) false) (evN P gl T (σ k).H op)) = true := h
      cases hq : evN P gl T (σ k).H op with
      | none => rw [hq] at h; cases h
      | some r =>
        rw [hq] at h
        have h : cnd (aveq r.1 v) (backB P gl mk (σ k).hs op T v) false = true := h
        obtain ⟨k1, k2⟩ := cnd_and h
        by_cases e : d = k
        · subst e
          rw [row_hA hr (by omega)]
          exact ⟨r, hq, aveq_eq k1⟩
        · exact ih k2 d (by omega) hdD fun d' h1 h2 => hno d' h1 (by omega)
    | off h1 h2 h4 h5 h3 h6 h10 h7 h8 h9 => exact other h7 (by rw [hx]; exact h1)
    | free H' h1 h2 h4 h5 h11 h3 h6 h10 h7 h8 h9 => exact other h7 (by rw [hx]; exact h1)
    | rd h1 h2 h4 h5 h11 h12 h3 h6 h10 h7 h8 h9 => exact other h7 (by rw [hx]; exact h1)
    | mark y a h1 h2 h4 hy hb hal h5 h3 h6 h10 h7 h8 h9 => exact other h7 (by rw [hx]; exact h1)

/-- What is laid and not yet needed. -/
theorem row_pend : ∀ {k : Nat}, k ≤ ops.size → (∀ p ∈ (σ k).pend, p.1 < k ∧ oA σ p.1 = some p.2 ∧ (∀ d, d < k → isDx ops d = true → pmB ops d p.1 = false)) ∧
    (∀ y ob, y < k → oA σ y = some ob → (∀ d, d < k → isDx ops d = true → pmB ops d y = false) → (y, ob) ∈ (σ k).pend)
  | 0, _ => by rw [hr.i]; exact ⟨fun p h => (by cases h), fun y ob h => absurd h (Nat.not_lt_zero _)⟩
  | k + 1, hk => by
    obtain ⟨i1, i2⟩ := row_pend (k := k) (by omega)
    have ho : ops[k]? = some ops[k] := Array.getElem?_eq_getElem (by omega)
    have hx : isDx ops k = isDo ops[k].op := by unfold isDx; rw [ho]
    have same : (σ (k + 1)).pend = (σ k).pend → isDx ops k = false → oA σ k = none → (∀ p ∈ (σ (k + 1)).pend, p.1 < k + 1 ∧ oA σ p.1 = some p.2 ∧ (∀ d, d < k + 1 → isDx ops d = true → pmB ops d p.1 = false)) ∧
        (∀ y ob, y < k + 1 → oA σ y = some ob → (∀ d, d < k + 1 → isDx ops d = true → pmB ops d y = false) → (y, ob) ∈ (σ (k + 1)).pend) := by
      intro e1 e2 e3
      rw [e1]
      refine ⟨fun p hp => ?_, fun y ob hy h1 h2 => ?_⟩
      · obtain ⟨g1, g2, g3⟩ := i1 p hp
        refine ⟨by omega, g2, fun d hd hdD => g3 d ?_ hdD⟩
        have : d ≠ k := fun e => by subst e; rw [hdD] at e2; cases e2
        omega
      · have : y ≠ k := fun e => by subst e; rw [e3] at h1; cases h1
        exact i2 y ob (by omega) h1 fun d hd => h2 d (by omega)
    cases hr.st k _ ho with
    | doit w h1 h2 h3 h4 h6 h7 h8 h9 h10 h11 =>
      have e3 : oA σ k = none := h9
      rw [h6]
      refine ⟨fun p hp => ?_, fun y ob hy g1 g2 => ?_⟩
      · obtain ⟨hp1, hp2⟩ := (rest_mem _ _ _).1 hp
        obtain ⟨g1, g2, g3⟩ := i1 p hp1
        refine ⟨by omega, g2, fun d hd hdD => ?_⟩
        by_cases e : d = k
        · subst e; exact hp2
        · exact g3 d (by omega) hdD
      · have : y ≠ k := fun e => by subst e; rw [e3] at g1; cases g1
        refine (rest_mem _ _ _).2 ⟨i2 y ob (by omega) g1 fun d hd => g2 d (by omega), ?_⟩
        exact g2 k (by omega) (by rw [hx]; exact h1)
    | off h1 h2 h4 h5 h3 h6 h10 h7 h8 h9 => exact same h6 (by rw [hx]; exact h1) h9
    | rd h1 h2 h4 h5 h11 h12 h3 h6 h10 h7 h8 h9 => exact same h6 (by rw [hx]; exact h1) h9
    | mark y a h1 h2 h4 hy hb hal h5 h3 h6 h10 h7 h8 h9 => exact same h6 (by rw [hx]; exact h1) h9
    | free H' h1 h2 h4 h5 h11 h3 h6 h10 h7 h8 h9 =>
      cases hq : (σ (k + 1)).lo with
      | none =>
        refine same ?_ (by rw [hx]; exact h1) hq
        rw [h6, hq]; rfl
      | some a =>
        have e1 : (σ (k + 1)).pend = (k, a) :: (σ k).pend := by rw [h6, hq]; rfl
        rw [e1]
        have e2 : isDx ops k = false := by rw [hx]; exact h1
        refine ⟨fun p hp => ?_, fun y ob hy g1 g2 => ?_⟩
        · rcases List.mem_cons.1 hp with e | e
          · subst e
            refine ⟨by omega, hq, fun d hd hdD => ?_⟩
            cases hpd : pmB ops d k with
            | false => rfl
            | true => have := hr.s.lt (by omega) hpd; omega
          · obtain ⟨g1, g2, g3⟩ := i1 p e
            refine ⟨by omega, g2, fun d hd hdD => g3 d ?_ hdD⟩
            have : d ≠ k := fun e => by subst e; rw [hdD] at e2; cases e2
            omega
        · by_cases e : y = k
          · subst e
            have g1 : (σ (y + 1)).lo = some ob := g1
            rw [hq] at g1; cases g1
            exact .head _
          · exact .tail _ (i2 y ob (by omega) g1 fun d hd => g2 d (by omega))

/-- An operation that reads memory. -/
def isRd (P : Program) (gl : Nat → Option AV) (ops : Array Oper) (_n0 : Nat) (σ : Nat → Ps) (x : Nat) : Prop := ∃ o, ops[x]? = some o ∧ isDo o.op = false ∧ (σ (x + 1)).bl = (x, o.op, (σ x).T, vA σ x) :: (σ x).bl ∧ oA σ x = none ∧ wA σ x = true ∧ evN P gl (σ x).T (σ x).H o.op = some (vA σ x, (σ x).H) ∧ roOp P o.op = true ∧
  backB P gl (mask ops x) (σ x).hs o.op (σ x).T (vA σ x) = true
theorem row_bl : ∀ {k : Nat}, k ≤ ops.size → ∀ x, x < k → isRd P gl ops H0.next σ x → (∀ d, d < k → isDx ops d = true → pmB ops d x = false) → ∀ o, ops[x]? = some o → (x, o.op, (σ x).T, vA σ x) ∈ (σ k).bl
  | 0, _, x, hx, _, _, _, _ => absurd hx (Nat.not_lt_zero _)
  | k + 1, hk, x, hx, hrd, hno, o, hox => by
    have ho : ops[k]? = some ops[k] := Array.getElem?_eq_getElem (by omega)
    have hxd : isDx ops k = isDo ops[k].op := by unfold isDx; rw [ho]
    by_cases e : x = k
    · subst e
      obtain ⟨o', k1, _, k3, _⟩ := hrd
      rw [hox] at k1; cases k1
      rw [k3]; exact .head _
    · have ih := row_bl (k := k) (by omega) x (by omega) hrd (fun d hd => hno d (by omega)) o hox
      cases hr.st k _ ho with
      | doit w h1 h2 h3 h4 h6 h7 h8 h9 h10 h11 =>
        rcases chkB_mem h3 _ ih with h | ⟨h, _⟩
        · have := hno k (by omega) (by rw [hxd]; exact h1)
          unfold pmB at this
          rw [this] at h; cases h
        · exact h
      | off h1 h2 h4 h5 h3 h6 h10 h7 h8 h9 => rw [h10]; exact ih
      | free H' h1 h2 h4 h5 h11 h3 h6 h10 h7 h8 h9 => rw [h10]; exact ih
      | rd h1 h2 h4 h5 h11 h12 h3 h6 h10 h7 h8 h9 => rw [h10]; exact .tail _ ih
      | mark y a h1 h2 h4 hy hb hal h5 h3 h6 h10 h7 h8 h9 => rw [h10]; exact ih

/-- Operands: the run's frame and the forerunners' frame tell the same. -/
theorem row_look {x : Nat} {o : Oper} (ho : ops[x]? = some o) : ∀ t ∈ o.looksAt ops, (tA ops T0 σ x).get t = (σ x).T.get t := by
  intro t ht
  have hx : x < ops.size := (Array.getElem?_eq_some_iff.1 ho).1
  obtain ⟨_, _, r3, r4⟩ := row_T hr (k := x) (by omega)
  obtain ⟨q1, q2⟩ := txR_get (T0 := T0) (σ := σ) hr.s x ops.size (Nat.le_refl _)
  by_cases hy : ∃ y, y < ops.size ∧ dstA ops y = some t
  · obtain ⟨y, hym, hyd⟩ := hy
    by_cases hp : pmB ops x y = true
    · have hlt := hr.s.lt hx hp
      rw [(r3 y t hlt hyd).2]
      exact q1 y t hym hp hyd
    · have hge : x ≤ y := by
        rcases hr.s.look x o ho t ht y hym hyd with h | h | h
        · exact absurd h hp
        · exact Nat.le_of_lt (hr.s.lt hym h)
        · omega
      rw [r4 t fun z hz hzd => by
        have := hr.s.dst z y t (by omega) hym hzd hyd
        omega]
      show (Option.rec (motive := fun _ => AV) (.tup .rnil) (fun v => v) ((txR ops T0 σ x ops.size).get t) : AV) = _
      rw [q2 t fun z hz hzp hzd => by
        have := hr.s.dst z y t hz hym hzd hyd
        subst this; exact hp hzp]
      rfl
  · rw [r4 t fun z hz hzd => hy ⟨z, by omega, hzd⟩]
    show (Option.rec (motive := fun _ => AV) (.tup .rnil) (fun v => v) ((txR ops T0 σ x ops.size).get t) : AV) = _
    rw [q2 t fun z hz _ hzd => hy ⟨z, hz, hzd⟩]
    rfl
theorem row_opd {x : Nat} {o : Oper} (ho : ops[x]? = some o) : ∀ q ∈ o.op.operands, opd (tA ops T0 σ x) q = opd (σ x).T q := by
  intro q hq
  refine opd_congr fun t ht => ?_
  subst ht
  exact row_look hr ho t (List.mem_append_left _ (List.mem_filterMap.2 ⟨.tmp t, by simpa using hq, rfl⟩))
theorem row_want {x : Nat} {o : Oper} (ho : ops[x]? = some o) : wantA ops (tA ops T0 σ x) o.guard = some (wA σ x) := by
  rw [← (row_put hr ho).2]
  refine wantA_congr fun j b t hg hd => row_look hr ho t (List.mem_append_right _ ?_)
  unfold dstA at hd
  simp [hg, hd]

theorem cert_of : Cert P gl call rnd ops T0 H0 (pmB ops) (isDx ops) (rkA ops) (rkA ops ops.size) (vA σ) (hA ops σ) (oA σ) (wA σ) (tA ops T0 σ) (pA ops H0.next σ) := by
  have hDo : ∀ x (o : Oper), ops[x]? = some o → isDx ops x = isDo o.op := fun x o ho => by unfold isDx; rw [ho]
  have hge : ∀ x, x < ops.size → ∃ o, ops[x]? = some o := fun x hx => ⟨ops[x], Array.getElem?_eq_getElem hx⟩
  refine ⟨hr.s.back, hr.s.pre, fun d d' hd hd' h1 h2 h3 => ?_, fun d d' hd hd' h1 h2 h3 => ?_, fun d hd h1 => rkA_lt h1 hd (Nat.le_refl _), fun g hg => ?_, hr.s.dst, fun x t hx h => ?_, hr.s.look, fun x o ho => row_want hr ho, fun x hx => ⟨rfl, rfl⟩, fun x y t hx hy h1 h2 => ?_, fun x t hx h => ?_, fun x hx hw => ?_, fun x o ho hw hd => ?_, fun x o ho hw hd => ?_, fun x hx hd => ?_, fun x hx hd => ?_, fun x y hx hy hd hp hu hpo => ?_, fun x id hx hd hid => ?_, ?_⟩
  · have : d < d' := by
      rcases Nat.lt_or_ge d d' with h | h
      · exact h
      · have := rkA_le (ops := ops) h (Nat.le_of_lt hd); omega
    exact hr.s.tot d' d hd' this h2 h1
  · rcases Nat.lt_trichotomy d d' with h | h | h
    · have := rkA_lt h1 h (Nat.le_of_lt hd'); omega
    · exact h
    · have := rkA_lt h2 h (Nat.le_of_lt hd); omega
  · obtain ⟨d, g1, g2, g3⟩ := rkA_sur (ops := ops) (Nat.le_refl _) g hg
    exact ⟨d, g1, g2, g3⟩
  · exact ((row_T hr (k := ops.size) (Nat.le_refl _)).2.2.1 x t hx h).1
  · exact (txR_get (T0 := T0) (σ := σ) hr.s x ops.size (Nat.le_refl _)).1 y t hy h1 h2
  · show (Option.rec (motive := fun _ => AV) (.tup .rnil) (fun v => v) ((txR ops T0 σ x ops.size).get t) : AV) = _
    rw [(txR_get (T0 := T0) (σ := σ) hr.s x ops.size (Nat.le_refl _)).2 t h]; rfl
  · obtain ⟨o, ho⟩ := hge x hx
    unfold wA at hw
    cases hr.st x o ho with
    | doit w h1 h2 h3 h4 h6 h7 h8 h9 h10 h11 =>
      rw [hw] at h8
      obtain ⟨q1, q2⟩ := h11 h8.symm
      refine ⟨q1, h9, fun hd => ?_⟩
      have := rkA_succ (ops := ops) hx
      rw [if_pos hd] at this
      rw [← this, row_hA hr (by omega)]
      exact q2
    | off h1 h2 h4 h5 h3 h6 h10 h7 h8 h9 => exact ⟨h5, h9, fun hd => by rw [hDo x o ho, h1] at hd; cases hd⟩
    | free H' h1 h2 h4 h5 h11 h3 h6 h10 h7 h8 h9 => rw [hw] at h8; cases h8
    | rd h1 h2 h4 h5 h11 h12 h3 h6 h10 h7 h8 h9 => rw [hw] at h8; cases h8
    | mark y a h1 h2 h4 hy hb hal h5 h3 h6 h10 h7 h8 h9 => rw [hw] at h8; cases h8
  · have hx : x < ops.size := (Array.getElem?_eq_some_iff.1 ho).1
    have hd' := hd
    rw [hDo x o ho] at hd'
    unfold wA at hw
    have hN : ∀ H, evN P gl (tA ops T0 σ x) H o.op = evN P gl (σ x).T H o.op := fun H => evN_congr (row_opd hr ho)
    cases hr.st x o ho with
    | doit w h1 h2 h3 h4 h6 h7 h8 h9 h10 h11 => rw [hd'] at h1; cases h1
    | off h1 h2 h4 h5 h3 h6 h10 h7 h8 h9 => rw [hw] at h8; cases h8
    | free H' h1 h2 h4 h5 h11 h3 h6 h10 h7 h8 h9 => exact .inl ⟨H', by rw [hN]; exact h5, h9, h11⟩
    | mark y a h1 h2 h4 hy hb hal h5 h3 h6 h10 h7 h8 h9 =>
      obtain ⟨p1, p2, _⟩ := (row_pend hr (k := x) (by omega)).1 _ hy
      exact .inr (.inr ⟨y, a, by have p1 : y < x := p1; omega, hb, h9, p2, hal, by rw [hN]; exact h5⟩)
    | rd h1 h2 h4 h5 h11 h12 h3 h6 h10 h7 h8 h9 =>
      have hrd : isRd P gl ops H0.next σ x := ⟨o, ho, h1, h10, h9, h8, h5, h11, h12⟩
      refine .inr (.inl ⟨h9, fun g hg c1 c2 => ?_⟩)
      rw [hN]
      have fin : ∀ r, evN P gl (σ x).T (hA ops σ g) o.op = some r → r.1 = vA σ x → evN P gl (σ x).T (hA ops σ g) o.op = some (vA σ x, hA ops σ g) := by
        rintro ⟨v, H⟩ e1 e2
        have e3 : H = hA ops σ g := roOp_rel h11 e1
        have e2 : v = vA σ x := e2
        rw [e1, e2, e3]
      rcases Nat.lt_trichotomy g (rkA ops x) with h | h | h
      · obtain ⟨d, k1, k2, k3⟩ := rkA_sur (ops := ops) (k := x) (by omega) g h
        obtain ⟨r, e1, e2⟩ := row_hs hr (k := x) (by omega) _ _ _ _ h12 d k1 k2 (fun d' q1 q2 q3 => by
          cases hq : Nat.testBit (mask ops x) d' with
          | false => rfl
          | true =>
            have := c1 d' (by omega) q3 hq
            have := rkA_le (ops := ops) q1 (by omega)
            omega)
        rw [k3] at e1
        exact fin r e1 e2
      · rw [h, row_hA hr (by omega)]; exact h5
      · obtain ⟨d, k1, k2, k3⟩ := rkA_sur (ops := ops) (Nat.le_refl _) (g - 1) (by omega)
        have hxd : x < d := by
          rcases Nat.lt_or_ge x d with q | q
          · exact q
          · have e : d ≠ x := fun e => by subst e; rw [hd] at k2; cases k2
            have := rkA_lt k2 (show d < x by omega) (by omega)
            omega
        have hsucc := rkA_succ (ops := ops) k1
        rw [if_pos k2] at hsucc
        have hgd : hA ops σ g = (σ (d + 1)).H := by
          rw [show g = rkA ops (d + 1) by omega]
          exact row_hA hr (by omega)
        have hmem := row_bl hr (k := d) (by omega) x hxd hrd (fun d' q1 q2 => c2 d' (by omega) q2 (by have := rkA_lt q2 q1 (by omega); omega)) o ho
        obtain ⟨od, hod⟩ := hge d k1
        cases hr.st d od hod with
        | doit w g1 g2 g3 g4 g6 g7 g8 g9 g10 g11 =>
          rcases chkB_mem g3 _ hmem with q | ⟨_, r, e1, e2⟩
          · have := c2 d k1 k2 (by omega)
            unfold pmB at this
            rw [this] at q; cases q
          · rw [← hgd] at e1
            exact fin r e1 e2
        | off g1 g2 g4 g5 g3 g6 g10 g7 g8 g9 => rw [hDo d od hod, g1] at k2; cases k2
        | free H' g1 g2 g4 g5 g11 g3 g6 g10 g7 g8 g9 => rw [hDo d od hod, g1] at k2; cases k2
        | rd g1 g2 g4 g5 g11 g12 g3 g6 g10 g7 g8 g9 => rw [hDo d od hod, g1] at k2; cases k2
        | mark y a g1 g2 g4 gy gb gal g5 g3 g6 g10 g7 g8 g9 => rw [hDo d od hod, g1] at k2; cases k2
  · have hx : x < ops.size := (Array.getElem?_eq_some_iff.1 ho).1
    rw [hDo x o ho] at hd
    unfold wA at hw
    rw [evOp_congr (row_opd hr ho)]
    cases hr.st x o ho with
    | doit w h1 h2 h3 h4 h6 h7 h8 h9 h10 h11 =>
      rw [hw] at h8
      have := rkA_succ (ops := ops) hx
      rw [hDo x o ho, if_pos hd] at this
      rw [← this, row_hA hr (by omega)]
      exact h10 h8.symm
    | off h1 h2 h4 h5 h3 h6 h10 h7 h8 h9 => rw [hd] at h1; cases h1
    | free H' h1 h2 h4 h5 h11 h3 h6 h10 h7 h8 h9 => rw [hd] at h1; cases h1
    | rd h1 h2 h4 h5 h11 h12 h3 h6 h10 h7 h8 h9 => rw [hd] at h1; cases h1
    | mark y a h1 h2 h4 hy hb hal h5 h3 h6 h10 h7 h8 h9 => rw [hd] at h1; cases h1
  · obtain ⟨o, ho⟩ := hge x hx
    rw [hDo x o ho] at hd
    cases hr.st x o ho with
    | doit w h1 h2 h3 h4 h6 h7 h8 h9 h10 h11 => exact h9
    | off h1 h2 h4 h5 h3 h6 h10 h7 h8 h9 => rw [hd] at h1; cases h1
    | free H' h1 h2 h4 h5 h11 h3 h6 h10 h7 h8 h9 => rw [hd] at h1; cases h1
    | rd h1 h2 h4 h5 h11 h12 h3 h6 h10 h7 h8 h9 => rw [hd] at h1; cases h1
    | mark y a h1 h2 h4 hy hb hal h5 h3 h6 h10 h7 h8 h9 => rw [hd] at h1; cases h1
  · unfold pA
    rw [place_next, row_hA hr (by omega)]
  · obtain ⟨i1, i2⟩ := row_pend hr (k := x) (by omega)
    cases hq : oA σ y with
    | none => exact absurd hq hpo
    | some ob =>
      have hlt := hr.s.lt hx hp
      have hm := i2 y ob hlt hq fun d hd1 hdD => hu d (by omega) hdD (rkA_lt hdD hd1 (by omega))
      rw [← hq]
      exact (place_get (n0 := H0.next) (mask ops x) (σ x).H (oA σ) (σ x).pend (fun p h => (i1 p h).2.1)).1 y ob hm hp
  · obtain ⟨i1, i2⟩ := row_pend hr (k := x) (by omega)
    rw [row_hA hr (by omega)]
    refine (place_get (n0 := H0.next) (mask ops x) (σ x).H (oA σ) (σ x).pend (fun p h => (i1 p h).2.1)).2 id fun y ob hy he => ?_
    obtain ⟨g1, g2, g3⟩ := i1 (y, ob) hy
    cases hb : Nat.testBit (mask ops x) y with
    | false => rfl
    | true =>
      have := hid y (by omega) he hb fun d hd1 hdD hrk => g3 d (by
        rcases Nat.lt_or_ge d x with q | q
        · exact q
        · have := rkA_le (ops := ops) q (by omega); omega) hdD
      have g2 : oA σ y = some ob := g2
      rw [this] at g2; cases g2
  · have h0 : rkA ops 0 = 0 := by unfold rkA; exact rkL_zero _
    have := row_hA hr (k := 0) (Nat.zero_le _)
    rw [h0, hr.i] at this
    exact this
end fin
end Go.Ev
