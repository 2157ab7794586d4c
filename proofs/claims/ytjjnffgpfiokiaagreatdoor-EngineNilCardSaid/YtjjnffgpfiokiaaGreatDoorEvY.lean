/- Regions whose order is drawn. -/
import Derived.Test.YtjjnffgpfiokiaaGreatDoorEvX
namespace Go.Ev
open Go.RowKit Go.MapKept
open Classical

/-- The operation at a place, its target. -/
def dstA (ops : Array Oper) (x : Nat) : Option Tmp := (ops[x]?).bind (·.dst)

/-- What one order's run must have shown, for all orders to end alike. -/
structure Cert (P : Program) (gl : Nat → Option AV) (call rnd : Caller) (ops : Array Oper) (T0 : Fm) (H0 : Hp) (pm : Nat → Nat → Bool) (isD : Nat → Bool) (rk : Nat → Nat) (p : Nat) (val : Nat → AV) (hp : Nat → Hp) (po : Nat → Option AO) (wn : Nat → Bool) (Tx : Nat → Fm) (pl : Nat → Hp) : Prop where
  back : ∀ x (o : Oper), ops[x]? = some o → ∀ e ∈ o.after, Region.binds .any e = true → e.on < x
  pre : ∀ x (o : Oper), ops[x]? = some o → ∀ y, pm x y = true → ∃ e ∈ o.after, Region.binds .any e = true ∧ (y = e.on ∨ pm e.on y = true)
  tot : ∀ d d', d < ops.size → d' < ops.size → isD d = true → isD d' = true → rk d < rk d' → pm d' d = true
  inj : ∀ d d', d < ops.size → d' < ops.size → isD d = true → isD d' = true → rk d = rk d' → d = d'
  rkp : ∀ d, d < ops.size → isD d = true → rk d < p
  sur : ∀ g, g < p → ∃ d, d < ops.size ∧ isD d = true ∧ rk d = g
  dst : ∀ x y t, x < ops.size → y < ops.size → dstA ops x = some t → dstA ops y = some t → x = y
  dstn : ∀ x t, x < ops.size → dstA ops x = some t → t < T0.n
  look : ∀ x (o : Oper), ops[x]? = some o → ∀ t ∈ o.looksAt ops, ∀ y, y < ops.size → dstA ops y = some t → pm x y = true ∨ pm y x = true ∨ y = x
  want : ∀ x (o : Oper), ops[x]? = some o → wantA ops (Tx x) o.guard = some (wn x)
  txn : ∀ x, x < ops.size → (Tx x).n = T0.n ∧ (Tx x).marks = T0.marks
  tx1 : ∀ x y t, x < ops.size → y < ops.size → pm x y = true → dstA ops y = some t → (Tx x).get t = val y
  tx0 : ∀ x t, x < ops.size → (∀ y, y < ops.size → pm x y = true → dstA ops y ≠ some t) → (Tx x).get t = T0.get t
  off : ∀ x, x < ops.size → wn x = false → val x = .tup .rnil ∧ po x = none ∧ (isD x = true → hp (rk x + 1) = pl x)
  free : ∀ x (o : Oper), ops[x]? = some o → wn x = true → isD x = false →
    (∃ H', evN P gl (Tx x) ⟨H0.next + x, .leaf⟩ o.op = some (val x, H') ∧ po x = H'.get (H0.next + x) ∧ H'.next ≤ H0.next + x + 1) ∨
    (po x = none ∧ ∀ g, g ≤ p → (∀ d, d < ops.size → isD d = true → pm x d = true → rk d < g) → (∀ d, d < ops.size → isD d = true → rk d < g → pm d x = false) → evN P gl (Tx x) (hp g) o.op = some (val x, hp g)) ∨
    (∃ y a, y < ops.size ∧ pm x y = true ∧ po x = none ∧ po y = some a ∧ (∀ d, d < ops.size → isD d = true → pm d y = true → pm d x = true) ∧ evN P gl (Tx x) ⟨H0.next + x, (Tr.leaf : Tr AO).put (H0.next + y) (some a)⟩ o.op = some (val x, ⟨H0.next + x, (Tr.leaf : Tr AO).put (H0.next + y) (some a)⟩))
  does : ∀ x (o : Oper), ops[x]? = some o → wn x = true → isD x = true → evOp P gl call rnd (Tx x) (pl x) o.op = some (val x, hp (rk x + 1))
  isDn : ∀ x, x < ops.size → isD x = true → po x = none
  pln : ∀ x, x < ops.size → isD x = true → (pl x).next = (hp (rk x)).next
  pl1 : ∀ x y, x < ops.size → y < ops.size → isD x = true → pm x y = true → (∀ d, d < ops.size → isD d = true → rk d < rk x → pm d y = false) → po y ≠ none → (pl x).get (H0.next + y) = po y
  pl0 : ∀ x id, x < ops.size → isD x = true → (∀ y, y < ops.size → id = H0.next + y → pm x y = true → (∀ d, d < ops.size → isD d = true → rk d < rk x → pm d y = false) → po y = none) → (pl x).get id = (hp (rk x)).get id
  hp0 : hp 0 = ⟨H0.next + ops.size, H0.tr⟩

/-- Not yet laid by the first g that act. -/
def unpl (ops : Array Oper) (pm : Nat → Nat → Bool) (isD : Nat → Bool) (rk : Nat → Nat) (g y : Nat) : Prop := ∀ d, d < ops.size → isD d = true → rk d < g → pm d y = false

noncomputable def FS (ops : Array Oper) (H0 : Hp) (pm : Nat → Nat → Bool) (isD : Nat → Bool) (rk : Nat → Nat) (hp : Nat → Hp) (po : Nat → Option AO) (S : Nat → Prop) (g : Nat) : Nat → Option AO := fun id =>
  if H0.next ≤ id ∧ id - H0.next < ops.size ∧ S (id - H0.next) ∧ unpl ops pm isD rk g (id - H0.next) ∧ po (id - H0.next) ≠ none then po (id - H0.next) else (hp g).get id

structure Jn (ops : Array Oper) (T0 : Fm) (H0 : Hp) (pm : Nat → Nat → Bool) (isD : Nat → Bool) (rk : Nat → Nat) (p : Nat) (val : Nat → AV) (hp : Nat → Hp) (po : Nat → Option AO)
    (E0 : Env) (a0 : Act) (w0 : World) (S : Nat → Prop) (a : Act) (w : World) (E : Env) (g : Nat) : Prop where
  new : ∀ x, x < ops.size → ¬ S x → E (H0.next + x) = none
  un : ∀ x, x < ops.size → S x → po x ≠ none → unpl ops pm isD rk g x → (hp g).get (H0.next + x) = none
  sz : a.tmps.size = T0.n
  t1 : ∀ x t, x < ops.size → S x → dstA ops x = some t → V E (val x) (a.tmps.getD t undef)
  t0 : ∀ t, (∀ x, x < ops.size → S x → dstA ops x ≠ some t) → a.tmps.getD t undef = a0.tmps.getD t undef
  df : a.defers = a0.defers
  cl : ∀ x, x < ops.size → S x → ∀ y, pm x y = true → S y
  gp : g ≤ p
  gd : ∀ d, d < ops.size → isD d = true → (S d ↔ rk d < g)
  st : Stp E0 H0.get H0.next w0 E (FS ops H0 pm isD rk hp po S g) (hp g).next w
  lt : H0.next + ops.size ≤ (hp g).next

/-- How many are left. -/
noncomputable def cnt (S : Nat → Prop) : Nat → Nat
  | 0 => 0
  | k + 1 => cnt S k + (if S k then 0 else 1)
theorem cnt_zero {S : Nat → Prop} : ∀ {k : Nat}, cnt S k = 0 → ∀ x, x < k → S x
  | 0, _, x, h => absurd h (Nat.not_lt_zero x)
  | k + 1, h, x, hx => by
    have h : cnt S k + (if S k then 0 else 1) = 0 := h
    by_cases hk : S k
    · rcases Nat.lt_succ_iff_lt_or_eq.1 hx with h1 | h1
      · exact cnt_zero (by omega) x h1
      · rw [h1]; exact hk
    · rw [if_neg hk] at h; omega
theorem cnt_congr {S S' : Nat → Prop} : ∀ {k : Nat}, (∀ x, x < k → (S' x ↔ S x)) → cnt S' k = cnt S k
  | 0, _ => rfl
  | k + 1, h => by
    show cnt S' k + (if S' k then 0 else 1) = cnt S k + (if S k then 0 else 1)
    rw [cnt_congr (fun x hx => h x (by omega))]
    by_cases hk : S k
    · rw [if_pos hk, if_pos ((h k (by omega)).2 hk)]
    · rw [if_neg hk, if_neg (fun hh => hk ((h k (by omega)).1 hh))]
theorem cnt_set {S S' : Nat → Prop} {x : Nat} (hx : ¬ S x) (hS : ∀ y, S' y ↔ (S y ∨ y = x)) : ∀ {k : Nat}, x < k → cnt S' k + 1 = cnt S k
  | 0, h => absurd h (Nat.not_lt_zero x)
  | k + 1, h => by
    show cnt S' k + (if S' k then 0 else 1) + 1 = cnt S k + (if S k then 0 else 1)
    by_cases hk : x = k
    · subst hk
      rw [if_pos ((hS x).2 (.inr rfl)), if_neg hx]
      rw [cnt_congr (S := S) (fun y hy => ⟨fun h => ((hS y).1 h).resolve_right (by omega), fun h => (hS y).2 (.inl h)⟩)]
    · have := cnt_set hx hS (k := k) (by omega)
      have e : (if S' k then (0 : Nat) else 1) = (if S k then 0 else 1) := by
        by_cases h1 : S k
        · rw [if_pos h1, if_pos ((hS k).2 (.inl h1))]
        · rw [if_neg h1, if_neg (fun h2 => ((hS k).1 h2).elim h1 (fun h => hk h.symm))]
      rw [e]; omega

section sim
variable {P : Program} {gl : Nat → Option AV} {call rnd : Caller} {ops : Array Oper} {T0 : Fm} {H0 : Hp} {pm : Nat → Nat → Bool} {isD : Nat → Bool} {rk : Nat → Nat} {p : Nat} {val : Nat → AV} {hp : Nat → Hp} {po : Nat → Option AO} {wn : Nat → Bool} {Tx : Nat → Fm} {pl : Nat → Hp}

/-- The frame as an operation's forerunners alone have left it. -/
theorem acts (hc : Cert P gl call rnd ops T0 H0 pm isD rk p val hp po wn Tx pl) {E0 : Env} {a0 : Act} {wr : World} (hT0 : FR E0 T0 a0) {S : Nat → Prop} {a : Act} {w : World} {E : Env} {g : Nat} (hJ : Jn ops T0 H0 pm isD rk p val hp po E0 a0 wr S a w E g)
    {x : Nat} {o : Oper} (ho : ops[x]? = some o) (hx : ¬ S x) (hp : ∀ y, pm x y = true → S y) :
    ∃ a' : Act, FR E (Tx x) a' ∧ (∀ t ∈ o.looksAt ops, a.tmps[t]? = a'.tmps[t]?) := by
  have hxm : x < ops.size := (Array.getElem?_eq_some_iff.1 ho).1
  have hasz : a0.tmps.size = T0.n := hT0.1.1
  let f : Nat → Value := fun t => if ∃ y, y < ops.size ∧ S y ∧ pm x y = false ∧ dstA ops y = some t then a0.tmps.getD t undef else a.tmps.getD t undef
  have hget : ∀ t, ((Array.range T0.n).map f).getD t undef = if t < T0.n then f t else undef := by
    intro t
    rw [Array.getD_eq_getD_getElem?, Array.getElem?_map, Array.getElem?_range]
    by_cases ht : t < T0.n
    · simp [ht]
    · simp [ht]
  have hout : ∀ t, ¬ t < T0.n → a.tmps.getD t undef = undef := by
    intro t ht
    rw [Array.getD_eq_getD_getElem?, Array.getElem?_eq_none (by rw [hJ.sz]; omega)]; rfl
  have hout0 : ∀ t, ¬ t < T0.n → a0.tmps.getD t undef = undef := by
    intro t ht
    rw [Array.getD_eq_getD_getElem?, Array.getElem?_eq_none (by rw [hasz]; omega)]; rfl
  have hf : ∀ t, ((Array.range T0.n).map f).getD t undef = f t := by
    intro t
    rw [hget]
    by_cases ht : t < T0.n
    · rw [if_pos ht]
    · rw [if_neg ht]
      show undef = if _ then _ else _
      split
      · exact (hout0 t ht).symm
      · exact (hout t ht).symm
  refine ⟨{ tmps := (Array.range T0.n).map f, defers := a.defers }, ⟨⟨by rw [(hc.txn x hxm).1]; simp, fun t => ?_⟩, ?_⟩, ?_⟩
  · show V E ((Tx x).get t) (((Array.range T0.n).map f).getD t undef)
    rw [hf]
    by_cases h1 : ∃ y, y < ops.size ∧ pm x y = true ∧ dstA ops y = some t
    · obtain ⟨y, hy, hpy, hd⟩ := h1
      rw [hc.tx1 x y t hxm hy hpy hd]
      have hno : ¬ ∃ z, z < ops.size ∧ S z ∧ pm x z = false ∧ dstA ops z = some t := by
        rintro ⟨z, hz, _, h2, h3⟩
        have := hc.dst y z t hy hz hd h3
        subst this
        rw [hpy] at h2; cases h2
      show V E (val y) (if _ then _ else _)
      rw [if_neg hno]
      exact hJ.t1 y t hy (hp y hpy) hd
    · rw [hc.tx0 x t hxm (fun y hy hpy hd => h1 ⟨y, hy, hpy, hd⟩)]
      have e0 : V E (T0.get t) (a0.tmps.getD t undef) := (hT0.get t).mono hJ.st.le
      show V E (T0.get t) (if _ then _ else _)
      split
      · exact e0
      · rename_i h2
        rw [hJ.t0 t (fun y hy hSy hd => ?_)]
        · exact e0
        · cases hpy : pm x y with
          | true => exact h1 ⟨y, hy, hpy, hd⟩
          | false => exact h2 ⟨y, hy, hSy, hpy, hd⟩
  · rw [(hc.txn x hxm).2, hJ.df]
    exact (hT0.mono hJ.st.le).2
  · intro t ht
    have e1 : ((Array.range T0.n).map f).getD t undef = a.tmps.getD t undef := by
      rw [hf]
      show (if _ then _ else _) = _
      rw [if_neg]
      rintro ⟨y, hy, hSy, hpy, hd⟩
      rcases hc.look x o ho t ht y hy hd with h | h | h
      · rw [hpy] at h; cases h
      · exact hx (hJ.cl y hy hSy x h)
      · subst h; exact hx hSy
    by_cases ht' : t < T0.n
    · rw [Array.getD_eq_getD_getElem?, Array.getD_eq_getD_getElem?] at e1
      have h1 : t < a.tmps.size := by rw [hJ.sz]; exact ht'
      have h2 : t < ((Array.range T0.n).map f).size := by simpa using ht'
      rw [Array.getElem?_eq_getElem h1, Array.getElem?_eq_getElem h2] at e1 ⊢
      simp only [Option.getD_some] at e1
      rw [e1]
    · have h1 : a.tmps.size ≤ t := by rw [hJ.sz]; exact Nat.not_lt.1 ht'
      have h2 : ((Array.range T0.n).map f).size ≤ t := by simpa using Nat.not_lt.1 ht'
      rw [Array.getElem?_eq_none h1, Array.getElem?_eq_none h2]

theorem eval_of_look {o : Oper} {a a' : Act} (h : ∀ t ∈ o.looksAt ops, a.tmps[t]? = a'.tmps[t]?) : ∀ y ∈ o.op.operands, a.eval y = a'.eval y := by
  intro y hy
  cases y with
  | tmp t =>
    have := h t (List.mem_append_left _ (List.mem_filterMap.2 ⟨.tmp t, by simpa using hy, rfl⟩))
    simp [Act.eval, this]
  | _ => rfl
theorem wanted_of_look {o : Oper} {a a' : Act} (h : ∀ t ∈ o.looksAt ops, a.tmps[t]? = a'.tmps[t]?) : Region.wanted o (yielded ops a.tmps) = Region.wanted o (yielded ops a'.tmps) := by
  unfold Region.wanted
  cases hg : o.guard with
  | none => rfl
  | some gw =>
    obtain ⟨j, want⟩ := gw
    have : yielded ops a.tmps j = yielded ops a'.tmps j := by
      unfold yielded
      cases ht : (ops[j]?).bind (·.dst) with
      | none => rfl
      | some t =>
        have := h t (List.mem_append_right _ (by simp [hg, ht]))
        simp [this]
    simp only [this]

theorem put_get {a : Act} {o : Oper} {c : Value} {t : Tmp} : (a.put o.dst c).tmps.getD t undef = if o.dst = some t ∧ t < a.tmps.size then c else a.tmps.getD t undef := by
  cases hd : o.dst with
  | none => simp [Act.put]
  | some d =>
    simp only [Act.put]
    by_cases e : d = t
    · subst e
      by_cases ht : d < a.tmps.size
      · rw [if_pos ⟨rfl, ht⟩, Array.getD_eq_getD_getElem?, Array.getElem?_setIfInBounds_self_of_lt ht]; rfl
      · rw [if_neg (fun h => ht h.2)]
        have k1 : a.tmps.size ≤ d := Nat.not_lt.1 ht
        have k2 : (a.tmps.setIfInBounds d c).size ≤ d := by simpa using k1
        rw [Array.getD_eq_getD_getElem?, Array.getD_eq_getD_getElem?, Array.getElem?_eq_none k2, Array.getElem?_eq_none k1]
    · rw [if_neg (fun h => e (by injection h.1)), Array.getD_eq_getD_getElem?, Array.getElem?_setIfInBounds_ne e, ← Array.getD_eq_getD_getElem?]
theorem put_size {a : Act} {d : Option Tmp} {c : Value} : (a.put d c).tmps.size = a.tmps.size := by
  cases d <;> simp [Act.put]
theorem put_df {a : Act} {d : Option Tmp} {c : Value} : (a.put d c).defers = a.defers := by
  cases d <;> rfl
theorem dst_of {x : Nat} {o : Oper} (ho : ops[x]? = some o) : dstA ops x = o.dst := by simp [dstA, ho]

variable {E0 E E' : Env} {a0 a : Act} {wr w w' : World} {S S' : Nat → Prop} {g x : Nat} {o : Oper} {c : Value}
/-- What both kinds of steps do to a frame. -/
theorem step_t (hc : Cert P gl call rnd ops T0 H0 pm isD rk p val hp po wn Tx pl) (hJ : Jn ops T0 H0 pm isD rk p val hp po E0 a0 wr S a w E g) (ho : ops[x]? = some o) (hS : ∀ y, S' y ↔ (S y ∨ y = x)) (hE : E.le E') (hv : V E' (val x) c) :
    (∀ y t, y < ops.size → S' y → dstA ops y = some t → V E' (val y) ((a.put o.dst c).tmps.getD t undef)) ∧ (∀ t, (∀ y, y < ops.size → S' y → dstA ops y ≠ some t) → (a.put o.dst c).tmps.getD t undef = a0.tmps.getD t undef) := by
  have hxm : x < ops.size := (Array.getElem?_eq_some_iff.1 ho).1
  refine ⟨fun y t hy hSy hd => ?_, fun t ht => ?_⟩
  · rw [put_get]
    by_cases e : y = x
    · subst e
      rw [dst_of ho] at hd
      have htn : t < T0.n := hc.dstn y t hy (by rw [dst_of ho]; exact hd)
      rw [if_pos ⟨hd, by rw [hJ.sz]; exact htn⟩]
      exact hv
    · have hno : ¬ (o.dst = some t ∧ t < a.tmps.size) := fun h => e (hc.dst y x t hy hxm hd (by rw [dst_of ho]; exact h.1))
      rw [if_neg hno]
      exact (hJ.t1 y t hy (((hS y).1 hSy).resolve_right e) hd).mono hE
  · rw [put_get]
    have hno : ¬ (o.dst = some t ∧ t < a.tmps.size) := fun h => ht x hxm ((hS x).2 (.inr rfl)) (by rw [dst_of ho]; exact h.1)
    rw [if_neg hno]
    exact hJ.t0 t fun y hy hSy => ht y hy ((hS y).2 (.inl hSy))

theorem step_n (hc : Cert P gl call rnd ops T0 H0 pm isD rk p val hp po wn Tx pl) (hJ : Jn ops T0 H0 pm isD rk p val hp po E0 a0 wr S a w E g) (ho : ops[x]? = some o) (hx : ¬ S x) (hpre : ∀ y, pm x y = true → S y) (hS : ∀ y, S' y ↔ (S y ∨ y = x)) (hD : isD x = false)
    {G : Nat → Option AO} {n1 n2 : Nat} (s : Stp E (FS ops H0 pm isD rk hp po S g) n1 w E' G n2 w') (h1 : H0.next ≤ n1) (h2 : n2 ≤ (hp g).next) (hG : ∀ id ob, FS ops H0 pm isD rk hp po S' g id = some ob → G id = some ob)
    (hnew : ∀ y, y < ops.size → y ≠ x → ¬ S y → E' (H0.next + y) = none) (hv : V E' (val x) c) : Jn ops T0 H0 pm isD rk p val hp po E0 a0 wr S' (a.put o.dst c) w' E' g := by
  have hxm : x < ops.size := (Array.getElem?_eq_some_iff.1 ho).1
  obtain ⟨ht1, ht0⟩ := step_t hc hJ ho hS s.le hv
  refine ⟨fun y hy hSy => hnew y hy (fun e => hSy ((hS y).2 (.inr e))) (fun h => hSy ((hS y).2 (.inl h))), fun y hy hSy hpo hu => ?_, by rw [put_size]; exact hJ.sz, ht1, ht0, by rw [put_df]; exact hJ.df, fun y hy hSy z hz => ?_, hJ.gp, fun d hd hdD => ?_, hJ.st.trans' (s.less hG) h1 h2 (Nat.le_refl _), hJ.lt⟩
  · rcases (hS y).1 hSy with h | h
    · exact hJ.un y hy h hpo hu
    · subst h
      cases hg : (hp g).get (H0.next + y) with
      | none => rfl
      | some ob =>
        exfalso
        have hF : FS ops H0 pm isD rk hp po S g (H0.next + y) = some ob := by
          unfold FS
          rw [if_neg (fun h => hx (by have := h.2.2.1; rwa [Nat.add_sub_cancel_left] at this))]
          exact hg
        obtain ⟨b, z, xx, k1, _⟩ := hJ.st.hr.obj _ _ hF
        rw [hJ.new y hy hx] at k1; cases k1
  · rcases (hS y).1 hSy with h | h
    · exact (hS z).2 (.inl (hJ.cl y hy h z hz))
    · subst h; exact (hS z).2 (.inl (hpre z hz))
  · rw [hS]
    have : d ≠ x := fun e => by subst e; rw [hD] at hdD; cases hdD
    exact ⟨fun h => (hJ.gd d hd hdD).1 (h.resolve_right this), fun h => .inl ((hJ.gd d hd hdD).2 h)⟩

theorem rk_eq (hc : Cert P gl call rnd ops T0 H0 pm isD rk p val hp po wn Tx pl) (hJ : Jn ops T0 H0 pm isD rk p val hp po E0 a0 wr S a w E g) (hxm : x < ops.size) (hx : ¬ S x) (hpre : ∀ y, pm x y = true → S y) (hD : isD x = true) : rk x = g := by
  have h1 : ¬ rk x < g := fun h => hx ((hJ.gd x hxm hD).2 h)
  rcases Nat.lt_or_ge g (rk x) with h2 | h2
  · exfalso
    obtain ⟨d, hd, hdD, hdr⟩ := hc.sur g (Nat.lt_trans h2 (hc.rkp x hxm hD))
    have := hpre d (hc.tot d x hd hxm hdD hD (by omega))
    have := (hJ.gd d hd hdD).1 this
    omega
  · omega

theorem pl_sub (hc : Cert P gl call rnd ops T0 H0 pm isD rk p val hp po wn Tx pl) (hJ : Jn ops T0 H0 pm isD rk p val hp po E0 a0 wr S a w E g) (hxm : x < ops.size) (hx : ¬ S x) (hpre : ∀ y, pm x y = true → S y) (hD : isD x = true) :
    ∀ id ob, (pl x).get id = some ob → FS ops H0 pm isD rk hp po S g id = some ob := by
  have hg := rk_eq hc hJ hxm hx hpre hD
  intro id ob h
  by_cases hy : ∃ y, y < ops.size ∧ id = H0.next + y ∧ pm x y = true ∧ unpl ops pm isD rk g y ∧ po y ≠ none
  · obtain ⟨y, hy, rfl, h1, h2, h3⟩ := hy
    rw [hc.pl1 x y hxm hy hD h1 (by rw [hg]; exact h2) h3] at h
    unfold FS
    rw [Nat.add_sub_cancel_left, if_pos ⟨by omega, hy, hpre y h1, h2, h3⟩]
    exact h
  · rw [hc.pl0 x id hxm hD (fun y hym e h1 h2 => by
      cases hp0 : po y with
      | none => rfl
      | some q => exact absurd ⟨y, hym, e, h1, (by rw [hg] at h2; exact h2), by rw [hp0]; simp⟩ hy), hg] at h
    unfold FS
    rw [if_neg]
    · exact h
    · rintro ⟨k1, k2, k3, k4, k5⟩
      have := hJ.un _ k2 k3 k5 k4
      rw [show H0.next + (id - H0.next) = id by omega, h] at this
      cases this

theorem step_d (hc : Cert P gl call rnd ops T0 H0 pm isD rk p val hp po wn Tx pl) (hB0 : Bd E0 H0.next) (hJ : Jn ops T0 H0 pm isD rk p val hp po E0 a0 wr S a w E g) (ho : ops[x]? = some o) (hx : ¬ S x) (hpre : ∀ y, pm x y = true → S y) (hS : ∀ y, S' y ↔ (S y ∨ y = x)) (hD : isD x = true)
    (s : Stp E (pl x).get (pl x).next w E' (hp (g + 1)).get (hp (g + 1)).next w') (hv : V E' (val x) c) : Jn ops T0 H0 pm isD rk p val hp po E0 a0 wr S' (a.put o.dst c) w' E' (g + 1) := by
  have hxm : x < ops.size := (Array.getElem?_eq_some_iff.1 ho).1
  have hg := rk_eq hc hJ hxm hx hpre hD
  obtain ⟨ht1, ht0⟩ := step_t hc hJ ho hS s.le hv
  have hpn : (pl x).next = (hp g).next := by rw [hc.pln x hxm hD, hg]
  have hbd : Bd E (hp g).next := hJ.st.bd hB0
  have hsub := pl_sub hc hJ hxm hx hpre hD
  obtain ⟨new, s2⟩ := s.frame hJ.st.hr hsub
  have pend : ∀ y, y < ops.size → S y → po y ≠ none → unpl ops pm isD rk (g + 1) y → FS ops H0 pm isD rk hp po S g (H0.next + y) = po y ∧ (pl x).get (H0.next + y) = none := by
    intro y hy hSy hpo hu
    have hu' : unpl ops pm isD rk g y := fun d h1 h2 h3 => hu d h1 h2 (by omega)
    have hno : pm x y = false := hu x hxm hD (by omega)
    refine ⟨?_, ?_⟩
    · unfold FS
      rw [Nat.add_sub_cancel_left, if_pos ⟨by omega, hy, hSy, hu', hpo⟩]
    · rw [hc.pl0 x _ hxm hD (fun z hz e h1 h2 => by
        have : z = y := by omega
        subst this; rw [hno] at h1; cases h1), hg]
      exact hJ.un y hy hSy hpo hu'
  refine ⟨fun y hy hSy => ?_, fun y hy hSy hpo hu => ?_, by rw [put_size]; exact hJ.sz, ht1, ht0, by rw [put_df]; exact hJ.df, fun y hy hSy z hz => ?_, ?_, fun d hd hdD => ?_, hJ.st.trans' (s2.less fun id ob h => ?_) ?_ (Nat.le_refl _) ?_, ?_⟩
  · have hE : E (H0.next + y) = none := hJ.new y hy (fun h => hSy ((hS y).2 (.inl h)))
    cases he : E' (H0.next + y) with
    | none => rfl
    | some q =>
      exfalso
      rcases s.dom _ _ he with h | ⟨_, h, _⟩
      · rw [hE] at h; cases h
      · have := hJ.lt; omega
  · have hyx : y ≠ x := fun e => by subst e; exact hpo (hc.isDn y hxm hD)
    have hSy' := ((hS y).1 hSy).resolve_right hyx
    obtain ⟨k1, k2⟩ := pend y hy hSy' hpo hu
    cases hq : po y with
    | none => exact absurd hq hpo
    | some q =>
      rw [hq] at k1
      exact new _ q k1 k2
  · rcases (hS y).1 hSy with h | h
    · exact (hS z).2 (.inl (hJ.cl y hy h z hz))
    · subst h; exact (hS z).2 (.inl (hpre z hz))
  · have := hc.rkp x hxm hD; omega
  · rw [hS]
    constructor
    · rintro (h | h)
      · have := (hJ.gd d hd hdD).1 h; omega
      · subst h; omega
    · intro h
      by_cases e : d = x
      · exact .inr e
      · refine .inl ((hJ.gd d hd hdD).2 ?_)
        have : rk d ≠ g := fun h' => e (hc.inj d x hd hxm hdD hD (by omega))
        omega
  · unfold FS at h
    split at h
    · rename_i hcnd
      obtain ⟨k1, k2, k3, k4, k5⟩ := hcnd
      have hyx : id - H0.next ≠ x := fun e => by rw [e] at k5; exact k5 (hc.isDn x hxm hD)
      obtain ⟨q1, q2⟩ := pend _ k2 (((hS _).1 k3).resolve_right hyx) k5 k4
      rw [show H0.next + (id - H0.next) = id by omega] at q1 q2
      unfold frm
      rw [q2, q1, h]
    · unfold frm
      split
      · rename_i o' q1 q2
        rw [new id o' q2 q1] at h; cases h
      · exact h
  · rw [hpn]; have := hJ.lt; omega
  · have := s.next; rw [hpn] at this; exact this
  · have := s.next; rw [hpn] at this; have := hJ.lt; omega

/-- Every order of a region that is drawn ends alike. -/
theorem cert_any (hc : Cert P gl call rnd ops T0 H0 pm isD rk p val hp po wn Tx pl) {base : Nat} {w0 : World} (hC : CallOk P base w0 call) (hR : RoundOk P base w0 rnd) (hG : GlOk gl base w0) {F : Fence} (hF : Wd F) {n : Nat}
    {E0 : Env} {a0 : Act} {wr : World} (hI0 : Inv E0 H0 wr base w0) (hT0 : FR E0 T0 a0) {Q : Exit → Act → World → Prop}
    (hq : ∀ E S a w, (∀ x, x < ops.size → S x) → Jn ops T0 H0 pm isD rk p val hp po E0 a0 wr S a w E p → Q .normal a w) :
    ∀ (fuel : Nat) (listed : Array Bool) (S : Nat → Prop) (a : Act) (w : World) (E : Env) (g : Nat), listed.size = ops.size → (∀ i, S i ↔ listed.getD i false = true) → cnt S ops.size ≤ fuel → Jn ops T0 H0 pm isD rk p val hp po E0 a0 wr S a w E g →
      wpAnyIn F n P .any ops Q fuel listed a w := by
  have fin : ∀ S a w E g, (∀ x, x < ops.size → S x) → Jn ops T0 H0 pm isD rk p val hp po E0 a0 wr S a w E g → Q .normal a w := by
    intro S a w E g hall hJ
    have : g = p := by
      rcases Nat.lt_or_ge g p with h | h
      · obtain ⟨d, hd, hdD, hdr⟩ := hc.sur g h
        have := (hJ.gd d hd hdD).1 (hall d hd)
        omega
      · have := hJ.gp; omega
    subst this
    exact hq E S a w hall hJ
  have inv : ∀ {S a w E g}, Jn ops T0 H0 pm isD rk p val hp po E0 a0 wr S a w E g → ∀ {H : Hp}, (∀ id ob, H.get id = some ob → FS ops H0 pm isD rk hp po S g id = some ob) → E H.next = none → Inv0 E H w base w0 := by
    intro S a w E g hJ H hsub hnx
    have hlive : ∀ id ob b z, FS ops H0 pm isD rk hp po S g id = some ob → E id = some (b, z) → base ≤ b := by
      intro id ob b z h1 h2
      rcases hJ.st.own id ob b z h1 h2 with h3 | ⟨id0, o0, z0, h3, h4⟩
      · exact Nat.le_trans hI0.size h3
      · exact hI0.live id0 o0 b z0 h3 h4
    exact ⟨hJ.st.hr.sub hsub, hnx, fun id ob b z h1 h2 => hlive id ob b z (hsub _ _ h1) h2, Nat.le_trans hI0.size hJ.st.size, fun i hi => by
      rw [hJ.st.kept i (Nat.lt_of_lt_of_le hi hI0.size) (fun id ob z h1 h2 => by have := hI0.live id ob i z h1 h2; omega)]
      exact hI0.low i hi⟩
  intro fuel
  induction fuel with
  | zero =>
    intro listed S a w E g hsz hS hcnt hJ
    have hall := cnt_zero (S := S) (k := ops.size) (by omega)
    refine ⟨?_, fin S a w E g hall hJ⟩
    cases hr : Region.ready .any ops listed with
    | nil => rfl
    | cons i rest =>
      exfalso
      have hi : i ∈ Region.ready .any ops listed := by rw [hr]; exact .head _
      obtain ⟨h1, o, h2, _⟩ := mem_ready.1 hi
      have hlt := (Array.getElem?_eq_some_iff.1 h2).1
      have := (hS i).1 (hall i hlt)
      rw [Array.getD_eq_getD_getElem?, Array.getElem?_eq_getElem (by omega)] at this h1
      simp only [Option.getD_some] at this h1
      rw [h1] at this; cases this
  | succ fuel ih =>
    intro listed S a w E g hsz hS hcnt hJ
    refine ⟨fun hr => fin S a w E g ?_ hJ, fun x hx => ?_⟩
    · -- none is ready: all are done
      have key : ∀ k x, x < k → x < ops.size → S x := by
        intro k
        induction k with
        | zero => intro x h; exact absurd h (Nat.not_lt_zero x)
        | succ k ihk =>
          intro x hxk hxm
          by_cases hSx : S x
          · exact hSx
          · exfalso
            have ho : ops[x]? = some ops[x] := Array.getElem?_eq_getElem hxm
            have : x ∈ Region.ready .any ops listed := by
              refine mem_ready.2 ⟨?_, ops[x], ho, fun e he hb => ?_⟩
              · have h1 : ¬ listed.getD x false = true := fun h => hSx ((hS x).2 h)
                rw [Array.getD_eq_getD_getElem?, Array.getElem?_eq_getElem (by omega)] at h1 ⊢
                simpa using h1
              · have := hc.back x _ ho e he hb
                exact (hS e.on).1 (ihk e.on (by omega) (by omega))
            rw [hr] at this; cases this
      exact fun x hxm => key (x + 1) x (Nat.lt_succ_self x) hxm
    · obtain ⟨h1, o, ho, h2⟩ := mem_ready.1 hx
      have hxm : x < ops.size := (Array.getElem?_eq_some_iff.1 ho).1
      have hSx : ¬ S x := by
        intro h
        have h3 := (hS x).1 h
        rw [Array.getD_eq_getD_getElem?, Array.getElem?_eq_getElem (by omega)] at h3 h1
        simp only [Option.getD_some] at h3 h1
        rw [h1] at h3; cases h3
      have hpre : ∀ y, pm x y = true → S y := by
        intro y hy
        obtain ⟨e, he, hb, h3⟩ := hc.pre x o ho y hy
        have hon := (hS e.on).2 (h2 e he hb)
        rcases h3 with rfl | h3
        · exact hon
        · exact hJ.cl e.on (Nat.lt_trans (hc.back x o ho e he hb) hxm) hon y h3
      have hS' : ∀ y, (listed.setIfInBounds x true).getD y false = true ↔ (S y ∨ y = x) := by
        intro y
        rw [hS y]
        by_cases e : y = x
        · subst e
          rw [Array.getD_eq_getD_getElem?, Array.getElem?_setIfInBounds_self_of_lt (by omega)]
          simp
        · rw [Array.getD_eq_getD_getElem?, Array.getElem?_setIfInBounds_ne (fun h => e h.symm), ← Array.getD_eq_getD_getElem?]
          simp [e]
      have next : ∀ {a' w' E' g'}, Jn ops T0 H0 pm isD rk p val hp po E0 a0 wr (fun y => S y ∨ y = x) a' w' E' g' → wpAnyIn F n P .any ops Q fuel (listed.setIfInBounds x true) a' w' := by
        intro a' w' E' g' hJ'
        refine ih _ (fun y => S y ∨ y = x) a' w' E' g' (by simpa using hsz) (fun y => (hS' y).symm) ?_ hJ'
        have := cnt_set (S := S) (S' := fun y => S y ∨ y = x) hSx (fun y => Iff.rfl) hxm
        omega
      obtain ⟨a1, hT1, hlook⟩ := acts hc hT0 hJ ho hSx hpre
      have hwant := wantA_rel hT1 (hc.want x o ho)
      rw [← wanted_of_look hlook] at hwant
      unfold wpOpIn
      rw [ho]
      dsimp only
      have hid : E (H0.next + x) = none := hJ.new x hxm hSx
      cases hw : wn x with
      | false =>
        rw [hw] at hwant
        rw [hwant]
        refine ⟨fun f _ => hF.fn f, ?_⟩
        obtain ⟨q1, q2, q3⟩ := hc.off x hxm hw
        have hv : V E (val x) undef := by rw [q1]; exact ⟨_, rfl, rfl⟩
        cases hD : isD x with
        | false =>
          refine next (step_n hc hJ ho hSx hpre (fun y => Iff.rfl) hD (Stp.refl hJ.st.hr) (n1 := H0.next) (n2 := H0.next) (Nat.le_refl _) (by have := hJ.lt; omega) (fun id ob h => ?_) (fun y hy _ hSy => hJ.new y hy hSy) hv)
          unfold FS at h ⊢
          split at h
          · rename_i hcnd
            obtain ⟨k1, k2, k3, k4, k5⟩ := hcnd
            have : id - H0.next ≠ x := fun e => by rw [e] at k5; exact k5 q2
            rw [if_pos ⟨k1, k2, k3.resolve_right this, k4, k5⟩]
            exact h
          · rename_i hcnd
            rw [if_neg (fun hh => hcnd ⟨hh.1, hh.2.1, .inl hh.2.2.1, hh.2.2.2⟩)]
            exact h
        | true =>
          have hg := rk_eq hc hJ hxm hSx hpre hD
          have e1 : hp (g + 1) = pl x := by rw [← hg]; exact q3 hD
          have hsub := pl_sub hc hJ hxm hSx hpre hD
          refine next (step_d hc hI0.bd hJ ho hSx hpre (fun y => Iff.rfl) hD (g := g) ?_ hv)
          rw [e1]
          exact Stp.refl (hJ.st.hr.sub hsub)
      | true =>
        rw [hw] at hwant
        rw [hwant]
        have hev : execOp a.eval o = execOp a1.eval o ∨ ∃ cs b, o.op = .select cs b := by
          by_cases hs : ∃ cs b, o.op = .select cs b
          · exact .inr hs
          · exact .inl (execOp_congr o (fun cs b e => hs ⟨cs, b, e⟩) (eval_of_look hlook))
        have hbd : Bd E (hp g).next := hJ.st.bd hI0.bd
        have hpg : ∀ id ob, (hp g).get id = some ob → FS ops H0 pm isD rk hp po S g id = some ob := by
          intro id ob h
          unfold FS
          rw [if_neg]
          · exact h
          · rintro ⟨k1, k2, k3, k4, k5⟩
            have := hJ.un _ k2 k3 k5 k4
            rw [show H0.next + (id - H0.next) = id by omega, h] at this
            cases this
        cases hD : isD x with
        | true =>
          have hdo := hc.does x o ho hw hD
          have hg := rk_eq hc hJ hxm hSx hpre hD
          have hpn : (pl x).next = (hp g).next := by rw [hc.pln x hxm hD, hg]
          rw [hg] at hdo
          rcases hev with hev | ⟨cs, b, hs⟩
          · have hz := inv hJ (H := pl x) (pl_sub hc hJ hxm hSx hpre hD) (by rw [hpn]; exact hbd.none)
            have hI : Inv E (pl x) w base w0 := ⟨hz.hr, by rw [hpn]; exact hbd, hz.live, hz.size, hz.low⟩
            exact evOp_rel' hC hR hG hF hI hT1 hev hdo fun E' c w' s hv => next (step_d hc hI0.bd hJ ho hSx hpre (fun y => Iff.rfl) hD s hv)
          · rw [hs] at hdo; cases hdo
        | false =>
          rcases hc.free x o ho hw hD with ⟨H', hf, hpo, hnx⟩ | ⟨hpo, hf⟩ | ⟨y, ay, hym, hpy, hpo, hpoy, hall, hf⟩
          · rcases hev with hev | ⟨cs, b, hs⟩
            · have hz := inv hJ (H := ⟨H0.next + x, .leaf⟩) (fun id ob h => by cases h) hid
              refine evN_wp hF hz hG hT1 hev hf fun E' c w' s hv => ?_
              obtain ⟨_, s2⟩ := s.frame (F := FS ops H0 pm isD rk hp po S g) hJ.st.hr (fun id ob h => by cases h)
              refine next (step_n hc hJ ho hSx hpre (fun y => Iff.rfl) hD s2 (Nat.le_add_right _ _) (by have := hJ.lt; show H'.next ≤ _; omega) (fun id ob h => ?_) (fun y hy hyx hSy => ?_) hv)
              · by_cases e : id = H0.next + x
                · subst e
                  have hno : FS ops H0 pm isD rk hp po S g (H0.next + x) = none := by
                    cases hq : FS ops H0 pm isD rk hp po S g (H0.next + x) with
                    | none => rfl
                    | some q =>
                      obtain ⟨b, z, xx, k1, _⟩ := hJ.st.hr.obj _ _ hq
                      rw [hid] at k1; cases k1
                  unfold frm
                  rw [hno]
                  show H'.get (H0.next + x) = some ob
                  unfold FS at h
                  split at h
                  · rw [Nat.add_sub_cancel_left] at h
                    rw [← hpo]; exact h
                  · exact absurd (hpg _ _ h) (by rw [hno]; simp)
                · have h' : FS ops H0 pm isD rk hp po S g id = some ob := by
                    unfold FS at h ⊢
                    split at h
                    · rename_i hcnd
                      obtain ⟨k1, k2, k3, k4, k5⟩ := hcnd
                      rw [if_pos ⟨k1, k2, k3.resolve_right (by omega), k4, k5⟩]
                      exact h
                    · rename_i hcnd
                      rw [if_neg (fun hh => hcnd ⟨hh.1, hh.2.1, .inl hh.2.2.1, hh.2.2.2⟩)]
                      exact h
                  unfold frm
                  rw [h']
                  rfl
              · cases he : E' (H0.next + y) with
                | none => rfl
                | some q =>
                  exfalso
                  rcases s.dom _ _ he with k | ⟨_, k1, k2⟩
                  · rw [hJ.new y hy hSy] at k; cases k
                  · have k1 : H0.next + x ≤ H0.next + y := k1
                    have k2 : H0.next + y < H'.next := k2
                    omega
            · rw [hs] at hf; cases hf
          · rcases hev with hev | ⟨cs, b, hs⟩
            · have hfg := hf g hJ.gp (fun d hd hdD hpd => (hJ.gd d hd hdD).1 (hpre d hpd)) (fun d hd hdD hr => by
                cases hpd : pm d x with
                | false => rfl
                | true => exact absurd (hJ.cl d hd ((hJ.gd d hd hdD).2 hr) x hpd) hSx)
              have hz := inv hJ (H := hp g) hpg hbd.none
              refine evN_wp hF hz hG hT1 hev hfg fun E' c w' s hv => ?_
              obtain ⟨_, s2⟩ := s.frame (F := FS ops H0 pm isD rk hp po S g) hJ.st.hr hpg
              refine next (step_n hc hJ ho hSx hpre (fun y => Iff.rfl) hD s2 (by have := hJ.lt; omega) (Nat.le_refl _) (fun id ob h => ?_) (fun y hy hyx hSy => ?_) hv)
              · have h' : FS ops H0 pm isD rk hp po S g id = some ob := by
                  unfold FS at h ⊢
                  split at h
                  · rename_i hcnd
                    obtain ⟨k1, k2, k3, k4, k5⟩ := hcnd
                    have : id - H0.next ≠ x := fun e => by rw [e] at k5; exact k5 hpo
                    rw [if_pos ⟨k1, k2, k3.resolve_right this, k4, k5⟩]
                    exact h
                  · rename_i hcnd
                    rw [if_neg (fun hh => hcnd ⟨hh.1, hh.2.1, .inl hh.2.2.1, hh.2.2.2⟩)]
                    exact h
                unfold frm
                rw [h']
                cases hq : (hp g).get id with
                | none => rfl
                | some q =>
                  have := hpg id q hq
                  rw [h'] at this
                  exact this.symm
              · cases he : E' (H0.next + y) with
                | none => rfl
                | some q =>
                  exfalso
                  rcases s.dom _ _ he with k | ⟨_, k1, k2⟩
                  · rw [hJ.new y hy hSy] at k; cases k
                  · have := hJ.lt; omega
            · have hfg := hf g hJ.gp (fun d hd hdD hpd => (hJ.gd d hd hdD).1 (hpre d hpd)) (fun d hd hdD hr => by
                cases hpd : pm d x with
                | false => rfl
                | true => exact absurd (hJ.cl d hd ((hJ.gd d hd hdD).2 hr) x hpd) hSx)
              rw [hs] at hfg; cases hfg
          · rcases hev with hev | ⟨cs, b, hs⟩
            · have hSy : S y := hpre y hpy
              have hu : unpl ops pm isD rk g y := fun d hd hdD hr => by
                cases hpd : pm d y with
                | false => rfl
                | true => exact absurd (hJ.cl d hd ((hJ.gd d hd hdD).2 hr) x (hall d hd hdD hpd)) hSx
              have hFy : FS ops H0 pm isD rk hp po S g (H0.next + y) = some ay := by
                unfold FS
                rw [if_pos]
                · rw [Nat.add_sub_cancel_left]; exact hpoy
                · rw [Nat.add_sub_cancel_left]
                  exact ⟨Nat.le_add_right _ _, hym, hSy, hu, by rw [hpoy]; simp⟩
              have hsub : ∀ id ob, (Hp.get ⟨H0.next + x, (Tr.leaf : Tr AO).put (H0.next + y) (some ay)⟩) id = some ob → FS ops H0 pm isD rk hp po S g id = some ob := by
                intro id ob h
                have h' : ((Tr.leaf : Tr AO).put (H0.next + y) (some ay)).get id = some ob := h
                rw [Tr.get_put] at h'
                split at h'
                · rename_i e; subst e; rw [← h']; exact hFy
                · cases h'
              have hz := inv hJ (H := ⟨H0.next + x, (Tr.leaf : Tr AO).put (H0.next + y) (some ay)⟩) hsub hid
              refine evN_wp hF hz hG hT1 hev hf fun E' c w' s hv => ?_
              obtain ⟨_, s2⟩ := s.frame (F := FS ops H0 pm isD rk hp po S g) hJ.st.hr hsub
              refine next (step_n hc hJ ho hSx hpre (fun y => Iff.rfl) hD s2 (Nat.le_add_right _ _) (by have := hJ.lt; show H0.next + x ≤ _; omega) (fun id ob h => ?_) (fun y hy hyx hSy => ?_) hv)
              · have h' : FS ops H0 pm isD rk hp po S g id = some ob := by
                  unfold FS at h ⊢
                  split at h
                  · rename_i hcnd
                    obtain ⟨k1, k2, k3, k4, k5⟩ := hcnd
                    have : id - H0.next ≠ x := fun e => by rw [e] at k5; exact k5 hpo
                    rw [if_pos ⟨k1, k2, k3.resolve_right this, k4, k5⟩]
                    exact h
                  · rename_i hcnd
                    rw [if_neg (fun hh => hcnd ⟨hh.1, hh.2.1, .inl hh.2.2.1, hh.2.2.2⟩)]
                    exact h
                unfold frm
                rw [h']
                cases hq : (Hp.get ⟨H0.next + x, (Tr.leaf : Tr AO).put (H0.next + y) (some ay)⟩) id with
                | none => rfl
                | some q =>
                  have := hsub id q hq
                  rw [h'] at this
                  exact this.symm
              · cases he : E' (H0.next + y) with
                | none => rfl
                | some q =>
                  exfalso
                  rcases s.dom _ _ he with k | ⟨_, k1, k2⟩
                  · rw [hJ.new y hy hSy] at k; cases k
                  · have k1 : H0.next + x ≤ H0.next + y := k1
                    have k2 : H0.next + y < H0.next + x := k2
                    omega
            · rw [hs] at hf; cases hf
end sim
end Go.Ev
