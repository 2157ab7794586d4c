/- A run cut in parts: what one call does out of a memory written down. -/
import Derived.Test.YtjjnffgpfiokiaaGreatDoorMvE
namespace Go.Ev
open Go.RowKit Go.MapKept
noncomputable def avseq (a : List AV) : List AV → Bool := List.rec (motive := fun _ => List AV → Bool) (fun b => isNil b) (fun e _ ih b => List.rec (motive := fun _ => Bool) false (fun f t _ => cnd (aveq e f) (ih t) false) b) a
theorem avseq_eq : ∀ {a b : List AV}, avseq a b = true → a = b
  | [], [], _ => rfl
  | [], _ :: _, h => by cases h
  | _ :: _, [], h => by cases h
  | e :: a, f :: b, h => by
    have h' : cnd (aveq e f) (avseq a b) false = true := h
    obtain ⟨h1, h2⟩ := cnd_true h'
    rw [aveq_eq h1, avseq_eq h2]
noncomputable def opeq (a b : Option AO) : Bool := Option.rec (motive := fun _ => Bool) (Option.rec (motive := fun _ => Bool) true (fun _ => false) b) (fun x => Option.rec (motive := fun _ => Bool) false (fun y => aoeq x y) b) a
theorem opeq_eq {a b : Option AO} (h : opeq a b = true) : a = b := by
  cases a <;> cases b
  · rfl
  · cases h
  · cases h
  · exact congrArg some (aoeq_eq h)
noncomputable def treq (a : Tr AO) : Tr AO → Bool := Tr.rec (motive := fun _ => Tr AO → Bool) (fun b => Tr.rec (motive := fun _ => Bool) true (fun _ _ _ _ _ => false) b)
  (fun _ v _ il ir b => Tr.rec (motive := fun _ => Bool) false (fun l' v' r' _ _ => cnd (il l') (cnd (opeq v v') (ir r') false) false) b) a
theorem treq_eq : ∀ {a b : Tr AO}, treq a b = true → a = b
  | .leaf, .leaf, _ => rfl
  | .leaf, .node _ _ _, h => by cases h
  | .node _ _ _, .leaf, h => by cases h
  | .node l v r, .node l' v' r', h => by
    have h' : cnd (treq l l') (cnd (opeq v v') (treq r r') false) false = true := h
    obtain ⟨h1, h2⟩ := cnd_true h'
    obtain ⟨h3, h4⟩ := cnd_true h2
    rw [treq_eq h1, opeq_eq h3, treq_eq h4]
/-- The one outcome, and what of its memory is asked for. -/
noncomputable def prune (live : List Nat) (o : Option (List (AV × Hp))) : Option (AV × Hp) := obind o fun rs => List.rec (motive := fun _ => Option (AV × Hp)) none (fun r t _ => List.rec (motive := fun _ => Option (AV × Hp)) (some (r.1, ⟨r.2.next, subT r.2 live⟩)) (fun _ _ _ => none) t) rs
theorem prune_some {live : List Nat} {o : Option (List (AV × Hp))} {q : AV × Hp} (h : prune live o = some q) : ∃ r, o = some [r] ∧ q = (r.1, ⟨r.2.next, subT r.2 live⟩) := by
  obtain ⟨rs, h1, h2⟩ := obind_some h
  cases rs with
  | nil => cases h2
  | cons r t =>
    cases t with
    | nil => cases h2; exact ⟨r, h1, rfl⟩
    | cons _ _ => cases h2
noncomputable def cutA (l0 : List AV) (n0 : Nat) (ks : List Nat) (T0 : Tr AO) (q : AV × Hp) (l : List AV) (H : Hp) : Option (AV × Hp) :=
  cnd (avseq l l0) (cnd (Nat.beq H.next n0) (cnd (treq (subT H ks) T0) (some (layR H ks q)) none) none) none
/-- Whether an outcome is the one written down. -/
noncomputable def qeq (o : Option (AV × Hp)) (q : AV × Hp) : Bool := Option.rec (motive := fun _ => Bool) false (fun r => cnd (aveq r.1 q.1) (cnd (Nat.beq r.2.next q.2.next) (treq r.2.tr q.2.tr) false) false) o
theorem qeq_eq {o : Option (AV × Hp)} {q : AV × Hp} (h : qeq o q = true) : o = some q := by
  cases o with
  | none => cases h
  | some r =>
    have h' : cnd (aveq r.1 q.1) (cnd (Nat.beq r.2.next q.2.next) (treq r.2.tr q.2.tr) false) false = true := h
    obtain ⟨h1, h2⟩ := cnd_true h'
    obtain ⟨h3, h4⟩ := cnd_true h2
    obtain ⟨r1, r2, r3⟩ := r
    obtain ⟨q1, q2, q3⟩ := q
    have e1 : r1 = q1 := aveq_eq h1
    have e2 : r2 = q2 := Nat.eq_of_beq_eq_true h3
    have e3 : r3 = q3 := treq_eq h4
    rw [e1, e2, e3]
theorem cut_known {P : Program} {gl : Nat → Option AV} {base : Nat} {w0 : World} {drw : Drawer} {ext : Ext} {fuel d : Nat} {hk : Nat → HK} {f : FuncId} {l0 : List AV} {n0 : Nat} {ks live : List Nat} {T0 : Tr AO} {q : AV × Hp}
    (hG : GlOk gl base w0) (hD : DrwOk P base w0 drw) (hX : ExtOk P base w0 ext) (hK : KnownOk P base w0 hk) (hN : ∀ (f : FuncId) (fn : Func), P.funcs[f]? = some fn → (fn.name == "runtime.NumGoroutine") = false)
    (hb : ∃ fn c, P.funcs[f]? = some fn ∧ fn.body = some c) (hrun : qeq (prune live ((lvlM P gl drw ext fuel hk d).1 f l0 ⟨n0, T0⟩)) q = true) :
    ∀ l E H w (args : Array Value) r, cutA l0 n0 ks T0 q l H = some r → F2 (V E) l args.toList → Inv E H w base w0 → Calls P f args w (RetOk E H w r) := by
  intro l E H w args r h hl hI
  unfold cutA at h
  obtain ⟨h1, h2⟩ := cnd_some h
  obtain ⟨h3, h4⟩ := cnd_some h2
  obtain ⟨h5, h6⟩ := cnd_some h4
  cases h6
  obtain rfl := avseq_eq h1
  have e1 : H.next = n0 := Nat.eq_of_beq_eq_true h3
  have e2 := treq_eq h5
  obtain ⟨r0, g1, rfl⟩ := prune_some (qeq_eq hrun)
  have hI2 := sub_inv hI ks
  have e3 : (⟨H.next, subT H ks⟩ : Hp) = ⟨n0, T0⟩ := by rw [e1, e2]
  rw [e3] at hI2
  obtain ⟨fn, c, k1, k2⟩ := hb
  have conv : ∀ e w', RetOk E ⟨n0, T0⟩ w r0 e w' → RetOk E H w (layR H ks (r0.1, ⟨r0.2.next, subT r0.2 live⟩)) e w' := by
    intro e w' hr
    rw [← e3] at hr
    refine lay_ret hI ?_
    obtain ⟨E', c, he, s, hv⟩ := hr
    exact ⟨E', c, he, s.less fun id o ho => (subT_get ho).2, hv⟩
  rcases (lvlM_rel (ext := ext) (fuel := fuel) hG hD hX hK hN d).1 f l E ⟨n0, T0⟩ w args _ g1 hl hI2 with ⟨⟨fn', p1, p2⟩, _⟩ | ⟨f', args', p1, p2⟩
  · exfalso
    rw [k1] at p1; cases p1
    rw [k2] at p2; cases p2
  · have := callFunc_enter k1 (hN f fn k1) k2 args w
    rw [this] at p1
    cases p1
    refine p2.mono fun e w' h => ?_
    obtain ⟨r, hm, hr⟩ := h
    obtain rfl : r = r0 := by simpa using hm
    exact conv e w' hr
end Go.Ev
