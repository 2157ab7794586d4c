/- Calls on a part of memory; outcomes made one; functions known; the whole. -/
import Derived.Test.YtjjnffgpfiokiaaGreatDoorMvD
namespace Go.Ev
open Go.RowKit Go.MapKept

/-! ### A part of memory -/
noncomputable def subT (H : Hp) (ks : List Nat) : Tr AO := List.rec (motive := fun _ => Tr AO) .leaf (fun id _ ih => ih.put id (H.get id)) ks
theorem subT_get {H : Hp} : ∀ {ks : List Nat} {id : Nat} {o : AO}, (subT H ks).get id = some o → id ∈ ks ∧ H.get id = some o
  | [], id, o, h => by cases h
  | k :: ks, id, o, h => by
    have h' : ((subT H ks).put k (H.get k)).get id = some o := h
    rw [Tr.get_put] at h'
    split at h'
    · rename_i e; subst e; exact ⟨List.mem_cons_self, h'⟩
    · obtain ⟨h1, h2⟩ := subT_get h'
      exact ⟨List.mem_cons_of_mem _ h1, h2⟩
/-- The numbers a, a + 1, .. (m of them). -/
noncomputable def upN (m : Nat) : Nat → List Nat := Nat.rec (motive := fun _ => Nat → List Nat) (fun _ => []) (fun _ ih a => forceN a fun a => a :: ih (Nat.succ a)) m
theorem upN_mem : ∀ {m a x : Nat}, x ∈ upN m a → a ≤ x
  | 0, a, x, h => by cases h
  | m + 1, a, x, h => by
    have h' : x ∈ forceN a fun a => a :: upN m (a + 1) := h
    rw [forceN_eq] at h'
    rcases List.mem_cons.1 h' with rfl | h'
    · exact Nat.le_refl _
    · have := upN_mem h'; omega
/-- What a part has become, laid over the whole. -/
noncomputable def layT (S : Hp) (ks : List Nat) (t : Tr AO) : Tr AO := List.rec (motive := fun _ => Tr AO) t (fun id _ ih => ih.put id (S.get id)) ks
theorem layT_get {S : Hp} {t : Tr AO} : ∀ {ks : List Nat} {id : Nat}, (layT S ks t).get id = if id ∈ ks then S.get id else t.get id
  | [], id => by simp [layT]
  | k :: ks, id => by
    have h' : (layT S (k :: ks) t).get id = ((layT S ks t).put k (S.get k)).get id := rfl
    rw [h', Tr.get_put, layT_get]
    by_cases e : id = k
    · subst e; simp
    · simp [e]
noncomputable def layR (H : Hp) (ks : List Nat) (r : AV × Hp) : AV × Hp :=
  (r.1, ⟨r.2.next, layT r.2 (upN (Nat.sub r.2.next H.next) H.next) (layT r.2 ks H.tr)⟩)

theorem lay_ret {E : Env} {H : Hp} {w w0 : World} {base : Nat} {ks : List Nat} {r : AV × Hp} {e : Ending} {w' : World} (hI : Inv E H w base w0) (h : RetOk E ⟨H.next, subT H ks⟩ w r e w') : RetOk E H w (layR H ks r) e w' := by
  obtain ⟨E', c, he, s, hv⟩ := h
  have hsub : ∀ id o, (Hp.get ⟨H.next, subT H ks⟩) id = some o → H.get id = some o := fun id o h => (subT_get h).2
  have s2 := (Stp.frame s hI.hr hsub).2
  refine ⟨E', c, he, s2.less fun id o h => ?_, hv⟩
  have h' : (layT r.2 (upN (Nat.sub r.2.next H.next) H.next) (layT r.2 ks H.tr)).get id = some o := h
  rw [layT_get] at h'
  unfold frm
  have old : ∀ o', H.get id = some o' → id < H.next := fun o' ho' => by
    obtain ⟨b, z, x, g1, _⟩ := hI.hr.obj id o' ho'
    exact hI.bd id _ g1
  split at h'
  · rename_i hm
    have := upN_mem hm
    have hn : H.get id = none := by
      cases hg : H.get id with
      | none => rfl
      | some o' => have := old o' hg; omega
    rw [hn]
    split
    · rename_i h1 h2; cases h2
    · exact h'
  · rw [layT_get] at h'
    cases hg : H.get id with
    | none =>
      split
      · rename_i h1 h2; cases h2
      · split at h'
        · exact h'
        · have : H.tr.get id = none := hg
          rw [this] at h'; cases h'
    | some o' =>
      split
      · rename_i h1 h2
        cases h2
        split at h'
        · rename_i hk
          -- the part does not have it: then it is none behind, too
          have hx : (Hp.get ⟨H.next, subT H ks⟩) id = none := h1
          exfalso
          have key : ∀ ks : List Nat, id ∈ ks → (subT H ks).get id = some o' := by
            intro ks
            induction ks with
            | nil => intro h; cases h
            | cons k ks ih =>
              intro hm
              have e : (subT H (k :: ks)).get id = ((subT H ks).put k (H.get k)).get id := rfl
              rw [e, Tr.get_put]
              split
              · rename_i e; subst e; exact hg
              · rename_i e
                exact ih ((List.mem_cons.1 hm).resolve_left e)
          have := key ks hk
          have hx : (subT H ks).get id = none := h1
          rw [hx] at this; cases this
        · have : H.tr.get id = some o' := hg
          rw [this] at h'; exact h'
      · rename_i hne
        split at h'
        · exact h'
        · rename_i hk
          exfalso
          cases hs : (Hp.get ⟨H.next, subT H ks⟩) id with
          | none => exact hne o' hs rfl
          | some o2 => exact hk (subT_get (show (subT H ks).get id = some o2 from hs)).1

theorem sub_inv {E : Env} {H : Hp} {w w0 : World} {base : Nat} (hI : Inv E H w base w0) (ks : List Nat) : Inv E ⟨H.next, subT H ks⟩ w base w0 :=
  ⟨hI.hr.sub fun _ _ h => (subT_get h).2, hI.bd, fun id o b z h1 h2 => hI.live id o b z (subT_get h1).2 h2, hI.size, hI.low⟩

/-! ### Outcomes made one -/
theorem cnd_true {b c : Bool} (h : cnd b c false = true) : b = true ∧ c = true := by
  cases b
  · cases h
  · exact ⟨rfl, h⟩
noncomputable def enteq (e f : Ent) : Bool := cnd (Nat.beq e.2.2 f.2.2) (cnd (aveq e.1 f.1) (aveq e.2.1 f.2.1) false) false
theorem enteq_eq {e f : Ent} (h : enteq e f = true) : e = f := by
  obtain ⟨h1, h2⟩ := cnd_true h
  obtain ⟨h3, h4⟩ := cnd_true h2
  obtain ⟨a, b, c⟩ := e
  obtain ⟨a', b', c'⟩ := f
  have e1 : c = c' := Nat.eq_of_beq_eq_true h1
  have e2 : a = a' := aveq_eq h3
  have e3 : b = b' := aveq_eq h4
  subst e1; subst e2; subst e3; rfl
noncomputable def entseq (a : List Ent) : List Ent → Bool := List.rec (motive := fun _ => List Ent → Bool) (fun b => isNil b) (fun e _ ih b => List.rec (motive := fun _ => Bool) false (fun f t _ => cnd (enteq e f) (ih t) false) b) a
theorem entseq_eq : ∀ {a b : List Ent}, entseq a b = true → a = b
  | [], [], _ => rfl
  | [], _ :: _, h => by cases h
  | _ :: _, [], h => by cases h
  | e :: a, f :: b, h => by
    have h' : cnd (enteq e f) (entseq a b) false = true := h
    obtain ⟨h1, h2⟩ := cnd_true h'
    rw [enteq_eq h1, entseq_eq h2]
noncomputable def aoeq (a b : AO) : Bool := match a, b with
  | .cells r e x, .cells s f y => cnd (Nat.beq e f) (cnd (beqB x y) (aveq r s) false) false
  | .map es c, .map fs d => cnd (Nat.beq c d) (entseq es fs) false
  | _, _ => false
theorem aoeq_eq {a b : AO} (h : aoeq a b = true) : a = b := by
  unfold aoeq at h
  split at h
  · obtain ⟨h1, h2⟩ := cnd_true h
    obtain ⟨h3, h4⟩ := cnd_true h2
    rw [Nat.eq_of_beq_eq_true h1, beqB_eq h3, aveq_eq h4]
  · obtain ⟨h1, h2⟩ := cnd_true h
    rw [Nat.eq_of_beq_eq_true h1, entseq_eq h2]
  · cases h
/-- What two parts have in common. -/
noncomputable def comO (a b : Option AO) : Option AO := obind a fun x => obind b fun y => cnd (aoeq x y) (some x) none
theorem comO_some {a b : Option AO} {o : AO} (h : comO a b = some o) : a = some o ∧ b = some o := by
  obtain ⟨x, h1, h2⟩ := obind_some h
  obtain ⟨y, h3, h4⟩ := obind_some h2
  obtain ⟨h5, h6⟩ := cnd_some h4
  cases h6
  rw [← aoeq_eq h5] at h3
  exact ⟨h1, h3⟩
noncomputable def comT (A B : Hp) (ks : List Nat) : Tr AO := List.rec (motive := fun _ => Tr AO) .leaf (fun id _ ih => ih.put id (comO (A.get id) (B.get id))) ks
theorem comT_get {A B : Hp} : ∀ {ks : List Nat} {id : Nat} {o : AO}, (comT A B ks).get id = some o → A.get id = some o ∧ B.get id = some o
  | [], id, o, h => by cases h
  | k :: ks, id, o, h => by
    have h' : ((comT A B ks).put k (comO (A.get k) (B.get k))).get id = some o := h
    rw [Tr.get_put] at h'
    split at h'
    · rename_i e; subst e; exact comO_some h'
    · exact comT_get h'
noncomputable def maxN (a b : Nat) : Nat := cnd (Nat.ble a b) b a
theorem maxN_le (a b : Nat) : a ≤ maxN a b ∧ b ≤ maxN a b := by
  unfold maxN; rw [cnd_eq]; split
  · rename_i h; have := Nat.le_of_ble_eq_true h; omega
  · rename_i h; have : ¬ a ≤ b := fun hh => h (Nat.ble_eq_true_of_le hh); omega
noncomputable def mrg1 (ks : List Nat) (n : Nat) (r : AV × Hp) (q : AV × Hp) : Option (AV × Hp) :=
  cnd (aveq r.1 q.1) (some (r.1, ⟨maxN r.2.next q.2.next, comT r.2 q.2 (apl ks (upN (Nat.sub r.2.next n) n))⟩)) none
theorem Stp.up {E E' : Env} {f f' : Nat → Option AO} {n n' N : Nat} {w w' : World} (s : Stp E f n w E' f' n' w') (h : n' ≤ N) : Stp E f n w E' f' N w' :=
  ⟨s.le, fun id x e => (s.dom id x e).imp_right fun ⟨h1, h2, h3⟩ => ⟨h1, h2, Nat.lt_of_lt_of_le h3 h⟩, Nat.le_trans s.next h, s.hr, s.os, s.tape, s.output, s.size, s.kept, s.own⟩
theorem mrg1_ok {ks : List Nat} {n : Nat} {r q t : AV × Hp} (h : mrg1 ks n r q = some t) {E : Env} {H : Hp} {w : World} {e : Ending} {w' : World} (hr : RetOk E H w r e w' ∨ RetOk E H w q e w') : RetOk E H w t e w' := by
  obtain ⟨h1, h2⟩ := cnd_some h
  cases h2
  have hv := aveq_eq h1
  have hm := maxN_le r.2.next q.2.next
  rcases hr with ⟨E', c, he, s, v⟩ | ⟨E', c, he, s, v⟩
  · exact ⟨E', c, he, (s.up hm.1).less fun id o g => (comT_get g).1, v⟩
  · exact ⟨E', c, he, (s.up hm.2).less fun id o g => (comT_get g).2, by rw [hv]; exact v⟩
/-- All of them, made one. -/
noncomputable def mrgL (ks : List Nat) (n : Nat) (l : List (AV × Hp)) : (AV × Hp) → Option (AV × Hp) :=
  List.rec (motive := fun _ => (AV × Hp) → Option (AV × Hp)) (fun r => some r) (fun q _ ih r => obind (mrg1 ks n r q) fun t => ih t) l
theorem mrgL_ok {ks : List Nat} {n : Nat} {E : Env} {H : Hp} {w : World} {e : Ending} {w' : World} : ∀ {l : List (AV × Hp)} {r t : AV × Hp}, mrgL ks n l r = some t → (RetOk E H w r e w' ∨ ∃ q ∈ l, RetOk E H w q e w') → RetOk E H w t e w'
  | [], r, t, h, hr => by
    cases h
    rcases hr with hr | ⟨q, hq, _⟩
    · exact hr
    · cases hq
  | q :: l, r, t, h, hr => by
    have h' : (obind (mrg1 ks n r q) fun t => mrgL ks n l t) = some t := h
    obtain ⟨u, h1, h2⟩ := obind_some h'
    rcases hr with hr | ⟨q', hq, hr⟩
    · exact mrgL_ok h2 (.inl (mrg1_ok h1 (.inl hr)))
    · rcases List.mem_cons.1 hq with rfl | hq
      · exact mrgL_ok h2 (.inl (mrg1_ok h1 (.inr hr)))
      · exact mrgL_ok h2 (.inr ⟨q', hq, hr⟩)
noncomputable def mrg (ks : List Nat) (n : Nat) (l : List (AV × Hp)) : List (AV × Hp) := List.rec (motive := fun _ => List (AV × Hp)) [] (fun r t _ => List.rec (motive := fun _ => List (AV × Hp)) [r] (fun _ _ _ => Option.rec (motive := fun _ => List (AV × Hp)) l (fun u => [u]) (mrgL ks n t r)) t) l
theorem mrg_ok {ks : List Nat} {n : Nat} {l : List (AV × Hp)} {E : Env} {H : Hp} {w : World} {e : Ending} {w' : World} (h : ∃ r ∈ l, RetOk E H w r e w') : ∃ r ∈ mrg ks n l, RetOk E H w r e w' := by
  obtain ⟨r, hm, hr⟩ := h
  cases l with
  | nil => cases hm
  | cons a t =>
    cases t with
    | nil => exact ⟨r, hm, hr⟩
    | cons b t =>
      have e1 : mrg ks n (a :: b :: t) = Option.rec (motive := fun _ => List (AV × Hp)) (a :: b :: t) (fun u => [u]) (mrgL ks n (b :: t) a) := rfl
      rw [e1]
      cases hg : mrgL ks n (b :: t) a with
      | none => exact ⟨r, hm, hr⟩
      | some u =>
        refine ⟨u, List.mem_singleton.2 rfl, mrgL_ok hg ?_⟩
        rcases List.mem_cons.1 hm with rfl | hm
        · exact .inl hr
        · exact .inr ⟨r, hm, hr⟩

/-! ### What a value leads to -/
noncomputable def refs (v : AV) : List Nat → List Nat :=
  AV.rec (motive := fun _ => List Nat → List Nat) (fun _ a => a) (fun _ _ a => a) (fun _ _ a => a) (fun a => a) (fun i _ a => i :: a) (fun _ _ a => a) (fun a => a) (fun i _ _ _ a => i :: a) (fun i _ _ _ a => i :: a)
    (fun a => a) (fun i a => i :: a) (fun a => a) (fun _ _ _ p q a => p (q a)) (fun i a => i :: a) (fun a => a) (fun _ _ ih a => ih a) (fun _ ih a => ih a) (fun _ ih a => ih a) (fun a => a) (fun _ _ v r a => v (r a)) (fun _ _ _ _ r a => r a) v
noncomputable def refsL (l : List AV) (a : List Nat) : List Nat := List.rec (motive := fun _ => List Nat) a (fun v _ ih => refs v ih) l
noncomputable def refsO (o : AO) (a : List Nat) : List Nat := match o with
  | .cells r _ _ => refs r a
  | .map es _ => List.rec (motive := fun _ => List Nat) a (fun e _ ih => refs e.1 (refs e.2.1 ih)) es
  | .iter (some m) _ _ _ => m :: a
  | _ => a
/-- The blocks that values lead to, d steps deep. -/
noncomputable def foot (H : Hp) (d : Nat) : List Nat → List Nat := Nat.rec (motive := fun _ => List Nat → List Nat) (fun _ => [])
  (fun _ ih front => apl front (ih (List.rec (motive := fun _ => List Nat) [] (fun id _ r => Option.rec (motive := fun _ => List Nat) r (fun o => refsO o r) (H.get id)) front))) d
noncomputable def dedup (l : List Nat) : List Nat := List.rec (motive := fun _ => List Nat) [] (fun x _t ih => cnd (hasN x ih) ih (x :: ih)) l

/-- How a function is called: as it stands; known to give a value; on what its arguments lead to, its outcomes made one. -/
inductive HK where
  | plain | known (s : List AV → Hp → Option (AV × Hp)) | small (d : Nat)
noncomputable def hkCall (k : HK) (c : List AV → Hp → Option (List (AV × Hp))) (l : List AV) (H : Hp) : Option (List (AV × Hp)) :=
  HK.rec (motive := fun _ => Option (List (AV × Hp))) (c l H) (fun s => lone' (s l H))
    (fun d => (fun ks => obind (c l ⟨H.next, subT H ks⟩) fun rs => some (lmp (layR H ks) (mrg ks H.next rs))) (dedup (foot H d (refsL l [])))) k

section
variable (P : Program) (gl : Nat → Option AV) (drw : Drawer) (ext : Ext) (fuel : Nat) (hk : Nat → HK)
noncomputable def ccOfM (p : CallerM × CallerM) (c : Code) (rd : Option Nat) : CsM := evCM P gl p.1 p.2 (drw (one p.1) (one p.2)) fuel c rd
noncomputable def call0M (p : CallerM × CallerM) : CallerM := fun f l H => obind (P.funcs[f]?) fun fn => Option.rec (motive := fun _ => Option (List (AV × Hp))) (lone' (ext f l H)) (fun c => evFnM P gl (ccOfM P gl drw fuel p) fn c l H) fn.body
noncomputable def callOfM (p : CallerM × CallerM) : CallerM := fun f l H => hkCall (hk f) (call0M P gl drw ext fuel p f) l H
noncomputable def lvlM (d : Nat) : CallerM × CallerM := Nat.rec (motive := fun _ => CallerM × CallerM) (fun _ _ _ => none, fun _ _ _ => none) (fun _ ih => (callOfM P gl drw ext fuel hk ih, evRM (ccOfM P gl drw fuel ih))) d
end

/-- What a function that is known must be. -/
def KnownOk (P : Program) (base : Nat) (w0 : World) (hk : Nat → HK) : Prop := ∀ f s, hk f = .known s → (∃ fn c, P.funcs[f]? = some fn ∧ fn.body = some c) ∧
  ∀ l E H w (args : Array Value) r, s l H = some r → F2 (V E) l args.toList → Inv E H w base w0 → Calls P f args w (RetOk E H w r)

theorem below_stp {E : Env} {f : Nat → Option AO} {n : Nat} {w w' : World} (hH : HR E f w) (hb : Below w.heap.size w w') : Stp E f n w E f n w' := by
  have hk : ∀ b, b < w.heap.size → w'.heap[b]? = w.heap[b]? := fun b h => hb.block b h
  refine ⟨Env.le_refl E, fun _ _ h => .inl h, Nat.le_refl _, ⟨fun id o h => ?_, hH.inj⟩, hb.os, hb.tape, hb.output, hb.size, fun b h _ => hk b h, fun id o b z h1 h2 => .inr ⟨id, o, z, h1, h2⟩⟩
  obtain ⟨b, z, x, g1, g2, g3⟩ := hH.obj id o h
  exact ⟨b, z, x, g1, by rw [hk b (Array.getElem?_eq_some_iff.1 g2).1]; exact g2, g3⟩

theorem lvlM_rel {P : Program} {gl : Nat → Option AV} {base : Nat} {w0 : World} {drw : Drawer} {ext : Ext} {fuel : Nat} {hk : Nat → HK} (hG : GlOk gl base w0) (hD : DrwOk P base w0 drw) (hX : ExtOk P base w0 ext) (hK : KnownOk P base w0 hk) (hN : ∀ (f : FuncId) (fn : Func), P.funcs[f]? = some fn → (fn.name == "runtime.NumGoroutine") = false) :
    ∀ d, CallOkM P base w0 (lvlM P gl drw ext fuel hk d).1 ∧ RoundOkM P base w0 (lvlM P gl drw ext fuel hk d).2
  | 0 => ⟨fun f l E H w args r h => (by cases h), fun id l E H w args r b z h => (by cases h)⟩
  | d + 1 => by
    obtain ⟨hC, hR⟩ := lvlM_rel (ext := ext) (fuel := fuel) hG hD hX hK hN d
    have hcc : ∀ c rd, CodeOkM P base w0 rd (ccOfM P gl drw fuel (lvlM P gl drw ext fuel hk d) c rd) c := fun c rd => evCM_rel hC hR hG (hD _ _ (one_ok hC) (one_round hR)) c rd
    have h0 : CallOkM P base w0 (call0M P gl drw ext fuel (lvlM P gl drw ext fuel hk d)) := by
      intro f l E H w args rs h hl hI
      unfold call0M at h
      obtain ⟨fn, h1, h2⟩ := obind_some h
      cases hb : fn.body with
      | none =>
        rw [hb] at h2
        obtain ⟨r, h3, rfl⟩ := lone_some h2
        exact .inl ⟨⟨fn, h1, hb⟩, r, List.mem_singleton.2 rfl, hX f fn l E H w args r h1 hb h3 hl hI⟩
      | some c =>
        rw [hb] at h2
        exact .inr ⟨f, args, callFunc_enter h1 (hN f fn h1) hb args w, evFnM_rel hG hcc h1 hb h2 hl hI⟩
    refine ⟨?_, evRM_rel hcc⟩
    intro f l E H w args rs h hl hI
    have h' : hkCall (hk f) (call0M P gl drw ext fuel (lvlM P gl drw ext fuel hk d) f) l H = some rs := h
    cases hkf : hk f with
    | plain => rw [hkf] at h'; exact h0 f l E H w args rs h' hl hI
    | known s =>
      rw [hkf] at h'
      obtain ⟨r, h1, rfl⟩ := lone_some h'
      obtain ⟨⟨fn, c, k1, k2⟩, k3⟩ := hK f s hkf
      exact .inr ⟨f, args, callFunc_enter k1 (hN f fn k1) k2 args w, (k3 l E H w args r h1 hl hI).mono fun e w' h => ⟨r, List.mem_singleton.2 rfl, h⟩⟩
    | small m =>
      rw [hkf] at h'
      have h'' : (obind (call0M P gl drw ext fuel (lvlM P gl drw ext fuel hk d) f l ⟨H.next, subT H (dedup (foot H m (refsL l [])))⟩) fun rs => some (lmp (layR H (dedup (foot H m (refsL l [])))) (mrg (dedup (foot H m (refsL l []))) H.next rs))) = some rs := h'
      obtain ⟨us, h1, h2⟩ := obind_some h''
      cases h2
      generalize dedup (foot H m (refsL l [])) = ks at *
      have mem : ∀ r ∈ mrg ks H.next us, layR H ks r ∈ lmp (layR H ks) (mrg ks H.next us) := fun r hr => by rw [lmp_eq]; exact List.mem_map.2 ⟨r, hr, rfl⟩
      have conv : ∀ e w', (∃ r ∈ us, RetOk E ⟨H.next, subT H ks⟩ w r e w') → ∃ r ∈ lmp (layR H ks) (mrg ks H.next us), RetOk E H w r e w' := by
        intro e w' h
        obtain ⟨r, hm, hr⟩ := mrg_ok (ks := ks) (n := H.next) h
        exact ⟨_, mem r hm, lay_ret hI hr⟩
      rcases h0 f l E _ w args us h1 hl (sub_inv hI ks) with ⟨g1, r, hm, E', c, w', g2, g3, g4⟩ | ⟨f', args', g1, g2⟩
      · obtain ⟨r', hm', E'', c', he, g5, g6⟩ := conv (.returned c) w' ⟨r, hm, E', c, rfl, g3, g4⟩
        cases he
        exact .inl ⟨g1, r', hm', E'', _, w', g2, g5, g6⟩
      · exact .inr ⟨f', args', g1, g2.mono fun e w' h => conv e w' h⟩

/-- A closed function all of whose outcomes are true. -/
noncomputable def isTr (v : AV) : Bool := AV.rec (motive := fun _ => Bool) (fun b => b) (fun _ _ => false)
    (fun _ _ => false) false (fun _ _ => false) (fun _ _ => false) false (fun _ _ _ _ => false) (fun _ _ _ _ => false)
    false (fun _ => false) false (fun _ _ _ _ _ => false) (fun _ => false) false (fun _ _ _ => false) (fun _ _ => false) (fun _ _ => false) false (fun _ _ _ _ => false) (fun _ _ _ _ _ => false) v
noncomputable def allTr (o : Option (List (AV × Hp))) : Bool := Option.rec (motive := fun _ => Bool) false (fun l => List.rec (motive := fun _ => Bool) true (fun r _ ih => cnd (isTr r.1) ih false) l) o
theorem isTr_eq {v : AV} (h : isTr v = true) : v = .bool true := by
  cases v with
  | bool b => have h : b = true := h; subst h; rfl
  | _ => cases h
theorem allTr_some {o : Option (List (AV × Hp))} (h : allTr o = true) : ∃ l, o = some l ∧ ∀ r ∈ l, r.1 = .bool true := by
  cases o with
  | none => cases h
  | some l =>
    refine ⟨l, rfl, ?_⟩
    have h' : List.rec (motive := fun _ => Bool) true (fun (r : AV × Hp) _ ih => cnd (isTr r.1) ih false) l = true := h
    clear h
    induction l with
    | nil => intro r hr; cases hr
    | cons a t ih =>
      obtain ⟨h1, h2⟩ := cnd_true h'
      intro r hr
      rcases List.mem_cons.1 hr with rfl | hr
      · exact isTr_eq h1
      · exact ih h2 r hr

/-- A closed call's outcomes. -/
theorem ev_closedM {P : Program} {gl : Nat → Option AV} {drw : Drawer} {ext : Ext} {fuel d : Nat} {hk : Nat → HK} {f : FuncId} {rs : List (AV × Hp)} (hN : ∀ (f : FuncId) (fn : Func), P.funcs[f]? = some fn → (fn.name == "runtime.NumGoroutine") = false)
    (h : (lvlM P gl drw ext fuel hk d).1 f [] H00 = some rs) (w : World) (hG : GlOk gl w.heap.size w) (hD : DrwOk P w.heap.size w drw) (hX : ExtOk P w.heap.size w ext) (hK : KnownOk P w.heap.size w hk) (hb : ∃ fn c, P.funcs[f]? = some fn ∧ fn.body = some c) :
    Calls P f #[] w (fun e w' => ∃ r ∈ rs, ∃ E c, e = .returned c ∧ V E r.1 c ∧ Below w.heap.size w w') := by
  have hI : Inv (fun _ => none) H00 w w.heap.size w := ⟨⟨fun id o ho => (by cases ho), fun id id' o o' b z z' h1 => (by cases h1)⟩, fun id x h => (by cases h), fun id o b z h1 => (by cases h1), Nat.le_refl _, fun _ _ => rfl⟩
  obtain ⟨fn, c, k1, k2⟩ := hb
  rcases (lvlM_rel (ext := ext) (fuel := fuel) hG hD hX hK hN d).1 f [] (fun _ => none) H00 w #[] _ h .nil hI with ⟨⟨fn', g1, g2⟩, _⟩ | ⟨f', args', g1, g2⟩
  · rw [k1] at g1; cases g1; rw [k2] at g2; cases g2
  · rw [callFunc_enter k1 (hN f fn k1) k2] at g1
    cases g1
    refine Calls.mono g2 ?_
    rintro e w' ⟨r, hm, he⟩
    have hbl := ret_below (E := fun _ => none) (H := H00) rfl he
    obtain ⟨E', c, rfl, _, hv⟩ := he
    exact ⟨r, hm, E', c, rfl, hv, hbl⟩
theorem ev_callsM {P : Program} {gl : Nat → Option AV} {drw : Drawer} {ext : Ext} {fuel d : Nat} {hk : Nat → HK} {f : FuncId} (hN : ∀ (f : FuncId) (fn : Func), P.funcs[f]? = some fn → (fn.name == "runtime.NumGoroutine") = false)
    (h : allTr ((lvlM P gl drw ext fuel hk d).1 f [] H00) = true) (w : World) (hG : GlOk gl w.heap.size w) (hD : DrwOk P w.heap.size w drw) (hX : ExtOk P w.heap.size w ext) (hK : KnownOk P w.heap.size w hk) (hb : ∃ fn c, P.funcs[f]? = some fn ∧ fn.body = some c) :
    Calls P f #[] w (fun e w' => e = .returned (.bool true) ∧ Below w.heap.size w w') := by
  obtain ⟨l, h1, h2⟩ := allTr_some h
  refine (ev_closedM hN h1 w hG hD hX hK hb).mono ?_
  rintro e w' ⟨r, hm, E, c, rfl, hv, hb⟩
  rw [h2 r hm] at hv
  exact ⟨by rw [V_bool hv], hb⟩
end Go.Ev
