/- Code, whole; ranges over functions; rounds. -/
import Derived.Test.YtjjnffgpfiokiaaGreatDoorEvT
namespace Go.Ev
open Go.RowKit Go.MapKept

abbrev Cs := Fm → Hp → Option (Ex × Fm × Hp)
noncomputable def exElim {α : Type} (e : Ex) (nor : α) (exit goto : Nat → α) (ret : α) : α := Ex.rec (motive := fun _ => α) nor exit goto ret e

section ev
variable (P : Program) (gl : Nat → Option AV) (call rnd : Caller) (drw : Array Oper → Fm → Hp → Option (Fm × Hp)) (fuel : Nat)

noncomputable def ccSeq (x y : Cs) : Cs := fun T H => obind (x T H) fun r => exElim r.1 (y r.2.1 r.2.2) (fun _ => some r) (fun _ => some r) (some r)
noncomputable def ccCond (c : Operand) (x y : Cs) : Cs := fun T H => obind (opd T c) fun v => obind (asB v) fun b => cnd b (x T H) (y T H)
noncomputable def ccBlock (id : Nat) (x : Cs) : Cs := fun T H => obind (x T H) fun r => exElim r.1 (some r) (fun i => cnd (Nat.beq i id) (some (.nor, r.2)) (some r)) (fun _ => some r) (some r)
noncomputable def ccLoop (x : Cs) (n : Nat) : Cs := Nat.rec (motive := fun _ => Cs) (fun _ _ => none) (fun _ ih T H => obind (x T H) fun r => exElim r.1 (ih r.2.1 r.2.2) (fun _ => some r) (fun _ => some r) (some r)) n
noncomputable def ccScope (x : Cs) : Cs := fun T H => obind (x T H) fun r => exElim r.1 (some r) (fun _ => some r) (fun _ => none) (some r)
noncomputable def jmp (pend : Option Code) (T : Fm) (H : Hp) : Option (Ex × Fm × Hp) := match pend with
  | none => some (.nor, T, H)
  | some .ret => some (.ret, T, H)
  | some (.exit i) => some (.exit i, T, H)
  | some (.goto l) => some (.goto l, T, H)
  | _ => none
/-- The end of a loop over a function. -/
noncomputable def endA (l : Nat) (T : Fm) (H : Hp) : Option (Ex × Fm × Hp) := obind (H.get l) fun o => match o with
  | .loop st pend fn n tr ps asg body dfs => (match st with
    | .busy => none
    | _ => jmp pend T ⟨H.next, H.tr.put l (some (.loop .exhausted pend fn n tr ps asg body dfs))⟩)
  | _ => none
noncomputable def rngCall (fv : AV) (l : Nat) (H : Hp) : Option (AV × Hp) := match fv with
  | .func (.func id) p q => obind (P.funcs[id]?) fun fn => obind fn.body fun _ => obind (rowL p) fun p => obind (rowL q) fun q => call id (apL p (.yld l :: q)) H
  | _ => none
noncomputable def ccRange (rd : Option Nat) (f : Operand) (ps : Array Tmp) (asg body : Code) : Cs := fun T H => obind (opd T f) fun fv => match rd with
  | none => newV H (.defd true) fun k H1 => newV H1 (.loop .ready none 0 T.n T.tr ps asg body k) fun l H2 =>
      obind (rngCall P call fv l H2) fun r => endA l ⟨T.n, T.tr, k :: T.marks⟩ r.2
  | some l0 => obind (H.get l0) fun o => match o with
    | .loop _ _ _ _ _ _ _ _ k => newV H (.loop .ready none 0 T.n T.tr ps asg body k) fun l H2 => obind (rngCall P call fv l H2) fun r => endA l T r.2
    | _ => none

noncomputable def evC (c : Code) : Option Nat → Cs :=
  Code.rec (motive := fun _ => Option Nat → Cs)
    (fun _ T H => some (.nor, T, H))
    (fun _ ops draw _ T H => omap (fun r => (.nor, r)) (cnd draw (drw ops T H) (evOps P gl call rnd ops ops.toList T H)))
    (fun _ _ x y rd => ccSeq (x rd) (y rd))
    (fun c _ _ x y rd => ccCond c (x rd) (y rd))
    (fun id _ x rd => ccBlock id (x rd))
    (fun _ x rd => ccLoop (x rd) fuel)
    (fun f ps asg body _ _ rd => ccRange P call rd f ps asg body)
    (fun id _ T H => some (.exit id, T, H))
    (fun _ x rd => ccScope (x rd))
    (fun _ _ T H => some (.nor, T, H))
    (fun l _ T H => some (.goto l, T, H))
    (fun _ T H => some (.ret, T, H))
    (fun _ _ _ _ => none) c
end ev

/-- The fence that stands for a round, or for none. -/
def RdOk (rd : Option Nat) (E : Env) (F : Fence) : Prop := match rd with
  | none => F = Fence.wide
  | some id => ∃ b z, E id = some (b, z) ∧ F = Fence.wide.inRound b
theorem RdOk.wd {rd : Option Nat} {E : Env} {F : Fence} (h : RdOk rd E F) : Wd F := by
  cases rd with
  | none => exact .inl h
  | some id => obtain ⟨b, z, _, h⟩ := h; exact .inr ⟨b, h⟩
theorem RdOk.mono {rd : Option Nat} {E E' : Env} {F : Fence} (h : RdOk rd E F) (hE : E.le E') : RdOk rd E' F := by
  cases rd with
  | none => exact h
  | some id => obtain ⟨b, z, h1, h⟩ := h; exact ⟨b, z, hE _ _ h1, h⟩

def CodeOk (P : Program) (base : Nat) (w0 : World) (rd : Option Nat) (x : Cs) (c : Code) : Prop :=
  ∀ (F : Fence) (n : Nat) (E : Env) (H : Hp) (w : World) (T : Fm) (a : Act) (r : Ex × Fm × Hp), RdOk rd E F → x T H = some r → Inv E H w base w0 → FR E T a →
    ∀ Q : Exit → Act → World → Prop, (∀ E' a' w', Stp E H.get H.next w E' r.2.2.get r.2.2.next w' → FR E' r.2.1 a' → Q r.1.to a' w') → c.wpIn F n P Q a w
def DrawOk (P : Program) (base : Nat) (w0 : World) (drw : Array Oper → Fm → Hp → Option (Fm × Hp)) : Prop :=
  ∀ (F : Fence) (n : Nat) (E : Env) (H : Hp) (w : World) (T : Fm) (a : Act) (ops : Array Oper) (id : Nat) (r : Fm × Hp), Wd F → drw ops T H = some r → Inv E H w base w0 → FR E T a →
    ∀ Q : Exit → Act → World → Prop, (∀ E' a' w', Stp E H.get H.next w E' r.2.get r.2.next w' → FR E' r.1 a' → Q .normal a' w') → (Code.region id ops true).wpIn F n P Q a w

section rel
variable {P : Program} {base : Nat} {w0 : World} {rd : Option Nat}
theorem ccSeq_rel {x y : Cs} {c d : Code} (hx : CodeOk P base w0 rd x c) (hy : CodeOk P base w0 rd y d) : CodeOk P base w0 rd (ccSeq x y) (.seq c d) := by
  intro F n E H w T a r hr h hI hT Q hq
  unfold ccSeq at h
  obtain ⟨⟨e, T1, H1⟩, h1, h2⟩ := obind_some h
  refine wpIn_seq (hx F n E H w T a _ hr h1 hI hT _ fun E' a' w' g1 g2 => ?_)
  cases e with
  | nor => exact hy F n E' H1 w' T1 a' r (hr.mono g1.le) h2 (hI.step g1) g2 Q fun E'' a'' w'' q1 q2 => hq E'' a'' w'' (g1.trans q1) q2
  | exit i => cases h2; exact hq E' a' w' g1 g2
  | goto i => cases h2; exact hq E' a' w' g1 g2
  | ret => cases h2; exact hq E' a' w' g1 g2
theorem ccCond_rel {x y : Cs} {c d : Code} {o : Operand} (hx : CodeOk P base w0 rd x c) (hy : CodeOk P base w0 rd y d) : CodeOk P base w0 rd (ccCond o x y) (.cond o c d) := by
  intro F n E H w T a r hr h hI hT Q hq
  unfold ccCond at h
  obtain ⟨v, h1, h2⟩ := obind_some h
  obtain ⟨b, h3, h4⟩ := obind_some h2
  have hb := asB_rel (opd_rel hT h1) h3
  cases b with
  | true => exact wpIn_cond_true hb (hx F n E H w T a r hr h4 hI hT Q hq)
  | false => exact wpIn_cond_false hb (hy F n E H w T a r hr h4 hI hT Q hq)
theorem ccBlock_rel {x : Cs} {c : Code} {id : Nat} (hx : CodeOk P base w0 rd x c) : CodeOk P base w0 rd (ccBlock id x) (.block id c) := by
  intro F n E H w T a r hr h hI hT Q hq
  unfold ccBlock at h
  obtain ⟨⟨e, T1, H1⟩, h1, h2⟩ := obind_some h
  refine wpIn_block (hx F n E H w T a _ hr h1 hI hT _ fun E' a' w' g1 g2 => ?_)
  cases e with
  | nor => cases h2; exact hq E' a' w' g1 g2
  | exit i =>
    have h2' : cnd (Nat.beq i id) (some (Ex.nor, T1, H1)) (some (Ex.exit i, T1, H1)) = some r := h2
    rw [cnd_eq] at h2'
    show (if i = id then Q .normal a' w' else Q (.exit i) a' w')
    split at h2'
    · rename_i hb
      cases h2'
      rw [if_pos (by simpa using hb)]
      exact hq E' a' w' g1 g2
    · rename_i hb
      cases h2'
      rw [if_neg (by simpa using hb)]
      exact hq E' a' w' g1 g2
  | goto i => cases h2; exact hq E' a' w' g1 g2
  | ret => cases h2; exact hq E' a' w' g1 g2
theorem ccScope_rel {x : Cs} {c : Code} (hx : CodeOk P base w0 rd x c) : CodeOk P base w0 rd (ccScope x) (.scope c) := by
  intro F n E H w T a r hr h hI hT Q hq
  unfold ccScope at h
  obtain ⟨⟨e, T1, H1⟩, h1, h2⟩ := obind_some h
  refine wpIn_scope (hx F n E H w T a _ hr h1 hI hT _ fun E' a' w' g1 g2 => ?_)
  cases e with
  | nor => cases h2; exact hq E' a' w' g1 g2
  | exit i => cases h2; exact hq E' a' w' g1 g2
  | goto i => cases h2
  | ret => cases h2; exact hq E' a' w' g1 g2
theorem ccLoop_rel {x : Cs} {c : Code} {N : Nat} (hx : CodeOk P base w0 rd x c) : CodeOk P base w0 rd (ccLoop x N) (.loop c) := by
  intro F n E H w T a r hr h hI hT Q hq
  refine wpIn_loop_fuel (fun j a w => ∃ E' H' T', RdOk rd E' F ∧ ccLoop x j T' H' = some r ∧ Inv E' H' w base w0 ∧ FR E' T' a ∧ ∀ E'' a' w', Stp E' H'.get H'.next w E'' r.2.2.get r.2.2.next w' → FR E'' r.2.1 a' → Q r.1.to a' w') N ⟨E, H, T, hr, h, hI, hT, hq⟩ ?_ ?_
  · rintro a w ⟨_, _, _, _, h, _⟩; cases h
  · rintro j a w ⟨E1, H1, T1, k1, k2, k3, k4, k5⟩
    have k2' : (obind (x T1 H1) fun r => exElim r.1 (ccLoop x j r.2.1 r.2.2) (fun _ => some r) (fun _ => some r) (some r)) = some r := k2
    obtain ⟨⟨e, T2, H2⟩, h1, h2⟩ := obind_some k2'
    refine hx F n E1 H1 w T1 a _ k1 h1 k3 k4 _ fun E' a' w' g1 g2 => ?_
    cases e with
    | nor => exact ⟨E', H2, T2, k1.mono g1.le, h2, k3.step g1, g2, fun E'' a'' w'' q1 q2 => k5 E'' a'' w'' (g1.trans q1) q2⟩
    | exit i => cases h2; exact k5 E' a' w' g1 g2
    | goto i => cases h2; exact k5 E' a' w' g1 g2
    | ret => cases h2; exact k5 E' a' w' g1 g2
end rel

/-! ### Ranges over functions -/
def JumpOk (F : Fence) (n : Nat) (P : Program) (Q : Exit → Act → World → Prop) (a : Act) (w : World) : Option Code → Prop
  | none => Q .normal a w
  | some c => c.wpIn F n P Q a w
theorem jmp_rel {P : Program} {pend : Option Code} {T : Fm} {H : Hp} {r : Ex × Fm × Hp} {F : Fence} {n : Nat} {a : Act} {w : World} {Q : Exit → Act → World → Prop} (h : jmp pend T H = some r)
    (hq : r.2 = (T, H) → Q r.1.to a w) : JumpOk F n P Q a w pend := by
  unfold jmp at h
  split at h
  · cases h; exact hq rfl
  · cases h; exact wpIn_ret (hq rfl)
  · cases h; exact wpIn_exit (hq rfl)
  · cases h; exact wpIn_goto (hq rfl)
  · cases h

theorem endA_rel {P : Program} {base : Nat} {w0 : World} {l b z : Nat} {T : Fm} {H : Hp} {r : Ex × Fm × Hp} {F : Fence} {n : Nat} {E : Env} {a : Act} {w : World} {Q : Exit → Act → World → Prop} (hI : Inv E H w base w0) (hT : FR E T a) (hl : E l = some (b, z))
    (h : endA l T H = some r) (hq : ∀ E' a' w', Stp E H.get H.next w E' r.2.2.get r.2.2.next w' → FR E' r.2.1 a' → Q r.1.to a' w') :
    ∃ jump w₄, (Instr.endLoop b).run P w = .ok jump w₄ ∧ JumpOk F n P Q a w₄ jump := by
  unfold endA at h
  obtain ⟨o, h1, h2⟩ := obind_some h
  split at h2
  · rename_i st pend fn0 m tr ps asg body dfs
    obtain ⟨b', z', x', g1, g2, fn, tmps, bd, zd, g3, g4, rfl⟩ := hI.hr.obj _ _ h1
    rw [hl] at g1; injection g1 with g1; injection g1 with g1 g1'; subst g1; subst g1'
    have hb : st ≠ .busy := by intro e; subst e; cases h2
    have hjmp : jmp pend T ⟨H.next, H.tr.put l (some (.loop .exhausted pend fn0 m tr ps asg body dfs))⟩ = some r := by
      cases st <;> first | exact absurd rfl hb | exact h2
    refine ⟨pend, _, run_endLoop g2 hb, ?_⟩
    refine jmp_rel hjmp fun hr => ?_
    have hr1 : r.2.1 = T := by rw [hr]
    have hr2 : r.2.2 = ⟨H.next, H.tr.put l (some (.loop .exhausted pend fn0 m tr ps asg body dfs))⟩ := by rw [hr]
    refine hq E a _ ?_ (by rw [hr1]; exact hT)
    rw [hr2]
    show Stp E H.get H.next w E (Hp.get ⟨H.next, H.tr.put _ _⟩) H.next _
    rw [upd_put]
    exact hI.hr.put h1 hl ⟨fn, tmps, bd, zd, g3, g4, rfl⟩
  · cases h2

theorem rngCall_rel {P : Program} {base : Nat} {w0 : World} {call : Caller} (hC : CallOk P base w0 call) {F : Fence} (hF : Wd F) {n : Nat} {E : Env} {H : Hp} {w : World} {fv : AV} {l b z : Nat} {r : AV × Hp} {a : Act} {g : Operand}
    (hI : Inv E H w base w0) (hf : V E fv (a.eval g)) (hl : E l = some (b, z)) (h : rngCall P call fv l H = some r) {R : Ending → World → Prop}
    (hR : ∀ E' c w', Stp E H.get H.next w E' r.2.get r.2.next w' → R (.returned c) w') :
    ∃ d f args, (resolve a.eval (rangeCall g b) 0).run P w = .ok d w ∧ (∀ f', Target.leads P w d.target d.args = some f' → F.fn f') ∧ (invoke d.target d.args).run P w = .ok (.enter f args) w ∧ CallsIn F n P f args w R := by
  unfold rngCall at h
  split at h
  · rename_i id p q
    obtain ⟨fn, h1, h2⟩ := obind_some h
    obtain ⟨bd, h3, h4⟩ := obind_some h2
    obtain ⟨lp, h5, h6⟩ := obind_some h4
    obtain ⟨lq, h7, h8⟩ := obind_some h6
    obtain ⟨_, ps, qs, hev, k1, k2⟩ := V_func hf
    have hargs : F2 (V E) (apL lp (.yld l :: lq)) (ps ++ #[Value.func (.yield b) #[] #[]] ++ qs).toList := by
      have := apL_rel (rowL_rel k1 h5) (F2.cons (show V E (.yld l) (.func (.yield b) #[] #[]) from ⟨b, z, hl, rfl⟩) (rowL_rel k2 h7))
      simpa using this
    rcases hC id _ E H w _ r h8 hargs hI with ⟨⟨fn', g1, g2⟩, _⟩ | ⟨f', args', g1, g2⟩
    · rw [h1] at g1; cases g1; rw [h3] at g2; cases g2
    · refine ⟨{ target := .fn (.func id) qs, args := ps ++ #[Value.func (.yield b) #[] #[]] }, f', args', ?_, fun _ _ => hF.fn _, ?_, ?_⟩
      · have hcst : ∀ v, a.eval (.const v) = v := fun _ => rfl
        simp [resolve, hev, Deferred.ofValue, hcst]
      · exact g1
      · refine (hF.calls g2).mono ?_
        rintro e w' ⟨E', c, rfl, g3, _⟩
        exact hR E' c w' g3
  · cases h

theorem ccRange_rel {P : Program} {base : Nat} {w0 : World} {call : Caller} (hC : CallOk P base w0 call) {rd : Option Nat} {f : Operand} {ps : Array Tmp} {asg body : Code} : CodeOk P base w0 rd (ccRange P call rd f ps asg body) (.rangeFunc f ps asg body) := by
  intro F n E H w T a r hr h hI hT Q hq
  unfold ccRange at h
  obtain ⟨fv, h1, h2⟩ := obind_some h
  have hfv := opd_rel hT h1
  refine wpIn_rangeFunc fun fn hfn => ?_
  cases rd with
  | none =>
    have hF : F = Fence.wide := hr
    subst hF
    simp only [newV_eq] at h2
    obtain ⟨⟨v3, H3⟩, h3, h4⟩ := obind_some h2
    -- the two blocks
    obtain ⟨E1, s1, _, le1, e1⟩ := new_rel (H := H) (o := .defd true) (x := .deferred (some [])) hI.hr hI.bd.none 0 (fun _ _ => rfl)
    have hI1 : Inv E1 ⟨H.next + 1, H.tr.put H.next (some (.defd true))⟩ (w.alloc (.deferred (some []))) base w0 := hI.step s1
    obtain ⟨E2, s2, _, le2, e2⟩ := new_rel (H := ⟨H.next + 1, H.tr.put H.next (some (.defd true))⟩) (o := .loop .ready none 0 T.n T.tr ps asg body H.next)
      (x := .loop { state := .ready, pending := none, fn, tmps := a.tmps, params := ps, assign := asg, body, defers := w.heap.size }) hI1.hr hI1.bd.none 0
      (fun E' hE => ⟨fn, a.tmps, w.heap.size, 0, (hT.1.mono le1).mono hE, hE _ _ e1, rfl⟩)
    have hI2 := hI1.step (H' := ⟨H.next + 1 + 1, _⟩) s2
    have e2' : E2 (H.next + 1) = some (w.heap.size + 1, 0) := by have := e2; simpa using this
    have s12 := s1.trans s2
    obtain ⟨d, f', args, g1, g2, g3, g4⟩ := rngCall_rel (P := P) (F := Fence.wide) (n := n - 1) (R := rangePost Fence.wide n P (w.heap.size + 1) Q { a with defers := [{ target := .collected w.heap.size, args := #[] }] ++ a.defers }) hC (.inl rfl) hI2 (hfv.mono s12.le) e2' h3
      (fun E3 c w3 s3 => by
        have hI3 := hI2.step s3
        have hT3 : FR E3 ⟨T.n, T.tr, H.next :: T.marks⟩ { a with defers := [{ target := .collected w.heap.size, args := #[] }] ++ a.defers } := by
          have := (hT.mono s12.le).mono s3.le
          exact ⟨this.1, .cons ⟨_, 0, s3.le _ _ (le2 _ _ e1), rfl⟩ this.2⟩
        exact endA_rel hI3 hT3 (s3.le _ _ e2') h4 fun E' a' w' q1 q2 => hq E' a' w' ((s12.trans s3).trans q1) q2)
    exact ⟨w.heap.size + 1, [{ target := .collected w.heap.size, args := #[] }], _, d, _, f', args, _, run_enterLoop_outer fn a.tmps ps asg body, g1, g2, g3, (fun h => by cases h), g4⟩
  | some l0 =>
    obtain ⟨b0, z0, he0, hF⟩ := (hr : ∃ b z, E l0 = some (b, z) ∧ F = Fence.wide.inRound b)
    subst hF
    obtain ⟨o, h5, h6⟩ := obind_some h2
    split at h6
    · rename_i st0 pend0 fn0 m0 tr0 ps0 asg0 body0 k
      simp only [newV_eq] at h6
      obtain ⟨⟨v3, H3⟩, h3, h4⟩ := obind_some h6
      obtain ⟨b', z', x', q1, q2, fnr, tmpsr, bd, zd, q3, q4, rfl⟩ := hI.hr.obj _ _ h5
      rw [he0] at q1; injection q1 with q1; injection q1 with q1 q1'; subst q1; subst q1'
      obtain ⟨E2, s2, _, le2, e2⟩ := new_rel (H := H) (o := .loop .ready none 0 T.n T.tr ps asg body k)
        (x := .loop { state := .ready, pending := none, fn, tmps := a.tmps, params := ps, assign := asg, body, defers := bd }) hI.hr hI.bd.none 0
        (fun E' hE => ⟨fn, a.tmps, bd, zd, hT.1.mono hE, hE _ _ q4, rfl⟩)
      have hI2 := hI.step (H' := ⟨H.next + 1, _⟩) s2
      obtain ⟨d, f', args, g1, g2, g3, g4⟩ := rngCall_rel (P := P) (F := Fence.wide.inRound b0) (n := n - 1) (R := rangePost (Fence.wide.inRound b0) n P w.heap.size Q { a with defers := [] ++ a.defers }) hC (.inr ⟨b0, rfl⟩) hI2 (hfv.mono s2.le) e2 h3
        (fun E3 c w3 s3 => by
          have hI3 := hI2.step s3
          exact endA_rel hI3 ((hT.mono s2.le).mono s3.le) (s3.le _ _ e2) h4 fun E' a' w' q1 q2 => hq E' a' w' ((s2.trans s3).trans q1) q2)
      have hen : (Instr.enterLoop fn a.tmps ps asg body (Fence.wide.inRound b0).round).run P w = .ok (w.heap.size, []) (w.alloc (.loop { state := .ready, pending := none, fn, tmps := a.tmps, params := ps, assign := asg, body, defers := bd })) := by
        simp [Instr.enterLoop, run_getLoop q2]
      exact ⟨w.heap.size, [], _, d, _, f', args, _, hen, g1, g2, g3, (fun h => by cases h), g4⟩
    · cases h6

theorem evC_rel {P : Program} {gl : Nat → Option AV} {base : Nat} {w0 : World} {call rnd : Caller} {drw : Array Oper → Fm → Hp → Option (Fm × Hp)} {fuel : Nat} (hC : CallOk P base w0 call) (hR : RoundOk P base w0 rnd) (hG : GlOk gl base w0) (hD : DrawOk P base w0 drw) :
    ∀ (c : Code) (rd : Option Nat), CodeOk P base w0 rd (evC P gl call rnd drw fuel c rd) c := by
  intro c
  induction c with
  | skip => intro rd F n E H w T a r hr h hI hT Q hq; cases h; exact wpIn_skip (hq E a w (Stp.refl hI.hr) hT)
  | region id ops draw =>
    intro rd F n E H w T a r hr h hI hT Q hq
    have h' : omap (fun r => (Ex.nor, r)) (cnd draw (drw ops T H) (evOps P gl call rnd ops ops.toList T H)) = some r := h
    rw [omap_eq, Option.map_eq_some_iff] at h'
    obtain ⟨q, h1, rfl⟩ := h'
    cases draw with
    | true => exact hD F n E H w T a ops id q hr.wd h1 hI hT Q hq
    | false =>
      refine wpIn_region ?_
      have := evOps_rel (n := n) (Q := Q) hC hR hG hr.wd ops.toList 0 rfl hI hT h1 hq
      rw [Array.length_toList] at this
      rw [List.range_eq_range']
      exact this
  | seq x y hx hy => intro rd; exact ccSeq_rel (hx rd) (hy rd)
  | cond o x y hx hy => intro rd; exact ccCond_rel (hx rd) (hy rd)
  | block id x hx => intro rd; exact ccBlock_rel (hx rd)
  | loop x hx => intro rd; exact ccLoop_rel (hx rd)
  | rangeFunc f ps asg body _ _ => intro rd; exact ccRange_rel hC
  | exit id => intro rd F n E H w T a r hr h hI hT Q hq; cases h; exact wpIn_exit (hq E a w (Stp.refl hI.hr) hT)
  | scope x hx => intro rd; exact ccScope_rel (hx rd)
  | label l => intro rd F n E H w T a r hr h hI hT Q hq; cases h; exact wpIn_label (hq E a w (Stp.refl hI.hr) hT)
  | goto l => intro rd F n E H w T a r hr h hI hT Q hq; cases h; exact wpIn_goto (hq E a w (Stp.refl hI.hr) hT)
  | ret => intro rd F n E H w T a r hr h hI hT Q hq; cases h; exact wpIn_ret (hq E a w (Stp.refl hI.hr) hT)
  | refuse why => intro rd F n E H w T a r hr h hI hT Q hq; cases h
end Go.Ev
