/- Code, with all its outcomes; rounds; functions. -/
import Derived.Test.YtjjnffgpfiokiaaGreatDoorMvB
namespace Go.Ev
open Go.RowKit Go.MapKept

section ev
variable (P : Program) (gl : Nat → Option AV) (call rnd : CallerM)
noncomputable def evOneM (ops : Array Oper) (o : Oper) (T : Fm) (H : Hp) : Option (List (Fm × Hp)) :=
  obind (wantA ops T o.guard) fun b => cnd b (lbind (evOpM P gl call rnd T H o.op) fun r => forceV r.1 fun v => omap (fun T' => [(T', r.2)]) (fmPut T v o.dst))
    (omap (fun T' => [(T', H)]) (fmPut T (.tup .rnil) o.dst))
noncomputable def evOpsM (ops : Array Oper) (l : List Oper) : Fm → Hp → Option (List (Fm × Hp)) :=
  List.rec (motive := fun _ => Fm → Hp → Option (List (Fm × Hp))) (fun T H => some [(T, H)]) (fun o _ ih T H => lbind (evOneM P gl call rnd ops o T H) fun r => ih r.1 r.2) l
end ev

theorem evOpsM_rel {P : Program} {gl : Nat → Option AV} {base : Nat} {w0 : World} {call rnd : CallerM} (hC : CallOkM P base w0 call) (hR : RoundOkM P base w0 rnd) (hG : GlOk gl base w0)
    {F : Fence} (hF : Wd F) {n : Nat} {ops : Array Oper} {Q : Exit → Act → World → Prop} : ∀ (l : List Oper) (k : Nat) {E : Env} {H : Hp} {w : World} {T : Fm} {a : Act} {rs : List (Fm × Hp)}, ops.toList.drop k = l → Inv E H w base w0 → FR E T a → evOpsM P gl call rnd ops l T H = some rs →
    (∀ r ∈ rs, ∀ E' a' w', Stp E H.get H.next w E' r.2.get r.2.next w' → FR E' r.1 a' → Q .normal a' w') → wpOpsIn F n P ops Q (List.range' k l.length) a w
  | [], k, E, H, w, T, a, rs, hl, hI, hT, h, hq => by
    cases h
    exact hq _ (List.mem_singleton.2 rfl) E a w (Stp.refl hI.hr) hT
  | o :: l, k, E, H, w, T, a, rs, hl, hI, hT, h, hq => by
    have h' : (lbind (evOneM P gl call rnd ops o T H) fun r => evOpsM P gl call rnd ops l r.1 r.2) = some rs := h
    obtain ⟨us, h1, h2⟩ := lbind_some h'
    have hk : ops[k]? = some o := by
      rw [← Array.getElem?_toList]
      have := congrArg List.head? hl
      rw [List.head?_drop] at this
      exact this
    have hl2 : ops.toList.drop (k + 1) = l := by
      rw [← List.drop_drop, hl]; rfl
    rw [List.length_cons, List.range'_succ]
    simp only [wpOpsIn, hk]
    unfold evOneM at h1
    obtain ⟨b, h3, h4⟩ := obind_some h1
    have hw := wantA_rel hT h3
    rw [cnd_eq] at h4
    cases b with
    | true =>
      rw [hw, if_pos rfl]
      rw [if_pos rfl] at h4
      obtain ⟨vs, h5, h6⟩ := lbind_some h4
      refine evOpM_rel hC hR hG hF hI hT h5 fun r hr E' c w' g1 g2 => ?_
      obtain ⟨u, h7, h8⟩ := h6 r hr
      rw [forceV_eq, omap_eq, Option.map_eq_some_iff] at h7
      obtain ⟨T2, h9, rfl⟩ := h7
      obtain ⟨u2, h10, h11⟩ := h2 _ (h8 _ (List.mem_singleton.2 rfl))
      exact evOpsM_rel hC hR hG hF l (k + 1) hl2 (hI.step g1) (fmPut_rel (hT.mono g1.le) g2 h9) h10 fun r' hr' E'' a'' w'' q1 q2 => hq r' (h11 r' hr') E'' a'' w'' (g1.trans q1) q2
    | false =>
      rw [hw]
      rw [if_neg (by simp), omap_eq, Option.map_eq_some_iff] at h4
      obtain ⟨T2, h7, rfl⟩ := h4
      obtain ⟨u2, h10, h11⟩ := h2 _ (List.mem_singleton.2 rfl)
      refine ⟨fun f _ => hF.fn f, ?_⟩
      exact evOpsM_rel hC hR hG hF l (k + 1) hl2 hI (fmPut_rel (v := .tup .rnil) (c := undef) hT (show V E (.tup .rnil) (.tuple #[]) from ⟨_, rfl, rfl⟩) h7) h10 fun r' hr' => hq r' (h11 r' hr')

abbrev CsM := Fm → Hp → Option (List (Ex × Fm × Hp))

section ev
variable (P : Program) (gl : Nat → Option AV) (call rnd : CallerM) (drw : Array Oper → Fm → Hp → Option (Fm × Hp)) (fuel : Nat)

noncomputable def ccSeqM (x y : CsM) : CsM := fun T H => lbind (x T H) fun r => exElim r.1 (y r.2.1 r.2.2) (fun _ => some [r]) (fun _ => some [r]) (some [r])
noncomputable def ccCondM (c : Operand) (x y : CsM) : CsM := fun T H => obind (opd T c) fun v => obind (asB v) fun b => cnd b (x T H) (y T H)
noncomputable def blkR (id : Nat) (r : Ex × Fm × Hp) : Ex × Fm × Hp := exElim r.1 r (fun i => cnd (Nat.beq i id) (.nor, r.2) r) (fun _ => r) r
noncomputable def ccBlockM (id : Nat) (x : CsM) : CsM := fun T H => obind (x T H) fun l => some (lmp (blkR id) l)
noncomputable def ccLoopM (x : CsM) (n : Nat) : CsM := Nat.rec (motive := fun _ => CsM) (fun _ _ => none) (fun _ ih T H => lbind (x T H) fun r => exElim r.1 (ih r.2.1 r.2.2) (fun _ => some [r]) (fun _ => some [r]) (some [r])) n
noncomputable def ccScopeM (x : CsM) : CsM := fun T H => lbind (x T H) fun r => exElim r.1 (some [r]) (fun _ => some [r]) (fun _ => none) (some [r])
noncomputable def rngCallM (fv : AV) (l : Nat) (H : Hp) : Option (List (AV × Hp)) := match fv with
  | .func (.func id) p q => obind (P.funcs[id]?) fun fn => obind fn.body fun _ => obind (rowL p) fun p => obind (rowL q) fun q => call id (apL p (.yld l :: q)) H
  | _ => none
noncomputable def ccRangeM (rd : Option Nat) (f : Operand) (ps : Array Tmp) (asg body : Code) : CsM := fun T H => obind (opd T f) fun fv => match rd with
  | none => newV H (.defd true) fun k H1 => newV H1 (.loop .ready none 0 T.n T.tr ps asg body k) fun l H2 =>
      lbind (rngCallM P call fv l H2) fun r => lone' (endA l ⟨T.n, T.tr, k :: T.marks⟩ r.2)
  | some l0 => obind (H.get l0) fun o => match o with
    | .loop _ _ _ _ _ _ _ _ k => newV H (.loop .ready none 0 T.n T.tr ps asg body k) fun l H2 => lbind (rngCallM P call fv l H2) fun r => lone' (endA l T r.2)
    | _ => none

noncomputable def evCM (c : Code) : Option Nat → CsM :=
  Code.rec (motive := fun _ => Option Nat → CsM)
    (fun _ T H => some [(.nor, T, H)])
    (fun _ ops draw _ T H => cnd draw (omap (fun r => [(.nor, r)]) (drw ops T H)) (obind (evOpsM P gl call rnd ops ops.toList T H) fun l => some (lmp (fun r => (.nor, r)) l)))
    (fun _ _ x y rd => ccSeqM (x rd) (y rd))
    (fun c _ _ x y rd => ccCondM c (x rd) (y rd))
    (fun id _ x rd => ccBlockM id (x rd))
    (fun _ x rd => ccLoopM (x rd) fuel)
    (fun f ps asg body _ _ rd => ccRangeM P call rd f ps asg body)
    (fun id _ T H => some [(.exit id, T, H)])
    (fun _ x rd => ccScopeM (x rd))
    (fun _ _ T H => some [(.nor, T, H)])
    (fun l _ T H => some [(.goto l, T, H)])
    (fun _ T H => some [(.ret, T, H)])
    (fun _ _ _ _ => none) c
end ev

def CodeOkM (P : Program) (base : Nat) (w0 : World) (rd : Option Nat) (x : CsM) (c : Code) : Prop :=
  ∀ (F : Fence) (n : Nat) (E : Env) (H : Hp) (w : World) (T : Fm) (a : Act) (rs : List (Ex × Fm × Hp)), RdOk rd E F → x T H = some rs → Inv E H w base w0 → FR E T a →
    ∀ Q : Exit → Act → World → Prop, (∀ r ∈ rs, ∀ E' a' w', Stp E H.get H.next w E' r.2.2.get r.2.2.next w' → FR E' r.2.1 a' → Q r.1.to a' w') → c.wpIn F n P Q a w

section rel
variable {P : Program} {base : Nat} {w0 : World} {rd : Option Nat}
theorem ccSeqM_rel {x y : CsM} {c d : Code} (hx : CodeOkM P base w0 rd x c) (hy : CodeOkM P base w0 rd y d) : CodeOkM P base w0 rd (ccSeqM x y) (.seq c d) := by
  intro F n E H w T a rs hr h hI hT Q hq
  unfold ccSeqM at h
  obtain ⟨us, h1, h2⟩ := lbind_some h
  refine wpIn_seq (hx F n E H w T a _ hr h1 hI hT _ fun r hm E' a' w' g1 g2 => ?_)
  obtain ⟨e, T1, H1⟩ := r
  obtain ⟨u, h3, h4⟩ := h2 _ hm
  cases e with
  | nor => exact hy F n E' H1 w' T1 a' u (hr.mono g1.le) h3 (hI.step g1) g2 Q fun r hr E'' a'' w'' q1 q2 => hq r (h4 r hr) E'' a'' w'' (g1.trans q1) q2
  | exit i => cases h3; exact hq _ (h4 _ (List.mem_singleton.2 rfl)) E' a' w' g1 g2
  | goto i => cases h3; exact hq _ (h4 _ (List.mem_singleton.2 rfl)) E' a' w' g1 g2
  | ret => cases h3; exact hq _ (h4 _ (List.mem_singleton.2 rfl)) E' a' w' g1 g2
theorem ccCondM_rel {x y : CsM} {c d : Code} {o : Operand} (hx : CodeOkM P base w0 rd x c) (hy : CodeOkM P base w0 rd y d) : CodeOkM P base w0 rd (ccCondM o x y) (.cond o c d) := by
  intro F n E H w T a r hr h hI hT Q hq
  unfold ccCondM at h
  obtain ⟨v, h1, h2⟩ := obind_some h
  obtain ⟨b, h3, h4⟩ := obind_some h2
  have hb := asB_rel (opd_rel hT h1) h3
  cases b with
  | true => exact wpIn_cond_true hb (hx F n E H w T a r hr h4 hI hT Q hq)
  | false => exact wpIn_cond_false hb (hy F n E H w T a r hr h4 hI hT Q hq)
theorem ccBlockM_rel {x : CsM} {c : Code} {id : Nat} (hx : CodeOkM P base w0 rd x c) : CodeOkM P base w0 rd (ccBlockM id x) (.block id c) := by
  intro F n E H w T a rs hr h hI hT Q hq
  unfold ccBlockM at h
  obtain ⟨us, h1, h2⟩ := obind_some h
  cases h2
  refine wpIn_block (hx F n E H w T a _ hr h1 hI hT _ fun r hm E' a' w' g1 g2 => ?_)
  have hm' : blkR id r ∈ lmp (blkR id) us := by rw [lmp_eq]; exact List.mem_map.2 ⟨r, hm, rfl⟩
  obtain ⟨e, T1, H1⟩ := r
  cases e with
  | nor => exact hq _ hm' E' a' w' g1 g2
  | exit i =>
    have e1 : blkR id (Ex.exit i, T1, H1) = cnd (Nat.beq i id) (Ex.nor, T1, H1) (Ex.exit i, T1, H1) := rfl
    rw [e1, cnd_eq] at hm'
    show (if i = id then Q .normal a' w' else Q (.exit i) a' w')
    by_cases hb : i = id
    · rw [if_pos (by rw [hb]; exact Nat.beq_refl id)] at hm'
      rw [if_pos hb]
      exact hq _ hm' E' a' w' g1 g2
    · rw [if_neg (fun hh => hb (Nat.eq_of_beq_eq_true hh))] at hm'
      rw [if_neg hb]
      exact hq _ hm' E' a' w' g1 g2
  | goto i => exact hq _ hm' E' a' w' g1 g2
  | ret => exact hq _ hm' E' a' w' g1 g2
theorem ccScopeM_rel {x : CsM} {c : Code} (hx : CodeOkM P base w0 rd x c) : CodeOkM P base w0 rd (ccScopeM x) (.scope c) := by
  intro F n E H w T a rs hr h hI hT Q hq
  unfold ccScopeM at h
  obtain ⟨us, h1, h2⟩ := lbind_some h
  refine wpIn_scope (hx F n E H w T a _ hr h1 hI hT _ fun r hm E' a' w' g1 g2 => ?_)
  obtain ⟨e, T1, H1⟩ := r
  obtain ⟨u, h3, h4⟩ := h2 _ hm
  cases e with
  | nor => cases h3; exact hq _ (h4 _ (List.mem_singleton.2 rfl)) E' a' w' g1 g2
  | exit i => cases h3; exact hq _ (h4 _ (List.mem_singleton.2 rfl)) E' a' w' g1 g2
  | goto i => cases h3
  | ret => cases h3; exact hq _ (h4 _ (List.mem_singleton.2 rfl)) E' a' w' g1 g2
theorem ccLoopM_rel {x : CsM} {c : Code} {N : Nat} (hx : CodeOkM P base w0 rd x c) : CodeOkM P base w0 rd (ccLoopM x N) (.loop c) := by
  intro F n E H w T a rs hr h hI hT Q hq
  refine wpIn_loop_fuel (fun j a w => ∃ E' H' T' rs', RdOk rd E' F ∧ ccLoopM x j T' H' = some rs' ∧ Inv E' H' w base w0 ∧ FR E' T' a ∧ ∀ r ∈ rs', ∀ E'' a' w', Stp E' H'.get H'.next w E'' r.2.2.get r.2.2.next w' → FR E'' r.2.1 a' → Q r.1.to a' w') N ⟨E, H, T, rs, hr, h, hI, hT, hq⟩ ?_ ?_
  · rintro a w ⟨_, _, _, _, _, h, _⟩; cases h
  · rintro j a w ⟨E1, H1, T1, rs1, k1, k2, k3, k4, k5⟩
    have k2' : (lbind (x T1 H1) fun r => exElim r.1 (ccLoopM x j r.2.1 r.2.2) (fun _ => some [r]) (fun _ => some [r]) (some [r])) = some rs1 := k2
    obtain ⟨us, h1, h2⟩ := lbind_some k2'
    refine hx F n E1 H1 w T1 a _ k1 h1 k3 k4 _ fun r hm E' a' w' g1 g2 => ?_
    obtain ⟨e, T2, H2⟩ := r
    obtain ⟨u, h3, h4⟩ := h2 _ hm
    cases e with
    | nor => exact ⟨E', H2, T2, u, k1.mono g1.le, h3, k3.step g1, g2, fun r hr E'' a'' w'' q1 q2 => k5 r (h4 r hr) E'' a'' w'' (g1.trans q1) q2⟩
    | exit i => cases h3; exact k5 _ (h4 _ (List.mem_singleton.2 rfl)) E' a' w' g1 g2
    | goto i => cases h3; exact k5 _ (h4 _ (List.mem_singleton.2 rfl)) E' a' w' g1 g2
    | ret => cases h3; exact k5 _ (h4 _ (List.mem_singleton.2 rfl)) E' a' w' g1 g2
end rel

theorem rngCallM_rel {P : Program} {base : Nat} {w0 : World} {call : CallerM} (hC : CallOkM P base w0 call) {F : Fence} (hF : Wd F) {n : Nat} {E : Env} {H : Hp} {w : World} {fv : AV} {l b z : Nat} {rs : List (AV × Hp)} {a : Act} {g : Operand}
    (hI : Inv E H w base w0) (hf : V E fv (a.eval g)) (hl : E l = some (b, z)) (h : rngCallM P call fv l H = some rs) {R : Ending → World → Prop}
    (hR : ∀ r ∈ rs, ∀ E' c w', Stp E H.get H.next w E' r.2.get r.2.next w' → R (.returned c) w') :
    ∃ d f args, (resolve a.eval (rangeCall g b) 0).run P w = .ok d w ∧ (∀ f', Target.leads P w d.target d.args = some f' → F.fn f') ∧ (invoke d.target d.args).run P w = .ok (.enter f args) w ∧ CallsIn F n P f args w R := by
  unfold rngCallM at h
  split at h
  · rename_i id p q
    obtain ⟨fn, h1, h2⟩ := obind_some h
    obtain ⟨bd, h3, h4⟩ := obind_some h2
    obtain ⟨lp, h5, h6⟩ := obind_some h4
    obtain ⟨lq, h7, h8⟩ := obind_some h6
    obtain ⟨_, ps, qs, hev, k1, k2⟩ := V_func hf
    have hargs : F2 (V E) (apL lp (.yld l :: lq)) (ps ++ #[Value.func (.yield b) #[] #[]] ++ qs).toList := by
      have := apL_rel (rowL_rel k1 h5) (F2.cons (show V E (.yld l) (.func (.yield b) #[] #[]) from ⟨b, z, hl, rfl⟩) (rowL_rel k2 h7))
      simpa using this
    rcases hC id _ E H w _ rs h8 hargs hI with ⟨⟨fn', g1, g2⟩, _⟩ | ⟨f', args', g1, g2⟩
    · rw [h1] at g1; cases g1; rw [h3] at g2; cases g2
    · refine ⟨{ target := .fn (.func id) qs, args := ps ++ #[Value.func (.yield b) #[] #[]] }, f', args', ?_, fun _ _ => hF.fn _, ?_, ?_⟩
      · have hcst : ∀ v, a.eval (.const v) = v := fun _ => rfl
        simp [resolve, hev, Deferred.ofValue, hcst]
      · exact g1
      · refine (hF.calls g2).mono ?_
        rintro e w' ⟨r, hm, E', c, rfl, g3, _⟩
        exact hR r hm E' c w' g3
  · cases h

theorem ccRangeM_rel {P : Program} {base : Nat} {w0 : World} {call : CallerM} (hC : CallOkM P base w0 call) {rd : Option Nat} {f : Operand} {ps : Array Tmp} {asg body : Code} : CodeOkM P base w0 rd (ccRangeM P call rd f ps asg body) (.rangeFunc f ps asg body) := by
  intro F n E H w T a rs hr h hI hT Q hq
  unfold ccRangeM at h
  obtain ⟨fv, h1, h2⟩ := obind_some h
  have hfv := opd_rel hT h1
  refine wpIn_rangeFunc fun fn hfn => ?_
  cases rd with
  | none =>
    have hF : F = Fence.wide := hr
    subst hF
    simp only [newV_eq] at h2
    obtain ⟨us, h3, h4⟩ := lbind_some h2
    -- the two blocks
    obtain ⟨E1, s1, _, le1, e1⟩ := new_rel (H := H) (o := .defd true) (x := .deferred (some [])) hI.hr hI.bd.none 0 (fun _ _ => rfl)
    have hI1 : Inv E1 ⟨H.next + 1, H.tr.put H.next (some (.defd true))⟩ (w.alloc (.deferred (some []))) base w0 := hI.step s1
    obtain ⟨E2, s2, _, le2, e2⟩ := new_rel (H := ⟨H.next + 1, H.tr.put H.next (some (.defd true))⟩) (o := .loop .ready none 0 T.n T.tr ps asg body H.next)
      (x := .loop { state := .ready, pending := none, fn, tmps := a.tmps, params := ps, assign := asg, body, defers := w.heap.size }) hI1.hr hI1.bd.none 0
      (fun E' hE => ⟨fn, a.tmps, w.heap.size, 0, (hT.1.mono le1).mono hE, hE _ _ e1, rfl⟩)
    have hI2 := hI1.step (H' := ⟨H.next + 1 + 1, _⟩) s2
    have e2' : E2 (H.next + 1) = some (w.heap.size + 1, 0) := by have := e2; simpa using this
    have s12 := s1.trans s2
    obtain ⟨d, f', args, g1, g2, g3, g4⟩ := rngCallM_rel (P := P) (F := Fence.wide) (n := n - 1) (R := rangePost Fence.wide n P (w.heap.size + 1) Q { a with defers := [{ target := .collected w.heap.size, args := #[] }] ++ a.defers }) hC (.inl rfl) hI2 (hfv.mono s12.le) e2' h3
      (fun r hm E3 c w3 s3 => by
        have hI3 := hI2.step s3
        obtain ⟨u, k1, k2⟩ := h4 r hm
        obtain ⟨r', k3, rfl⟩ := lone_some k1
        have hT3 : FR E3 ⟨T.n, T.tr, H.next :: T.marks⟩ { a with defers := [{ target := .collected w.heap.size, args := #[] }] ++ a.defers } := by
          have := (hT.mono s12.le).mono s3.le
          exact ⟨this.1, .cons ⟨_, 0, s3.le _ _ (le2 _ _ e1), rfl⟩ this.2⟩
        exact endA_rel hI3 hT3 (s3.le _ _ e2') k3 fun E' a' w' q1 q2 => hq r' (k2 r' (List.mem_singleton.2 rfl)) E' a' w' ((s12.trans s3).trans q1) q2)
    exact ⟨w.heap.size + 1, [{ target := .collected w.heap.size, args := #[] }], _, d, _, f', args, _, run_enterLoop_outer fn a.tmps ps asg body, g1, g2, g3, (fun h => by cases h), g4⟩
  | some l0 =>
    obtain ⟨b0, z0, he0, hF⟩ := (hr : ∃ b z, E l0 = some (b, z) ∧ F = Fence.wide.inRound b)
    subst hF
    obtain ⟨o, h5, h6⟩ := obind_some h2
    split at h6
    · rename_i st0 pend0 fn0 m0 tr0 ps0 asg0 body0 k
      simp only [newV_eq] at h6
      obtain ⟨us, h3, h4⟩ := lbind_some h6
      obtain ⟨b', z', x', q1, q2, fnr, tmpsr, bd, zd, q3, q4, rfl⟩ := hI.hr.obj _ _ h5
      rw [he0] at q1; injection q1 with q1; injection q1 with q1 q1'; subst q1; subst q1'
      obtain ⟨E2, s2, _, le2, e2⟩ := new_rel (H := H) (o := .loop .ready none 0 T.n T.tr ps asg body k)
        (x := .loop { state := .ready, pending := none, fn, tmps := a.tmps, params := ps, assign := asg, body, defers := bd }) hI.hr hI.bd.none 0
        (fun E' hE => ⟨fn, a.tmps, bd, zd, hT.1.mono hE, hE _ _ q4, rfl⟩)
      have hI2 := hI.step (H' := ⟨H.next + 1, _⟩) s2
      obtain ⟨d, f', args, g1, g2, g3, g4⟩ := rngCallM_rel (P := P) (F := Fence.wide.inRound b0) (n := n - 1) (R := rangePost (Fence.wide.inRound b0) n P w.heap.size Q { a with defers := [] ++ a.defers }) hC (.inr ⟨b0, rfl⟩) hI2 (hfv.mono s2.le) e2 h3
        (fun r hm E3 c w3 s3 => by
          have hI3 := hI2.step s3
          obtain ⟨u, k1, k2⟩ := h4 r hm
          obtain ⟨r', k3, rfl⟩ := lone_some k1
          exact endA_rel hI3 ((hT.mono s2.le).mono s3.le) (s3.le _ _ e2) k3 fun E' a' w' q1 q2 => hq r' (k2 r' (List.mem_singleton.2 rfl)) E' a' w' ((s2.trans s3).trans q1) q2)
      have hen : (Instr.enterLoop fn a.tmps ps asg body (Fence.wide.inRound b0).round).run P w = .ok (w.heap.size, []) (w.alloc (.loop { state := .ready, pending := none, fn, tmps := a.tmps, params := ps, assign := asg, body, defers := bd })) := by
        simp [Instr.enterLoop, run_getLoop q2]
      exact ⟨w.heap.size, [], _, d, _, f', args, _, hen, g1, g2, g3, (fun h => by cases h), g4⟩
    · cases h6

theorem evCM_rel {P : Program} {gl : Nat → Option AV} {base : Nat} {w0 : World} {call rnd : CallerM} {drw : Array Oper → Fm → Hp → Option (Fm × Hp)} {fuel : Nat} (hC : CallOkM P base w0 call) (hR : RoundOkM P base w0 rnd) (hG : GlOk gl base w0) (hD : DrawOk P base w0 drw) :
    ∀ (c : Code) (rd : Option Nat), CodeOkM P base w0 rd (evCM P gl call rnd drw fuel c rd) c := by
  intro c
  have m1 : ∀ {α : Type} {x : α}, x ∈ [x] := fun {_} {_} => List.mem_singleton.2 rfl
  induction c with
  | skip => intro rd F n E H w T a r hr h hI hT Q hq; cases h; exact wpIn_skip (hq _ m1 E a w (Stp.refl hI.hr) hT)
  | region id ops draw =>
    intro rd F n E H w T a rs hr h hI hT Q hq
    have h' : cnd draw (omap (fun r => [(Ex.nor, r)]) (drw ops T H)) (obind (evOpsM P gl call rnd ops ops.toList T H) fun l => some (lmp (fun r => (Ex.nor, r)) l)) = some rs := h
    cases draw with
    | true =>
      have h' : omap (fun r => [(Ex.nor, r)]) (drw ops T H) = some rs := h'
      rw [omap_eq, Option.map_eq_some_iff] at h'
      obtain ⟨q, h1, rfl⟩ := h'
      exact hD F n E H w T a ops id q hr.wd h1 hI hT Q fun E' a' w' g1 g2 => hq _ m1 E' a' w' g1 g2
    | false =>
      have h' : (obind (evOpsM P gl call rnd ops ops.toList T H) fun l => some (lmp (fun r => (Ex.nor, r)) l)) = some rs := h'
      obtain ⟨us, h1, h2⟩ := obind_some h'
      cases h2
      refine wpIn_region ?_
      have := evOpsM_rel (n := n) (Q := Q) hC hR hG hr.wd ops.toList 0 rfl hI hT h1 fun r hm E' a' w' g1 g2 => hq (.nor, r) (by rw [lmp_eq]; exact List.mem_map.2 ⟨r, hm, rfl⟩) E' a' w' g1 g2
      rw [Array.length_toList] at this
      rw [List.range_eq_range']
      exact this
  | seq x y hx hy => intro rd; exact ccSeqM_rel (hx rd) (hy rd)
  | cond o x y hx hy => intro rd; exact ccCondM_rel (hx rd) (hy rd)
  | block id x hx => intro rd; exact ccBlockM_rel (hx rd)
  | loop x hx => intro rd; exact ccLoopM_rel (hx rd)
  | rangeFunc f ps a b _ _ => intro rd; exact ccRangeM_rel hC
  | exit id => intro rd F n E H w T a r hr h hI hT Q hq; cases h; exact wpIn_exit (hq _ m1 E a w (Stp.refl hI.hr) hT)
  | scope x hx => intro rd; exact ccScopeM_rel (hx rd)
  | label l => intro rd F n E H w T a r hr h hI hT Q hq; cases h; exact wpIn_label (hq _ m1 E a w (Stp.refl hI.hr) hT)
  | goto l => intro rd F n E H w T a r hr h hI hT Q hq; cases h; exact wpIn_goto (hq _ m1 E a w (Stp.refl hI.hr) hT)
  | ret => intro rd F n E H w T a r hr h hI hT Q hq; cases h; exact wpIn_ret (hq _ m1 E a w (Stp.refl hI.hr) hT)
  | refuse why => intro rd F n E H w T a r hr h hI hT Q hq; cases h
end Go.Ev
