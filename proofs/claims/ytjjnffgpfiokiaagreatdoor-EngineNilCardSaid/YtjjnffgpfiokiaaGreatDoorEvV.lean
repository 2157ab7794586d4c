/- Rounds, functions. -/
import Derived.Test.YtjjnffgpfiokiaaGreatDoorEvU
namespace Go.Ev
open Go.RowKit Go.MapKept

noncomputable def setPs (n : Nat) (ps : List Tmp) (l : List AV) (tr : Tr AV) : Option (Tr AV) :=
  List.rec (motive := fun _ => List AV → Tr AV → Option (Tr AV)) (fun _ tr => some tr) (fun p _ ih l tr => List.rec (motive := fun _ => Option (Tr AV)) (some tr) (fun v t _ => cnd (Nat.blt p n) (ih t (tr.put p (some v))) none) l) ps l tr
theorem setPs_rel {E : Env} {n : Nat} : ∀ {ps : List Tmp} {l : List AV} {cs : List Value} {tr tr' : Tr AV} {tmps : Array Value}, F2 (V E) l cs → TrRel E n tr tmps → setPs n ps l tr = some tr' →
    TrRel E n tr' ((ps.zip cs).foldl (fun tmps (p : Tmp × Value) => tmps.setIfInBounds p.1 p.2) tmps)
  | [], _, _, _, _, _, _, hT, h => by cases h; exact hT
  | p :: ps, [], [], _, _, _, _, hT, h => by cases h; exact hT
  | p :: ps, v :: l, c :: cs, tr, tr', tmps, .cons hv hl, hT, h => by
    have h' : cnd (Nat.blt p n) (setPs n ps l (tr.put p (some v))) none = some tr' := h
    obtain ⟨hp, h1⟩ := cnd_some h'
    have hp' : p < n := blt_iff.1 hp
    show TrRel E n tr' ((ps.zip cs).foldl (fun tmps (p : Tmp × Value) => tmps.setIfInBounds p.1 p.2) (tmps.setIfInBounds p c))
    refine setPs_rel (tr := tr.put p (some v)) hl ⟨by simp [hT.1], fun t => ?_⟩ h1
    rw [Tr.get_put]
    by_cases e : t = p
    · subst e
      rw [if_pos rfl, Array.getD_eq_getD_getElem?, Array.getElem?_setIfInBounds_self_of_lt (by rw [hT.1]; exact hp')]
      exact hv
    · rw [if_neg e, Array.getD_eq_getD_getElem?, Array.getElem?_setIfInBounds_ne (fun e' => e e'.symm), ← Array.getD_eq_getD_getElem?]
      exact hT.2 t

noncomputable def jmpOf (e : Ex) : Option Code := exElim e none (fun i => some (.exit i)) (fun l => some (.goto l)) (some .ret)
noncomputable def isRdy (s : LoopState) : Bool := match s with | .ready => true | _ => false

section ev
variable (P : Program) (gl : Nat → Option AV) (cc : Code → Option Nat → Cs)
noncomputable def evR (id : Nat) (l : List AV) (H : Hp) : Option (AV × Hp) := obind (H.get id) fun o => match o with
  | .loop _ _ _ n tr ps asg body _ => cnd (Nat.beq l.length ps.size) (obind (setPs n ps.toList l tr) fun tr1 => obind (cc asg (some id) ⟨n, tr1, []⟩ H) fun r1 => exElim r1.1
      (obind (r1.2.2.get id) fun o1 => match o1 with
        | .loop st pend fn1 n1 tr1 ps1 asg1 body1 dfs1 => cnd (isRdy st) (obind (cc body (some id) r1.2.1 ⟨r1.2.2.next, r1.2.2.tr.put id (some (.loop .busy pend fn1 n1 tr1 ps1 asg1 body1 dfs1))⟩) fun r2 =>
            obind (r2.2.2.get id) fun o2 => match o2 with
              | .loop _ _ fn2 n2 tr2 ps2 asg2 body2 dfs2 => Option.rec (motive := fun _ => Option (AV × Hp))
                  (some (.bool true, ⟨r2.2.2.next, r2.2.2.tr.put id (some (.loop .ready none fn2 n2 tr2 ps2 asg2 body2 dfs2))⟩))
                  (fun j => some (.bool false, ⟨r2.2.2.next, r2.2.2.tr.put id (some (.loop .done (some j) fn2 n2 tr2 ps2 asg2 body2 dfs2))⟩)) (jmpOf r2.1)
              | _ => none) none
        | _ => none) (fun _ => none) (fun _ => none) none) none
  | _ => none

noncomputable def takeM (ms : List Nat) : Hp → Option Hp :=
  List.rec (motive := fun _ => Hp → Option Hp) (fun H => some H) (fun k _ ih H => obind (H.get k) fun o => match o with
    | .defd true => ih ⟨H.next, H.tr.put k (some (.defd false))⟩
    | _ => none) ms
noncomputable def resL (T : Fm) (H : Hp) (l : List ResultVar) : Option (List AV) :=
  List.rec (motive := fun _ => Option (List AV)) (some []) (fun v _ ih => obind (match v with | .tmp t => some (T.get t) | .cell a t => ldA P gl H t (T.get a)) fun x => omap (fun r => x :: r) ih) l
noncomputable def oneOr (l : List AV) : AV := match l with
  | [v] => v
  | l => .tup (rowOf l)
noncomputable def argT (l : List AV) : Nat → Tr AV → Tr AV := List.rec (motive := fun _ => Nat → Tr AV → Tr AV) (fun _ tr => tr) (fun v _ ih i tr => ih (Nat.succ i) (tr.put i (some v))) l
noncomputable def evFn (fn : Func) (c : Code) (l : List AV) (H : Hp) : Option (AV × Hp) :=
  forceN (Nat.add l.length (Nat.sub fn.ntmps l.length)) fun n => obind (cc c none ⟨n, argT l 0 .leaf, []⟩ H) fun r =>
    (fun fin => exElim r.1 fin (fun _ => none) (fun _ => none) fin) (obind (takeM r.2.1.marks r.2.2) fun H2 => obind (resL P gl r.2.1 H2 fn.results.toList) fun vs => some (oneOr vs, H2))
end ev

theorem Inv.ofStp {E E' : Env} {H H' : Hp} {w w' : World} {base : Nat} {w0 : World} (h : Inv E H w base w0) (s : Stp E H.get H.next w E' H'.get H'.next w') : Inv E' H' w' base w0 := h.step s

theorem evR_rel {P : Program} {base : Nat} {w0 : World} {cc : Code → Option Nat → Cs} (hcc : ∀ c rd, CodeOk P base w0 rd (cc c rd) c) : RoundOk P base w0 (evR cc) := by
  intro id l E H w args r b z h hl hI he
  unfold evR at h
  obtain ⟨o, h1, h2⟩ := obind_some h
  split at h2
  · rename_i st pend fn0 n tr ps asg body dfs
    obtain ⟨h3, h4⟩ := cnd_some h2
    obtain ⟨tr1, h5, h6⟩ := obind_some h4
    obtain ⟨⟨e1, T1, H1⟩, h7, h8⟩ := obind_some h6
    obtain ⟨b', z', x', g1, g2, fn, tmps, bd, zd, g3, g4, rfl⟩ := hI.hr.obj _ _ h1
    rw [he] at g1; injection g1 with g1; injection g1 with g1 g1'; subst g1; subst g1'
    have hsz : args.size = ps.size := by
      have q1 : l.length = args.size := by simpa using hl.length
      have q2 : l.length = ps.size := by simpa using h3
      exact q1.symm.trans q2
    refine ⟨fn, _, asg, body, run_yield g2 hsz, fun n' => ?_⟩
    have hT1 : FR E ⟨n, tr1, []⟩ { tmps := (ps.zip args).foldl (fun tmps (t, a) => tmps.setIfInBounds t a) tmps, defers := [] } := by
      refine ⟨?_, .nil⟩
      have := setPs_rel hl g3 h5
      rw [← Array.foldl_toList, Array.toList_zip]
      exact this
    refine roundIn_of_wpIn trivial ?_
    refine hcc asg (some id) (Fence.wide.inRound b) n' E H w _ _ _ ⟨b, z, he, rfl⟩ h7 hI hT1 _ fun E1 a1 w1 s1 q1 => ?_
    cases e1 with
    | exit i => cases h8
    | goto i => cases h8
    | ret => cases h8
    | nor =>
      have h8' : (obind (H1.get id) fun o1 => match o1 with
        | .loop st pend fn1 n1 tr1 ps1 asg1 body1 dfs1 => cnd (isRdy st) (obind (cc body (some id) T1 ⟨H1.next, H1.tr.put id (some (.loop .busy pend fn1 n1 tr1 ps1 asg1 body1 dfs1))⟩) fun r2 =>
            obind (r2.2.2.get id) fun o2 => match o2 with
              | .loop _ _ fn2 n2 tr2 ps2 asg2 body2 dfs2 => Option.rec (motive := fun _ => Option (AV × Hp))
                  (some (.bool true, ⟨r2.2.2.next, r2.2.2.tr.put id (some (.loop .ready none fn2 n2 tr2 ps2 asg2 body2 dfs2))⟩))
                  (fun j => some (.bool false, ⟨r2.2.2.next, r2.2.2.tr.put id (some (.loop .done (some j) fn2 n2 tr2 ps2 asg2 body2 dfs2))⟩)) (jmpOf r2.1)
              | _ => none) none
        | _ => none) = some r := h8
      obtain ⟨o1, k1, k2⟩ := obind_some h8'
      split at k2
      · rename_i st1 pend1 fn1 n1 trr ps1 asg1 body1 dfs1
        obtain ⟨k3, k4⟩ := cnd_some k2
        obtain ⟨⟨e2, T2, H2⟩, k5, k6⟩ := obind_some k4
        obtain ⟨o2, k7, k8⟩ := obind_some k6
        have hst : st1 = .ready := by cases st1 <;> first | rfl | cases k3
        subst hst
        have hI1 := hI.step s1
        obtain ⟨b', z', x', g1', g2', fnr, tmpsr, bdr, zdr, g3', g4', rfl⟩ := hI1.hr.obj _ _ k1
        rw [s1.le _ _ he] at g1'; injection g1' with g1'; injection g1' with g1' g1''; subst g1'; subst g1''
        have sb : Stp E1 H1.get H1.next w1 E1 (Hp.get ⟨H1.next, H1.tr.put id (some (.loop .busy pend1 fn1 n1 trr ps1 asg1 body1 dfs1))⟩) H1.next (putB w1 b (.loop { state := .busy, pending := pend1, fn := fnr, tmps := tmpsr, params := ps1, assign := asg1, body := body1, defers := bdr })) := by
          rw [upd_put]
          exact hI1.hr.put k1 (s1.le _ _ he) ⟨fnr, tmpsr, bdr, zdr, g3', g4', rfl⟩
        have hI1b : Inv E1 ⟨H1.next, H1.tr.put id (some (.loop .busy pend1 fn1 n1 trr ps1 asg1 body1 dfs1))⟩ _ base w0 := hI1.step (H' := ⟨H1.next, _⟩) sb
        refine ⟨_, run_beginRound g2' rfl, ?_⟩
        refine hcc body (some id) (Fence.wide.inRound b) n' E1 _ _ _ _ _ ⟨b, z, s1.le _ _ he, rfl⟩ k5 hI1b q1 _ fun E2 a2 w2 s2 q2 => ?_
        have hI2 : Inv E2 H2 w2 base w0 := hI1b.step s2
        have he2 := s2.le _ _ (s1.le _ _ he)
        have s012 := (s1.trans sb).trans s2
        split at k8
        · rename_i st2 pend2 fn2 n2 tr2 ps2 asg2 body2 dfs2
          obtain ⟨b', z', x', g1', g2', fnr, tmpsr, bdr, zdr, g3', g4', rfl⟩ := hI2.hr.obj _ _ k7
          have he2' : E2 id = some (b, z) := he2
          rw [he2'] at g1'; injection g1' with g1'; injection g1' with g1' g1''; subst g1'; subst g1''
          have fin : ∀ (j : Option Code) (v : AV) (s : LoopState), r = (v, ⟨H2.next, H2.tr.put id (some (.loop s j fn2 n2 tr2 ps2 asg2 body2 dfs2))⟩) → v = .bool j.isNone → s = (if j.isNone then .ready else .done) →
              ∃ v w', (Instr.endRound b j).run P w2 = .ok v w' ∧ RetOk E H w r (.returned v) w' := by
            rintro j v s rfl rfl rfl
            refine ⟨_, _, run_endRound j g2', E2, _, rfl, ?_, rfl⟩
            refine s012.trans ?_
            show Stp E2 H2.get H2.next w2 E2 (Hp.get ⟨H2.next, H2.tr.put _ _⟩) H2.next _
            rw [upd_put]
            exact hI2.hr.put k7 he2' ⟨fnr, tmpsr, bdr, zdr, g3', g4', rfl⟩
          cases e2 with
          | nor => cases k8; exact fin none _ _ rfl rfl rfl
          | exit i => cases k8; exact fin (some (.exit i)) _ _ rfl rfl rfl
          | goto i => cases k8; exact fin (some (.goto i)) _ _ rfl rfl rfl
          | ret => cases k8; exact fin (some .ret) _ _ rfl rfl rfl
        · cases k8
      · cases k2
  · cases h2

theorem argT_rel {E : Env} {n : Nat} : ∀ {l : List AV} {cs : List Value} {pre : List Value} {tr : Tr AV} {x : List Value}, F2 (V E) l cs → n = (pre ++ cs ++ x).length → (∀ t, t < pre.length → V E (Option.rec (motive := fun _ => AV) (.tup .rnil) (fun v => v) (tr.get t)) (pre.getD t undef)) → (∀ t, pre.length ≤ t → tr.get t = none) → (∀ v ∈ x, v = undef) →
    TrRel E n (argT l pre.length tr) (pre ++ cs ++ x).toArray
  | [], [], pre, tr, x, _, hn, h1, h2, h3 => by
    refine ⟨by simpa using hn.symm, fun t => ?_⟩
    show V E (Option.rec (motive := fun _ => AV) (.tup .rnil) (fun v => v) (tr.get t)) _
    by_cases ht : t < pre.length
    · have := h1 t ht
      have e : ((pre ++ [] ++ x).toArray).getD t undef = pre.getD t undef := by
        rw [Array.getD_eq_getD_getElem?, List.getElem?_toArray, List.append_nil, List.getElem?_append_left ht, List.getD_eq_getElem?_getD]
      rw [e]
      exact this
    · rw [h2 t (by omega)]
      have e : ((pre ++ [] ++ x).toArray).getD t undef = undef := by
        rw [Array.getD_eq_getD_getElem?, List.getElem?_toArray, List.append_nil, List.getElem?_append_right (by omega)]
        cases hx : x[t - pre.length]? with
        | none => rfl
        | some v => exact h3 v (List.mem_of_getElem? hx)
      rw [e]
      exact ⟨_, rfl, rfl⟩
  | v :: l, c :: cs, pre, tr, x, .cons hv hl, hn, h1, h2, h3 => by
    have := argT_rel (pre := pre ++ [c]) (tr := tr.put pre.length (some v)) (x := x) hl (by simpa using hn) (fun t ht => ?_) (fun t ht => ?_) h3
    · have e : (pre ++ [c]).length = pre.length + 1 := by simp
      rw [e] at this
      have e2 : pre ++ [c] ++ cs ++ x = pre ++ (c :: cs) ++ x := by simp
      rw [e2] at this
      exact this
    · rw [Tr.get_put]
      simp only [List.length_append, List.length_singleton] at ht
      by_cases et : t = pre.length
      · subst et
        rw [if_pos rfl]
        simpa [List.getD_eq_getElem?_getD] using hv
      · rw [if_neg et]
        have ht' : t < pre.length := by omega
        have := h1 t ht'
        rw [List.getD_eq_getElem?_getD, List.getElem?_append_left ht', ← List.getD_eq_getElem?_getD]
        exact this
    · simp only [List.length_append, List.length_singleton] at ht
      rw [Tr.get_put, if_neg (by omega)]
      exact h2 t (by omega)

def rdRes (tmps : Array Value) : ResultVar → Sem Value
  | .tmp t => pure (tmps.getD t undef)
  | .cell a t => do loadVar t (← asAddr (tmps.getD a undef))
theorem resL_rel {P : Program} {gl : Nat → Option AV} {base : Nat} {w0 : World} (hG : GlOk gl base w0) {E : Env} {H : Hp} {w : World} {T : Fm} {a : Act} (hI : Inv0 E H w base w0) (hT : TrRel E T.n T.tr a.tmps) : ∀ {l : List ResultVar} {vs : List AV}, resL P gl T H l = some vs →
    ∃ cs, (l.mapM (rdRes a.tmps)).run P w = .ok cs w ∧ F2 (V E) vs cs
  | [], vs, h => by cases h; exact ⟨[], by simp, .nil⟩
  | v :: l, vs, h => by
    have h' : (obind (match v with | .tmp t => some (T.get t) | .cell a t => ldA P gl H t (T.get a)) fun x => omap (fun r => x :: r) (resL P gl T H l)) = some vs := h
    obtain ⟨x, h1, h2⟩ := obind_some h'
    rw [omap_eq, Option.map_eq_some_iff] at h2
    obtain ⟨r, h3, rfl⟩ := h2
    obtain ⟨cs, g1, g2⟩ := resL_rel hG hI hT h3
    cases v with
    | tmp t =>
      cases h1
      refine ⟨a.tmps.getD t undef :: cs, ?_, .cons (hT.2 t) g2⟩
      rw [List.mapM_cons]
      simp only [Sem.run_bind, rdRes, Sem.run_pure, Result.andThen_ok, g1]
    | cell b t =>
      have h1 : ldA P gl H t (T.get b) = some x := h1
      obtain ⟨c, k1, k2⟩ := ldA_rel hI hG (hT.2 b) h1
      refine ⟨c :: cs, ?_, .cons k2 g2⟩
      rw [List.mapM_cons]
      have k3 : (do loadVar t (← asAddr (a.tmps.getD b undef)) : Sem Value).run P w = .ok c w := by
        have hp : ∃ ad, a.tmps.getD b undef = .pointer (some ad) := by
          unfold ldA at h1
          split at h1
          · rename_i i o he; have := hT.2 b; unfold Fm.get at he; rw [he] at this; obtain ⟨b', z, _, hv⟩ := V_ptr this; exact ⟨_, hv⟩
          · rename_i i o he; have := hT.2 b; unfold Fm.get at he; rw [he] at this; exact ⟨_, V_gptr this⟩
          · cases h1
        obtain ⟨ad, hp⟩ := hp
        rw [hp] at k1 ⊢
        simpa [Instr.loadAt, Instr.sureAddr, asAddr] using k1
      have k4 : (rdRes a.tmps (.cell b t)).run P w = .ok c w := k3
      simp only [Sem.run_bind, k4, Sem.run_pure, Result.andThen_ok, g1]

theorem oneOr_rel {E : Env} {vs : List AV} {cs : List Value} (h : F2 (V E) vs cs) : V E (oneOr vs) (if h : cs.toArray.size = 1 then cs.toArray[0] else .tuple cs.toArray) := by
  cases h with
  | nil => exact ⟨_, rfl, rfl⟩
  | cons h1 h2 =>
    cases h2 with
    | nil => exact h1
    | cons h3 h4 =>
      rw [dif_neg (by simp)]
      exact ⟨_, rfl, rowOf_rel (.cons h1 (.cons h3 h4))⟩

theorem takeM_rel {P : Program} {base : Nat} {w0 : World} {F : Fence} {n : Nat} {fn : Func} {tmps : Array Value} {R : Ending → World → Prop} : ∀ {ms : List Nat} {ds : List Deferred} {E : Env} {H H' : Hp} {w : World}, Inv E H w base w0 →
    F2 (fun id d => ∃ b z, E id = some (b, z) ∧ d = ({ target := .collected b, args := #[] } : Deferred)) ms ds → takeM ms H = some H' →
    (∀ w', Stp E H.get H.next w E H'.get H'.next w' → LeavesIn F n P fn tmps R [] .returning w') → LeavesInM F n P fn tmps R ds .returning w
  | [], [], E, H, H', w, hI, _, h, hq => by cases h; exact hq w (Stp.refl hI.hr)
  | k :: ms, d :: ds, E, H, H', w, hI, .cons ⟨b, z, he, hd⟩ ht, h, hq => by
    have h' : (obind (H.get k) fun o => match o with | .defd true => takeM ms ⟨H.next, H.tr.put k (some (.defd false))⟩ | _ => none) = some H' := h
    obtain ⟨o, h1, h2⟩ := obind_some h'
    split at h2
    · obtain ⟨b', z', x', g1, g2, g3⟩ := hI.hr.obj _ _ h1
      rw [he] at g1; injection g1 with g1; injection g1 with g1 g1'; subst g1; subst g1'
      have g3 : x' = .deferred (some []) := g3
      subst g3
      have s : Stp E H.get H.next w E (Hp.get ⟨H.next, H.tr.put k (some (.defd false))⟩) H.next (putB w b (.deferred none)) := by
        rw [upd_put]
        exact hI.hr.put h1 he rfl
      refine ⟨by simp, .inl ⟨b, _, by rw [hd], run_takeDeferred g2, ?_⟩⟩
      exact takeM_rel (hI.step (H' := ⟨H.next, _⟩) s) ht h2 fun w' q => hq w' (s.trans q)
    · cases h2

theorem evFn_rel {P : Program} {gl : Nat → Option AV} {base : Nat} {w0 : World} (hG : GlOk gl base w0) {cc : Code → Option Nat → Cs} (hcc : ∀ c rd, CodeOk P base w0 rd (cc c rd) c) {f : FuncId} {fn : Func} {c : Code} {l : List AV} {E : Env} {H : Hp} {w : World} {args : Array Value} {r : AV × Hp}
    (hf : P.funcs[f]? = some fn) (hb : fn.body = some c) (h : evFn P gl cc fn c l H = some r) (hl : F2 (V E) l args.toList) (hI : Inv E H w base w0) : Calls P f args w (RetOk E H w r) := by
  unfold evFn at h
  rw [forceN_eq] at h
  obtain ⟨⟨e, T, H1⟩, h1, h2⟩ := obind_some h
  have hlen : l.length = args.size := by simpa using hl.length
  have hT0 : FR E ⟨l.length + (fn.ntmps - l.length), argT l 0 .leaf, []⟩ { tmps := args ++ Array.replicate (fn.ntmps - args.size) undef, defers := [] } := by
    refine ⟨?_, .nil⟩
    have := argT_rel (E := E) (n := l.length + (fn.ntmps - l.length)) (l := l) (cs := args.toList) (pre := []) (tr := .leaf) (x := List.replicate (fn.ntmps - args.size) undef) hl (by simp [hlen]) (fun t ht => by simp at ht) (fun t _ => rfl) (fun v hv => List.eq_of_mem_replicate hv)
    have e1 : ([] ++ args.toList ++ List.replicate (fn.ntmps - args.size) undef).toArray = args ++ Array.replicate (fn.ntmps - args.size) undef := by
      apply Array.ext'; simp
    rw [e1] at this
    exact this
  refine callsIn_wide.1 (callsIn_of_wp_marks (n := 0) hf hb trivial ?_)
  refine hcc c none Fence.wide 0 E H w _ _ _ rfl h1 hI hT0 _ fun E' a' w' s1 q1 => ?_
  have fin : (obind (takeM T.marks H1) fun H2 => obind (resL P gl T H2 fn.results.toList) fun vs => some (oneOr vs, H2)) = some r → LeavesInM Fence.wide 0 P fn a'.tmps (RetOk E H w r) a'.defers .returning w' := by
    intro h3
    obtain ⟨H2, h4, h5⟩ := obind_some h3
    obtain ⟨vs, h6, h7⟩ := obind_some h5
    cases h7
    have hI1 := hI.step s1
    refine takeM_rel hI1 q1.2 h4 fun w2 s2 => ?_
    have hI2 := hI1.step s2
    obtain ⟨cs, k1, k2⟩ := resL_rel hG hI2.zero q1.1 h6
    refine ⟨_, ?_, E', _, rfl, s1.trans s2, oneOr_rel k2⟩
    have e2 : fn.results = fn.results.toList.toArray := by simp
    unfold results
    rw [e2]
    have e3 : ((fn.results.toList.toArray).mapM (rdRes a'.tmps)).run P w2 = .ok cs.toArray w2 := by
      rw [List.mapM_toArray, map_eq_pure_bind, Sem.run_bind, k1]
      rfl
    have e4 : (do let vs ← fn.results.toList.toArray.mapM (rdRes a'.tmps); pure (if h : vs.size = 1 then vs[0] else .tuple vs) : Sem Value).run P w2 = .ok (if h : cs.toArray.size = 1 then cs.toArray[0] else .tuple cs.toArray) w2 := by
      rw [Sem.run_bind, e3]
      rfl
    exact e4
  cases e with
  | nor => exact fin h2
  | ret => exact fin h2
  | exit i => cases h2
  | goto i => cases h2
end Go.Ev
