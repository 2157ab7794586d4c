/- Rounds, functions, with all their outcomes. -/
import Derived.Test.YtjjnffgpfiokiaaGreatDoorMvC
namespace Go.Ev
open Go.RowKit Go.MapKept

section ev
variable (P : Program) (gl : Nat → Option AV) (cc : Code → Option Nat → CsM)
noncomputable def rndEnd (id : Nat) (r2 : Ex × Fm × Hp) : Option (AV × Hp) :=
  obind (r2.2.2.get id) fun o2 => match o2 with
    | .loop _ _ fn2 n2 tr2 ps2 asg2 body2 dfs2 => Option.rec (motive := fun _ => Option (AV × Hp))
        (some (.bool true, ⟨r2.2.2.next, r2.2.2.tr.put id (some (.loop .ready none fn2 n2 tr2 ps2 asg2 body2 dfs2))⟩))
        (fun j => some (.bool false, ⟨r2.2.2.next, r2.2.2.tr.put id (some (.loop .done (some j) fn2 n2 tr2 ps2 asg2 body2 dfs2))⟩)) (jmpOf r2.1)
    | _ => none
noncomputable def rndBeg (id : Nat) (H : Hp) : Option Hp := obind (H.get id) fun o1 => match o1 with
  | .loop st pend fn1 n1 tr1 ps1 asg1 body1 dfs1 => cnd (isRdy st) (some ⟨H.next, H.tr.put id (some (.loop .busy pend fn1 n1 tr1 ps1 asg1 body1 dfs1))⟩) none
  | _ => none
noncomputable def evRM (id : Nat) (l : List AV) (H : Hp) : Option (List (AV × Hp)) := obind (H.get id) fun o => match o with
  | .loop _ _ _ n tr ps asg body _ => cnd (Nat.beq l.length ps.size) (obind (setPs n ps.toList l tr) fun tr1 => lbind (cc asg (some id) ⟨n, tr1, []⟩ H) fun r1 => exElim r1.1
      (obind (rndBeg id r1.2.2) fun H1 => lbind (cc body (some id) r1.2.1 H1) fun r2 => lone' (rndEnd id r2)) (fun _ => none) (fun _ => none) none) none
  | _ => none
noncomputable def fnEnd (fn : Func) (r : Ex × Fm × Hp) : Option (AV × Hp) :=
  (fun fin => exElim r.1 fin (fun _ => none) (fun _ => none) fin) (obind (takeM r.2.1.marks r.2.2) fun H2 => obind (resL P gl r.2.1 H2 fn.results.toList) fun vs => some (oneOr vs, H2))
noncomputable def evFnM (fn : Func) (c : Code) (l : List AV) (H : Hp) : Option (List (AV × Hp)) :=
  forceN (Nat.add l.length (Nat.sub fn.ntmps l.length)) fun n => lbind (cc c none ⟨n, argT l 0 .leaf, []⟩ H) fun r => lone' (fnEnd P gl fn r)
end ev

theorem evRM_rel {P : Program} {base : Nat} {w0 : World} {cc : Code → Option Nat → CsM} (hcc : ∀ c rd, CodeOkM P base w0 rd (cc c rd) c) : RoundOkM P base w0 (evRM cc) := by
  intro id l E H w args rs b z h hl hI he
  unfold evRM at h
  obtain ⟨o, h1, h2⟩ := obind_some h
  split at h2
  · rename_i st pend fn0 n tr ps asg body dfs
    obtain ⟨h3, h4⟩ := cnd_some h2
    obtain ⟨tr1, h5, h6⟩ := obind_some h4
    obtain ⟨us, h7, h8⟩ := lbind_some h6
    obtain ⟨b', z', x', g1, g2, fn, tmps, bd, zd, g3, g4, rfl⟩ := hI.hr.obj _ _ h1
    rw [he] at g1; injection g1 with g1; injection g1 with g1 g1'; subst g1; subst g1'
    have hsz : args.size = ps.size := by
      have q1 : l.length = args.size := by simpa using hl.length
      have q2 : l.length = ps.size := by simpa using h3
      exact q1.symm.trans q2
    refine ⟨fn, _, asg, body, run_yield g2 hsz, fun n' => ?_⟩
    have hT1 : FR E ⟨n, tr1, []⟩ { tmps := (ps.zip args).foldl (fun tmps (t, a) => tmps.setIfInBounds t a) tmps, defers := [] } := by
      refine ⟨?_, .nil⟩
      have := setPs_rel hl g3 h5
      rw [← Array.foldl_toList, Array.toList_zip]
      exact this
    refine roundIn_of_wpIn trivial ?_
    refine hcc asg (some id) (Fence.wide.inRound b) n' E H w _ _ _ ⟨b, z, he, rfl⟩ h7 hI hT1 _ fun r1 hr1 E1 a1 w1 s1 q1 => ?_
    obtain ⟨u, k0, k0'⟩ := h8 r1 hr1
    obtain ⟨e1, T1, H1⟩ := r1
    cases e1 with
    | exit i => cases k0
    | goto i => cases k0
    | ret => cases k0
    | nor =>
      have k0 : (obind (rndBeg id H1) fun H1' => lbind (cc body (some id) T1 H1') fun r2 => lone' (rndEnd id r2)) = some u := k0
      obtain ⟨H1', kb, k1⟩ := obind_some k0
      unfold rndBeg at kb
      obtain ⟨o1, k2, k3⟩ := obind_some kb
      split at k3
      · rename_i st1 pend1 fn1 n1 trr ps1 asg1 body1 dfs1
        obtain ⟨k4, k5⟩ := cnd_some k3
        cases k5
        obtain ⟨vs, k6, k7⟩ := lbind_some k1
        have hst : st1 = .ready := by cases st1 <;> first | rfl | cases k4
        subst hst
        have hI1 := hI.step s1
        obtain ⟨b', z', x', g1', g2', fnr, tmpsr, bdr, zdr, g3', g4', rfl⟩ := hI1.hr.obj _ _ k2
        rw [s1.le _ _ he] at g1'; injection g1' with g1'; injection g1' with g1' g1''; subst g1'; subst g1''
        have sb : Stp E1 H1.get H1.next w1 E1 (Hp.get ⟨H1.next, H1.tr.put id (some (.loop .busy pend1 fn1 n1 trr ps1 asg1 body1 dfs1))⟩) H1.next (putB w1 b (.loop { state := .busy, pending := pend1, fn := fnr, tmps := tmpsr, params := ps1, assign := asg1, body := body1, defers := bdr })) := by
          rw [upd_put]
          exact hI1.hr.put k2 (s1.le _ _ he) ⟨fnr, tmpsr, bdr, zdr, g3', g4', rfl⟩
        have hI1b : Inv E1 ⟨H1.next, H1.tr.put id (some (.loop .busy pend1 fn1 n1 trr ps1 asg1 body1 dfs1))⟩ _ base w0 := hI1.step (H' := ⟨H1.next, _⟩) sb
        refine ⟨_, run_beginRound g2' rfl, ?_⟩
        refine hcc body (some id) (Fence.wide.inRound b) n' E1 _ _ _ _ _ ⟨b, z, s1.le _ _ he, rfl⟩ k6 hI1b q1 _ fun r2 hr2 E2 a2 w2 s2 q2 => ?_
        obtain ⟨u2, k8, k8'⟩ := k7 r2 hr2
        obtain ⟨r, k9, rfl⟩ := lone_some k8
        have hmem : r ∈ rs := k0' r (k8' r (List.mem_singleton.2 rfl))
        obtain ⟨e2, T2, H2⟩ := r2
        have hI2 : Inv E2 H2 w2 base w0 := hI1b.step s2
        have he2 := s2.le _ _ (s1.le _ _ he)
        have s012 := (s1.trans sb).trans s2
        unfold rndEnd at k9
        obtain ⟨o2, k10, k11⟩ := obind_some k9
        split at k11
        · rename_i st2 pend2 fn2 n2 tr2 ps2 asg2 body2 dfs2
          obtain ⟨b', z', x', g1', g2', fnr, tmpsr, bdr, zdr, g3', g4', rfl⟩ := hI2.hr.obj _ _ k10
          have he2' : E2 id = some (b, z) := he2
          rw [he2'] at g1'; injection g1' with g1'; injection g1' with g1' g1''; subst g1'; subst g1''
          have fin : ∀ (j : Option Code) (v : AV) (s : LoopState), r = (v, ⟨H2.next, H2.tr.put id (some (.loop s j fn2 n2 tr2 ps2 asg2 body2 dfs2))⟩) → v = .bool j.isNone → s = (if j.isNone then .ready else .done) →
              ∃ v w', (Instr.endRound b j).run P w2 = .ok v w' ∧ ∃ r ∈ rs, RetOk E H w r (.returned v) w' := by
            rintro j v s hrr rfl rfl
            refine ⟨_, _, run_endRound j g2', r, hmem, ?_⟩
            subst hrr
            refine ⟨E2, _, rfl, ?_, rfl⟩
            refine s012.trans ?_
            show Stp E2 H2.get H2.next w2 E2 (Hp.get ⟨H2.next, H2.tr.put _ _⟩) H2.next _
            rw [upd_put]
            exact hI2.hr.put k10 he2' ⟨fnr, tmpsr, bdr, zdr, g3', g4', rfl⟩
          cases e2 with
          | nor => cases k11; exact fin none _ _ rfl rfl rfl
          | exit i => cases k11; exact fin (some (.exit i)) _ _ rfl rfl rfl
          | goto i => cases k11; exact fin (some (.goto i)) _ _ rfl rfl rfl
          | ret => cases k11; exact fin (some .ret) _ _ rfl rfl rfl
        · cases k11
      · cases k3
  · cases h2

theorem evFnM_rel {P : Program} {gl : Nat → Option AV} {base : Nat} {w0 : World} (hG : GlOk gl base w0) {cc : Code → Option Nat → CsM} (hcc : ∀ c rd, CodeOkM P base w0 rd (cc c rd) c) {f : FuncId} {fn : Func} {c : Code} {l : List AV} {E : Env} {H : Hp} {w : World} {args : Array Value} {rs : List (AV × Hp)}
    (hf : P.funcs[f]? = some fn) (hb : fn.body = some c) (h : evFnM P gl cc fn c l H = some rs) (hl : F2 (V E) l args.toList) (hI : Inv E H w base w0) : Calls P f args w (fun e w' => ∃ r ∈ rs, RetOk E H w r e w') := by
  unfold evFnM at h
  rw [forceN_eq] at h
  obtain ⟨us, h1, h2⟩ := lbind_some h
  have hlen : l.length = args.size := by simpa using hl.length
  have hT0 : FR E ⟨l.length + (fn.ntmps - l.length), argT l 0 .leaf, []⟩ { tmps := args ++ Array.replicate (fn.ntmps - args.size) undef, defers := [] } := by
    refine ⟨?_, .nil⟩
    have := argT_rel (E := E) (n := l.length + (fn.ntmps - l.length)) (l := l) (cs := args.toList) (pre := []) (tr := .leaf) (x := List.replicate (fn.ntmps - args.size) undef) hl (by simp [hlen]) (fun t ht => by simp at ht) (fun t _ => rfl) (fun v hv => List.eq_of_mem_replicate hv)
    have e1 : ([] ++ args.toList ++ List.replicate (fn.ntmps - args.size) undef).toArray = args ++ Array.replicate (fn.ntmps - args.size) undef := by
      apply Array.ext'; simp
    rw [e1] at this
    exact this
  refine callsIn_wide.1 (callsIn_of_wp_marks (n := 0) hf hb trivial ?_)
  refine hcc c none Fence.wide 0 E H w _ _ _ rfl h1 hI hT0 _ fun r hr E' a' w' s1 q1 => ?_
  obtain ⟨u, g1, g2⟩ := h2 r hr
  obtain ⟨r', g3, rfl⟩ := lone_some g1
  have hmem : r' ∈ rs := g2 r' (List.mem_singleton.2 rfl)
  obtain ⟨e, T, H1⟩ := r
  have fin : (obind (takeM T.marks H1) fun H2 => obind (resL P gl T H2 fn.results.toList) fun vs => some (oneOr vs, H2)) = some r' → LeavesInM Fence.wide 0 P fn a'.tmps (fun e w' => ∃ r ∈ rs, RetOk E H w r e w') a'.defers .returning w' := by
    intro h3
    obtain ⟨H2, h4, h5⟩ := obind_some h3
    obtain ⟨vs, h6, h7⟩ := obind_some h5
    cases h7
    have hI1 := hI.step s1
    refine takeM_rel hI1 q1.2 h4 fun w2 s2 => ?_
    have hI2 := hI1.step s2
    obtain ⟨cs, k1, k2⟩ := resL_rel hG hI2.zero q1.1 h6
    refine ⟨_, ?_, _, hmem, E', _, rfl, s1.trans s2, oneOr_rel k2⟩
    have e2 : fn.results = fn.results.toList.toArray := by simp
    unfold results
    rw [e2]
    have e3 : ((fn.results.toList.toArray).mapM (rdRes a'.tmps)).run P w2 = .ok cs.toArray w2 := by
      rw [List.mapM_toArray, map_eq_pure_bind, Sem.run_bind, k1]
      rfl
    have e4 : (do let vs ← fn.results.toList.toArray.mapM (rdRes a'.tmps); pure (if h : vs.size = 1 then vs[0] else .tuple vs) : Sem Value).run P w2 = .ok (if h : cs.toArray.size = 1 then cs.toArray[0] else .tuple cs.toArray) w2 := by
      rw [Sem.run_bind, e3]
      rfl
    exact e4
  cases e with
  | nor => exact fin g3
  | ret => exact fin g3
  | exit i => cases g3
  | goto i => cases g3
end Go.Ev
