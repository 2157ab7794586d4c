/- One operation, with all its outcomes. -/
import Derived.Test.YtaogiffafckmlaaGreatDoorMvA
namespace Go.Ev
open Go.RowKit Go.MapKept

/-! ### The entry at which an iterator stands -/
noncomputable def lastN (l : List Nat) : Option Nat := List.rec (motive := fun _ => Option Nat) none (fun m t ih => List.rec (motive := fun _ => Option Nat) (some m) (fun _ _ _ => ih) t) l
theorem lastN_eq : ∀ l : List Nat, lastN l = l.getLast?
  | [] => rfl
  | [_] => rfl
  | m :: n :: l => by
    show lastN (n :: l) = _
    rw [lastN_eq (n :: l), List.getLast?_cons_cons]
noncomputable def fndA (b : Nat) (es : List Ent) : Option Ent := List.rec (motive := fun _ => Option Ent) none (fun e _ ih => cnd (Nat.beq e.2.2 b) (some e) ih) es
theorem fndA_rel {E : Env} {b : Nat} {e : Ent} : ∀ {es : List Ent} {cs : List MapEntry}, F2 (ERel E) es cs → fndA b es = some e → ∃ c, cs.find? (fun e => e.born == b) = some c ∧ ERel E e c
  | [], [], .nil, h => by cases h
  | x :: es, c :: cs, .cons h t, hh => by
    have hb : c.born = x.2.2 := h.2.2
    have hh' : cnd (Nat.beq x.2.2 b) (some x) (fndA b es) = some e := hh
    rw [cnd_eq] at hh'
    rw [List.find?_cons, hb]
    split at hh'
    · rename_i h1
      cases hh'
      exact ⟨c, by rw [show (e.2.2 == b) = true from by rw [Nat.eq_of_beq_eq_true h1]; exact beq_self_eq_true b], h⟩
    · rename_i h1
      obtain ⟨c', g1, g2⟩ := fndA_rel t hh'
      refine ⟨c', ?_, g2⟩
      have : (x.2.2 == b) = false := by simpa using h1
      rw [this]; exact g1
noncomputable def entA (H : Hp) (it : AV) : Option AV := match it with
  | .ptr id off => cnd (Nat.beq off 0) (obind (H.get id) fun o => match o with
    | .iter (some m) _ seen stepped => obind (lastN seen) fun b => obind (H.get m) fun o => match o with
      | .map es clock => cnd (Nat.beq clock stepped) (omap (fun e : Ent => .tup (packA e.1 (packA e.2.1 .rnil))) (fndA b es)) none
      | _ => none
    | _ => none) none
  | _ => none
theorem entA_rel {P : Program} {E : Env} {H : Hp} {w : World} {it v : AV} {ci : Value} (hH : HR E H.get w) (hi : V E it ci) (h : entA H it = some v) : ValOk P E w (Instr.entry ci) v := by
  unfold entA at h
  split at h
  · rename_i id off
    obtain ⟨h0, h1⟩ := cnd_some h
    obtain rfl : off = 0 := by simpa using h0
    obtain ⟨o, h2, h3⟩ := obind_some h1
    obtain ⟨b, z, he, rfl⟩ := V_ptr hi
    split at h3
    · rename_i m since seen stepped
      obtain ⟨bo, h4, h5⟩ := obind_some h3
      obtain ⟨o2, h6, h7⟩ := obind_some h5
      split at h7
      · rename_i es clock
        obtain ⟨h8, h9⟩ := cnd_some h7
        obtain rfl : clock = stepped := Nat.eq_of_beq_eq_true h8
        rw [omap_eq, Option.map_eq_some_iff] at h9
        obtain ⟨e, h10, rfl⟩ := h9
        obtain ⟨b', z', x', g3, g4, bm, zm, g6, rfl⟩ := hH.obj _ _ h2
        rw [he] at g3; injection g3 with g3; injection g3 with g3 g3'; subst g3; subst g3'
        obtain ⟨bm', zm', xm, q3, q4, cs, rfl, hf⟩ := hH.obj _ _ h6
        rw [g6] at q3; injection q3 with q3; injection q3 with q3 q3'; subst q3; subst q3'
        obtain ⟨c, k1, k2⟩ := fndA_rel hf h10
        rw [lastN_eq] at h4
        have hback : seen.toArray.back? = some bo := by simpa using h4
        have hfind : cs.find? (fun e => e.born == bo) = some c := by rw [← Array.find?_toList]; exact k1
        refine ⟨.tuple #[c.key, c.val], ?_, _, rfl, packA_rel k2.1 (packA_rel k2.2.1 rfl)⟩
        simp [Instr.entry, gO g4, gO q4, hback, hfind]
      · cases h7
    · cases h3
  · cases h

/-! ### Calls with all their outcomes -/
abbrev CallerM := Nat → List AV → Hp → Option (List (AV × Hp))
section
variable (P : Program) (gl : Nat → Option AV) (base : Nat) (w0 : World)
def CallOkM (call : CallerM) : Prop := ∀ f l E H w (args : Array Value) rs, call f l H = some rs → F2 (V E) l args.toList → Inv E H w base w0 →
  ((∃ fn, P.funcs[f]? = some fn ∧ fn.body = none) ∧ ∃ r ∈ rs, ∃ E' c w', (callFunc f args).run P w = .ok (.value c) w' ∧ Stp E H.get H.next w E' r.2.get r.2.next w' ∧ V E' r.1 c) ∨
  (∃ f' args', (callFunc f args).run P w = .ok (.enter f' args') w ∧ Calls P f' args' w (fun e w' => ∃ r ∈ rs, RetOk E H w r e w'))
def RoundOkM (rnd : CallerM) : Prop := ∀ id l E H w (args : Array Value) rs b z, rnd id l H = some rs → F2 (V E) l args.toList → Inv E H w base w0 → E id = some (b, z) →
  ∃ f tmps assign body, (Instr.yield b args).run P w = .ok (.round b f tmps assign body) w ∧ ∀ n, RoundIn Fence.wide n P b f tmps assign body w (fun e w' => ∃ r ∈ rs, RetOk E H w r e w')
/-- One that has one outcome. -/
noncomputable def one (c : CallerM) : Caller := fun f l H => obind (c f l H) fun rs => List.rec (motive := fun _ => Option (AV × Hp)) none (fun r t _ => List.rec (motive := fun _ => Option (AV × Hp)) (some r) (fun _ _ _ => none) t) rs
theorem one_some {c : CallerM} {f : Nat} {l : List AV} {H : Hp} {r : AV × Hp} (h : one c f l H = some r) : c f l H = some [r] := by
  unfold one at h
  obtain ⟨rs, h1, h2⟩ := obind_some h
  rw [h1]
  cases rs with
  | nil => cases h2
  | cons a t =>
    cases t with
    | nil => cases h2; rfl
    | cons b t => cases h2
end
theorem one_ok {P : Program} {base : Nat} {w0 : World} {c : CallerM} (h : CallOkM P base w0 c) : CallOk P base w0 (one c) := by
  intro f l E H w args r hr hl hI
  rcases h f l E H w args _ (one_some hr) hl hI with ⟨h1, r', hm, h2⟩ | ⟨f', args', h1, h2⟩
  · obtain rfl := List.mem_singleton.1 hm
    exact .inl ⟨h1, h2⟩
  · refine .inr ⟨f', args', h1, h2.mono ?_⟩
    rintro e w' ⟨r', hm, h3⟩
    obtain rfl := List.mem_singleton.1 hm
    exact h3
theorem one_round {P : Program} {base : Nat} {w0 : World} {c : CallerM} (h : RoundOkM P base w0 c) : RoundOk P base w0 (one c) := by
  intro id l E H w args r b z hr hl hI he
  obtain ⟨f, tmps, asg, body, h1, h2⟩ := h id l E H w args _ b z (one_some hr) hl hI he
  refine ⟨f, tmps, asg, body, h1, fun n => (h2 n).mono ?_⟩
  rintro e w' ⟨r', hm, h3⟩
  obtain rfl := List.mem_singleton.1 hm
  exact h3

section
variable (P : Program) (gl : Nat → Option AV)
noncomputable def evCallM (call rnd : CallerM) (T : Fm) (H : Hp) (c : Call) : Option (List (AV × Hp)) :=
  match c.callee with
  | .builtin b => lone' (obind (opL T c.args.toList) fun l => bltA P H b c.argTypes.toList l)
  | .value f => obind (opd T f) fun f => obind (opL T c.args.toList) fun l => match f with
    | .func (.func id) p q => obind (rowL p) fun p => obind (rowL q) fun q => call id (apL p (apL l q)) H
    | .yld id => rnd id l H
    | _ => none
  | .invoke recv name => obind (opd T recv) fun r => obind (opL T c.args.toList) fun l => match r with
    | .iface t v => obind (methA P t v name) fun q => call q.1 (q.2 :: l) H
    | _ => none
noncomputable def evOpM (call rnd : CallerM) (T : Fm) (H : Hp) (op : Op) : Option (List (AV × Hp)) :=
  match op with
  | .call c => evCallM P call rnd T H c
  | .next it false => obind (opd T it) fun it => nxtM H it
  | .entry it => obind (opd T it) fun it => lone' (omap (fun v => (v, H)) (entA H it))
  | op => lone' (evB P gl T H op)
end

def noC : Caller := fun _ _ _ => none
theorem noC_ok {P : Program} {base : Nat} {w0 : World} : CallOk P base w0 noC := fun _ _ _ _ _ _ _ h => by cases h
theorem noC_round {P : Program} {base : Nat} {w0 : World} : RoundOk P base w0 noC := fun _ _ _ _ _ _ _ _ _ h => by cases h

theorem evOpM_rel {P : Program} {gl : Nat → Option AV} {base : Nat} {w0 : World} {call rnd : CallerM} (hC : CallOkM P base w0 call) (hR : RoundOkM P base w0 rnd) (hG : GlOk gl base w0)
    {F : Fence} (hF : Wd F) {n : Nat} {E : Env} {H : Hp} {w : World} {T : Fm} {a : Act} {o : Oper} {rs : List (AV × Hp)} (hI : Inv E H w base w0) (hT : FR E T a) (h : evOpM P gl call rnd T H o.op = some rs)
    {next : Act → World → Prop} {Q : Exit → Act → World → Prop} (hn : ∀ r ∈ rs, ∀ E' c w', Stp E H.get H.next w E' r.2.get r.2.next w' → V E' r.1 c → next (a.put o.dst c) w') :
    o.wpIn F n P a w next Q := by
  by_cases hcall : ∃ c, o.op = .call c ∧ ∀ b, c.callee ≠ .builtin b
  · obtain ⟨c, hc, hnb⟩ := hcall
    refine ⟨fun f _ => hF.fn f, ?_⟩
    have hsem : Oper.semAt F.round a.eval o = execOp a.eval o := by
      refine Oper.semAt_eq _ _ _ (fun c' hc' => ?_)
      rw [hc] at hc'
      cases hc'
    rw [hsem]
    rw [hc] at h
    have h : evCallM P call rnd T H c = some rs := h
    unfold evCallM at h
    split at h
    · rename_i b hb; exact absurd hb (hnb b)
    · rename_i f hf
      obtain ⟨fv, h1, h2⟩ := obind_some h
      obtain ⟨l, h3, h4⟩ := obind_some h2
      have hl := opL_rel hT h3
      have hfv := opd_rel hT h1
      split at h4
      · rename_i id p q
        obtain ⟨lp, h5, h6⟩ := obind_some h4
        obtain ⟨lq, h7, h8⟩ := obind_some h6
        obtain ⟨_, ps, qs, hev, k1, k2⟩ := V_func hfv
        have hargs : F2 (V E) (apL lp (apL l lq)) (ps ++ c.args.map a.eval ++ qs).toList := by
          have := apL_rel (rowL_rel k1 h5) (apL_rel hl (rowL_rel k2 h7))
          simpa using this
        have hrun : (execOp a.eval o).run P w = (callFunc id (ps ++ c.args.map a.eval ++ qs)).run P w := by
          unfold execOp
          rw [hc]
          simp [resolve, hf, hev, Deferred.ofValue, invoke]
        rw [hrun]
        rcases hC id _ E H w _ rs h8 hargs hI with ⟨_, r, hm, E', v, w', g1, g2, g3⟩ | ⟨f', args', g1, g2⟩
        · rw [g1]; exact hn r hm E' v w' g2 g3
        · rw [g1, Oper.uponIn_enter]
          refine ⟨hF.dep n, (hF.calls g2).mono ?_⟩
          rintro e w' ⟨r, hm, E', v, rfl, g3, g4⟩
          exact hn r hm E' v w' g3 g4
      · rename_i id
        obtain ⟨b, z, he, hev⟩ := (hfv : ∃ b z, _)
        have hev : a.eval f = .func (.yield b) #[] #[] := by injection hev
        have hargs : F2 (V E) l (c.args.map a.eval).toList := by rw [Array.toList_map]; exact hl
        obtain ⟨fn, tmps, asg, body, g1, g2⟩ := hR id l E H w _ rs b z h4 hargs hI he
        have hrun : (execOp a.eval o).run P w = (Instr.yield b (c.args.map a.eval)).run P w := by
          unfold execOp
          rw [hc]
          simp [resolve, hf, hev, Deferred.ofValue, invoke]
        rw [hrun, g1, Oper.uponIn_round]
        refine ⟨hF.dep n, (hF.round (g2 _)).mono ?_⟩
        rintro e w' ⟨r, hm, E', v, rfl, g3, g4⟩
        exact hn r hm E' v w' g3 g4
      · cases h4
    · rename_i recv name hb
      obtain ⟨rv, h1, h2⟩ := obind_some h
      obtain ⟨l, h3, h4⟩ := obind_some h2
      have hl := opL_rel hT h3
      have hrv := opd_rel hT h1
      split at h4
      · rename_i t v
        obtain ⟨⟨fid, rc⟩, h5, h6⟩ := obind_some h4
        obtain ⟨x, hev, hx⟩ := V_iface hrv
        obtain ⟨rcv, g0, hrc⟩ := methA_rel (P := P) hx h5 w
        have hargs : F2 (V E) (rc :: l) (#[rcv] ++ c.args.map a.eval).toList := by
          have : (#[rcv] ++ c.args.map a.eval).toList = rcv :: c.args.toList.map a.eval := by simp
          rw [this]
          exact .cons hrc hl
        have hrun : (execOp a.eval o).run P w = (callFunc fid (#[rcv] ++ c.args.map a.eval)).run P w := by
          unfold execOp
          rw [hc]
          have e1 : ((#[Value.iface t x] ++ c.args.map a.eval)[0]? : Option Value) = some (.iface t x) := by
            have : (#[Value.iface t x] ++ c.args.map a.eval).toList = .iface t x :: (c.args.map a.eval).toList := by simp
            rw [← Array.getElem?_toList, this]; rfl
          have e2 : (#[Value.iface t x] ++ c.args.map a.eval).extract 1 (#[Value.iface t x] ++ c.args.map a.eval).size = c.args.map a.eval := by
            apply Array.ext'
            simp [List.take_of_length_le]
          simp only [resolve, hb, hev, invoke, Sem.run_bind, Sem.run_pure, Result.andThen_ok, e1, e2, callMethod, program_run, g0]
        rw [hrun]
        rcases hC fid _ E H w _ rs h6 hargs hI with ⟨_, r, hm, E', v, w', g1, g2, g3⟩ | ⟨f', args', g1, g2⟩
        · rw [g1]; exact hn r hm E' v w' g2 g3
        · rw [g1, Oper.uponIn_enter]
          refine ⟨hF.dep n, (hF.calls g2).mono ?_⟩
          rintro e w' ⟨r, hm, E', v, rfl, g3, g4⟩
          exact hn r hm E' v w' g3 g4
      · cases h4
  · -- what calls nothing
    have quiet : ∀ m : Sem Value, (∃ r ∈ rs, ActOk P E H w m r) → execOp a.eval o = (do pure (.value (← m))) → (∀ c, o.op ≠ .defer c) → o.wpIn F n P a w next Q := by
      rintro m ⟨r, hm, E', c, w', g1, g2, g3⟩ he hnc
      refine ⟨fun f _ => hF.fn f, ?_⟩
      rw [Oper.semAt_eq _ _ _ (fun c' hc' => absurd hc' (hnc _)), he]
      simp only [Sem.run_bind, g1, Result.andThen_ok, Sem.run_pure]
      exact hn r hm E' c w' g2 g3
    have plain : ∀ r, rs = [r] → evOp P gl noC noC T H o.op = some r → o.wpIn F n P a w next Q := by
      rintro r rfl hr
      exact evOp_rel noC_ok noC_round hG hF hI hT hr fun E' c w' g1 g2 => hn r (List.mem_singleton.2 rfl) E' c w' g1 g2
    unfold evOpM at h
    split at h
    · rename_i c hc
      cases hb : c.callee with
      | builtin b =>
        unfold evCallM at h
        rw [hb] at h
        obtain ⟨r, h1, rfl⟩ := lone_some h
        refine plain r rfl ?_
        rw [hc]
        show evCall P noC noC T H c = some r
        unfold evCall
        rw [hb]
        exact h1
      | value f => exact absurd ⟨c, hc, fun b hb' => by rw [hb] at hb'; cases hb'⟩ hcall
      | invoke recv name => exact absurd ⟨c, hc, fun b hb' => by rw [hb] at hb'; cases hb'⟩ hcall
    · rename_i it hop
      obtain ⟨iv, h1, h2⟩ := obind_some h
      obtain ⟨r, hm, hr⟩ := nxtM_rel (P := P) (ty := o.type) hI.hr (opd_rel hT h1) h2
      refine quiet _ ⟨r, hm, hr⟩ ?_ (fun c hc => by rw [hop] at hc; cases hc)
      unfold execOp
      rw [hop]
    · rename_i it hop
      obtain ⟨iv, h1, h2⟩ := obind_some h
      obtain ⟨r, h3, rfl⟩ := lone_some h2
      rw [omap_eq, Option.map_eq_some_iff] at h3
      obtain ⟨v, h4, rfl⟩ := h3
      refine quiet _ ⟨_, List.mem_singleton.2 rfl, (entA_rel (P := P) hI.hr (opd_rel hT h1) h4).act hI.hr⟩ ?_ (fun c hc => by rw [hop] at hc; cases hc)
      unfold execOp
      rw [hop]
    · rename_i hnc _ _
      obtain ⟨r, h1, rfl⟩ := lone_some h
      refine plain r rfl ?_
      unfold evOp
      split
      · rename_i c hc; exact absurd hc (hnc c)
      · exact h1
end Go.Ev
