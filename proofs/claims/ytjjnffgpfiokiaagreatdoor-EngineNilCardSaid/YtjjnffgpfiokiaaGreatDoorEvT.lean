/- Calls, code. -/
import Derived.Test.YtjjnffgpfiokiaaGreatDoorEvR
import Derived.RangeFuncCalls
import Derived.RangeFuncRecord
import Derived.RangeFuncLeaves
import Derived.OrdersIn
import Derived.Scope
namespace Go.Ev
open Go.RowKit Go.MapKept

inductive Ex where
  | nor | exit (id : Nat) | goto (l : Nat) | ret
def Ex.to : Ex → Exit
  | .nor => .normal
  | .exit i => .exit i
  | .goto l => .goto l
  | .ret => .ret

abbrev Caller := Nat → List AV → Hp → Option (AV × Hp)
noncomputable def apL (a b : List AV) : List AV := List.rec (motive := fun _ => List AV) b (fun x _ ih => x :: ih) a
theorem apL_rel {E : Env} : ∀ {a b : List AV} {c d : List Value}, F2 (V E) a c → F2 (V E) b d → F2 (V E) (apL a b) (c ++ d)
  | [], _, [], _, _, h => h
  | _ :: _, _, _ :: _, _, .cons h t, k => .cons h (apL_rel t k)

/-- A fence that lets all in. -/
def Wd (F : Fence) : Prop := F = Fence.wide ∨ ∃ l, F = Fence.wide.inRound l
theorem Wd.fn {F : Fence} (h : Wd F) (f : FuncId) : F.fn f := by rcases h with rfl | ⟨l, rfl⟩ <;> exact trivial
theorem Wd.depth {F : Fence} (h : Wd F) : F.depth.isSome = true → 1 ≤ 0 := by rcases h with rfl | ⟨l, rfl⟩ <;> intro h <;> cases h
theorem Wd.dep {F : Fence} (h : Wd F) (k : Nat) : F.depth.isSome = true → 1 ≤ k := fun hh => absurd (h.depth hh) (by decide)
theorem Wd.calls {F : Fence} (h : Wd F) {n : Nat} {P : Program} {f : FuncId} {args : Array Value} {w : World} {R : Ending → World → Prop} (k : Calls P f args w R) : CallsIn F n P f args w R := by
  rcases h with rfl | ⟨l, rfl⟩
  · exact callsIn_wide.2 k
  · exact CallsIn.inRound l (callsIn_wide.2 k)
theorem Wd.round {F : Fence} (h : Wd F) {n : Nat} {P : Program} {l : Nat} {f : FuncId} {tmps : Array Value} {assign body : Code} {w : World} {R : Ending → World → Prop} (k : RoundIn Fence.wide n P l f tmps assign body w R) :
    RoundIn F n P l f tmps assign body w R := by
  rcases h with rfl | ⟨l', rfl⟩ <;> exact k

section
variable (P : Program) (gl : Nat → Option AV) (base : Nat) (w0 : World)
/-- What a call's answer must be. -/
def RetOk (E : Env) (H : Hp) (w : World) (r : AV × Hp) (e : Ending) (w' : World) : Prop :=
  ∃ E' c, e = .returned c ∧ Stp E H.get H.next w E' r.2.get r.2.next w' ∧ V E' r.1 c
def CallOk (call : Caller) : Prop := ∀ f l E H w (args : Array Value) r, call f l H = some r → F2 (V E) l args.toList → Inv E H w base w0 →
  ((∃ fn, P.funcs[f]? = some fn ∧ fn.body = none) ∧ ∃ E' c w', (callFunc f args).run P w = .ok (.value c) w' ∧ Stp E H.get H.next w E' r.2.get r.2.next w' ∧ V E' r.1 c) ∨
  (∃ f' args', (callFunc f args).run P w = .ok (.enter f' args') w ∧ Calls P f' args' w (RetOk E H w r))
def RoundOk (rnd : Caller) : Prop := ∀ id l E H w (args : Array Value) r b z, rnd id l H = some r → F2 (V E) l args.toList → Inv E H w base w0 → E id = some (b, z) →
  ∃ f tmps assign body, (Instr.yield b args).run P w = .ok (.round b f tmps assign body) w ∧ ∀ n, RoundIn Fence.wide n P b f tmps assign body w (RetOk E H w r)

noncomputable def isNilArr' (a : Array FieldStep) : Bool := match a.toList with | [] => true | _ => false
/-- A method of a value's own type. -/
noncomputable def methA (t : Nat) (v : AV) (name : String) : Option (FuncId × AV) :=
  obind (P.info? t) fun i => obind (i.methods.find? (·.name == name)) fun m => cnd (isNilArr' m.path) (obind m.func fun p => obind (P.underlying t) fun u => match u, p.2 with
    | .pointer _, true => some (p.1, v)
    | .pointer _, false => none
    | _, false => some (p.1, v)
    | _, true => none) none

noncomputable def evCall (call rnd : Caller) (T : Fm) (H : Hp) (c : Call) : Option (AV × Hp) :=
  match c.callee with
  | .builtin b => obind (opL T c.args.toList) fun l => bltA P H b c.argTypes.toList l
  | .value f => obind (opd T f) fun f => obind (opL T c.args.toList) fun l => match f with
    | .func (.func id) p q => obind (rowL p) fun p => obind (rowL q) fun q => call id (apL p (apL l q)) H
    | .yld id => rnd id l H
    | _ => none
  | .invoke recv name => obind (opd T recv) fun r => obind (opL T c.args.toList) fun l => match r with
    | .iface t v => obind (methA P t v name) fun q => call q.1 (q.2 :: l) H
    | _ => none

noncomputable def evOp (call rnd : Caller) (T : Fm) (H : Hp) (op : Op) : Option (AV × Hp) :=
  match op with
  | .call c => evCall P call rnd T H c
  | op => evB P gl T H op
end

theorem builtin_call {P : Program} {E : Env} {H : Hp} {w : World} {T : Fm} {a : Act} {o : Oper} {c : Call} {b : Builtin} {r : AV × Hp} (hH : HR E H.get w) (hb : E H.next = none) (hT : FR E T a) (ho : o.op = .call c) (hc : c.callee = .builtin b)
    {l : List AV} (h1 : opL T c.args.toList = some l) (h2 : bltA P H b c.argTypes.toList l = some r) :
    ∃ E' v w', (execOp a.eval o).run P w = .ok (.value v) w' ∧ Stp E H.get H.next w E' r.2.get r.2.next w' ∧ V E' r.1 v := by
  have hl : F2 (V E) l (c.args.map a.eval).toList := by rw [Array.toList_map]; exact opL_rel hT h1
  obtain ⟨E', v, w', g1, g2, g3⟩ := bltA_rel (P := P) (ty := o.type) (cn := c.args.map fun | .const _ => true | _ => false) hH hb hl h2
  refine ⟨E', v, w', ?_, g2, g3⟩
  unfold execOp
  rw [ho]
  simp only [resolve, hc, Sem.run_bind, Sem.run_pure, Result.andThen_ok, invoke]
  exact g1

theorem program_run {P : Program} {w : World} : (program).run P w = .ok P w := rfl
theorem methA_rel {P : Program} {E : Env} {t : Nat} {v : AV} {x : Value} {name : String} {q : FuncId × AV} (hx : V E v x) (h : methA P t v name = some q) (w : World) :
    ∃ rcv, (method (P.types.size + Made.depth) t x name).run P w = .ok (q.1, rcv) w ∧ V E q.2 rcv := by
  unfold methA at h
  obtain ⟨i, h1, h2⟩ := obind_some h
  obtain ⟨m, h3, h4⟩ := obind_some h2
  obtain ⟨h5, h6⟩ := cnd_some h4
  obtain ⟨p, h7, h8⟩ := obind_some h6
  obtain ⟨u, hu, h9⟩ := obind_some h8
  have hp : m.path.toList = [] := by
    unfold isNilArr' at h5
    split at h5
    · assumption
    · cases h5
  have hd : ∃ k, P.types.size + Made.depth = k + 1 := by
    have : 1 ≤ Made.depth := by decide
    exact ⟨P.types.size + (Made.depth - 1), by omega⟩
  obtain ⟨k, hk⟩ := hd
  rw [hk]
  refine ⟨x, ?_, ?_⟩
  · obtain ⟨p1, p2⟩ := p
    unfold method
    simp only [Sem.run_bind, typeInfo, program_run, Result.andThen_ok, h1, Sem.run_pure, h3, hp, follow, h7]
    split at h9 <;> first | (cases h9; done) | (rename_i e1 e2 hp2; simp only at hp2; subst hp2; cases h9; simp [receiverAt, run_underlying hu, Place.get]) | skip
  · split at h9 <;> first | (cases h9; done) | (cases h9; exact hx)

theorem evOp_rel' {P : Program} {gl : Nat → Option AV} {base : Nat} {w0 : World} {call rnd : Caller} (hC : CallOk P base w0 call) (hR : RoundOk P base w0 rnd) (hG : GlOk gl base w0)
    {F : Fence} (hF : Wd F) {n : Nat} {E : Env} {H : Hp} {w : World} {T : Fm} {a a1 : Act} {o : Oper} {r : AV × Hp} (hI : Inv E H w base w0) (hT : FR E T a) (hev : execOp a1.eval o = execOp a.eval o) (h : evOp P gl call rnd T H o.op = some r)
    {next : Act → World → Prop} {Q : Exit → Act → World → Prop} (hn : ∀ E' c w', Stp E H.get H.next w E' r.2.get r.2.next w' → V E' r.1 c → next (a1.put o.dst c) w') :
    o.wpIn F n P a1 w next Q := by
  refine ⟨fun f _ => hF.fn f, ?_⟩
  have hsem : Oper.semAt F.round a1.eval o = execOp a1.eval o := by
    refine Oper.semAt_eq _ _ _ (fun c hc => ?_)
    rw [hc] at h
    cases h
  rw [hsem, hev]
  by_cases hcall : ∃ c, o.op = .call c
  · obtain ⟨c, hc⟩ := hcall
    rw [hc] at h
    have h : evCall P call rnd T H c = some r := h
    unfold evCall at h
    split at h
    · rename_i b hb
      obtain ⟨l, h1, h2⟩ := obind_some h
      obtain ⟨E', v, w', g1, g2, g3⟩ := builtin_call (P := P) hI.hr hI.bd.none hT hc hb h1 h2
      rw [g1]
      exact hn E' v w' g2 g3
    · rename_i f hf
      obtain ⟨fv, h1, h2⟩ := obind_some h
      obtain ⟨l, h3, h4⟩ := obind_some h2
      have hl := opL_rel hT h3
      have hfv := opd_rel hT h1
      split at h4
      · rename_i id p q
        obtain ⟨lp, h5, h6⟩ := obind_some h4
        obtain ⟨lq, h7, h8⟩ := obind_some h6
        obtain ⟨_, ps, qs, hev, k1, k2⟩ := V_func hfv
        have hargs : F2 (V E) (apL lp (apL l lq)) (ps ++ c.args.map a.eval ++ qs).toList := by
          have := apL_rel (rowL_rel k1 h5) (apL_rel hl (rowL_rel k2 h7))
          simpa using this
        have hrun : (execOp a.eval o).run P w = (callFunc id (ps ++ c.args.map a.eval ++ qs)).run P w := by
          unfold execOp
          rw [hc]
          simp [resolve, hf, hev, Deferred.ofValue, invoke]
        rw [hrun]
        rcases hC id _ E H w _ r h8 hargs hI with ⟨_, E', v, w', g1, g2, g3⟩ | ⟨f', args', g1, g2⟩
        · rw [g1]; exact hn E' v w' g2 g3
        · rw [g1, Oper.uponIn_enter]
          refine ⟨hF.dep n, (hF.calls g2).mono ?_⟩
          rintro e w' ⟨E', v, rfl, g3, g4⟩
          exact hn E' v w' g3 g4
      · rename_i id
        obtain ⟨b, z, he, hev⟩ := (hfv : ∃ b z, _)
        have hev : a.eval f = .func (.yield b) #[] #[] := by injection hev
        have hargs : F2 (V E) l (c.args.map a.eval).toList := by rw [Array.toList_map]; exact hl
        obtain ⟨fn, tmps, asg, body, g1, g2⟩ := hR id l E H w _ r b z h4 hargs hI he
        have hrun : (execOp a.eval o).run P w = (Instr.yield b (c.args.map a.eval)).run P w := by
          unfold execOp
          rw [hc]
          simp [resolve, hf, hev, Deferred.ofValue, invoke]
        rw [hrun, g1, Oper.uponIn_round]
        refine ⟨hF.dep n, (hF.round (g2 _)).mono ?_⟩
        rintro e w' ⟨E', v, rfl, g3, g4⟩
        exact hn E' v w' g3 g4
      · cases h4
    · rename_i recv name hb
      obtain ⟨rv, h1, h2⟩ := obind_some h
      obtain ⟨l, h3, h4⟩ := obind_some h2
      have hl := opL_rel hT h3
      have hrv := opd_rel hT h1
      split at h4
      · rename_i t v
        obtain ⟨⟨fid, rc⟩, h5, h6⟩ := obind_some h4
        obtain ⟨x, hev, hx⟩ := V_iface hrv
        obtain ⟨rcv, g0, hrc⟩ := methA_rel (P := P) hx h5 w
        have hargs : F2 (V E) (rc :: l) (#[rcv] ++ c.args.map a.eval).toList := by
          have : (#[rcv] ++ c.args.map a.eval).toList = rcv :: c.args.toList.map a.eval := by simp
          rw [this]
          exact .cons hrc hl
        have hrun : (execOp a.eval o).run P w = (callFunc fid (#[rcv] ++ c.args.map a.eval)).run P w := by
          unfold execOp
          rw [hc]
          have e1 : ((#[Value.iface t x] ++ c.args.map a.eval)[0]? : Option Value) = some (.iface t x) := by
            have : (#[Value.iface t x] ++ c.args.map a.eval).toList = .iface t x :: (c.args.map a.eval).toList := by simp
            rw [← Array.getElem?_toList, this]; rfl
          have e2 : (#[Value.iface t x] ++ c.args.map a.eval).extract 1 (#[Value.iface t x] ++ c.args.map a.eval).size = c.args.map a.eval := by
            apply Array.ext'
            simp [List.take_of_length_le]
          simp only [resolve, hb, hev, invoke, Sem.run_bind, Sem.run_pure, Result.andThen_ok, e1, e2, callMethod, program_run, g0]
        rw [hrun]
        rcases hC fid _ E H w _ r h6 hargs hI with ⟨_, E', v, w', g1, g2, g3⟩ | ⟨f', args', g1, g2⟩
        · rw [g1]; exact hn E' v w' g2 g3
        · rw [g1, Oper.uponIn_enter]
          refine ⟨hF.dep n, (hF.calls g2).mono ?_⟩
          rintro e w' ⟨E', v, rfl, g3, g4⟩
          exact hn E' v w' g3 g4
      · cases h4
  · have h' : evB P gl T H o.op = some r := by
      unfold evOp at h
      split at h
      · rename_i c hc; exact absurd ⟨c, hc⟩ hcall
      · exact h
    obtain ⟨E', c, w', g1, g2, g3⟩ := evB_rel hI.zero hG hT h'
    rcases g1 with g1 | ⟨g1, rfl⟩
    · rw [g1]; exact hn E' c w' g2 g3
    · rw [g1]; exact hn E' undef w' g2 g3

theorem evOp_rel {P : Program} {gl : Nat → Option AV} {base : Nat} {w0 : World} {call rnd : Caller} (hC : CallOk P base w0 call) (hR : RoundOk P base w0 rnd) (hG : GlOk gl base w0)
    {F : Fence} (hF : Wd F) {n : Nat} {E : Env} {H : Hp} {w : World} {T : Fm} {a : Act} {o : Oper} {r : AV × Hp} (hI : Inv E H w base w0) (hT : FR E T a) (h : evOp P gl call rnd T H o.op = some r)
    {next : Act → World → Prop} {Q : Exit → Act → World → Prop} (hn : ∀ E' c w', Stp E H.get H.next w E' r.2.get r.2.next w' → V E' r.1 c → next (a.put o.dst c) w') :
    o.wpIn F n P a w next Q := evOp_rel' hC hR hG hF hI hT rfl h hn

end Go.Ev

/- Code. -/
namespace Go.Ev
open Go.RowKit Go.MapKept

section rules
variable {F : Fence} {n : Nat} {P : Program} {Q : Exit → Act → World → Prop} {a : Act} {w : World}
theorem wpIn_loop_fuel {c : Code} (J : Nat → Act → World → Prop) (N : Nat) (h₀ : J N a w) (hz : ∀ a w, ¬ J 0 a w)
    (round : ∀ j a w, J (j + 1) a w → c.wpIn F n P (Exit.then (fun a' w' => J j a' w') Q) a w) : (Code.loop c).wpIn F n P Q a w := by
  intro b k cs hro hb hr
  have key : ∀ j a w, J j a w →
      ∃ e a' w', Q e a' w' ∧ ArrivesIn (Machine.fenced P F) P (lone (b.atR a (.code c :: .inLoop c :: k)) cs w) b k cs e a' w' := by
    intro j
    induction j with
    | zero => intro a w h; exact absurd h (hz a w)
    | succ j ih =>
      intro a w hJ
      obtain ⟨e, a₁, w₁, hq, harr⟩ := round j a w hJ b (.inLoop c :: k) cs hro hb hr
      cases e with
      | normal =>
        obtain ⟨e₂, a₂, w₂, hq₂, harr₂⟩ := ih a₁ w₁ hq
        exact ⟨e₂, a₂, w₂, hq₂, .of_steps (StepsIn.trans harr (.one (fenced_calm hb hr rfl) stepR_inLoop)) harr₂⟩
      | exit id => exact ⟨_, a₁, w₁, hq, .pass (x := .inLoop c) rfl (fun _ _ => .inl (by simp)) harr⟩
      | goto l => exact ⟨_, a₁, w₁, hq, .pass (x := .inLoop c) rfl (fun _ _ => .inl (by simp)) harr⟩
      | ret => exact ⟨_, a₁, w₁, hq, .pass (x := .inLoop c) rfl (fun _ _ => .inl (by simp)) harr⟩
      | panic ch => exact ⟨_, a₁, w₁, hq, .pass (x := .inLoop c) rfl (fun _ _ => .inl (by simp)) harr⟩
      | outgrown => exact ⟨_, a₁, w₁, hq, .pass (x := .inLoop c) rfl (fun _ _ => .inl (by simp)) harr⟩
  obtain ⟨e, a', w', hq, harr⟩ := key N a w h₀
  exact ⟨e, a', w', hq, .of_steps (.one (fenced_calm hb hr rfl) stepR_loop) harr⟩

theorem stepR_scope {b : Frame} {k : List Item} {cs : List Frame} {c : Code} : step P (lone (b.atR a (.code (.scope c) :: k)) cs w) = .next (lone (b.atR a (.code c :: .inScope c :: k)) cs w) :=
  step_lone_go (by simp [stepG, stepG.exec, Frame.atR])
theorem stepR_inScope {b : Frame} {k : List Item} {cs : List Frame} {c : Code} : step P (lone (b.atR a (.inScope c :: k)) cs w) = .next (lone (b.atR a k) cs w) :=
  step_lone_go (by simp [stepG, stepG.exec, Frame.atR])
theorem wpIn_scope {c : Code} (h : c.wpIn F n P (Exit.noGoto Q) a w) : (Code.scope c).wpIn F n P Q a w := by
  intro b k cs hro hb hr
  have h0 : (lone (b.atR a (.code (.scope c) :: k)) cs w).fenced P F := fenced_calm hb hr rfl
  obtain ⟨e, a₁, w₁, hq, harr⟩ := h b (.inScope c :: k) cs hro hb hr
  cases e with
  | normal => exact ⟨.normal, a₁, w₁, hq, .head h0 stepR_scope (StepsIn.trans harr (.one (fenced_calm hb hr rfl) stepR_inScope))⟩
  | exit id => exact ⟨_, a₁, w₁, hq, .of_steps (.one h0 stepR_scope) ⟨fun k' hk => harr.1 k' (by simp only [exitTo]; exact hk), fun hr' hk => harr.2 hr' (by simp only [exitTo]; exact hk)⟩⟩
  | goto l => exact hq.elim
  | ret => exact ⟨.ret, a₁, w₁, hq, .of_steps (.one h0 stepR_scope) harr⟩
  | panic ch => exact ⟨.panic ch, a₁, w₁, hq, .of_steps (.one h0 stepR_scope) harr⟩
  | outgrown => exact ⟨.outgrown, a₁, w₁, hq, .of_steps (.one h0 stepR_scope) harr⟩
end rules

/-! ### Which operations a guard lets run -/
noncomputable def forceV {α : Type} (v : AV) (k : AV → α) : α :=
  AV.rec (motive := fun _ => α) (fun b => k (.bool b)) (fun a n => k (.int a n)) (fun n d => k (.str n d)) (k .nilp) (fun i o => k (.ptr i o)) (fun i o => k (.gptr i o)) (k .nils) (fun a b c d => k (.slice a b c d)) (fun a b c d => k (.slx a b c d))
    (k .nilm) (fun i => k (.map i)) (k .nilf) (fun f p q _ _ => k (.func f p q)) (fun i => k (.yld i)) (k .nili) (fun t v _ => k (.iface t v)) (fun r _ => k (.agg r)) (fun r _ => k (.tup r)) (k .rnil) (fun v r _ _ => k (.rone v r)) (fun a n d r _ => k (.rpk a n d r)) v
theorem forceV_eq {α : Type} (v : AV) (k : AV → α) : forceV v k = k v := by cases v <;> rfl

noncomputable def wantA (ops : Array Oper) (T : Fm) (g : Option (Nat × Bool)) : Option Bool := match g with
  | none => some true
  | some (j, b) => match (ops[j]?).bind (·.dst) with
    | some d => match T.get d with
      | .bool c => some (cnd c b (notB b))
      | .tup _ => some false
      | _ => none
    | none => some false
theorem wantA_rel {E : Env} {T : Fm} {a : Act} {ops : Array Oper} {o : Oper} {b : Bool} (hT : FR E T a) (h : wantA ops T o.guard = some b) : Region.wanted o (yielded ops a.tmps) = b := by
  unfold wantA at h
  unfold Region.wanted
  split at h
  · rename_i hg; cases h; rw [hg]
  · rename_i j want hg
    rw [hg]
    simp only [yielded]
    split at h
    · rename_i d hd
      rw [hd]
      have ht := hT.get d
      have hgd : a.tmps.getD d undef = (a.tmps[d]?).getD undef := by rw [Array.getD_eq_getD_getElem?]
      rw [hgd] at ht
      split at h
      · rename_i c hc
        cases h
        rw [hc] at ht
        have hb := V_bool ht
        cases hv : a.tmps[d]? with
        | none => rw [hv] at hb; cases hb
        | some v =>
          rw [hv] at hb
          have hb : v = .bool c := hb
          subst hb
          simp only [Option.bind_some, hv]
          cases c <;> cases want <;> rfl
      · rename_i r hc
        cases h
        rw [hc] at ht
        obtain ⟨cs, hb, _⟩ := V_tup ht
        cases hv : a.tmps[d]? with
        | none => simp [hv]
        | some v =>
          rw [hv] at hb
          have hb : v = .tuple cs := hb
          subst hb
          simp [hv]
      · cases h
    · rename_i hd
      rw [hd]
      cases h
      simp

section ev
variable (P : Program) (gl : Nat → Option AV) (call rnd : Caller)
noncomputable def evOne (ops : Array Oper) (o : Oper) (T : Fm) (H : Hp) : Option (Fm × Hp) :=
  obind (wantA ops T o.guard) fun b => cnd b (obind (evOp P gl call rnd T H o.op) fun r => forceV r.1 fun v => omap (fun T' => (T', r.2)) (fmPut T v o.dst))
    (omap (fun T' => (T', H)) (fmPut T (.tup .rnil) o.dst))
noncomputable def evOps (ops : Array Oper) (l : List Oper) : Fm → Hp → Option (Fm × Hp) :=
  List.rec (motive := fun _ => Fm → Hp → Option (Fm × Hp)) (fun T H => some (T, H)) (fun o _ ih T H => obind (evOne P gl call rnd ops o T H) fun r => ih r.1 r.2) l
end ev

theorem evOps_rel {P : Program} {gl : Nat → Option AV} {base : Nat} {w0 : World} {call rnd : Caller} (hC : CallOk P base w0 call) (hR : RoundOk P base w0 rnd) (hG : GlOk gl base w0)
    {F : Fence} (hF : Wd F) {n : Nat} {ops : Array Oper} {Q : Exit → Act → World → Prop} : ∀ (l : List Oper) (k : Nat) {E : Env} {H : Hp} {w : World} {T : Fm} {a : Act} {r : Fm × Hp}, ops.toList.drop k = l → Inv E H w base w0 → FR E T a → evOps P gl call rnd ops l T H = some r →
    (∀ E' a' w', Stp E H.get H.next w E' r.2.get r.2.next w' → FR E' r.1 a' → Q .normal a' w') → wpOpsIn F n P ops Q (List.range' k l.length) a w
  | [], k, E, H, w, T, a, r, hl, hI, hT, h, hq => by
    cases h
    exact hq E a w (Stp.refl hI.hr) hT
  | o :: l, k, E, H, w, T, a, r, hl, hI, hT, h, hq => by
    have h' : (obind (evOne P gl call rnd ops o T H) fun r => evOps P gl call rnd ops l r.1 r.2) = some r := h
    obtain ⟨⟨T1, H1⟩, h1, h2⟩ := obind_some h'
    have hk : ops[k]? = some o := by
      rw [← Array.getElem?_toList]
      have := congrArg List.head? hl
      rw [List.head?_drop] at this
      exact this
    have hl2 : ops.toList.drop (k + 1) = l := by
      rw [← List.drop_drop, hl]; rfl
    rw [List.length_cons, List.range'_succ]
    simp only [wpOpsIn, hk]
    unfold evOne at h1
    obtain ⟨b, h3, h4⟩ := obind_some h1
    have hw := wantA_rel hT h3
    rw [cnd_eq] at h4
    cases b with
    | true =>
      rw [hw, if_pos rfl]
      rw [if_pos rfl] at h4
      obtain ⟨⟨v, H2⟩, h5, h6⟩ := obind_some h4
      rw [forceV_eq, omap_eq, Option.map_eq_some_iff] at h6
      obtain ⟨T2, h7, h8⟩ := h6
      cases h8
      refine evOp_rel (r := (v, _)) hC hR hG hF hI hT h5 fun E' c w' g1 g2 => ?_
      exact evOps_rel hC hR hG hF l (k + 1) hl2 (hI.step g1) (fmPut_rel (hT.mono g1.le) g2 h7) h2 fun E'' a' w'' q1 q2 => hq E'' a' w'' (g1.trans q1) q2
    | false =>
      rw [hw]
      rw [if_neg (by simp), omap_eq, Option.map_eq_some_iff] at h4
      obtain ⟨T2, h7, h8⟩ := h4
      cases h8
      refine ⟨fun f _ => hF.fn f, ?_⟩
      exact evOps_rel hC hR hG hF l (k + 1) hl2 hI (fmPut_rel (v := .tup .rnil) (c := undef) hT (show V E (.tup .rnil) (.tuple #[]) from ⟨_, rfl, rfl⟩) h7) h2 hq
end Go.Ev
