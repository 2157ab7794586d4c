/- Code. -/
import Derived.Test.YtaogiffafckmlaaGreatDoorEvS
import Derived.Scope
namespace Go.Ev
open Go.RowKit Go.MapKept

section rules
variable {F : Fence} {n : Nat} {P : Program} {Q : Exit → Act → World → Prop} {a : Act} {w : World}
theorem wpIn_loop_fuel {c : Code} (J : Nat → Act → World → Prop) (N : Nat) (h₀ : J N a w) (hz : ∀ a w, ¬ J 0 a w)
    (round : ∀ j a w, J (j + 1) a w → c.wpIn F n P (Exit.then (fun a' w' => J j a' w') Q) a w) : (Code.loop c).wpIn F n P Q a w := by
  intro b k cs hro hb hr
  have key : ∀ j a w, J j a w →
      ∃ e a' w', Q e a' w' ∧ ArrivesIn (Machine.fenced P F) P (lone (b.atR a (.code c :: .inLoop c :: k)) cs w) b k cs e a' w' := by
    intro j
    induction j with
    | zero => intro a w h; exact absurd h (hz a w)
    | succ j ih =>
      intro a w hJ
      obtain ⟨e, a₁, w₁, hq, harr⟩ := round j a w hJ b (.inLoop c :: k) cs hro hb hr
      cases e with
      | normal =>
        obtain ⟨e₂, a₂, w₂, hq₂, harr₂⟩ := ih a₁ w₁ hq
        exact ⟨e₂, a₂, w₂, hq₂, .of_steps (StepsIn.trans harr (.one (fenced_calm hb hr rfl) stepR_inLoop)) harr₂⟩
      | exit id => exact ⟨_, a₁, w₁, hq, .pass (x := .inLoop c) rfl (fun _ _ => .inl (by simp)) harr⟩
      | goto l => exact ⟨_, a₁, w₁, hq, .pass (x := .inLoop c) rfl (fun _ _ => .inl (by simp)) harr⟩
      | ret => exact ⟨_, a₁, w₁, hq, .pass (x := .inLoop c) rfl (fun _ _ => .inl (by simp)) harr⟩
      | panic ch => exact ⟨_, a₁, w₁, hq, .pass (x := .inLoop c) rfl (fun _ _ => .inl (by simp)) harr⟩
      | outgrown => exact ⟨_, a₁, w₁, hq, .pass (x := .inLoop c) rfl (fun _ _ => .inl (by simp)) harr⟩
  obtain ⟨e, a', w', hq, harr⟩ := key N a w h₀
  exact ⟨e, a', w', hq, .of_steps (.one (fenced_calm hb hr rfl) stepR_loop) harr⟩

theorem stepR_scope {b : Frame} {k : List Item} {cs : List Frame} {c : Code} : step P (lone (b.atR a (.code (.scope c) :: k)) cs w) = .next (lone (b.atR a (.code c :: .inScope c :: k)) cs w) :=
  step_lone_go (by simp [stepG, stepG.exec, Frame.atR])
theorem stepR_inScope {b : Frame} {k : List Item} {cs : List Frame} {c : Code} : step P (lone (b.atR a (.inScope c :: k)) cs w) = .next (lone (b.atR a k) cs w) :=
  step_lone_go (by simp [stepG, stepG.exec, Frame.atR])
theorem wpIn_scope {c : Code} (h : c.wpIn F n P (Exit.noGoto Q) a w) : (Code.scope c).wpIn F n P Q a w := by
  intro b k cs hro hb hr
  have h0 : (lone (b.atR a (.code (.scope c) :: k)) cs w).fenced P F := fenced_calm hb hr rfl
  obtain ⟨e, a₁, w₁, hq, harr⟩ := h b (.inScope c :: k) cs hro hb hr
  cases e with
  | normal => exact ⟨.normal, a₁, w₁, hq, .head h0 stepR_scope (StepsIn.trans harr (.one (fenced_calm hb hr rfl) stepR_inScope))⟩
  | exit id => exact ⟨_, a₁, w₁, hq, .of_steps (.one h0 stepR_scope) ⟨fun k' hk => harr.1 k' (by simp only [exitTo]; exact hk), fun hr' hk => harr.2 hr' (by simp only [exitTo]; exact hk)⟩⟩
  | goto l => exact hq.elim
  | ret => exact ⟨.ret, a₁, w₁, hq, .of_steps (.one h0 stepR_scope) harr⟩
  | panic ch => exact ⟨.panic ch, a₁, w₁, hq, .of_steps (.one h0 stepR_scope) harr⟩
  | outgrown => exact ⟨.outgrown, a₁, w₁, hq, .of_steps (.one h0 stepR_scope) harr⟩
end rules

/-! ### Which operations a guard lets run -/
noncomputable def forceV {α : Type} (v : AV) (k : AV → α) : α :=
  AV.rec (motive := fun _ => α) (fun b => k (.bool b)) (fun a n => k (.int a n)) (fun n d => k (.str n d)) (k .nilp) (fun i o => k (.ptr i o)) (fun i o => k (.gptr i o)) (k .nils) (fun a b c d => k (.slice a b c d)) (fun a b c d => k (.slx a b c d))
    (k .nilm) (fun i => k (.map i)) (k .nilf) (fun f p q _ _ => k (.func f p q)) (fun i => k (.yld i)) (k .nili) (fun t v _ => k (.iface t v)) (fun r _ => k (.agg r)) (fun r _ => k (.tup r)) (k .rnil) (fun v r _ _ => k (.rone v r)) (fun a n d r _ => k (.rpk a n d r)) v
theorem forceV_eq {α : Type} (v : AV) (k : AV → α) : forceV v k = k v := by cases v <;> rfl

noncomputable def wantA (ops : Array Oper) (T : Fm) (g : Option (Nat × Bool)) : Option Bool := match g with
  | none => some true
  | some (j, b) => match (ops[j]?).bind (·.dst) with
    | some d => match T.get d with
      | .bool c => some (cnd c b (notB b))
      | .tup _ => some false
      | _ => none
    | none => some false
theorem wantA_rel {E : Env} {T : Fm} {a : Act} {ops : Array Oper} {o : Oper} {b : Bool} (hT : FR E T a) (h : wantA ops T o.guard = some b) : Region.wanted o (yielded ops a.tmps) = b := by
  unfold wantA at h
  unfold Region.wanted
  split at h
  · rename_i hg; cases h; rw [hg]
  · rename_i j want hg
    rw [hg]
    simp only [yielded]
    split at h
    · rename_i d hd
      rw [hd]
      have ht := hT.get d
      have hgd : a.tmps.getD d undef = (a.tmps[d]?).getD undef := by rw [Array.getD_eq_getD_getElem?]
      rw [hgd] at ht
      split at h
      · rename_i c hc
        cases h
        rw [hc] at ht
        have hb := V_bool ht
        cases hv : a.tmps[d]? with
        | none => rw [hv] at hb; cases hb
        | some v =>
          rw [hv] at hb
          have hb : v = .bool c := hb
          subst hb
          simp only [Option.bind_some, hv]
          cases c <;> cases want <;> rfl
      · rename_i r hc
        cases h
        rw [hc] at ht
        obtain ⟨cs, hb, _⟩ := V_tup ht
        cases hv : a.tmps[d]? with
        | none => simp [hv]
        | some v =>
          rw [hv] at hb
          have hb : v = .tuple cs := hb
          subst hb
          simp [hv]
      · cases h
    · rename_i hd
      rw [hd]
      cases h
      simp

section ev
variable (P : Program) (gl : Nat → Option AV) (call rnd : Caller)
noncomputable def evOne (ops : Array Oper) (o : Oper) (T : Fm) (H : Hp) : Option (Fm × Hp) :=
  obind (wantA ops T o.guard) fun b => cnd b (obind (evOp P gl call rnd T H o.op) fun r => forceV r.1 fun v => omap (fun T' => (T', r.2)) (fmPut T v o.dst))
    (omap (fun T' => (T', H)) (fmPut T (.tup .rnil) o.dst))
noncomputable def evOps (ops : Array Oper) (l : List Oper) : Fm → Hp → Option (Fm × Hp) :=
  List.rec (motive := fun _ => Fm → Hp → Option (Fm × Hp)) (fun T H => some (T, H)) (fun o _ ih T H => obind (evOne P gl call rnd ops o T H) fun r => ih r.1 r.2) l
end ev

theorem evOps_rel {P : Program} {gl : Nat → Option AV} {base : Nat} {w0 : World} {call rnd : Caller} (hC : CallOk P base w0 call) (hR : RoundOk P base w0 rnd) (hG : GlOk gl base w0)
    {F : Fence} (hF : Wd F) {n : Nat} {ops : Array Oper} {Q : Exit → Act → World → Prop} : ∀ (l : List Oper) (k : Nat) {E : Env} {H : Hp} {w : World} {T : Fm} {a : Act} {r : Fm × Hp}, ops.toList.drop k = l → Inv E H w base w0 → FR E T a → evOps P gl call rnd ops l T H = some r →
    (∀ E' a' w', Stp E H.get H.next w E' r.2.get r.2.next w' → FR E' r.1 a' → Q .normal a' w') → wpOpsIn F n P ops Q (List.range' k l.length) a w
  | [], k, E, H, w, T, a, r, hl, hI, hT, h, hq => by
    cases h
    exact hq E a w (Stp.refl hI.hr) hT
  | o :: l, k, E, H, w, T, a, r, hl, hI, hT, h, hq => by
    have h' : (obind (evOne P gl call rnd ops o T H) fun r => evOps P gl call rnd ops l r.1 r.2) = some r := h
    obtain ⟨⟨T1, H1⟩, h1, h2⟩ := obind_some h'
    have hk : ops[k]? = some o := by
      rw [← Array.getElem?_toList]
      have := congrArg List.head? hl
      rw [List.head?_drop] at this
      exact this
    have hl2 : ops.toList.drop (k + 1) = l := by
      rw [← List.drop_drop, hl]; rfl
    rw [List.length_cons, List.range'_succ]
    simp only [wpOpsIn, hk]
    unfold evOne at h1
    obtain ⟨b, h3, h4⟩ := obind_some h1
    have hw := wantA_rel hT h3
    rw [cnd_eq] at h4
    cases b with
    | true =>
      rw [hw, if_pos rfl]
      rw [if_pos rfl] at h4
      obtain ⟨⟨v, H2⟩, h5, h6⟩ := obind_some h4
      rw [forceV_eq, omap_eq, Option.map_eq_some_iff] at h6
      obtain ⟨T2, h7, h8⟩ := h6
      cases h8
      refine evOp_rel (r := (v, _)) hC hR hG hF hI hT h5 fun E' c w' g1 g2 => ?_
      exact evOps_rel hC hR hG hF l (k + 1) hl2 (hI.step g1) (fmPut_rel (hT.mono g1.le) g2 h7) h2 fun E'' a' w'' q1 q2 => hq E'' a' w'' (g1.trans q1) q2
    | false =>
      rw [hw]
      rw [if_neg (by simp), omap_eq, Option.map_eq_some_iff] at h4
      obtain ⟨T2, h7, h8⟩ := h4
      cases h8
      refine ⟨fun f _ => hF.fn f, ?_⟩
      exact evOps_rel hC hR hG hF l (k + 1) hl2 hI (fmPut_rel (v := .tup .rnil) (c := undef) hT (show V E (.tup .rnil) (.tuple #[]) from ⟨_, rfl, rfl⟩) h7) h2 hq
end Go.Ev
