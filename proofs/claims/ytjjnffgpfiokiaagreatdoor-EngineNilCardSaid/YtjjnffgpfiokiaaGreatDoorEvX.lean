/- Frames: a step on a part of memory is a step on all of it. -/
import Derived.Test.YtjjnffgpfiokiaaGreatDoorEvW
namespace Go.Ev
open Go.RowKit Go.MapKept

/-- What lives behind a step on the part f of F. -/
def frm (F f f' : Nat → Option AO) : Nat → Option AO := fun id => match f id, F id with
  | none, some o => some o
  | _, _ => f' id

theorem Stp.frame {E E' : Env} {f f' F : Nat → Option AO} {n n' : Nat} {w w' : World} (s : Stp E f n w E' f' n' w') (hF : HR E F w) (hsub : ∀ id o, f id = some o → F id = some o) :
    (∀ id o, F id = some o → f id = none → f' id = none) ∧ Stp E F n w E' (frm F f f') n' w' := by
  have new : ∀ id o, F id = some o → f id = none → f' id = none := by
    intro id o h1 h2
    cases h3 : f' id with
    | none => rfl
    | some o' =>
      exfalso
      obtain ⟨b, z, x, g1, g2, g3⟩ := hF.obj id o h1
      have he := s.le id _ g1
      rcases s.own id o' b z h3 he with h4 | ⟨id0, o0, z0, h4, h5⟩
      · have := (Array.getElem?_eq_some_iff.1 g2).1; omega
      · have := hF.inj id id0 o o0 b z z0 h1 (hsub _ _ h4) g1 h5
        subst this
        rw [h2] at h4; cases h4
  refine ⟨new, ?_⟩
  have split : ∀ id o, frm F f f' id = some o → (f id = none ∧ F id = some o) ∨ f' id = some o := by
    intro id o h
    unfold frm at h
    split at h
    · rename_i h1 h2; exact .inl ⟨h1, by rw [h2]; exact h⟩
    · exact .inr h
  have keep : ∀ id o b z, f id = none → F id = some o → E id = some (b, z) → w'.heap[b]? = w.heap[b]? := by
    intro id o b z h1 h2 h3
    obtain ⟨b', z', x, g1, g2, g3⟩ := hF.obj id o h2
    rw [h3] at g1; injection g1 with g1; injection g1 with g1 g1'; subst g1; subst g1'
    refine s.kept b (Array.getElem?_eq_some_iff.1 g2).1 fun id0 o0 z0 h4 h5 => ?_
    have := hF.inj id id0 o o0 b z z0 h2 (hsub _ _ h4) h3 h5
    subst this
    rw [h1] at h4; cases h4
  refine ⟨s.le, s.dom, s.next, ⟨fun id o h => ?_, fun id id' o o' b z z' h1 h2 h3 h4 => ?_⟩, s.os, s.tape, s.output, s.size, fun b hb hno => s.kept b hb fun id o z h1 h2 => hno id o z (hsub _ _ h1) h2, fun id o b z h1 h2 => ?_⟩
  · rcases split id o h with ⟨h1, h2⟩ | h1
    · obtain ⟨b, z, x, g1, g2, g3⟩ := hF.obj id o h2
      exact ⟨b, z, x, s.le _ _ g1, by rw [keep id o b z h1 h2 g1]; exact g2, g3.mono s.le⟩
    · exact s.hr.obj id o h1
  · have cross : ∀ id id' o o' b z z', f id = none → F id = some o → f' id' = some o' → E' id = some (b, z) → E' id' = some (b, z') → id = id' := by
      intro id id' o o' b z z' h1 h2 h3 h4 h5
      obtain ⟨b', z1, x, g1, g2, g3⟩ := hF.obj id o h2
      have := s.le _ _ g1
      rw [h4] at this; injection this with this; injection this with e1 e2; subst e1; subst e2
      rcases s.own id' o' b z' h3 h5 with h6 | ⟨id0, o0, z0, h6, h7⟩
      · have := (Array.getElem?_eq_some_iff.1 g2).1; omega
      · have := hF.inj id id0 o o0 b z z0 h2 (hsub _ _ h6) g1 h7
        subst this
        rw [h1] at h6; cases h6
    rcases split id o h1 with ⟨k1, k2⟩ | k1
    · rcases split id' o' h2 with ⟨k3, k4⟩ | k3
      · obtain ⟨b1, z1, x, g1, _⟩ := hF.obj id o k2
        obtain ⟨b2, z2, x', g2, _⟩ := hF.obj id' o' k4
        have e1 := s.le _ _ g1
        have e2 := s.le _ _ g2
        rw [h3] at e1; injection e1 with e1; injection e1 with e1 e1'; subst e1; subst e1'
        rw [h4] at e2; injection e2 with e2; injection e2 with e2 e2'; subst e2; subst e2'
        exact hF.inj id id' o o' b z z' k2 k4 g1 g2
      · exact cross id id' o o' b z z' k1 k2 k3 h3 h4
    · rcases split id' o' h2 with ⟨k3, k4⟩ | k3
      · exact (cross id' id o' o b z' z k3 k4 k1 h4 h3).symm
      · exact s.hr.inj id id' o o' b z z' k1 k3 h3 h4
  · rcases split id o h1 with ⟨k1, k2⟩ | k1
    · obtain ⟨b1, z1, x, g1, g2, _⟩ := hF.obj id o k2
      have e1 := s.le _ _ g1
      rw [h2] at e1; injection e1 with e1; injection e1 with e1 e1'; subst e1; subst e1'
      exact .inr ⟨id, o, z, k2, g1⟩
    · rcases s.own id o b z k1 h2 with h3 | ⟨id0, o0, z0, h3, h4⟩
      · exact .inl h3
      · exact .inr ⟨id0, o0, z0, hsub _ _ h3, h4⟩

/-- Steps one after the other, names aside. -/
theorem Stp.trans' {E E' E'' : Env} {f f' f'' : Nat → Option AO} {n N n1 n2 N' : Nat} {w w' w'' : World} (h : Stp E f n w E' f' N w') (k : Stp E' f' n1 w' E'' f'' n2 w'') (h1 : n ≤ n1) (h2 : n2 ≤ N') (h3 : N ≤ N') :
    Stp E f n w E'' f'' N' w'' where
  le := Env.le_trans h.le k.le
  dom := fun id x e => by
    rcases k.dom id x e with k1 | ⟨k1, k2, k3⟩
    · rcases h.dom id x k1 with h4 | ⟨h4, h5, h6⟩
      · exact .inl h4
      · exact .inr ⟨h4, h5, Nat.lt_of_lt_of_le h6 h3⟩
    · cases he : E id with
      | none => exact .inr ⟨rfl, Nat.le_trans h1 k2, Nat.lt_of_lt_of_le k3 h2⟩
      | some y => rw [h.le id y he] at k1; cases k1
  next := Nat.le_trans h.next h3
  hr := k.hr
  os := k.os.trans h.os
  tape := k.tape.trans h.tape
  output := k.output.trans h.output
  size := Nat.le_trans h.size k.size
  kept := fun b hb hno => by
    rw [k.kept b (Nat.lt_of_lt_of_le hb h.size) ?_, h.kept b hb hno]
    intro id o z h1 h2
    rcases h.own id o b z h1 h2 with h3 | ⟨id0, o0, z0, h3, h4⟩
    · omega
    · exact hno id0 o0 z0 h3 h4
  own := fun id o b z h1 h2 => by
    rcases k.own id o b z h1 h2 with h3 | ⟨id0, o0, z0, h3, h4⟩
    · exact .inl (Nat.le_trans h.size h3)
    · exact h.own id0 o0 b z0 h3 h4

/-- Less is kept in mind. -/
theorem Stp.less {E E' : Env} {f f' g : Nat → Option AO} {n n' : Nat} {w w' : World} (s : Stp E f n w E' f' n' w') (hg : ∀ id o, g id = some o → f' id = some o) : Stp E f n w E' g n' w' :=
  ⟨s.le, s.dom, s.next, s.hr.sub hg, s.os, s.tape, s.output, s.size, s.kept, fun id o b z h1 h2 => s.own id o b z (hg _ _ h1) h2⟩

/-- An operation that calls nothing, builtins too. -/
noncomputable def evN (P : Program) (gl : Nat → Option AV) (T : Fm) (H : Hp) (op : Op) : Option (AV × Hp) := match op with
  | .call c => (match c.callee with
    | .builtin b => obind (opL T c.args.toList) fun l => bltA P H b c.argTypes.toList l
    | _ => none)
  | op => evB P gl T H op
theorem evN_rel {P : Program} {gl : Nat → Option AV} {E : Env} {H : Hp} {w w0 : World} {base : Nat} {T : Fm} {a : Act} {o : Oper} {r : AV × Hp} (hI : Inv0 E H w base w0) (hG : GlOk gl base w0) (hT : FR E T a)
    (h : evN P gl T H o.op = some r) : NextOk P E H w (execOp a.eval o) r := by
  by_cases hcall : ∃ c, o.op = .call c
  · obtain ⟨c, hc⟩ := hcall
    rw [hc] at h
    have h : (match c.callee with
      | .builtin b => obind (opL T c.args.toList) fun l => bltA P H b c.argTypes.toList l
      | _ => none) = some r := h
    split at h
    · rename_i b hb
      obtain ⟨l, h1, h2⟩ := obind_some h
      obtain ⟨E', v, w', g1, g2, g3⟩ := builtin_call (P := P) hI.hr hI.nw hT hc hb h1 h2
      exact ⟨E', v, w', .inl g1, g2, g3⟩
    · cases h
  · refine evB_rel hI hG hT ?_
    unfold evN at h
    split at h
    · rename_i c hc; exact absurd ⟨c, hc⟩ hcall
    · exact h
theorem evN_wp {P : Program} {gl : Nat → Option AV} {E : Env} {H : Hp} {w w0 : World} {base : Nat} {T : Fm} {a a1 : Act} {o : Oper} {r : AV × Hp} {F : Fence} (hF : Wd F) {n : Nat} (hI : Inv0 E H w base w0) (hG : GlOk gl base w0) (hT : FR E T a) (hev : execOp a1.eval o = execOp a.eval o)
    (h : evN P gl T H o.op = some r) {next : Act → World → Prop} {Q : Exit → Act → World → Prop} (hn : ∀ E' c w', Stp E H.get H.next w E' r.2.get r.2.next w' → V E' r.1 c → next (a1.put o.dst c) w') : o.wpIn F n P a1 w next Q := by
  refine ⟨fun f _ => hF.fn f, ?_⟩
  have hsem : Oper.semAt F.round a1.eval o = execOp a1.eval o := by
    refine Oper.semAt_eq _ _ _ (fun c hc => ?_)
    rw [hc] at h
    cases h
  rw [hsem, hev]
  obtain ⟨E', c, w', g1, g2, g3⟩ := evN_rel hI hG hT h
  rcases g1 with g1 | ⟨g1, rfl⟩
  · rw [g1]; exact hn E' c w' g2 g3
  · rw [g1]; exact hn E' undef w' g2 g3
end Go.Ev
