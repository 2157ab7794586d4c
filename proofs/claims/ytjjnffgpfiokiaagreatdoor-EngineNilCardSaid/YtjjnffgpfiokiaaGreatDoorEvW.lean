/- The whole. -/
import Derived.Test.YtjjnffgpfiokiaaGreatDoorEvV
namespace Go.Ev
open Go.RowKit Go.MapKept

abbrev Drawer := Caller → Caller → Array Oper → Fm → Hp → Option (Fm × Hp)
abbrev Ext := Nat → List AV → Hp → Option (AV × Hp)
section
variable (P : Program) (gl : Nat → Option AV) (drw : Drawer) (ext : Ext) (fuel : Nat)
noncomputable def ccOf (p : Caller × Caller) (c : Code) (rd : Option Nat) : Cs := evC P gl p.1 p.2 (drw p.1 p.2) fuel c rd
noncomputable def callOf (p : Caller × Caller) : Caller := fun f l H => obind (P.funcs[f]?) fun fn => Option.rec (motive := fun _ => Option (AV × Hp)) (ext f l H) (fun c => evFn P gl (ccOf P gl drw fuel p) fn c l H) fn.body
noncomputable def lvl (d : Nat) : Caller × Caller := Nat.rec (motive := fun _ => Caller × Caller) (fun _ _ _ => none, fun _ _ _ => none) (fun _ ih => (callOf P gl drw ext fuel ih, evR (ccOf P gl drw fuel ih))) d
end

def ExtOk (P : Program) (base : Nat) (w0 : World) (ext : Ext) : Prop := ∀ f fn l E H w (args : Array Value) r, P.funcs[f]? = some fn → fn.body = none → ext f l H = some r → F2 (V E) l args.toList → Inv E H w base w0 →
  ∃ E' c w', (callFunc f args).run P w = .ok (.value c) w' ∧ Stp E H.get H.next w E' r.2.get r.2.next w' ∧ V E' r.1 c
def DrwOk (P : Program) (base : Nat) (w0 : World) (drw : Drawer) : Prop := ∀ call rnd, CallOk P base w0 call → RoundOk P base w0 rnd → DrawOk P base w0 (drw call rnd)

theorem callFunc_enter {P : Program} {f : FuncId} {fn : Func} {c : Code} (hf : P.funcs[f]? = some fn) (hname : (fn.name == "runtime.NumGoroutine") = false) (hb : fn.body = some c) (args : Array Value) (w : World) :
    (callFunc f args).run P w = .ok (.enter f args) w := by
  have h1 : fn.name ≠ "runtime.NumGoroutine" := by simpa using hname
  simp [callFunc, hf, h1, hb]
theorem lvl_rel {P : Program} {gl : Nat → Option AV} {base : Nat} {w0 : World} {drw : Drawer} {ext : Ext} {fuel : Nat} (hG : GlOk gl base w0) (hD : DrwOk P base w0 drw) (hX : ExtOk P base w0 ext) (hN : ∀ (f : FuncId) (fn : Func), P.funcs[f]? = some fn → (fn.name == "runtime.NumGoroutine") = false) :
    ∀ d, CallOk P base w0 (lvl P gl drw ext fuel d).1 ∧ RoundOk P base w0 (lvl P gl drw ext fuel d).2
  | 0 => ⟨fun f l E H w args r h => (by cases h), fun id l E H w args r b z h => (by cases h)⟩
  | d + 1 => by
    obtain ⟨hC, hR⟩ := lvl_rel (ext := ext) (fuel := fuel) hG hD hX hN d
    have hcc : ∀ c rd, CodeOk P base w0 rd (ccOf P gl drw fuel (lvl P gl drw ext fuel d) c rd) c := fun c rd => evC_rel hC hR hG (hD _ _ hC hR) c rd
    refine ⟨?_, evR_rel hcc⟩
    intro f l E H w args r h hl hI
    have h' : (obind (P.funcs[f]?) fun fn => Option.rec (motive := fun _ => Option (AV × Hp)) (ext f l H) (fun c => evFn P gl (ccOf P gl drw fuel (lvl P gl drw ext fuel d)) fn c l H) fn.body) = some r := h
    obtain ⟨fn, h1, h2⟩ := obind_some h'
    cases hb : fn.body with
    | none =>
      rw [hb] at h2
      exact .inl ⟨⟨fn, h1, hb⟩, hX f fn l E H w args r h1 hb h2 hl hI⟩
    | some c =>
      rw [hb] at h2
      exact .inr ⟨f, args, callFunc_enter h1 (hN f fn h1) hb args w, evFn_rel hG hcc h1 hb h2 hl hI⟩

theorem ret_below {w w' : World} {E : Env} {H : Hp} {r : AV × Hp} {e : Ending} (hE : H.tr = .leaf) (h : RetOk E H w r e w') : Below w.heap.size w w' := by
  obtain ⟨E', c, _, s, _⟩ := h
  refine ⟨s.os, s.tape, s.output, s.size, fun k hk => s.kept k hk fun id o z h1 _ => ?_⟩
  unfold Hp.get at h1
  rw [hE] at h1
  cases h1

/-- A closed function that answers true. -/
noncomputable def isTrue (o : Option (AV × Hp)) : Bool := Option.rec (motive := fun _ => Bool) false (fun r => AV.rec (motive := fun _ => Bool) (fun b => b) (fun _ _ => false)
    (fun _ _ => false) false (fun _ _ => false) (fun _ _ => false) false (fun _ _ _ _ => false) (fun _ _ _ _ => false)
    false (fun _ => false) false (fun _ _ _ _ _ => false) (fun _ => false) false (fun _ _ _ => false) (fun _ _ => false) (fun _ _ => false) false (fun _ _ _ _ => false) (fun _ _ _ _ _ => false) r.1) o
theorem isTrue_some {o : Option (AV × Hp)} (h : isTrue o = true) : ∃ H, o = some (.bool true, H) := by
  cases o with
  | none => cases h
  | some r =>
    obtain ⟨v, H⟩ := r
    cases v with
    | bool b => have h : b = true := h; subst h; exact ⟨H, rfl⟩
    | _ => cases h

noncomputable def H00 : Hp := ⟨0, .leaf⟩
theorem ev_calls {P : Program} {gl : Nat → Option AV} {drw : Drawer} {ext : Ext} {fuel d : Nat} {f : FuncId} (hN : ∀ (f : FuncId) (fn : Func), P.funcs[f]? = some fn → (fn.name == "runtime.NumGoroutine") = false)
    (h : isTrue ((lvl P gl drw ext fuel d).1 f [] H00) = true) (w : World) (hG : GlOk gl w.heap.size w) (hD : DrwOk P w.heap.size w drw) (hX : ExtOk P w.heap.size w ext) (hb : ∃ fn c, P.funcs[f]? = some fn ∧ fn.body = some c) :
    Calls P f #[] w (fun e w' => e = .returned (.bool true) ∧ Below w.heap.size w w') := by
  obtain ⟨H, h1⟩ := isTrue_some h
  have hI : Inv (fun _ => none) H00 w w.heap.size w := ⟨⟨fun id o ho => (by cases ho), fun id id' o o' b z z' h1 => (by cases h1)⟩, fun id x h => (by cases h), fun id o b z h1 => (by cases h1), Nat.le_refl _, fun _ _ => rfl⟩
  obtain ⟨fn, c, k1, k2⟩ := hb
  rcases (lvl_rel (ext := ext) (fuel := fuel) hG hD hX hN d).1 f [] (fun _ => none) H00 w #[] _ h1 .nil hI with ⟨⟨fn', g1, g2⟩, _⟩ | ⟨f', args', g1, g2⟩
  · rw [k1] at g1; cases g1; rw [k2] at g2; cases g2
  · rw [callFunc_enter k1 (hN f fn k1) k2] at g1
    cases g1
    refine Calls.mono g2 fun e w' he => ⟨?_, ret_below rfl he⟩
    obtain ⟨E', c, rfl, _, hv⟩ := he
    rw [V_bool hv]
end Go.Ev
