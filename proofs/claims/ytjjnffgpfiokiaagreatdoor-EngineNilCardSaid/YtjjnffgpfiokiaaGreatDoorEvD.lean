/- Abstract memory, frames, and how they lie in the model's world; what cells' loads and stores do. -/
import Derived.Test.YtjjnffgpfiokiaaGreatDoorEvC
import Derived.Laws.Sem
import Derived.Laws.World
import Derived.Below
import Derived.Calls
namespace Go.Ev
open Go.RowKit

/-- A run of a range over a function: what its record holds. -/
structure Fm where
  n : Nat
  tr : Tr AV
  marks : List Nat

inductive AO where
  | cells (r : AV) (elem : TypeId) (ext : Bool)
  | map (es : List (AV × AV × Nat)) (clock : Nat)
  | iter (m : Option Nat) (since : Nat) (seen : List Nat) (stepped : Nat)
  | siter (n d pos : Nat)
  | loop (st : LoopState) (pend : Option Code) (fn : FuncId) (n : Nat) (tr : Tr AV) (params : Array Tmp) (assign body : Code) (dfs : Nat)
  | defd (op : Bool)

structure Hp where
  next : Nat
  tr : Tr AO
noncomputable def Hp.get (H : Hp) (id : Nat) : Option AO := H.tr.get id

noncomputable def Fm.get (T : Fm) (t : Nat) : AV := Option.rec (motive := fun _ => AV) (.tup .rnil) (fun v => v) (T.tr.get t)

inductive F2 {α β : Type} (r : α → β → Prop) : List α → List β → Prop where
  | nil : F2 r [] []
  | cons {a : α} {b : β} {l : List α} {m : List β} : r a b → F2 r l m → F2 r (a :: l) (b :: m)
theorem F2.imp {α β : Type} {r s : α → β → Prop} (h : ∀ a b, r a b → s a b) : ∀ {l : List α} {m : List β}, F2 r l m → F2 s l m
  | _, _, .nil => .nil
  | _, _, .cons a b => .cons (h _ _ a) (b.imp h)
theorem F2.length {α β : Type} {r : α → β → Prop} : ∀ {l : List α} {m : List β}, F2 r l m → l.length = m.length
  | _, _, .nil => rfl
  | _, _, .cons _ b => by simp [b.length]

def FrU (fr : Nat × Nat) (n : Nat) : Prop := fr.1 = fr.2 ∨ n ≤ fr.1

def TrRel (E : Env) (n : Nat) (tr : Tr AV) (tmps : Array Value) : Prop :=
  tmps.size = n ∧ ∀ t, V E (Option.rec (motive := fun _ => AV) (.tup .rnil) (fun v => v) (tr.get t)) (tmps.getD t undef)

def ORel (E : Env) (z : Nat) : AO → Obj → Prop
  | .cells r elem ext, o => ∃ c fr, o = .cells c elem fr ∧ c.size = z ∧ FrU fr c.size ∧ ∃ l x, c.toList = l ++ x ∧ R E r l ∧ (ext = false → x = [])
  | .map es clock, o => ∃ cs, o = .map cs clock ∧ F2 (fun (p : AV × AV × Nat) (e : MapEntry) => V E p.1 e.key ∧ V E p.2.1 e.val ∧ e.born = p.2.2) es cs.toList
  | .iter m since seen stepped, o =>
    (match m with
      | none => o = .mapIter none since seen.toArray stepped
      | some id => ∃ b z', E id = some (b, z') ∧ o = .mapIter (some b) since seen.toArray stepped)
  | .siter n d pos, o => d < 2 ^ (8 * n) ∧ ∃ s : ByteArray, s.data.toList = bytesOf n d ∧ o = .stringIter s pos
  | .loop st pend _ n tr params assign body dfs, o => ∃ fn tmps b z', TrRel E n tr tmps ∧ E dfs = some (b, z') ∧
      o = .loop { state := st, pending := pend, fn, tmps, params, assign, body, defers := b }
  | .defd op, o => o = .deferred (if op then some [] else none)

theorem TrRel.mono {E E' : Env} (h : E.le E') {n : Nat} {tr : Tr AV} {tmps : Array Value} (k : TrRel E n tr tmps) : TrRel E' n tr tmps := ⟨k.1, fun t => (k.2 t).mono h⟩

theorem ORel.mono {E E' : Env} (h : E.le E') {z : Nat} : ∀ {o : AO} {b : Obj}, ORel E z o b → ORel E' z o b
  | .cells _r _elem _ext, _, ⟨c, fr, h1, h2, h3, l, x, h4, h5, h6⟩ => ⟨c, fr, h1, h2, h3, l, x, h4, h5.mono h, h6⟩
  | .map _es _clock, _, ⟨cs, h1, h2⟩ => ⟨cs, h1, h2.imp fun _ _ ⟨a, b, c⟩ => ⟨a.mono h, b.mono h, c⟩⟩
  | .iter none _ _ _, _, hh => hh
  | .iter (some _id) _ _ _, _, ⟨b, z', h1, h2⟩ => ⟨b, z', h _ _ h1, h2⟩
  | .siter _ _ _, _, hh => hh
  | .loop .., _, ⟨fn, tmps, b, z', h1, h2, h3⟩ => ⟨fn, tmps, b, z', h1.mono h, h _ _ h2, h3⟩
  | .defd _, _, hh => hh

/-- The abstract blocks that live lie in the world, each in a block of its own. -/
structure HR (E : Env) (f : Nat → Option AO) (w : World) : Prop where
  obj : ∀ id o, f id = some o → ∃ b z x, E id = some (b, z) ∧ w.heap[b]? = some x ∧ ORel E z o x
  inj : ∀ id id' o o' b z z', f id = some o → f id' = some o' → E id = some (b, z) → E id' = some (b, z') → id = id'

/-- What a step may do. -/
structure Stp (E : Env) (f : Nat → Option AO) (n : Nat) (w : World) (E' : Env) (f' : Nat → Option AO) (n' : Nat) (w' : World) : Prop where
  le : E.le E'
  dom : ∀ id x, E' id = some x → E id = some x ∨ (E id = none ∧ n ≤ id ∧ id < n')
  next : n ≤ n'
  hr : HR E' f' w'
  os : w'.os = w.os
  tape : w'.tape = w.tape
  output : w'.output = w.output
  size : w.heap.size ≤ w'.heap.size
  kept : ∀ b, b < w.heap.size → (∀ id o z, f id = some o → E id = some (b, z) → False) → w'.heap[b]? = w.heap[b]?
  own : ∀ id o b z, f' id = some o → E' id = some (b, z) → w.heap.size ≤ b ∨ ∃ id0 o0 z0, f id0 = some o0 ∧ E id0 = some (b, z0)

theorem Stp.refl {E : Env} {f : Nat → Option AO} {n : Nat} {w : World} (h : HR E f w) : Stp E f n w E f n w :=
  ⟨Env.le_refl E, fun _ _ h => .inl h, Nat.le_refl _, h, rfl, rfl, rfl, Nat.le_refl _, fun _ _ _ => rfl, fun id o _b z h1 h2 => .inr ⟨id, o, z, h1, h2⟩⟩

theorem Stp.trans {E E' E'' : Env} {f f' f'' : Nat → Option AO} {n n' n'' : Nat} {w w' w'' : World}
    (h : Stp E f n w E' f' n' w') (k : Stp E' f' n' w' E'' f'' n'' w'') : Stp E f n w E'' f'' n'' w'' where
  le := Env.le_trans h.le k.le
  dom := fun id x e => by
    rcases k.dom id x e with h1 | ⟨h1, h2, h3⟩
    · rcases h.dom id x h1 with h4 | ⟨h4, h5, h6⟩
      · exact .inl h4
      · exact .inr ⟨h4, h5, Nat.lt_of_lt_of_le h6 k.next⟩
    · cases he : E id with
      | none => exact .inr ⟨rfl, Nat.le_trans h.next h2, h3⟩
      | some y => rw [h.le id y he] at h1; cases h1
  next := Nat.le_trans h.next k.next
  hr := k.hr
  os := k.os.trans h.os
  tape := k.tape.trans h.tape
  output := k.output.trans h.output
  size := Nat.le_trans h.size k.size
  kept := fun b hb hno => by
    rw [k.kept b (Nat.lt_of_lt_of_le hb h.size) ?_, h.kept b hb hno]
    intro id o z h1 h2
    rcases h.own id o b z h1 h2 with h3 | ⟨id0, o0, z0, h3, h4⟩
    · omega
    · exact hno id0 o0 z0 h3 h4
  own := fun id o b z h1 h2 => by
    rcases k.own id o b z h1 h2 with h3 | ⟨id0, o0, z0, h3, h4⟩
    · exact .inl (Nat.le_trans h.size h3)
    · exact h.own id0 o0 b z0 h3 h4

/-- A draw. -/
theorem HR.drew {E : Env} {f : Nat → Option AO} {w : World} (h : HR E f w) : HR E f w.drew := ⟨h.obj, h.inj⟩
theorem Stp.drew {E E' : Env} {f f' : Nat → Option AO} {n n' : Nat} {w w' : World} (h : Stp E f n w E' f' n' w') : Stp E f n w E' f' n' w'.drew :=
  ⟨h.le, h.dom, h.next, h.hr.drew, h.os, h.tape, h.output, h.size, h.kept, h.own⟩
theorem Stp.drew_first {E E' : Env} {f f' : Nat → Option AO} {n n' : Nat} {w w' : World} (h : Stp E f n w.drew E' f' n' w') : Stp E f n w E' f' n' w' :=
  ⟨h.le, h.dom, h.next, h.hr, h.os, h.tape, h.output, h.size, h.kept, h.own⟩

/-- A world with one block turned. -/
def putB (w : World) (b : Nat) (o : Obj) : World := { w with heap := w.heap.setIfInBounds b o }
theorem putB_get {w : World} {b : Nat} {o : Obj} (j : Nat) : (putB w b o).heap[j]? = if b = j then (if b < w.heap.size then some o else none) else w.heap[j]? := by
  simp [putB, Array.getElem?_setIfInBounds]
theorem putB_size {w : World} {b : Nat} {o : Obj} : (putB w b o).heap.size = w.heap.size := by simp [putB]

/-- The function f with one place turned. -/
def upd (f : Nat → Option AO) (id : Nat) (x : Option AO) : Nat → Option AO := fun j => if j = id then x else f j

/-- One block that lives is turned. -/
theorem HR.put {E : Env} {f : Nat → Option AO} {w : World} (h : HR E f w) {n id b z : Nat} {o o' : AO} {x : Obj} (hf : f id = some o) (he : E id = some (b, z)) (hx : ORel E z o' x) :
    Stp E f n w E (upd f id (some o')) n (putB w b x) := by
  obtain ⟨b0, z0, x0, he0, hb0, _⟩ := h.obj id o hf
  rw [he] at he0
  injection he0 with he0
  injection he0 with hbb hzz
  subst hbb; subst hzz
  have hlt : b < w.heap.size := (Array.getElem?_eq_some_iff.1 hb0).1
  have live : ∀ j oj, upd f id (some o') j = some oj → ∃ oo, f j = some oo := fun j oj hj => by
    unfold upd at hj
    split at hj
    · rename_i e; subst e; exact ⟨o, hf⟩
    · exact ⟨oj, hj⟩
  refine ⟨Env.le_refl E, fun _ _ h => .inl h, Nat.le_refl _, ⟨fun j oj hj => ?_, fun j j' oj oj' b1 z1 z2 h1 h2 h3 h4 => ?_⟩, rfl, rfl, rfl, by rw [putB_size]; exact Nat.le_refl _, fun b1 hb1 hno => ?_, fun j oj b1 z1 h1 h2 => ?_⟩
  · unfold upd at hj
    split at hj
    · rename_i e; subst e; cases hj
      exact ⟨b, z, x, he, by rw [putB_get, if_pos rfl, if_pos hlt], hx⟩
    · rename_i e
      obtain ⟨b1, z1, x1, h1, h2, h3⟩ := h.obj j oj hj
      refine ⟨b1, z1, x1, h1, ?_, h3⟩
      rw [putB_get, if_neg (fun eb => e (h.inj j id oj o b1 z1 z hj hf h1 (by rw [← eb]; exact he)))]
      exact h2
  · obtain ⟨o1, g1⟩ := live j oj h1
    obtain ⟨o2, g2⟩ := live j' oj' h2
    exact h.inj j j' o1 o2 b1 z1 z2 g1 g2 h3 h4
  · rw [putB_get, if_neg (fun eb => hno id o z hf (by rw [← eb]; exact he))]
  · obtain ⟨o1, g1⟩ := live j oj h1
    exact .inr ⟨j, o1, z1, g1, h2⟩

/-- A new block. -/
theorem HR.alloc {E : Env} {f : Nat → Option AO} {w : World} (h : HR E f w) {n id z : Nat} {o : AO} {x : Obj} (hid : E id = none) (hn : n ≤ id)
    (hx : ORel (fun j => if j = id then some (w.heap.size, z) else E j) z o x) :
    Stp E f n w (fun j => if j = id then some (w.heap.size, z) else E j) (upd f id (some o)) (id + 1) (w.alloc x) := by
  have hle : E.le (fun j => if j = id then some (w.heap.size, z) else E j) := fun j y hj => by
    have hji : j ≠ id := fun e => by subst e; rw [hid] at hj; cases hj
    simpa [hji] using hj
  have hold : ∀ j oj, j ≠ id → f j = some oj → ∀ b z', (if j = id then some (w.heap.size, z) else E j) = some (b, z') → b < w.heap.size := fun j oj hj hf b z' he => by
    rw [if_neg hj] at he
    obtain ⟨b1, z1, x1, h1, h2, _⟩ := h.obj j oj hf
    rw [he] at h1; injection h1 with h1; injection h1 with h1 _; subst h1
    exact (Array.getElem?_eq_some_iff.1 h2).1
  refine ⟨hle, fun j y hj => ?_, by omega, ⟨fun j oj hj => ?_, fun j j' oj oj' b1 z1 z2 h1 h2 h3 h4 => ?_⟩, rfl, rfl, rfl, by simp, fun b1 hb1 _ => ?_, fun j oj b1 z1 h1 h2 => ?_⟩
  · split at hj
    · rename_i e; subst e; exact .inr ⟨hid, hn, Nat.lt_succ_self _⟩
    · exact .inl hj
  · unfold upd at hj
    split at hj
    · rename_i e; subst e; cases hj
      exact ⟨w.heap.size, z, x, by simp, by show (w.heap.push x)[w.heap.size]? = some x; simp, hx⟩
    · rename_i e
      obtain ⟨b1, z1, x1, h1, h2, h3⟩ := h.obj j oj hj
      refine ⟨b1, z1, x1, by simp [e, h1], ?_, h3.mono hle⟩
      show (w.heap.push x)[b1]? = some x1
      rw [Array.getElem?_push, if_neg (by have := (Array.getElem?_eq_some_iff.1 h2).1; omega)]
      exact h2
  · unfold upd at h1 h2
    by_cases e1 : j = id
    · by_cases e2 : j' = id
      · rw [e1, e2]
      · rw [if_neg e2] at h2
        have := hold j' oj' e2 h2 b1 z2 h4
        rw [if_pos e1] at h3; injection h3 with h3; injection h3 with h3 _; omega
    · by_cases e2 : j' = id
      · rw [if_neg e1] at h1
        have := hold j oj e1 h1 b1 z1 h3
        rw [if_pos e2] at h4; injection h4 with h4; injection h4 with h4 _; omega
      · rw [if_neg e1] at h1; rw [if_neg e2] at h2
        rw [if_neg e1] at h3; rw [if_neg e2] at h4
        exact h.inj j j' oj oj' b1 z1 z2 h1 h2 h3 h4
  · exact Below.heap_alloc w x b1 hb1
  · unfold upd at h1
    by_cases e1 : j = id
    · rw [if_pos e1] at h2; injection h2 with h2; injection h2 with h2 _; exact .inl (by omega)
    · rw [if_neg e1] at h1; rw [if_neg e1] at h2
      exact .inr ⟨j, oj, z1, h1, h2⟩

/-- Blocks may be let go: what lives is less. -/
theorem HR.sub {E : Env} {f g : Nat → Option AO} {w : World} (h : HR E f w) (hg : ∀ id o, g id = some o → f id = some o) : HR E g w :=
  ⟨fun id o ho => h.obj id o (hg id o ho), fun id id' o o' b z z' h1 h2 => h.inj id id' o o' b z z' (hg _ _ h1) (hg _ _ h2)⟩

/-! ### Cells of a block -/
theorem cellAt {w : World} {b off : Nat} {c : Array Value} {e : TypeId} {fr : Nat × Nat} (h : w.heap[b]? = some (.cells c e fr)) : w.cell? ⟨b, off, none⟩ = c[off]? := by
  simp [World.cell?, h]
theorem frozenAt {w : World} {b off : Nat} {c : Array Value} {e : TypeId} {fr : Nat × Nat} (h : w.heap[b]? = some (.cells c e fr)) (hu : FrU fr c.size) (ho : off < c.size) : w.frozen? ⟨b, off, none⟩ = false := by
  simp only [World.frozen?, h]
  unfold FrU at hu
  simp; omega

theorem add_off (b off i : Nat) : (⟨b, off, none⟩ : Addr).add i = ⟨b, off + i, none⟩ := by
  unfold Addr.add; split
  · rename_i h; subst h; rfl
  · rfl

theorem run_loadCellsFrom (P : Program) {w : World} {b off : Nat} {c : Array Value} {e : TypeId} {fr : Nat × Nat} (h : w.heap[b]? = some (.cells c e fr)) :
    ∀ (n i : Nat) (acc : Array Value), off + i + n ≤ c.size → (loadCellsFrom ⟨b, off, none⟩ i n acc).run P w = .ok (acc ++ (c.toList.drop (off + i)).take n) w
  | 0, i, acc, _ => by simp [loadCellsFrom]
  | n + 1, i, acc, hn => by
    have hlt : off + i < c.size := by omega
    have hcell : w.cell? ((⟨b, off, none⟩ : Addr).add i) = some c[off + i] := by
      rw [add_off, cellAt h, Array.getElem?_eq_getElem hlt]
    simp only [loadCellsFrom, Sem.run_bind, run_load, hcell, Result.andThen_ok]
    rw [run_loadCellsFrom P h n (i + 1) (acc.push c[off + i]) (by omega)]
    congr 1
    apply Array.ext'
    have hd : c.toList.drop (off + i) = c[off + i] :: c.toList.drop (off + (i + 1)) := by
      rw [show off + (i + 1) = off + i + 1 by omega]
      rw [← Array.getElem_toList (by simpa using hlt)]
      exact List.drop_eq_getElem_cons (by simpa using hlt)
    simp [hd]

theorem run_loadCells (P : Program) {w : World} {b off n : Nat} {c : Array Value} {e : TypeId} {fr : Nat × Nat} (h : w.heap[b]? = some (.cells c e fr)) (hn : off + n ≤ c.size) :
    (loadCells ⟨b, off, none⟩ n).run P w = .ok ((c.toList.drop off).take n).toArray w := by
  unfold loadCells
  rw [run_loadCellsFrom P h n 0 #[] (by omega)]
  simp

/-- Cells written into an array. -/
def wrL (l : List Value) (off : Nat) (vs : List Value) : List Value := l.take off ++ vs ++ l.drop (off + vs.length)

theorem setCell_put {w : World} {b off : Nat} {c : Array Value} {e : TypeId} {fr : Nat × Nat} (h : w.heap[b]? = some (.cells c e fr)) (v : Value) :
    w.setCell ⟨b, off, none⟩ v = putB w b (.cells (c.setIfInBounds off v) e fr) := by
  obtain ⟨hlt, hb⟩ := Array.getElem?_eq_some_iff.1 h
  unfold World.setCell putB
  congr 1
  apply Array.ext
  · simp
  · intro i h1 h2
    simp only [Array.size_modify] at h1
    rw [Array.getElem_modify]
    rw [Array.getElem_setIfInBounds (by simpa using h1)]
    by_cases e1 : b = i
    · subst e1; simp [hb]
    · simp [e1]

theorem putB_putB {w : World} {b : Nat} (o o' : Obj) : putB (putB w b o) b o' = putB w b o' := by
  unfold putB
  simp

theorem wrL_step (l : List Value) (k k' : Nat) (v : Value) (vs : List Value) (hk : k < l.length) (e : k' = k + 1) :
    (l.set k v).take k' ++ vs ++ (l.set k v).drop (k' + vs.length) = l.take k ++ (v :: vs) ++ l.drop (k + (vs.length + 1)) := by
  subst e
  rw [List.take_set, List.drop_set_of_lt (by omega)]
  have h1 : (l.take (k + 1)).set k v = l.take k ++ [v] := by
    rw [List.take_succ_eq_append_getElem hk, List.set_append_right _ _ (by rw [List.length_take]; omega)]
    rw [List.length_take, Nat.min_eq_left (by omega), Nat.sub_self]; rfl
  rw [h1, show k + 1 + vs.length = k + (vs.length + 1) by omega]
  simp

theorem run_storeCells (P : Program) {b off : Nat} {e : TypeId} {fr : Nat × Nat} : ∀ (vs : List Value) (i : Nat) {w : World} {c : Array Value},
    w.heap[b]? = some (.cells c e fr) → FrU fr c.size → off + i + vs.length ≤ c.size → (∀ v ∈ vs, v.oneCell' = true) →
    (storeCells ⟨b, off, none⟩ vs i).run P w = .ok () (putB w b (.cells (wrL c.toList (off + i) vs).toArray e fr))
  | [], i, w, c, h, _, hn, _ => by
    simp only [storeCells, Sem.run_pure]
    congr 1
    obtain ⟨hlt, hb⟩ := Array.getElem?_eq_some_iff.1 h
    have : (wrL c.toList (off + i) []).toArray = c := by
      apply Array.ext'; simp [wrL]
    rw [this]
    unfold putB
    have : w.heap.setIfInBounds b (.cells c e fr) = w.heap := by
      apply Array.ext
      · simp
      · intro j h1 h2
        rw [Array.getElem_setIfInBounds (by simpa using h1)]
        by_cases ej : b = j
        · subst ej; simp [hb]
        · simp [ej]
    rw [this]
  | v :: vs, i, w, c, h, hu, hn, hv => by
    have hlt : off + i < c.size := by simp at hn; omega
    have hcell : w.cell? ((⟨b, off, none⟩ : Addr).add i) = some c[off + i] := by
      rw [add_off, cellAt h, Array.getElem?_eq_getElem hlt]
    have hfz : w.frozen? ((⟨b, off, none⟩ : Addr).add i) = false := by rw [add_off]; exact frozenAt h hu hlt
    have hb := (Array.getElem?_eq_some_iff.1 h).1
    simp only [storeCells, Sem.run_bind, run_store P w _ v .plain (hv v (by simp)), hcell, hfz, Bool.false_eq_true, if_false, Result.andThen_ok]
    rw [add_off, setCell_put h v]
    rw [run_storeCells P vs (i + 1) (w := putB w b _) (c := c.setIfInBounds (off + i) v) (by rw [putB_get, if_pos rfl, if_pos hb]) (by simpa using hu) (by simp at hn ⊢; omega) (fun u hu' => hv u (by simp [hu']))]
    rw [putB_putB]
    congr 3
    unfold wrL
    simp only [Array.toList_setIfInBounds, List.length_cons]
    exact congrArg List.toArray (wrL_step c.toList (off + i) (off + (i + 1)) v vs (by simpa using hlt) (by omega))

end Go.Ev
