/- One operation that calls nothing. -/
import Derived.Test.YtjjnffgpfiokiaaGreatDoorEvQ
import Derived.Lib.UnsafeStr
namespace Go.Ev
open Go.RowKit Go.MapKept

/-- What the walk keeps: memory as told; live blocks at or above a base; below it the world as it was. -/
structure Inv0 (E : Env) (H : Hp) (w : World) (base : Nat) (w0 : World) : Prop where
  hr : HR E H.get w
  nw : E H.next = none
  live : ∀ id o b z, H.get id = some o → E id = some (b, z) → base ≤ b
  size : base ≤ w.heap.size
  low : ∀ i, i < base → w.heap[i]? = w0.heap[i]?
structure Inv (E : Env) (H : Hp) (w : World) (base : Nat) (w0 : World) : Prop where
  hr : HR E H.get w
  bd : Bd E H.next
  live : ∀ id o b z, H.get id = some o → E id = some (b, z) → base ≤ b
  size : base ≤ w.heap.size
  low : ∀ i, i < base → w.heap[i]? = w0.heap[i]?
theorem Inv.zero {E : Env} {H : Hp} {w w0 : World} {base : Nat} (h : Inv E H w base w0) : Inv0 E H w base w0 := ⟨h.hr, h.bd.none, h.live, h.size, h.low⟩
theorem Inv.step {E E' : Env} {H H' : Hp} {w w' : World} {base : Nat} {w0 : World} (h : Inv E H w base w0) (s : Stp E H.get H.next w E' H'.get H'.next w') : Inv E' H' w' base w0 := by
  refine ⟨s.hr, s.bd h.bd, fun id o b z h1 h2 => ?_, Nat.le_trans h.size s.size, fun i hi => ?_⟩
  · rcases s.own id o b z h1 h2 with h3 | ⟨id0, o0, z0, h3, h4⟩
    · exact Nat.le_trans h.size h3
    · exact h.live id0 o0 b z0 h3 h4
  · rw [s.kept i (Nat.lt_of_lt_of_le hi h.size) (fun id o z h1 h2 => by have := h.live id o i z h1 h2; omega)]
    exact h.low i hi

/-- Tables that lie below the base. -/
def GlOk (gl : Nat → Option AV) (base : Nat) (w0 : World) : Prop :=
  ∀ g r, gl g = some r → g < base ∧ ∃ c e fr, w0.heap[g]? = some (.cells c e fr) ∧ R (fun _ => none) r c.toList

section
variable (P : Program) (gl : Nat → Option AV)

noncomputable def ldA (H : Hp) (t : TypeId) (x : AV) : Option AV := match x with
  | .ptr id off => ldV P H t id off
  | .gptr g off => obind (gl g) fun r => partA P t r off
  | _ => none
noncomputable def stA (H : Hp) (t : TypeId) (x v : AV) : Option Hp := match x with
  | .ptr id off => stV P H t id off v
  | _ => none
noncomputable def opL (T : Fm) (l : List Operand) : Option (List AV) := List.rec (motive := fun _ => Option (List AV)) (some []) (fun o _ ih => obind (opd T o) fun v => omap (fun t => v :: t) ih) l
noncomputable def opP (T : Fm) (l : List (Nat × Operand)) : Option (List (Nat × AV)) := List.rec (motive := fun _ => Option (List (Nat × AV))) (some []) (fun o _ ih => obind (opd T o.2) fun v => omap (fun t => (o.1, v) :: t) ih) l
noncomputable def opO (T : Fm) (o : Option Operand) : Option (Option AV) := Option.rec (motive := fun _ => Option (Option AV)) (some none) (fun o => omap some (opd T o)) o
noncomputable def rowOf (l : List AV) : AV := List.rec (motive := fun _ => AV) .rnil (fun v _ ih => .rone v ih) l
noncomputable def rowL (r : AV) : Option (List AV) := rowRec none (some []) (fun v _ ih => omap (fun t => v :: t) ih) (fun _ _ _ _ _ => none) r
end

theorem opL_rel {E : Env} {T : Fm} {a : Act} (h : FR E T a) : ∀ {l : List Operand} {r : List AV}, opL T l = some r → F2 (V E) r (l.map a.eval)
  | [], r, hh => by cases hh; exact .nil
  | o :: l, r, hh => by
    have h' : (obind (opd T o) fun v => omap (fun t => v :: t) (opL T l)) = some r := hh
    obtain ⟨v, h1, h2⟩ := obind_some h'
    rw [omap_eq, Option.map_eq_some_iff] at h2
    obtain ⟨t, h3, rfl⟩ := h2
    exact .cons (opd_rel h h1) (opL_rel h h3)
theorem opP_rel {E : Env} {T : Fm} {a : Act} (h : FR E T a) : ∀ {l : List (Nat × Operand)} {r : List (Nat × AV)}, opP T l = some r → F2 (fun p q => p.1 = q.1 ∧ V E p.2 q.2) r (l.map fun (i, x) => (i, a.eval x))
  | [], r, hh => by cases hh; exact .nil
  | o :: l, r, hh => by
    have h' : (obind (opd T o.2) fun v => omap (fun t => (o.1, v) :: t) (opP T l)) = some r := hh
    obtain ⟨v, h1, h2⟩ := obind_some h'
    rw [omap_eq, Option.map_eq_some_iff] at h2
    obtain ⟨t, h3, rfl⟩ := h2
    exact .cons ⟨rfl, opd_rel h h1⟩ (opP_rel h h3)
theorem opO_rel {E : Env} {T : Fm} {a : Act} (h : FR E T a) {o : Option Operand} {r : Option AV} (hh : opO T o = some r) : OV E r (o.map a.eval) := by
  cases o with
  | none => cases hh; exact trivial
  | some o =>
    have h' : omap some (opd T o) = some r := hh
    rw [omap_eq, Option.map_eq_some_iff] at h'
    obtain ⟨v, h1, rfl⟩ := h'
    exact opd_rel h h1
theorem rowOf_rel {E : Env} : ∀ {l : List AV} {cs : List Value}, F2 (V E) l cs → R E (rowOf l) cs
  | [], [], _ => rfl
  | _ :: _, _ :: _, .cons h t => ⟨_, _, rfl, h, rowOf_rel t⟩
theorem rowL_rel {E : Env} : ∀ {r : AV} {l : List AV} {cs : List Value}, R E r cs → rowL r = some l → F2 (V E) l cs := by
  intro r
  induction r with
  | rnil => intro l cs h hg; cases hg; rw [R_nil h]; exact .nil
  | rone v r _ hr =>
    rintro l cs ⟨c, l', h, h1, h2⟩ hg; injection h with h; subst h
    have hg' : omap (fun t => v :: t) (rowL r) = some l := hg
    rw [omap_eq, Option.map_eq_some_iff] at hg'
    obtain ⟨t, h3, rfl⟩ := hg'
    exact .cons h1 (hr h2 h3)
  | _ => intro l cs _ hg; cases hg

theorem ldA_rel {P : Program} {gl : Nat → Option AV} {E : Env} {H : Hp} {w w0 : World} {base : Nat} {t : TypeId} {x v : AV} {cx : Value} (hI : Inv0 E H w base w0) (hG : GlOk gl base w0) (hx : V E x cx) (h : ldA P gl H t x = some v) :
    ValOk P E w (Instr.loadAt t cx) v := by
  unfold ldA at h
  split at h
  · obtain ⟨b, z, he, rfl⟩ := V_ptr hx
    obtain ⟨c, h1, h2⟩ := ldV_rel (P := P) hI.hr he h
    exact ⟨c, by simp [Instr.loadAt, Instr.sureAddr, h1], h2⟩
  · rename_i g off
    obtain rfl := V_gptr hx
    obtain ⟨r, h1, h2⟩ := obind_some h
    obtain ⟨hg, c, e, fr, h3, h4⟩ := hG g r h1
    have h5 : w.heap[g]? = some (.cells c e fr) := by rw [hI.low g hg]; exact h3
    have hr : R E r c.toList := h4.mono (fun _ _ h => by cases h)
    rcases partA_list (_x := []) hr h2 with ⟨n, h6, h7, h8, h9⟩ | ⟨h6, cc, h7, h8⟩
    · refine ⟨_, ?_, h9⟩
      rw [Array.length_toList] at h8
      simp only [Instr.loadAt, Instr.sureAddr, loadVar, Sem.run_bind, Sem.run_pure, run_isAgg' h6, Result.andThen_ok, if_true, run_sizeOf' h7, run_loadCells P h5 (off := off) (n := n) (by omega)]
    · refine ⟨cc, ?_, h8⟩
      have h9 : c[off]? = some cc := by rw [← Array.getElem?_toList]; exact h7
      simp [Instr.loadAt, Instr.sureAddr, loadVar, run_isAgg' h6, cellAt h5, h9]
  · cases h

theorem stA_rel {P : Program} {E : Env} {H H' : Hp} {w : World} {t : TypeId} {x v : AV} {cx cv : Value} (hH : HR E H.get w) (hx : V E x cx) (hv : V E v cv) (h : stA P H t x v = some H') :
    ∃ w', (Instr.storeAt t cx cv).run P w = .ok () w' ∧ Stp E H.get H.next w E H'.get H'.next w' := by
  unfold stA at h
  split at h
  · obtain ⟨b, z, he, rfl⟩ := V_ptr hx
    obtain ⟨w', h1, h2⟩ := stV_rel (P := P) hH he hv h
    exact ⟨w', by simp [Instr.storeAt, Instr.sureAddr, h1], h2⟩
  · cases h

/-! ### Builtins -/
noncomputable def capA (P : Program) (t : TypeId) (x : AV) : Option AV :=
  obind (P.underlying t) fun u => match u, x with
    | .slice _, .nils => some (intA 0)
    | .slice _, .slice _ _ _ c => some (intA c)
    | .array n _, _ => some (intA n)
    | _, _ => none
theorem capA_rel {P : Program} {E : Env} {w : World} {ts : Array TypeId} {t ty : TypeId} {x v : AV} {cx : Value} (ht : ts[0]? = some t) (hx : V E x cx) (h : capA P t x = some v) :
    ValOk P E w (Builtin.cap_ ts ty #[cx]) v := by
  unfold capA at h
  obtain ⟨u, hu, h1⟩ := obind_some h
  split at h1
  · cases h1
    obtain rfl := V_nils hx
    exact ⟨goInt (0 : Nat), by simp [Builtin.cap_, ht, run_underlying hu], rfl⟩
  · cases h1
    obtain ⟨_, b, z, _, rfl⟩ := V_slice hx
    exact ⟨goInt (_ : Nat), by simp [Builtin.cap_, ht, run_underlying hu], rfl⟩
  · cases h1
    exact ⟨goInt (_ : Nat), by cases cx <;> simp [Builtin.cap_, ht, run_underlying hu], rfl⟩
  · cases h1

/-- A block is let go, whatever becomes of it. -/
theorem HR.lose {E : Env} {f : Nat → Option AO} {w : World} (h : HR E f w) {n id b z : Nat} {o : AO} (x : Obj) (hf : f id = some o) (he : E id = some (b, z)) : Stp E f n w E (upd f id none) n (putB w b x) := by
  have live : ∀ j oj, upd f id none j = some oj → j ≠ id ∧ f j = some oj := fun j oj hj => by
    unfold upd at hj
    split at hj
    · cases hj
    · rename_i e; exact ⟨e, hj⟩
  refine ⟨Env.le_refl E, fun _ _ h => .inl h, Nat.le_refl _, ⟨fun j oj hj => ?_, fun j j' oj oj' b1 z1 z2 h1 h2 h3 h4 => ?_⟩, rfl, rfl, rfl, by rw [putB_size]; exact Nat.le_refl _, fun b1 hb1 hno => ?_, fun j oj b1 z1 h1 h2 => ?_⟩
  · obtain ⟨e, hfj⟩ := live j oj hj
    obtain ⟨b1, z1, x1, h1, h2, h3⟩ := h.obj j oj hfj
    refine ⟨b1, z1, x1, h1, ?_, h3⟩
    rw [putB_get, if_neg (fun eb => e (h.inj j id oj o b1 z1 z hfj hf h1 (by rw [← eb]; exact he)))]
    exact h2
  · exact h.inj j j' oj oj' b1 z1 z2 (live j oj h1).2 (live j' oj' h2).2 h3 h4
  · rw [putB_get, if_neg (fun eb => hno id o z hf (by rw [← eb]; exact he))]
  · exact .inr ⟨j, oj, z1, (live j oj h1).2, h2⟩

noncomputable def usdA (x : AV) : Option AV := match x with
  | .nils => some .nilp
  | .slice id off _ c => cnd (Nat.beq c 0) none (some (.ptr id off))
  | .slx id off l _ => cnd (Nat.beq l 0) none (some (.ptr id off))
  | _ => none
theorem usdA_rel {P : Program} {E : Env} {w : World} {ts : Array TypeId} {ty : TypeId} {x v : AV} {cx : Value} (hx : V E x cx) (h : usdA x = some v) : ValOk P E w (Builtin.unsafeSliceData_ ts ty #[cx]) v := by
  unfold usdA at h
  split at h
  · cases h
    obtain rfl := V_nils hx
    exact ⟨.pointer none, rfl, rfl⟩
  · rename_i id off l c
    rw [cnd_eq] at h
    split at h
    · cases h
    · rename_i hc
      cases h
      obtain ⟨_, b, z, he, rfl⟩ := V_slice hx
      exact ⟨_, Lib.run_unsafeSliceData_row w ts ty _ _ _ (by simpa using hc), b, z, he, rfl⟩
  · rename_i id off l z
    rw [cnd_eq] at h
    split at h
    · cases h
    · rename_i hc
      have hc' : l ≠ 0 := by simpa using hc
      cases h
      obtain ⟨b, zz, o', cc, he, rfl, hlc, hor⟩ := V_slx hx
      obtain ⟨rfl, _⟩ : o' = off ∧ off + cc * z ≤ zz := by
        rcases hor with h | h
        · exact h
        · omega
      exact ⟨_, Lib.run_unsafeSliceData_row w ts ty _ _ _ (by omega), b, zz, he, rfl⟩
  · cases h

noncomputable def ptrE (P : Program) (pt e : TypeId) : Bool := match P.underlying pt with
  | some (.pointer e') => Nat.beq e' e
  | _ => false
/-- A string laid over bytes: the bytes; the block that they lie in is let go. -/
noncomputable def ustA (P : Program) (H : Hp) (pt : TypeId) (x n : AV) : Option (AV × Hp) := match x, n with
  | .nilp, .int .i64 k => cnd (eqZ k (Int.ofNat 0)) (some (.str 0 0, H)) none
  | .ptr id off, .int .i64 k => obind (asNat (.int .i64 k)) fun n => cnd (Nat.beq n 0) (some (.str 0 0, H)) (cnd (Nat.beq off 0) (cnd (smallN n) (obind (H.get id) fun o => match o with
      | .cells r e _ => cnd (ptrE P pt e) (cnd (Nat.beq (P.cellsOf e) 1) (obind (rowTake r n) fun q => obind (rowB q) fun p => cnd (Nat.beq p.1 n) (some (.str p.1 p.2, ⟨H.next, H.tr.put id none⟩)) none) none) none
      | _ => none) none) none)
  | _, _ => none
theorem freeze_put {w : World} {b : Nat} {c : Array Value} {e : TypeId} {fr : Nat × Nat} (h : w.heap[b]? = some (.cells c e fr)) (n : Nat) : ∃ x, w.freeze ⟨b, 0, none⟩ n = putB w b x := by
  unfold World.freeze
  by_cases hn : n = 0
  · rw [if_pos hn]
    exact ⟨_, (putB_same h).symm⟩
  · rw [if_neg hn]
    obtain ⟨lo, hi⟩ := fr
    refine ⟨.cells c e (if lo == hi then (0, 0 + n) else (min lo 0, max hi (0 + n))), ?_⟩
    unfold putB
    congr 1
    obtain ⟨hlt, hb⟩ := Array.getElem?_eq_some_iff.1 h
    apply Array.ext
    · simp
    · intro i h1 h2
      rw [Array.getElem_modify]
      rw [Array.getElem_setIfInBounds (by simpa using h1)]
      by_cases e1 : b = i
      · subst e1; simp [hb]
      · simp [e1]
theorem ustA_rel {P : Program} {E : Env} {H : Hp} {w : World} {pt it ty : TypeId} {x n : AV} {cx cn : Value} {r : AV × Hp} (hH : HR E H.get w) (hx : V E x cx) (hn : V E n cn) (h : ustA P H pt x n = some r) :
    ActOk P E H w (Builtin.unsafeString_ #[pt, it] ty #[cx, cn]) r := by
  have empty : V E (.str 0 0) (.string .empty) := ⟨by decide, _, rfl, rfl⟩
  unfold ustA at h
  split at h
  · rename_i k
    obtain ⟨h1, h2⟩ := cnd_some h
    cases h2
    rw [eqZ_eq] at h1
    have hk : k = 0 := eq_of_beq h1
    subst hk
    obtain rfl := V_nilp hx
    obtain rfl := V_int hn
    exact ⟨E, _, w, Lib.run_unsafeString_none w pt it ty _, Stp.refl hH, empty⟩
  · rename_i id off k
    obtain ⟨m, h1, h2⟩ := obind_some h
    obtain ⟨k1, hk⟩ := asNat_rel h1 hn
    subst hk
    obtain rfl : k1 = .i64 := by obtain e := V_int hn; injection e
    obtain ⟨b, z, he, rfl⟩ := V_ptr hx
    rw [cnd_eq] at h2
    split at h2
    · rename_i h0
      obtain rfl : m = 0 := by simpa using h0
      cases h2
      exact ⟨E, _, w, Lib.run_unsafeString_none w pt it ty _, Stp.refl hH, empty⟩
    · rename_i h0
      have h0' : m ≠ 0 := by simpa using h0
      obtain ⟨h3, h4⟩ := cnd_some h2
      obtain rfl : off = 0 := by simpa using h3
      obtain ⟨h5, h6⟩ := cnd_some h4
      have h5' : m < 1073741824 := small_lt h5
      obtain ⟨o, h7, h8⟩ := obind_some h6
      split at h8
      · rename_i row e ext
        obtain ⟨h9, h10⟩ := cnd_some h8
        obtain ⟨h11, h12⟩ := cnd_some h10
        obtain ⟨q, h13, h14⟩ := obind_some h12
        obtain ⟨⟨m', d⟩, h15, h16⟩ := obind_some h14
        obtain ⟨h17, h18⟩ := cnd_some h16
        obtain rfl : m' = m := by simpa using h17
        cases h18
        obtain ⟨b', z', x', g1, g2, c, fr, rfl, hz, hu, l, xx, hcl, hrl, hxx⟩ := hH.obj _ _ h7
        rw [he] at g1; injection g1 with g1; injection g1 with g1 g1'; subst g1; subst g1'
        obtain ⟨k2, k3⟩ := rowTake_rel hrl h13
        obtain ⟨k4, k5⟩ := rowB_rel k2 h15
        have hp : P.underlying pt = some (.pointer e) := by
          unfold ptrE at h9
          split at h9
          · rename_i e' hu'; rw [hu', Nat.eq_of_beq_eq_true h9]
          · cases h9
        have hcells : P.cellsOf e = 1 := by simpa using h11
        have hlen : c.size = l.length + xx.length := by rw [← Array.length_toList, hcl, List.length_append]
        have hbl : ((toL 8 m' d).map UInt8.ofNat).length = m' := by simp [toL_length]
        have hrun := Lib.run_unsafeString_row (P := P) w pt it ty e hp hcells b c.size (by simp [World.shape?, g2]) ((toL 8 m' d).map UInt8.ofNat) (by intro e0; rw [e0] at hbl; exact h0' hbl.symm) (by rw [hbl]; omega) (by rw [hbl]; omega) (fun j x hj => by
          rw [add_off, Nat.zero_add, cellAt g2, ← Array.getElem?_toList, hcl]
          have hjm : j < m' := by
            obtain ⟨hlt, _⟩ := List.getElem?_eq_some_iff.1 hj
            rwa [hbl] at hlt
          rw [List.getElem?_append_left (by omega)]
          have e1 : (l.take m')[j]? = some (pv true (digit 8 d j)) := by rw [k4, List.getElem?_map, toL_get 8 m' d j hjm]; rfl
          rw [List.getElem?_take_of_lt hjm] at e1
          rw [e1]
          rw [List.getElem?_map, toL_get 8 m' d j hjm] at hj
          cases hj
          have hdl := digit_lt 8 d j
          show some (Value.int .u8 _) = some (.int .u8 _)
          congr 2
          have h2 : (UInt8.ofNat (digit 8 d j)).toNat = digit 8 d j := by simp; omega
          exact_mod_cast h2.symm)
        rw [hbl] at hrun
        obtain ⟨xo, hfz⟩ := freeze_put g2 m'
        refine ⟨E, _, _, hrun, ?_, k5, _, rfl, by simp [bytesOf]⟩
        rw [hfz]
        show Stp E H.get H.next w E (Hp.get ⟨H.next, H.tr.put id none⟩) H.next _
        rw [upd_put]
        exact hH.lose xo h7 he
      · cases h8
  · cases h

noncomputable def bltA (P : Program) (H : Hp) (b : Builtin) (ts : List TypeId) (l : List AV) : Option (AV × Hp) :=
  match b, ts, l with
  | .append, [st, xt], [s, x] => apA P H st xt s x
  | .cap, t :: _, [x] => omap (fun v => (v, H)) (capA P t x)
  | .clear, t :: _, [x] => clearA P H t x
  | .copy, t :: _, [x, y] => copyA P H t x y
  | .delete, t :: _, [m, k] => delA P H t m k
  | .len, t :: _, [x] => omap (fun v => (v, H)) (lenA P H t x)
  | .max, _, x :: r => omap (fun v => (v, H)) (mxL true r x)
  | .min, _, x :: r => omap (fun v => (v, H)) (mxL false r x)
  | .unsafeSliceData, _, [x] => omap (fun v => (v, H)) (usdA x)
  | .unsafeString, [pt, _], [x, n] => ustA P H pt x n
  | _, _, _ => none

theorem F2_one {E : Env} {x : AV} {cs : List Value} (h : F2 (V E) [x] cs) : ∃ c, cs = [c] ∧ V E x c := by
  cases h with
  | cons h1 h2 => cases h2; exact ⟨_, rfl, h1⟩
theorem F2_two {E : Env} {x y : AV} {cs : List Value} (h : F2 (V E) [x, y] cs) : ∃ c d, cs = [c, d] ∧ V E x c ∧ V E y d := by
  cases h with
  | cons h1 h2 => cases h2 with
    | cons h3 h4 => cases h4; exact ⟨_, _, rfl, h1, h3⟩
theorem F2_cons {E : Env} {x : AV} {l : List AV} {cs : List Value} (h : F2 (V E) (x :: l) cs) : ∃ c d, cs = c :: d ∧ V E x c ∧ F2 (V E) l d := by
  cases h with
  | cons h1 h2 => exact ⟨_, _, rfl, h1, h2⟩
theorem ofL {α : Type} {a : Array α} {l : List α} (h : a.toList = l) : a = l.toArray := by subst h; simp

theorem bltA_rel {P : Program} {E : Env} {H : Hp} {w : World} {b : Builtin} {ts : Array TypeId} {ty : TypeId} {cn : Array Bool} {l : List AV} {args : Array Value} {r : AV × Hp} (hH : HR E H.get w) (hb : E H.next = none)
    (hl : F2 (V E) l args.toList) (h : bltA P H b ts.toList l = some r) :
    ∃ E' c w', (builtin b ts ty cn args).run P w = .ok (.value c) w' ∧ Stp E H.get H.next w E' r.2.get r.2.next w' ∧ V E' r.1 c := by
  have fin : ∀ m : Sem Value, ActOk P E H w m r → builtin b ts ty cn args = (do pure (.value (← m))) → ∃ E' c w', (builtin b ts ty cn args).run P w = .ok (.value c) w' ∧ Stp E H.get H.next w E' r.2.get r.2.next w' ∧ V E' r.1 c := by
    rintro m ⟨E', c, w', h1, h2, h3⟩ hm
    exact ⟨E', c, w', by rw [hm]; simp [h1], h2, h3⟩
  have lift : ∀ (m : Sem Value) (o : Option AV), omap (fun v => (v, H)) o = some r → (∀ v, o = some v → ValOk P E w m v) → ActOk P E H w m r := by
    intro m o ho hk
    rw [omap_eq, Option.map_eq_some_iff] at ho
    obtain ⟨v, h1, rfl⟩ := ho
    exact (hk v h1).act hH
  unfold bltA at h
  split at h
  · rename_i st xt s x hts
    have hts := ofL hts; subst hts
    obtain ⟨c1, c2, ha, h1, h2⟩ := F2_two hl
    have ha := ofL ha; subst ha
    exact fin _ (apA_rel (ty := ty) hH hb h1 h2 h) rfl
  · rename_i t _ x hts
    have ht : ts[0]? = some t := by rw [← Array.getElem?_toList, hts]; rfl
    obtain ⟨c1, ha, h1⟩ := F2_one hl
    have ha := ofL ha; subst ha
    exact fin _ (lift _ _ h fun v hv => capA_rel (ty := ty) ht h1 hv) rfl
  · rename_i t _ x hts
    have ht : ts[0]? = some t := by rw [← Array.getElem?_toList, hts]; rfl
    obtain ⟨c1, ha, h1⟩ := F2_one hl
    have ha := ofL ha; subst ha
    exact fin _ (clearA_rel (ty := ty) hH ht h1 h) rfl
  · rename_i t _ x y hts
    have ht : ts[0]? = some t := by rw [← Array.getElem?_toList, hts]; rfl
    obtain ⟨c1, c2, ha, h1, h2⟩ := F2_two hl
    have ha := ofL ha; subst ha
    exact fin _ (copyA_rel (ty := ty) hH ht h1 h2 h) rfl
  · rename_i t _ x y hts
    have ht : ts[0]? = some t := by rw [← Array.getElem?_toList, hts]; rfl
    obtain ⟨c1, c2, ha, h1, h2⟩ := F2_two hl
    have ha := ofL ha; subst ha
    exact fin _ (delA_rel (ty := ty) hH ht h1 h2 h) rfl
  · rename_i t _ x hts
    have ht : ts[0]? = some t := by rw [← Array.getElem?_toList, hts]; rfl
    obtain ⟨c1, ha, h1⟩ := F2_one hl
    have ha := ofL ha; subst ha
    exact fin _ (lift _ _ h fun v hv => lenA_rel (ty := ty) hH ht h1 hv) rfl
  · rename_i _ x q _
    obtain ⟨c1, cs, ha, h1, h2⟩ := F2_cons hl
    refine fin (Builtin.max_ ts ty args) (lift _ _ h fun v hv => ?_) rfl
    obtain ⟨c, g1, g2⟩ := mxL_rel (P := P) (w := w) h2 h1 hv
    exact ⟨c, by unfold Builtin.max_; rw [ha]; exact g1, g2⟩
  · rename_i _ x q _
    obtain ⟨c1, cs, ha, h1, h2⟩ := F2_cons hl
    refine fin (Builtin.min_ ts ty args) (lift _ _ h fun v hv => ?_) rfl
    obtain ⟨c, g1, g2⟩ := mxL_rel (P := P) (w := w) h2 h1 hv
    exact ⟨c, by unfold Builtin.min_; rw [ha]; exact g1, g2⟩
  · rename_i x _
    obtain ⟨c1, ha, h1⟩ := F2_one hl
    have ha := ofL ha; subst ha
    exact fin _ (lift _ _ h fun v hv => usdA_rel (ts := ts) (ty := ty) h1 hv) rfl
  · rename_i pt it x n hts
    have hts := ofL hts; subst hts
    obtain ⟨c1, c2, ha, h1, h2⟩ := F2_two hl
    have ha := ofL ha; subst ha
    exact fin _ (ustA_rel (it := it) (ty := ty) hH h1 h2 h) rfl
  · cases h

/-! ### Pointers seen as no type's, and back -/
noncomputable def upA (P : Program) (H : Hp) (src dst : TypeId) (x : AV) : Option AV :=
  obind (P.underlying src) fun us => obind (P.underlying dst) fun ud => match us, ud, x with
    | .pointer _, .unsafePointer, .nilp => some .nilp
    | .unsafePointer, .pointer _, .nilp => some .nilp
    | .pointer t, .unsafePointer, .ptr id off => obind (szOf P t) fun z => cnd (Nat.beq z 0) none (obind (H.get id) fun o => match o with
      | .cells r _ _ => cnd (Nat.blt off (rowSize r)) (some (.ptr id off)) none
      | _ => none)
    | .unsafePointer, .pointer u, .ptr id off => obind (szOf P u) fun z => cnd (Nat.beq z 0) none (obind (H.get id) fun o => match o with
      | .cells r e false => cnd (liesAt P P.depth e (rowSize r / P.cellsOf e) off u 1) (some (.ptr id off)) none
      | _ => none)
    | _, _, _ => none
theorem upA_rel {P : Program} {E : Env} {H : Hp} {w : World} {src dst : TypeId} {x v : AV} {cx : Value} (hH : HR E H.get w) (hx : V E x cx) (h : upA P H src dst x = some v) : ValOk P E w (convert src dst cx) v := by
  unfold upA at h
  obtain ⟨us, hs, h1⟩ := obind_some h
  obtain ⟨ud, hd, h2⟩ := obind_some h1
  split at h2
  · cases h2
    obtain rfl := V_nilp hx
    exact ⟨.pointer none, by simp [convert, run_underlying hs, run_underlying hd, Conv.unsafePointer], rfl⟩
  · cases h2
    obtain rfl := V_nilp hx
    exact ⟨.pointer none, by simp [convert, run_underlying hs, run_underlying hd, Conv.unsafePointer], rfl⟩
  · rename_i t id off
    obtain ⟨z, hz, h3⟩ := obind_some h2
    rw [cnd_eq] at h3
    split at h3
    · cases h3
    · rename_i hz0
      have hz0' : z ≠ 0 := by simpa using hz0
      obtain ⟨o, ho, h4⟩ := obind_some h3
      split at h4
      · rename_i row el ext
        obtain ⟨h5, h6⟩ := cnd_some h4
        cases h6
        have h5' := blt_iff.1 h5
        obtain ⟨b, zz, he, rfl⟩ := V_ptr hx
        obtain ⟨b', z', x', g1, g2, c, fr, rfl, hzz, hu, l, xx, hcl, hrl, hxx⟩ := hH.obj _ _ ho
        rw [he] at g1; injection g1 with g1; injection g1 with g1 g1'; subst g1; subst g1'
        have hlen : c.size = l.length + xx.length := by rw [← Array.length_toList, hcl, List.length_append]
        have hrs := rowSize_rel hrl
        have hsh : w.shape? b = some (el, c.size) := by simp [World.shape?, g2]
        have hoff : ¬ c.size ≤ off := by omega
        refine ⟨.pointer (some ⟨b, off, none⟩), ?_, b, zz, he, rfl⟩
        have hsz : ∀ w : World, (sizeOf t).run P w = .ok z w := run_sizeOf' hz
        simp [convert, run_underlying hs, run_underlying hd, Conv.unsafePointer, Conv.seenAt, viewAt, cellsIn, hsh, hsz, hz0', hoff]
      · cases h4
  · rename_i u id off
    obtain ⟨z, hz, h3⟩ := obind_some h2
    rw [cnd_eq] at h3
    split at h3
    · cases h3
    · rename_i hz0
      have hz0' : z ≠ 0 := by simpa using hz0
      obtain ⟨o, ho, h4⟩ := obind_some h3
      split at h4
      · rename_i row el
        obtain ⟨h5, h6⟩ := cnd_some h4
        cases h6
        obtain ⟨b, zz, he, rfl⟩ := V_ptr hx
        obtain ⟨b', z', x', g1, g2, c, fr, rfl, hzz, hu, l, xx, hcl, hrl, hxx⟩ := hH.obj _ _ ho
        rw [he] at g1; injection g1 with g1; injection g1 with g1 g1'; subst g1; subst g1'
        have hx0 := hxx rfl
        subst hx0
        have hlen : c.size = rowSize row := by rw [← rowSize_rel hrl, ← Array.length_toList, hcl, List.append_nil]
        have hsh : w.shape? b = some (el, c.size) := by simp [World.shape?, g2]
        rw [← hlen] at h5
        have hsz : ∀ w : World, (sizeOf u).run P w = .ok z w := run_sizeOf' hz
        refine ⟨.pointer (some ⟨b, off, none⟩), ?_, b, zz, he, rfl⟩
        simp [convert, run_underlying hs, run_underlying hd, Conv.unsafePointer, Conv.seenAt, viewAt, variablesAt, hsh, hsz, hz0', h5]
      · cases h4
  · cases h2

/-! ### Operations that call nothing -/
/-- An operation that answers or is skipped. -/
def NextOk (P : Program) (E : Env) (H : Hp) (w : World) (m : Sem Next) (r : AV × Hp) : Prop :=
  ∃ E' c w', (m.run P w = .ok (.value c) w' ∨ (m.run P w = .ok .skip w' ∧ c = undef)) ∧ Stp E H.get H.next w E' r.2.get r.2.next w' ∧ V E' r.1 c

noncomputable def isNilFS (a : Array FieldStep) : Bool := match a.toList with | [] => true | _ => false
/-- A method of an interface value's own type, seen ahead: its receiver is no nil pointer. -/
noncomputable def seeA (P : Program) (t : Nat) (v : AV) (name : String) : Option Unit :=
  obind (P.info? t) fun i => obind (i.methods.find? (·.name == name)) fun m => cnd (isNilFS m.path) (obind m.func fun p => obind (P.underlying t) fun u => match p.2, u, v with
    | true, _, _ => some ()
    | false, .pointer _, .ptr _ _ => some ()
    | false, .pointer _, .gptr _ _ => some ()
    | _, _, _ => none) none
noncomputable def nckB (x : AV) : Option AV := match x with
  | .nilp => none
  | .nili => none
  | .nilf => none
  | .func (.method _) _ _ => none
  | .yld _ => none
  | x => some x
noncomputable def nckA (P : Program) (x : AV) : Option AV := match x with
  | .func (.method name) (.rone (.iface t v) r) q => obind (seeA P t v name) fun _ => some (.func (.method name) (.rone (.iface t v) r) q)
  | x => nckB x
theorem seeA_rel {P : Program} {E : Env} {t : Nat} {v : AV} {x : Value} {name : String} {u : Unit} (hx : V E v x) (h : seeA P t v name = some u) (w : World) : (nilAhead (P.types.size + Made.depth) t x name).run P w = .ok (some false) w := by
  unfold seeA at h
  obtain ⟨i, h1, h2⟩ := obind_some h
  obtain ⟨m, h3, h4⟩ := obind_some h2
  obtain ⟨h5, h6⟩ := cnd_some h4
  obtain ⟨p, h7, h8⟩ := obind_some h6
  obtain ⟨u, hu, h9⟩ := obind_some h8
  have hp : m.path.toList = [] := by
    unfold isNilFS at h5
    split at h5
    · assumption
    · cases h5
  have hd : ∃ k, P.types.size + Made.depth = k + 1 := by
    have : 1 ≤ Made.depth := by decide
    exact ⟨P.types.size + (Made.depth - 1), by omega⟩
  obtain ⟨k, hk⟩ := hd
  have hprog : (program).run P w = .ok P w := rfl
  rw [hk]
  obtain ⟨p1, p2⟩ := p
  unfold nilAhead
  simp only [Sem.run_bind, typeInfo, hprog, Result.andThen_ok, h1, Sem.run_pure, h3, hp, followBlind, h7]
  split at h9 <;> first | (cases h9; done) | skip
  · rename_i e1; simp only at e1; subst e1; rfl
  · rename_i e1; simp only at e1; subst e1
    obtain ⟨b, z, _, rfl⟩ := V_ptr hx
    simp [run_underlying hu]
  · rename_i e1; simp only at e1; subst e1
    obtain rfl := V_gptr hx
    simp [run_underlying hu]

/-- A slice as a pointer to an array. -/
noncomputable def s2apA (P : Program) (t : TypeId) (x : AV) : Option AV := obind (P.underlying t) fun u => match u with
  | .array n _ => (match x with
    | .slice id off len _ => cnd (Nat.ble n len) (some (.ptr id off)) none
    | .slx id off len _ => cnd (Nat.ble n len) (cnd (Nat.blt 0 n) (some (.ptr id off)) none) none
    | _ => none)
  | _ => none
theorem s2apA_rel {P : Program} {E : Env} {t : TypeId} {x v : AV} {cx : Value} (hx : V E x cx) (h : s2apA P t x = some v) (w : World) : ∃ c, (Instr.arrayAt t cx).run P w = .ok c w ∧ V E v c := by
  unfold s2apA at h
  obtain ⟨u, hu, h1⟩ := obind_some h
  split at h1
  · rename_i n e
    split at h1
    · rename_i id off len cap
      obtain ⟨h2, h3⟩ := cnd_some h1
      cases h3
      obtain ⟨_, b, z, he, rfl⟩ := V_slice hx
      have hle := Nat.le_of_ble_eq_true h2
      exact ⟨.pointer (some ⟨b, off, none⟩), by simp [Instr.arrayAt, run_underlying hu, Nat.not_lt.2 hle], b, z, he, rfl⟩
    · rename_i id off len size
      obtain ⟨h2, h3⟩ := cnd_some h1
      obtain ⟨h4, h5⟩ := cnd_some h3
      cases h5
      obtain ⟨b, z, o', cc, he, rfl, h6, h7⟩ := V_slx hx
      have hle := Nat.le_of_ble_eq_true h2
      have hpos : 0 < n := by simpa [Nat.blt_eq] using h4
      rcases h7 with ⟨rfl, _⟩ | ⟨h7, _⟩
      · exact ⟨.pointer (some ⟨b, _, none⟩), by simp [Instr.arrayAt, run_underlying hu, Nat.not_lt.2 hle], b, z, he, rfl⟩
      · omega
    · cases h1
  · cases h1

section
variable (P : Program) (gl : Nat → Option AV)
noncomputable def evB (T : Fm) (H : Hp) (op : Op) : Option (AV × Hp) :=
  match op with
  | .move x => omap (fun v => (v, H)) (opd T x)
  | .assign x => omap (fun v => (v, H)) (opd T x)
  | .pick c a b => obind (opd T c) fun c => obind (asB c) fun c => cnd c (omap (fun v => (v, H)) (opd T a)) (omap (fun v => (v, H)) (opd T b))
  | .alloc t => allocA P H t
  | .box t x => omap (fun v => boxA H t v) (opd T x)
  | .build t ps => obind (opP T ps.toList) fun ps => omap (fun v => (v, H)) (buildA P t ps)
  | .buildSlice t n ps => obind (opP T ps.toList) fun ps => bsA P H t n ps
  | .load t x => obind (opd T x) fun x => omap (fun v => (v, H)) (ldA P gl H t x)
  | .store t x v => obind (opd T x) fun x => obind (opd T v) fun v => omap (fun H' => (.tup .rnil, H')) (stA P H t x v)
  | .nilCheck x => obind (opd T x) fun x => omap (fun v => (v, H)) (nckA P x)
  | .binOp op t x y _ => obind (opd T x) fun a => obind (opd T y) fun b => cnd (gdA P op t x y a b) (omap (fun v => (v, H)) (binA P op t a b)) none
  | .unOp op _ x => obind (opd T x) fun x => omap (fun v => (v, H)) (unA op x)
  | .convert s d x => obind (opd T x) fun x => Option.rec (motive := fun _ => Option (AV × Hp)) (Option.rec (motive := fun _ => Option (AV × Hp)) (Option.rec (motive := fun _ => Option (AV × Hp)) (Option.rec (motive := fun _ => Option (AV × Hp)) (s2sA P H s d x) (fun r => some r) (s2bA P H s d x)) (fun v => some (v, H)) (upA P H s d x)) (fun v => some (v, H)) (b2sA P H s d x)) (fun v => some (v, H)) (cvA P s d x)
  | .makeInterface t x => obind (opd T x) fun x => omap (fun v => (v, H)) (mkIfA P t x)
  | .makeFunc fn p q => cnd (okFn fn) (obind (opL T p.toList) fun p => obind (opL T q.toList) fun q => some (.func fn (rowOf p) (rowOf q), H)) none
  | .makeMap t r => obind (opO T r) fun r => mkMapA P H t r
  | .makeSlice t l c => obind (opd T l) fun l => obind (opd T c) fun c => mkSliceA P H t l c
  | .slice t x lo hi mx => obind (opd T x) fun x => obind (opO T lo) fun lo => obind (opO T hi) fun hi => obind (opO T mx) fun mx => omap (fun v => (v, H)) (sliceA P t x lo hi mx)
  | .fieldAddr s x f => obind (opd T x) fun x => omap (fun v => (v, H)) (fieldA P s x f)
  | .field t x f => obind (opd T x) fun x => omap (fun v => (v, H)) (fldV P t x f)
  | .indexAddr t x i => obind (opd T x) fun x => obind (opd T i) fun i => omap (fun v => (v, H)) (idxA P t x i)
  | .index t x i => obind (opd T x) fun x => obind (opd T i) fun i => omap (fun v => (v, H)) (idxV P t x i)
  | .lookup t x k ok => obind (opd T x) fun x => obind (opd T k) fun k => omap (fun v => (v, H)) (lookA P H t x k ok)
  | .mapUpdate t m k v => obind (opd T m) fun m => obind (opd T k) fun k => obind (opd T v) fun v => updA P H t m k v
  | .insert t m k v => obind (opd T m) fun m => obind (opd T k) fun k => obind (opd T v) fun v => updA P H t m k v
  | .mapEntry t m k => obind (opd T m) fun m => obind (opd T k) fun k => meA P H t m k
  | .entryStore _ m s v => obind (opd T m) fun m => obind (opd T s) fun s => obind (opd T v) fun v => omap (fun H' => (.tup .rnil, H')) (esA H m s v)
  | .range t x => obind (opd T x) fun x => rngA P H t x
  | .next it s => obind (opd T it) fun it => nxtA H it s
  | .extract t i => obind (opd T t) fun t => omap (fun v => (v, H)) (exA t i)
  | .sliceToArrayPointer t x => obind (opd T x) fun x => omap (fun v => (v, H)) (s2apA P t x)
  | _ => none
end

theorem F2_parts {E : Env} {l : List (Nat × AV)} {ps : Array (Nat × Operand)} {f : Nat × Operand → Nat × Value} (h : F2 (fun p q => p.1 = q.1 ∧ V E p.2 q.2) l (ps.toList.map f)) : F2 (fun p q => p.1 = q.1 ∧ V E p.2 q.2) l (ps.map f).toList := by
  rw [Array.toList_map]; exact h

set_option maxHeartbeats 1000000 in
theorem evB_rel {P : Program} {gl : Nat → Option AV} {E : Env} {H : Hp} {w w0 : World} {base : Nat} {T : Fm} {a : Act} {o : Oper} {r : AV × Hp} (hI : Inv0 E H w base w0) (hG : GlOk gl base w0) (hT : FR E T a)
    (h : evB P gl T H o.op = some r) : NextOk P E H w (execOp a.eval o) r := by
  have hH := hI.hr
  have hb := hI.nw
  have fin : ∀ m : Sem Value, ActOk P E H w m r → execOp a.eval o = (do pure (.value (← m))) → NextOk P E H w (execOp a.eval o) r := by
    rintro m ⟨E', c, w', h1, h2, h3⟩ hm
    exact ⟨E', c, w', .inl (by rw [hm]; simp [h1]), h2, h3⟩
  have lift : ∀ (m : Sem Value) (o : Option AV), omap (fun v => (v, H)) o = some r → (∀ v, o = some v → ValOk P E w m v) → ActOk P E H w m r := by
    intro m o ho hk
    rw [omap_eq, Option.map_eq_some_iff] at ho
    obtain ⟨v, h1, rfl⟩ := ho
    exact (hk v h1).act hH
  have unit : ∀ (m : Sem Unit) (w' : World) (H' : Hp), m.run P w = .ok () w' → Stp E H.get H.next w E H'.get H'.next w' → r = (.tup .rnil, H') → execOp a.eval o = (do m; pure .skip) → NextOk P E H w (execOp a.eval o) r := by
    rintro m w' H' h1 h2 rfl hm
    exact ⟨E, undef, w', .inr ⟨by rw [hm]; simp [h1], rfl⟩, h2, ⟨_, rfl, rfl⟩⟩
  obtain ⟨dst, op, type, pos, after, guard⟩ := o
  unfold evB at h
  dsimp only at h
  split at h
  · rename_i x
    rw [omap_eq, Option.map_eq_some_iff] at h
    obtain ⟨v, h1, rfl⟩ := h
    exact ⟨E, a.eval x, w, .inl rfl, Stp.refl hH, opd_rel hT h1⟩
  · rename_i x
    rw [omap_eq, Option.map_eq_some_iff] at h
    obtain ⟨v, h1, rfl⟩ := h
    exact ⟨E, a.eval x, w, .inl rfl, Stp.refl hH, opd_rel hT h1⟩
  · rename_i c x y
    obtain ⟨vc, h1, h2⟩ := obind_some h
    obtain ⟨b, h3, h4⟩ := obind_some h2
    have hcb := asB_rel (opd_rel hT h1) h3
    rw [cnd_eq] at h4
    refine fin (do pure (if ← asBool (a.eval c) then a.eval x else a.eval y)) ?_ (by simp [execOp])
    rw [hcb]
    cases b with
    | true => exact lift _ _ h4 fun v hv => ⟨a.eval x, by simp [asBool], opd_rel hT hv⟩
    | false => exact lift _ _ h4 fun v hv => ⟨a.eval y, by simp [asBool], opd_rel hT hv⟩
  · exact fin _ (allocA_rel hH hb h) rfl
  · rename_i t x
    rw [omap_eq, Option.map_eq_some_iff] at h
    obtain ⟨v, h1, rfl⟩ := h
    obtain ⟨E', c', w', g1, g2, g3⟩ := boxA_rel (P := P) (t := t) hH hb (opd_rel hT h1)
    exact fin (Instr.box t (a.eval x)) ⟨E', _, w', by simp [Instr.box, g1], g2, g3⟩ rfl
  · rename_i t ps
    obtain ⟨l, h1, h2⟩ := obind_some h
    exact fin _ (lift _ _ h2 fun v hv => buildA_rel (F2_parts (opP_rel hT h1)) hv w) rfl
  · rename_i t n ps
    obtain ⟨l, h1, h2⟩ := obind_some h
    exact fin _ (bsA_rel hH hb (F2_parts (opP_rel hT h1)) h2) rfl
  · rename_i t x
    obtain ⟨v, h1, h2⟩ := obind_some h
    exact fin _ (lift _ _ h2 fun v hv => ldA_rel hI hG (opd_rel hT h1) hv) rfl
  · rename_i t x y
    obtain ⟨vx, h1, h2⟩ := obind_some h
    obtain ⟨vy, h3, h4⟩ := obind_some h2
    rw [omap_eq, Option.map_eq_some_iff] at h4
    obtain ⟨H', h5, rfl⟩ := h4
    obtain ⟨w', g1, g2⟩ := stA_rel (P := P) hH (opd_rel hT h1) (opd_rel hT h3) h5
    exact unit _ w' H' g1 g2 rfl rfl
  · rename_i x
    obtain ⟨v, h1, h2⟩ := obind_some h
    rw [omap_eq, Option.map_eq_some_iff] at h2
    obtain ⟨v', h3, rfl⟩ := h2
    have hv := opd_rel hT h1
    have keep : ∀ u, v = u → v' = u → ((execOp a.eval ⟨dst, .nilCheck x, type, pos, after, guard⟩).run P w = .ok (.value (a.eval x)) w) → NextOk P E H w (execOp a.eval ⟨dst, .nilCheck x, type, pos, after, guard⟩) (v', H) := by
      rintro u rfl rfl hr
      exact ⟨E, _, w, .inl hr, Stp.refl hH, hv⟩
    unfold nckA at h3
    split at h3
    · rename_i name t v0 r0 q0
      obtain ⟨u0, h4, h5⟩ := obind_some h3
      cases h5
      refine keep _ rfl rfl ?_
      obtain ⟨_, ps, qs, hf, hp0, _⟩ := V_func hv
      obtain ⟨c0, cs0, hcs, hi, _⟩ := hp0
      have hcs := Sum.inr.inj hcs
      obtain ⟨x0, rfl, hx0⟩ := V_iface hi
      have hz : ps[0]? = some (.iface t x0) := by rw [← Array.getElem?_toList, hcs]; rfl
      have hs := seeA_rel (P := P) hx0 h4 w
      have hprog : (program).run P w = .ok P w := rfl
      simp [execOp, hf, hz, Sem.run_bind, hprog, hs]
    unfold nckB at h3
    split at h3 <;> try (cases h3; done)
    rename_i h4 h5 h6 h7 h8
    cases h3
    refine keep _ rfl rfl ?_
    generalize hc : a.eval x = c at hv
    cases v with
    | nilp => exact absurd rfl h4
    | nili => exact absurd rfl h5
    | nilf => exact absurd rfl h6
    | bool b => obtain rfl := V_bool hv; simp [execOp, hc]
    | int k n => obtain rfl := V_int hv; simp [execOp, hc]
    | str n d => obtain ⟨_, s, rfl, _⟩ := V_str hv; simp [execOp, hc]
    | ptr i o => obtain ⟨b, z, _, rfl⟩ := V_ptr hv; simp [execOp, hc]
    | gptr i o => obtain rfl := V_gptr hv; simp [execOp, hc]
    | nils => obtain rfl := V_nils hv; simp [execOp, hc]
    | slice i o l k => obtain ⟨_, b, z, _, rfl⟩ := V_slice hv; simp [execOp, hc]
    | slx i o l k => obtain ⟨b, z, o', cc, _, rfl, _⟩ := V_slx hv; simp [execOp, hc]
    | nilm => obtain rfl := V_nilm hv; simp [execOp, hc]
    | map i => obtain ⟨b, z, _, rfl⟩ := V_map hv; simp [execOp, hc]
    | func f p q =>
      obtain ⟨hy, ps, qs, rfl, _, _⟩ := V_func hv
      cases f with
      | method n => exact absurd rfl (h7 _ _ _)
      | yield l => exact absurd rfl (hy l)
      | func f => simp [execOp, hc]
      | methodOf t n => simp [execOp, hc]
      | via t p f b => simp [execOp, hc]
    | yld i => exact absurd rfl (h8 _)
    | iface t u => obtain ⟨x, rfl, _⟩ := V_iface hv; simp [execOp, hc]
    | agg r => obtain ⟨cs, rfl, _⟩ := V_agg hv; simp [execOp, hc]
    | tup r => obtain ⟨cs, rfl, _⟩ := V_tup hv; simp [execOp, hc]
    | rnil => cases hv
    | rone u r => obtain ⟨_, _, hv, _⟩ := hv; cases hv
    | rpk k n d r => obtain ⟨_, _, hv, _⟩ := hv; cases hv
  · rename_i op t x y _
    obtain ⟨vx, h1, h2⟩ := obind_some h
    obtain ⟨vy, h3, h4⟩ := obind_some h2
    obtain ⟨h5, h6⟩ := cnd_some h4
    refine fin (do eqGuard op t x y (a.eval x) (a.eval y); binOp op t (a.eval x) (a.eval y)) (lift _ _ h6 fun v hv => ?_) rfl
    obtain ⟨c, g1, g2⟩ := binA_rel (P := P) (opd_rel hT h1) (opd_rel hT h3) hv w
    exact ⟨c, by simp only [Sem.run_bind, gdA_rel (opd_rel hT h1) (opd_rel hT h3) h5 w, Result.andThen_ok]; exact g1, g2⟩
  · rename_i op t x
    obtain ⟨vx, h1, h2⟩ := obind_some h
    exact fin _ (lift _ _ h2 fun v hv => unA_rel (opd_rel hT h1) hv w) rfl
  · rename_i s d x
    obtain ⟨vx, h1, h2⟩ := obind_some h
    have hv := opd_rel hT h1
    refine fin (convert s d (a.eval x)) ?_ rfl
    cases hc : cvA P s d vx with
    | some v =>
      rw [hc] at h2
      have h2' : some (v, H) = some r := h2
      cases h2'
      exact (cvA_rel hv hc).act hH
    | none =>
      rw [hc] at h2
      cases hc2 : b2sA P H s d vx with
      | some v =>
        rw [hc2] at h2
        have h2' : some (v, H) = some r := h2
        cases h2'
        exact (b2sA_rel hH hv hc2).act hH
      | none =>
        rw [hc2] at h2
        cases hc3 : upA P H s d vx with
        | some v =>
          rw [hc3] at h2
          have h2' : some (v, H) = some r := h2
          cases h2'
          exact (upA_rel hH hv hc3).act hH
        | none =>
          rw [hc3] at h2
          cases hc4 : s2bA P H s d vx with
          | some q =>
            rw [hc4] at h2
            have h2' : some q = some r := h2
            cases h2'
            exact s2bA_rel hH hb hv hc4
          | none =>
            rw [hc4] at h2
            exact s2sA_rel hH hv h2
  · rename_i t x
    obtain ⟨vx, h1, h2⟩ := obind_some h
    exact fin _ (lift _ _ h2 fun v hv => mkIfA_rel (opd_rel hT h1) hv) rfl
  · rename_i fn p q
    obtain ⟨h1, h2⟩ := cnd_some h
    obtain ⟨lp, h3, h4⟩ := obind_some h2
    obtain ⟨lq, h5, h6⟩ := obind_some h4
    cases h6
    refine fin (Instr.makeFunc fn (p.map a.eval) (q.map a.eval)) ⟨E, .func fn (p.map a.eval) (q.map a.eval), w, rfl, Stp.refl hH, ?_⟩ rfl
    refine ⟨(fun l e => by subst e; cases h1), _, _, rfl, ?_, ?_⟩
    · rw [Array.toList_map]; exact rowOf_rel (opL_rel hT h3)
    · rw [Array.toList_map]; exact rowOf_rel (opL_rel hT h5)
  · rename_i t r'
    obtain ⟨v, h1, h2⟩ := obind_some h
    exact fin _ (mkMapA_rel hH hb (opO_rel hT h1) h2) rfl
  · rename_i t l c
    obtain ⟨vl, h1, h2⟩ := obind_some h
    obtain ⟨vc, h3, h4⟩ := obind_some h2
    exact fin _ (mkSliceA_rel hH hb (opd_rel hT h1) (opd_rel hT h3) h4) rfl
  · rename_i t x lo hi mx
    obtain ⟨vx, h1, h2⟩ := obind_some h
    obtain ⟨v1, h3, h4⟩ := obind_some h2
    obtain ⟨v2, h5, h6⟩ := obind_some h4
    obtain ⟨v3, h7, h8⟩ := obind_some h6
    exact fin _ (lift _ _ h8 fun v hv => sliceA_rel (opd_rel hT h1) (opO_rel hT h3) (opO_rel hT h5) (opO_rel hT h7) hv w) rfl
  · rename_i t x f
    obtain ⟨vx, h1, h2⟩ := obind_some h
    exact fin _ (lift _ _ h2 fun v hv => fieldA_rel (opd_rel hT h1) hv w) rfl
  · rename_i t x f
    obtain ⟨vx, h1, h2⟩ := obind_some h
    exact fin _ (lift _ _ h2 fun v hv => fldV_rel (opd_rel hT h1) hv w) rfl
  · rename_i t x i
    obtain ⟨vx, h1, h2⟩ := obind_some h
    obtain ⟨vi, h3, h4⟩ := obind_some h2
    exact fin _ (lift _ _ h4 fun v hv => idxA_rel (opd_rel hT h1) (opd_rel hT h3) hv w) rfl
  · rename_i t x i
    obtain ⟨vx, h1, h2⟩ := obind_some h
    obtain ⟨vi, h3, h4⟩ := obind_some h2
    exact fin _ (lift _ _ h4 fun v hv => idxV_rel (opd_rel hT h1) (opd_rel hT h3) hv w) rfl
  · rename_i t x k ok
    obtain ⟨vx, h1, h2⟩ := obind_some h
    obtain ⟨vk, h3, h4⟩ := obind_some h2
    exact fin _ (lift _ _ h4 fun v hv => lookA_rel hH (opd_rel hT h1) (opd_rel hT h3) hv) rfl
  · rename_i t m k x
    obtain ⟨vm, h1, h2⟩ := obind_some h
    obtain ⟨vk, h3, h4⟩ := obind_some h2
    obtain ⟨vx, h5, h6⟩ := obind_some h4
    obtain ⟨w', g1, g2, g3⟩ := updA_rel (P := P) hH (opd_rel hT h1) (opd_rel hT h3) (opd_rel hT h5) h6
    exact unit _ w' r.2 g1 g2 (Prod.ext g3 rfl) rfl
  · rename_i t m k x
    obtain ⟨vm, h1, h2⟩ := obind_some h
    obtain ⟨vk, h3, h4⟩ := obind_some h2
    obtain ⟨vx, h5, h6⟩ := obind_some h4
    obtain ⟨w', g1, g2, g3⟩ := updA_rel (P := P) hH (opd_rel hT h1) (opd_rel hT h3) (opd_rel hT h5) h6
    exact unit _ w' r.2 g1 g2 (Prod.ext g3 rfl) rfl
  · rename_i t m k
    obtain ⟨vm, h1, h2⟩ := obind_some h
    obtain ⟨vk, h3, h4⟩ := obind_some h2
    exact fin _ (meA_rel hH (opd_rel hT h1) (opd_rel hT h3) h4) rfl
  · rename_i t m s v
    obtain ⟨vm, h1, h2⟩ := obind_some h
    obtain ⟨vs, h3, h4⟩ := obind_some h2
    obtain ⟨vv, h5, h6⟩ := obind_some h4
    rw [omap_eq, Option.map_eq_some_iff] at h6
    obtain ⟨H', h7, rfl⟩ := h6
    obtain ⟨w', g1, g2⟩ := esA_rel (P := P) (t := t) hH (opd_rel hT h1) (opd_rel hT h3) (opd_rel hT h5) h7
    exact unit _ w' H' g1 g2 rfl rfl
  · rename_i t x
    obtain ⟨vx, h1, h2⟩ := obind_some h
    exact fin _ (rngA_rel hH hb (opd_rel hT h1) h2) rfl
  · rename_i it s
    obtain ⟨vx, h1, h2⟩ := obind_some h
    exact fin _ (nxtA_rel (ty := type) hH (opd_rel hT h1) h2) rfl
  · rename_i t i
    obtain ⟨vx, h1, h2⟩ := obind_some h
    exact fin _ (lift _ _ h2 fun v hv => exA_rel (opd_rel hT h1) hv) rfl
  · rename_i t x
    obtain ⟨vx, h1, h2⟩ := obind_some h
    exact fin _ (lift _ _ h2 fun v hv => s2apA_rel (opd_rel hT h1) hv w) rfl
  · cases h
end Go.Ev
