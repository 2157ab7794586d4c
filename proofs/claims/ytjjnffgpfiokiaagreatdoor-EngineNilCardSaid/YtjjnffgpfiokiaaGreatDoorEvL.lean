/- New memory; aggregates; interface values, functions, tuples. -/
import Derived.Test.YtjjnffgpfiokiaaGreatDoorEvK
namespace Go.Ev
open Go.RowKit

def Bd (E : Env) (n : Nat) : Prop := ∀ id x, E id = some x → id < n
theorem Bd.none {E : Env} {n : Nat} (h : Bd E n) : E n = none := by
  cases e : E n with
  | none => rfl
  | some x => exact absurd (h n x e) (Nat.lt_irrefl n)
theorem Stp.bd {E E' : Env} {f f' : Nat → Option AO} {n n' : Nat} {w w' : World} (h : Stp E f n w E' f' n' w') (hb : Bd E n) : Bd E' n' := fun id x e => by
  rcases h.dom id x e with h1 | ⟨_, _, h2⟩
  · exact Nat.lt_of_lt_of_le (hb id x h1) h.next
  · exact h2

noncomputable def newV {α : Type} (H : Hp) (o : AO) (k : Nat → Hp → α) : α := forceN H.next fun n => k n ⟨Nat.succ n, H.tr.put n (some o)⟩
theorem newV_eq {α : Type} (H : Hp) (o : AO) (k : Nat → Hp → α) : newV H o k = k H.next ⟨H.next + 1, H.tr.put H.next (some o)⟩ := by unfold newV; rw [forceN_eq]

/-- A new block's environment. -/
def Env.new (E : Env) (id b z : Nat) : Env := fun j => if j = id then some (b, z) else E j
theorem Env.new_self (E : Env) (id b z : Nat) : E.new id b z id = some (b, z) := by simp [Env.new]
theorem Env.new_le {E : Env} {id b z : Nat} (h : E id = none) : E.le (E.new id b z) := fun j y hj => by
  have hji : j ≠ id := fun e => by subst e; rw [h] at hj; cases hj
  simpa [Env.new, hji] using hj

theorem alloc_stp {E : Env} {H : Hp} {w : World} (hH : HR E H.get w) (hb : E H.next = none) {o : AO} {x : Obj} (z : Nat) (hx : ORel (E.new H.next w.heap.size z) z o x) :
    Stp E H.get H.next w (E.new H.next w.heap.size z) (Hp.get ⟨H.next + 1, H.tr.put H.next (some o)⟩) (H.next + 1) (w.alloc x) := by
  rw [upd_put]
  exact hH.alloc (hb) (Nat.le_refl _) hx

noncomputable def boxA (H : Hp) (t : TypeId) (v : AV) : AV × Hp := newV H (.cells (vrow v) t false) fun n H' => (.ptr n 0, H')
theorem cells_orel {E : Env} {r : AV} {t : TypeId} {c : Array Value} (h : R E r c.toList) : ORel E c.size (.cells r t false) (.cells c t) :=
  ⟨c, (0, 0), rfl, rfl, .inl rfl, c.toList, [], by simp, h, fun _ => rfl⟩
theorem boxA_rel {P : Program} {E : Env} {H : Hp} {w : World} {t : TypeId} {v : AV} {c : Value} (hH : HR E H.get w) (hb : E H.next = none) (hv : V E v c) :
    ∃ E' c' w', (newVar t c).run P w = .ok c' w' ∧ Stp E H.get H.next w E' (boxA H t v).2.get (boxA H t v).2.next w' ∧ V E' (boxA H t v).1 (.pointer (some c')) := by
  unfold boxA; rw [newV_eq]
  refine ⟨E.new H.next w.heap.size c.cells.size, ⟨w.heap.size, 0, none⟩, w.alloc (.cells c.cells t), by simp [newVar, newRow], ?_, ?_⟩
  · exact alloc_stp hH hb _ (cells_orel ((vrow_rel hv).mono (Env.new_le hb)))
  · exact ⟨w.heap.size, c.cells.size, Env.new_self _ _ _ _, rfl⟩

noncomputable def allocA (P : Program) (H : Hp) (t : TypeId) : Option (AV × Hp) := omap (boxA H t) (zeroA P t)
theorem allocA_rel {P : Program} {E : Env} {H : Hp} {w : World} {t : TypeId} {r : AV × Hp} (hH : HR E H.get w) (hb : E H.next = none) (h : allocA P H t = some r) :
    ∃ E' c w', (Instr.alloc t true (.tuple #[])).run P w = .ok c w' ∧ Stp E H.get H.next w E' r.2.get r.2.next w' ∧ V E' r.1 c := by
  unfold allocA at h
  rw [omap_eq, Option.map_eq_some_iff] at h
  obtain ⟨z, h1, rfl⟩ := h
  obtain ⟨c, h2, h3⟩ := zeroA_rel h1 E
  obtain ⟨E', c', w', h4, h5, h6⟩ := boxA_rel (P := P) (t := t) hH hb h3
  exact ⟨E', _, w', by simp [Instr.alloc, h2 w, h4], h5, h6⟩

/-! ### Aggregates -/
theorem fold_wr : ∀ (vs : List Value) (j off : Nat) (cells : Array Value), off + j + vs.length ≤ cells.size →
    ((vs.zipIdx j).foldl (fun (cs : Array Value) (p : Value × Nat) => cs.setIfInBounds (off + p.2) p.1) cells).toList = wrL cells.toList (off + j) vs
  | [], j, off, cells, h => by simp [wrL]
  | v :: vs, j, off, cells, h => by
    simp only [List.length_cons] at h
    rw [List.zipIdx_cons, List.foldl_cons, fold_wr vs (j + 1) off _ (by simp; omega)]
    unfold wrL
    rw [Array.toList_setIfInBounds]
    exact wrL_step cells.toList (off + j) (off + (j + 1)) v vs (by simp; omega) (by omega)

noncomputable def fillA (pl : Nat → Option (Nat × Nat)) (r : AV) (ps : List (Nat × AV)) : Option AV :=
  List.rec (motive := fun _ => AV → Option AV) (fun r => some r)
    (fun p _ ih r => obind (pl p.1) fun q => cnd (Nat.beq (rowSize (vrow p.2)) q.2) (obind (rowPut r q.1 (vrow p.2)) ih) none) ps r
theorem fillA_rel {E : Env} {pl : Nat → Option (Nat × Nat)} : ∀ {ps : List (Nat × AV)} {qs : List (Nat × Value)} {r r' : AV} {cells : Array Value}, R E r cells.toList → F2 (fun p q => p.1 = q.1 ∧ V E p.2 q.2) ps qs →
    fillA pl r ps = some r' → ∃ cells', Instr.fill pl cells qs = some cells' ∧ R E r' cells'.toList
  | [], _, r, r', cells, hr, .nil, h => by cases h; exact ⟨cells, rfl, hr⟩
  | p :: ps, q :: qs, r, r', cells, hr, .cons ⟨h1, h2⟩ hrest, h => by
    have h' : (obind (pl p.1) fun q => cnd (Nat.beq (rowSize (vrow p.2)) q.2) (obind (rowPut r q.1 (vrow p.2)) fun r => fillA pl r ps) none) = some r' := h
    obtain ⟨⟨off, size⟩, g1, h3⟩ := obind_some h'
    obtain ⟨g2, h4⟩ := cnd_some h3
    obtain ⟨r1, g3, h5⟩ := obind_some h4
    have hrow := vrow_rel h2
    have hsz : q.2.cells.size = size := by
      have := rowSize_rel hrow
      rw [Array.length_toList] at this
      rw [this]; simpa using g2
    obtain ⟨g4, g5⟩ := rowPut_rel hr hrow g3
    rw [Array.length_toList, Array.length_toList] at g5
    have hf := fold_wr q.2.cells.toList 0 off cells (by rw [Array.length_toList]; omega)
    have hf' : (q.2.cells.zipIdx.foldl (fun (cs : Array Value) (p : Value × Nat) => cs.setIfInBounds (off + p.2) p.1) cells).toList = wrL cells.toList off q.2.cells.toList := by
      rw [← Array.foldl_toList]
      simpa using hf
    obtain ⟨cells', g6, g7⟩ := fillA_rel (cells := q.2.cells.zipIdx.foldl (fun (cs : Array Value) (p : Value × Nat) => cs.setIfInBounds (off + p.2) p.1) cells) (by rw [hf']; exact g4) hrest h5
    refine ⟨cells', ?_, g7⟩
    obtain ⟨qi, qv⟩ := q
    simp only at h1
    subst h1
    unfold Instr.fill
    rw [g1]
    dsimp only
    rw [if_neg]
    · exact g6
    · dsimp only at hsz g5; simp; omega

section bl
variable (P : Program)
noncomputable def bltPl (t : TypeId) : Option (Nat → Option (Nat × Nat)) :=
  obind (P.underlying t) fun u => match u with
    | .struct fs => omap (fun pl : List (Nat × Nat) => fun i => pl[i]?) (fs.toList.mapM (fun f => (P.info? f.type).map fun i => (f.offset, i.size)))
    | .array _ e => omap (fun i : TypeInfo => fun k => some (k * i.size, i.size)) (P.info? e)
    | _ => none
noncomputable def buildA (t : TypeId) (ps : List (Nat × AV)) : Option AV :=
  obind (bltPl P t) fun pl => obind (zeroA P t) fun z => omap .agg (fillA pl (vrow z) ps)
end bl
theorem buildA_rel {P : Program} {E : Env} {t : TypeId} {ps : List (Nat × AV)} {qs : Array (Nat × Value)} {v : AV} (hp : F2 (fun p q => p.1 = q.1 ∧ V E p.2 q.2) ps qs.toList) (h : buildA P t ps = some v) (w : World) :
    ∃ c, (Instr.build t qs).run P w = .ok c w ∧ V E v c := by
  unfold buildA at h
  obtain ⟨pl, h1, h2⟩ := obind_some h
  obtain ⟨z, h3, h4⟩ := obind_some h2
  rw [omap_eq, Option.map_eq_some_iff] at h4
  obtain ⟨r, h5, rfl⟩ := h4
  unfold zeroA at h3
  obtain ⟨it, hit, h6⟩ := obind_some h3
  obtain ⟨zc, hz, h7⟩ := obind_some h6
  have hzr := absV_rel E _ _ _ h7
  obtain ⟨cells, g1, g2⟩ := fillA_rel (vrow_rel hzr) hp h5
  refine ⟨.agg cells, run_build w t qs cells ?_, cells, rfl, g2⟩
  unfold bltPl at h1
  obtain ⟨u, hu, h8⟩ := obind_some h1
  unfold Program.built
  simp only [hit, hu]
  cases u <;> simp only at h8 <;> try (cases h8; done)
  · rename_i n e
    rw [omap_eq, Option.map_eq_some_iff] at h8
    obtain ⟨ie, hie, rfl⟩ := h8
    simp only [hz, hie]
    exact g1
  · rename_i fs
    rw [omap_eq, Option.map_eq_some_iff] at h8
    obtain ⟨pls, hpl, rfl⟩ := h8
    simp only [hz, hpl]
    have : (fun i : Nat => pls.toArray[i]?) = (fun i : Nat => pls[i]?) := by funext i; simp
    rw [this]
    exact g1

/-- the cells of a repeated value -/
theorem rep_cells (zs : List Value) (m : Nat) (hm : zs.length = m) (h0 : 0 < m) : ∀ n, (List.range (n * m)).map (fun i => zs.toArray[i % m]!) = (List.replicate n zs).flatten
  | 0 => by simp
  | n + 1 => by
    rw [List.replicate_succ', List.flatten_append, ← rep_cells zs m hm h0 n, Nat.add_mul, Nat.one_mul, List.range_add, List.map_append, List.map_map]
    congr 1
    simp only [List.flatten_cons, List.flatten_nil, List.append_nil]
    apply List.ext_getElem
    · simp [hm]
    · intro i h1 h2
      simp only [List.length_map, List.length_range] at h1
      simp only [List.getElem_map, List.getElem_range, Function.comp]
      have e : (n * m + i) % m = i := by rw [Nat.add_comm, Nat.add_mul_mod_self_right, Nat.mod_eq_of_lt h1]
      rw [e]
      rw [getElem!_pos zs.toArray i (by simpa using h2)]
      simp

/-- a row of n zero values of an element type -/
noncomputable def zRow (P : Program) (e : TypeId) (n z : Nat) : Option AV :=
  cnd (Nat.beq (Nat.mul n z) 0) (some .rnil) (obind (zeroA P e) fun v => cnd (Nat.beq (rowSize (vrow v)) z) (some (rowRep (vrow v) n)) none)
theorem zRow_rel {P : Program} {E : Env} {e : TypeId} {n z : Nat} {r : AV} (h : zRow P e n z = some r) : ∃ zc : Array Value,
    ((n * z = 0 ∧ zc = #[]) ∨ (n * z ≠ 0 ∧ ∃ c, (∀ w, (zeroValue e).run P w = .ok c w) ∧ zc = c.cells)) ∧
    R E r ((Array.range (n * z)).map (fun i => zc[i % zc.size]!)).toList := by
  unfold zRow at h
  rw [cnd_eq] at h
  split at h
  · rename_i h0
    have h0' : n * z = 0 := by simpa using h0
    cases h
    refine ⟨#[], .inl ⟨h0', rfl⟩, ?_⟩
    have : ((Array.range (n * z)).map (fun i => (#[] : Array Value)[i % (#[] : Array Value).size]!)).toList = [] := by rw [h0']; simp
    rw [this]; rfl
  · rename_i h0
    have h0' : ¬ n * z = 0 := by simpa using h0
    obtain ⟨v, h1, h2⟩ := obind_some h
    obtain ⟨h3, h4⟩ := cnd_some h2
    cases h4
    obtain ⟨c, h5, h6⟩ := zeroA_rel h1 E
    have hrow := vrow_rel h6
    have hsz : c.cells.size = z := by
      have := rowSize_rel hrow
      rw [Array.length_toList] at this
      rw [this]; simpa using h3
    refine ⟨c.cells, .inr ⟨h0', c, h5, rfl⟩, ?_⟩
    have hz0 : 0 < z := Nat.pos_of_ne_zero (fun e => h0' (by rw [e]; simp))
    have := rowRep_rel hrow n
    rw [← rep_cells c.cells.toList z (by simpa using hsz) hz0 n] at this
    simpa [hsz] using this

noncomputable def bsA (P : Program) (H : Hp) (t : TypeId) (len : Nat) (ps : List (Nat × AV)) : Option (AV × Hp) :=
  obind (P.underlying t) fun u => match u with
    | .slice e => obind (szOf P e) fun z => cnd (Nat.ble (Nat.mul len z) 16777216) (obind (zRow P e len z) fun r => obind (fillA (fun i => some (Nat.mul i z, z)) r ps) fun r' =>
        some (newV H (.cells r' e false) fun n H' => (.slice n 0 len len, H'))) none
    | _ => none
theorem bsA_rel {P : Program} {E : Env} {H : Hp} {w : World} {t : TypeId} {len : Nat} {ps : List (Nat × AV)} {qs : Array (Nat × Value)} {r : AV × Hp} (hH : HR E H.get w) (hb : E H.next = none)
    (hp : F2 (fun p q => p.1 = q.1 ∧ V E p.2 q.2) ps qs.toList) (h : bsA P H t len ps = some r) :
    ∃ E' c w', (Instr.buildSlice t len qs).run P w = .ok c w' ∧ Stp E H.get H.next w E' r.2.get r.2.next w' ∧ V E' r.1 c := by
  unfold bsA at h
  obtain ⟨u, hu, h1⟩ := obind_some h
  split at h1
  · rename_i e
    obtain ⟨z, hz, h2⟩ := obind_some h1
    obtain ⟨h3, h4⟩ := cnd_some h2
    have h3' : len * z ≤ 16777216 := ble_iff.1 h3
    obtain ⟨r0, h5, h6⟩ := obind_some h4
    obtain ⟨r1, h7, h8⟩ := obind_some h6
    rw [newV_eq] at h8
    cases h8
    obtain ⟨zc, g1, g2⟩ := zRow_rel (E := E) h5
    obtain ⟨cells, g3, g4⟩ := fillA_rel g2 hp h7
    refine ⟨E.new H.next w.heap.size cells.size, .slice (some ⟨w.heap.size, 0, none⟩) len len, w.alloc (.cells cells e), ?_, ?_, ?_⟩
    · have g3' : Instr.fill (fun i => some (i * z, z)) ((Array.range (len * z)).map (fun i => zc[i % zc.size]!)) qs.toList = some cells := g3
      have hng : ¬ (16777216 < len * z) := by omega
      have hng2 : ¬ (len * z > 2 ^ 24) := by omega
      simp only [Instr.buildSlice, Sem.run_bind, run_underlying hu, Result.andThen_ok, run_sizeOf' hz, hng2, if_false]
      rcases g1 with ⟨k1, rfl⟩ | ⟨k1, c, k2, rfl⟩
      · simp only [if_pos k1, Sem.run_bind, Sem.run_pure, Result.andThen_ok]
        rw [g3']
        simp [newRow]
      · simp only [if_neg k1, Sem.run_bind, Sem.run_pure, Result.andThen_ok, k2 w]
        rw [g3']
        simp [newRow]
    · exact alloc_stp hH hb _ (cells_orel (g4.mono (Env.new_le hb)))
    · exact ⟨Nat.le_refl _, w.heap.size, cells.size, Env.new_self _ _ _ _, rfl⟩
  · cases h1

end Go.Ev
