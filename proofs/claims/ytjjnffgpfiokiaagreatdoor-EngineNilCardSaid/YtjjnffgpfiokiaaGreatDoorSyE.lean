/- What a file's sectors become when the file is made to last: loads and stores of parts of a block, and a step over a map. -/
import Derived.Test.YtjjnffgpfiokiaaGreatDoorEqE
import Derived.WalkKit
import Derived.Laws.IdiomRangeMap
namespace Go.Ev
open Go Go.RowKit
section
variable {P : Program} {ops : Array Oper} {rest : List Oper} {o : Oper} {a : Act} {w : World} {Q : Exit → Act → World → Prop}
/-- One operation whose run is known. -/
theorem wl_run (hg : o.guard = none) (v : Value) (w' : World) (hr : (execOp a.eval o).run P w = .ok (.value v) w') (h : wpList P ops Q rest (a.put o.dst v) w') : wpList P ops Q (o :: rest) a w := by
  refine wpList_plain hg fun K hK => ?_
  unfold Oper.wp
  rw [hr, Oper.upon_value]
  exact hK _ _ h
theorem wl_skip (hg : o.guard = none) (w' : World) (hr : (execOp a.eval o).run P w = .ok .skip w') (h : wpList P ops Q rest (a.put o.dst undef) w') : wpList P ops Q (o :: rest) a w := by
  refine wpList_plain hg fun K hK => ?_
  unfold Oper.wp
  rw [hr, Oper.upon_skip]
  exact hK _ _ h
theorem wl_load (hg : o.guard = none) (t : TypeId) (x : Operand) (hop : o.op = .load t x) (ad : Addr) (hx : a.eval x = .pointer (some ad)) (v : Value) (hr : (loadVar t ad).run P w = .ok v w) (h : wpList P ops Q rest (a.put o.dst v) w) : wpList P ops Q (o :: rest) a w := by
  refine wl_run hg v w ?_ h
  simp [execOp, hop, hx, Instr.loadAt, Instr.sureAddr, hr]
theorem wl_store (hg : o.guard = none) (t : TypeId) (x y : Operand) (hop : o.op = .store t x y) (ad : Addr) (hx : a.eval x = .pointer (some ad)) (v : Value) (hy : a.eval y = v) (w' : World) (hr : (storeVar t ad v).run P w = .ok () w') (h : wpList P ops Q rest (a.put o.dst undef) w') : wpList P ops Q (o :: rest) a w := by
  refine wl_skip hg w' ?_ h
  simp [execOp, hop, hx, hy, Instr.storeAt, Instr.sureAddr, hr]
theorem wl_alloc (hg : o.guard = none) (t : TypeId) (hop : o.op = .alloc t) (ob : Obj) (hr : (Instr.alloc t true (.tuple #[])).run P w = .ok (.pointer (some ⟨w.heap.size, 0, none⟩)) (w.alloc ob)) (h : wpList P ops Q rest (a.put o.dst (.pointer (some ⟨w.heap.size, 0, none⟩))) (w.alloc ob)) : wpList P ops Q (o :: rest) a w := by
  refine wl_run hg _ _ ?_ h
  simp [execOp, hop, hr]
theorem ld_agg {t : TypeId} {b off n : Nat} {c : Array Value} {e : TypeId} {fr : Nat × Nat} (h : w.heap[b]? = some (.cells c e fr)) (ha : isAggB P t = some true) (hs : szOf P t = some n) (hn : off + n ≤ c.size) :
    (loadVar t ⟨b, off, none⟩).run P w = .ok (.agg ((c.toList.drop off).take n).toArray) w := by
  simp only [loadVar, Sem.run_bind, run_isAgg' ha, Result.andThen_ok, if_true, run_sizeOf' hs, run_loadCells P h hn, Sem.run_pure]
theorem ld_one {t : TypeId} {b off : Nat} {c : Array Value} {e : TypeId} {fr : Nat × Nat} {v : Value} (h : w.heap[b]? = some (.cells c e fr)) (ha : isAggB P t = some false) (hv : c[off]? = some v) :
    (loadVar t ⟨b, off, none⟩).run P w = .ok v w := by
  simp [loadVar, run_isAgg' ha, cellAt h, hv]
theorem st_any {t : TypeId} {b off n : Nat} {c : Array Value} {e : TypeId} {fr : Nat × Nat} {v : Value} (h : w.heap[b]? = some (.cells c e fr)) (hu : FrU fr c.size) (hs : szOf P t = some n) (hc : v.cells.size = n) (hn : off + n ≤ c.size) (h1 : ∀ u ∈ v.cells.toList, u.oneCell' = true) :
    (storeVar t ⟨b, off, none⟩ v).run P w = .ok () (putB w b (.cells (wrL c.toList off v.cells.toList).toArray e fr)) := by
  have hst := run_storeCells P (b := b) (off := off) (e := e) (fr := fr) v.cells.toList 0 h hu (by simp [hc]; omega) h1
  simp only [storeVar, Sem.run_bind, run_sizeOf' hs, Result.andThen_ok, hc, ne_eq, not_true_eq_false, if_false]
  simpa using hst
theorem al_run {t : TypeId} {i : TypeInfo} {z : Value} (hi : P.info? t = some i) (hz : i.zero = some z) : (Instr.alloc t true (.tuple #[])).run P w = .ok (.pointer (some ⟨w.heap.size, 0, none⟩)) (w.alloc (.cells z.cells t)) := by
  simp [Instr.alloc, zeroValue, typeInfo, hi, hz, newVar, newRow]
theorem fa_run {s : TypeId} {f k b off : Nat} (h : fieldOff P s f = some k) : (Instr.fieldAt s (.pointer (some ⟨b, off, none⟩)) f).run P w = .ok (.pointer (some ⟨b, off + k, none⟩)) w := by
  unfold fieldOff at h
  obtain ⟨u, hu, h3⟩ := obind_some h
  cases u <;> simp only at h3 <;> try (cases h3; done)
  rename_i fs
  obtain ⟨fd, hf, h4⟩ := obind_some h3
  obtain ⟨n, hn, h5⟩ := obind_some h4
  cases n with
  | zero => cases h5
  | succ n =>
    cases h5
    simp [Instr.fieldAt, run_underlying hu, hf, Instr.sureAddr, fieldPlace, run_sizeOf' hn, add_off]
theorem ia_run {t e : TypeId} {b off len cap z i : Nat} (hu : P.underlying t = some (.slice e)) (hz : szOf P e = some z) (hi : i < len) :
    (Instr.indexAt t (.slice (some ⟨b, off, none⟩) len cap) (.int .i64 (i : Int))).run P w = .ok (.pointer (some ⟨b, off + i * z, none⟩)) w := by
  simp [Instr.indexAt, asIntOf, run_underlying hu, hi, run_sizeOf' hz, add_off]
theorem wl_fa (hg : o.guard = none) (s : TypeId) (x : Operand) (f : Nat) (hop : o.op = .fieldAddr s x f) (b off k : Nat) (hx : a.eval x = .pointer (some ⟨b, off, none⟩)) (hk : fieldOff P s f = some k) (h : wpList P ops Q rest (a.put o.dst (.pointer (some ⟨b, off + k, none⟩))) w) : wpList P ops Q (o :: rest) a w := by
  refine wl_run hg _ w ?_ h
  simp [execOp, hop, hx, fa_run hk]
/-- A row of cells stored over a whole block. -/
theorem wl_whole (hg : o.guard = none) (t : TypeId) (x y : Operand) (hop : o.op = .store t x y) (N : Nat) (hx : a.eval x = .pointer (some ⟨N, 0, none⟩)) (L : List Value) (hy : a.eval y = .agg L.toArray) (n : Nat) (zs : Array Value) (T : TypeId)
    (HN : w.heap[N]? = some (.cells zs T)) (hz : zs.size = n) (hL : L.length = n) (hs : szOf P t = some n) (h1 : ∀ u ∈ L, u.oneCell' = true)
    (h : wpList P ops Q rest (a.put o.dst undef) (putB w N (.cells L.toArray T))) : wpList P ops Q (o :: rest) a w := by
  refine wl_store hg t x y hop _ hx _ hy _ ?_ h
  have e := st_any (P := P) (t := t) (off := 0) (v := .agg L.toArray) HN (.inl rfl) hs (by simp [Value.cells, hL]) (by omega) (fun u hu => h1 u (by simpa [Value.cells] using hu))
  rw [e]
  congr 3
  show (wrL zs.toList 0 L).toArray = L.toArray
  unfold wrL
  simp [hz, hL]
theorem wl_ia (hg : o.guard = none) (t : TypeId) (x y : Operand) (hop : o.op = .indexAddr t x y) (e b off len cap z i : Nat) (hx : a.eval x = .slice (some ⟨b, off, none⟩) len cap) (hy : a.eval y = .int .i64 (i : Int)) (hu : P.underlying t = some (.slice e)) (hz : szOf P e = some z) (hi : i < len)
    (h : wpList P ops Q rest (a.put o.dst (.pointer (some ⟨b, off + i * z, none⟩))) w) : wpList P ops Q (o :: rest) a w := by
  refine wl_run hg _ w ?_ h
  simp [execOp, hop, hx, hy, ia_run hu hz hi]
end
theorem res_cell {P : Program} {fn : Func} {p : Tmp} {ty : TypeId} (h : fn.results = #[.cell p ty]) (tmps : Array Value) (w : World) (N T n : Nat) (L : List Value) (hp : tmps.getD p undef = .pointer (some ⟨N, 0, none⟩))
    (HN : w.heap[N]? = some (.cells L.toArray T)) (ha : isAggB P ty = some true) (hs : szOf P ty = some n) (hL : L.length = n) : (results fn tmps).run P w = .ok (.agg L.toArray) w := by
  have hp' : tmps[p]?.getD undef = .pointer (some ⟨N, 0, none⟩) := by simpa using hp
  have e := ld_agg (P := P) (t := ty) (off := 0) HN ha hs (by simp [hL])
  have e2 : ((L.drop 0).take n) = L := by rw [List.drop_zero, ← hL, List.take_length]
  rw [show L.toArray.toList = L from rfl, e2] at e
  simp [results, h, hp', asAddr, e]
theorem below_putB {B N : Nat} {w W : World} (h : Below B w W) (hN : B ≤ N) (x : Obj) : Below B w (putB W N x) :=
  h.trans ⟨rfl, rfl, rfl, by rw [putB_size]; exact Nat.le_refl _, fun k hk => by rw [putB_get, if_neg (by omega)]⟩
/-- A block's cells. -/
def sC (w : World) (b : Nat) : Array Value := match w.heap[b]? with
  | some (Obj.cells c _ _) => c
  | _ => #[]
/-- What a sector has. -/
def sR (w : World) (b : Nat) : List Value := match (sC w b)[256]? with
  | some (Value.slice (some a) (n + 1) _) => ((sC w a.block).toList.drop (a.off + n * 256)).take 256
  | _ => (sC w b).toList.take 256
theorem sC_of {w : World} {b : Nat} {c : Array Value} {e : TypeId} {fr : Nat × Nat} (h : w.heap[b]? = some (.cells c e fr)) : sC w b = c := by
  unfold sC; rw [h]
structure SecOk (w : World) (b : Nat) (c : Array Value) (T : TypeId) (fr : Nat × Nat) (r : Option Addr) (n k : Nat) : Prop where
  blk : w.heap[b]? = some (.cells c T fr)
  free : FrU fr c.size
  size : c.size = 257
  wr : c[256]? = some (.slice r n k)
  small : n < 1000000
  row : n = 0 ∨ ∃ g off cg eg frg, r = some ⟨g, off, none⟩ ∧ w.heap[g]? = some (.cells cg eg frg) ∧ off + n * 256 ≤ cg.size
  one : ∀ v ∈ sR w b, v.oneCell' = true
end Go.Ev

/- A step over a map that stands anywhere, and its entry. -/
namespace Go.Ev
open Go Go.RowKit
theorem next_any {P : Program} (w : World) (ty : TypeId) (r bm since c0 : Nat) (seen : Array Nat) (es : Array MapEntry) (clock : Nat) (hr : w.heap[r]? = some (.mapIter (some bm) since seen c0)) (hb : w.heap[bm]? = some (.map es clock)) (hold : ∀ x ∈ es.toList, x.born < since) (hsc : since ≤ c0) :
    ((leftOf es seen).size = 0 ∧ (Instr.next (.pointer (some ⟨r, 0, none⟩)) false ty).run P w = .ok (.tuple #[.bool false]) w) ∨
    ∃ e ∈ (leftOf es seen).toList, ∃ w1 : World, (w1 = w ∨ w1 = w.drew) ∧ (Instr.next (.pointer (some ⟨r, 0, none⟩)) false ty).run P w = .ok (.tuple #[.bool true, e.key, e.val]) (putB w1 r (.mapIter (some bm) since (seen.push e.born) clock)) := by
  simp only [Instr.next, getObj, Sem.run_bind, Sem.run, hr, hb, Result.andThen, next_test_false seen es since c0 hold hsc, Bool.false_eq_true, if_false]
  unfold leftOf
  have hmem : ∀ x ∈ (Array.filter (fun e => !seen.contains e.born) es).toList, x.born < since := fun x hx => hold x (by simp at hx ⊢; exact hx.1)
  generalize Array.filter (fun e => !seen.contains e.born) es = L at hmem ⊢
  have e1 : L.filter (fun x => decide (x.born < since)) = L := Array.filter_eq_self.2 (fun x hx => by simpa using hmem x (by simpa using hx))
  have e2 : L.filter (fun x => decide (x.born ≥ since)) = #[] := by
    rw [Array.filter_eq_empty_iff]
    intro x hx
    have := hmem x (by simpa using hx)
    simp
    omega
  simp only [e1, e2, Array.append_empty]
  by_cases h0 : L.size = 0
  · left
    have : L = #[] := Array.eq_empty_of_size_eq_zero h0
    subst this
    refine ⟨rfl, ?_⟩
    simp [choose, Sem.run, Question.forced]
  · right
    have hne : L.isEmpty = false := by simp [Array.isEmpty, h0]
    simp only [hne, Bool.false_eq_true, if_false, Array.empty_append, Array.size_map]
    obtain ⟨j, w1, hj, hal, hrun⟩ := choose_next (P := P) (w := w) L.size (by omega)
    refine ⟨L[j], by simp, w1, hal, ?_⟩
    have hr1 : w1.heap[r]? = some (.mapIter (some bm) since seen c0) := by rcases hal with rfl | rfl <;> exact hr
    have hset : ∀ (o' : Obj), (setObj r o').run P w1 = .ok () (putB w1 r o') := fun o' => by
      simp [setObj, Sem.run, hr1, putB]
    simp only [hrun, Array.getElem?_map, Array.getElem?_eq_getElem hj, Option.map_some, Sem.run_bind, hset, Result.andThen]
    rfl
theorem entry_any {P : Program} (w : World) (r bm since : Nat) (seen : Array Nat) (es : Array MapEntry) (clock : Nat) (e : MapEntry) (hr : w.heap[r]? = some (.mapIter (some bm) since (seen.push e.born) clock)) (hb : w.heap[bm]? = some (.map es clock)) (he : e ∈ es.toList) (hn : (es.toList.map (·.born)).Nodup) :
    (Instr.entry (.pointer (some ⟨r, 0, none⟩))).run P w = .ok (.tuple #[e.key, e.val]) w := by
  have hf : es.find? (·.born == e.born) = some e := by rw [← Array.find?_toList]; exact find_born e es.toList hn he
  simp only [Instr.entry, getObj, Sem.run_bind, Sem.run, hr, hb, Result.andThen, Array.back?_push, bne_self_eq_false, Bool.false_eq_true, if_false, hf]
  rfl
theorem range_any {P : Program} (w : World) (t k e : TypeId) (bm : Nat) (es : Array MapEntry) (clock : Nat) (ht : P.underlying t = some (.map k e)) (hb : w.heap[bm]? = some (.map es clock)) :
    (Instr.range t (.map (some bm))).run P w = .ok (.pointer (some ⟨w.heap.size, 0, none⟩)) (w.alloc (.mapIter (some bm) clock #[] clock)) := run_range_map w t k e bm es clock ht hb
/-- What a step has handed out. -/
structure Came (es : Array MapEntry) (seen : Array Nat) (w : World) (e : MapEntry) (w1 : World) : Prop where
  mem : e ∈ (leftOf es seen).toList
  world : w1 = w ∨ w1 = w.drew
section
variable {P : Program} {ops : Array Oper} {rest : List Oper} {o : Oper} {a : Act} {w : World} {Q : Exit → Act → World → Prop}
theorem wl_next (hg : o.guard = none) (it : Operand) (hop : o.op = .next it false) (r bm clock : Nat) (seen : Array Nat) (es : Array MapEntry) (hit : a.eval it = .pointer (some ⟨r, 0, none⟩)) (hr : w.heap[r]? = some (.mapIter (some bm) clock seen clock)) (hb : w.heap[bm]? = some (.map es clock)) (hold : ∀ x ∈ es.toList, x.born < clock)
    (hDone : (leftOf es seen).size = 0 → wpList P ops Q rest (a.put o.dst (.tuple #[.bool false])) w)
    (hMore : ∀ e w1, Came es seen w e w1 → wpList P ops Q rest (a.put o.dst (.tuple #[.bool true, e.key, e.val])) (putB w1 r (.mapIter (some bm) clock (seen.push e.born) clock))) :
    wpList P ops Q (o :: rest) a w := by
  rcases next_any (P := P) w o.type r bm clock clock seen es clock hr hb hold (Nat.le_refl _) with ⟨h0, hrun⟩ | ⟨e, he, w1, h1, hrun⟩
  · refine wl_run hg _ _ ?_ (hDone h0)
    simp [execOp, hop, hit, hrun]
  · refine wl_run hg _ _ ?_ (hMore e w1 ⟨he, h1⟩)
    simp [execOp, hop, hit, hrun]
theorem wl_entry (hg : o.guard = none) (it : Operand) (hop : o.op = .entry it) (r bm clock : Nat) (seen : Array Nat) (es : Array MapEntry) (e : MapEntry) (v : Value) (hit : a.eval it = .pointer (some ⟨r, 0, none⟩)) (hr : w.heap[r]? = some (.mapIter (some bm) clock (seen.push e.born) clock)) (hb : w.heap[bm]? = some (.map es clock)) (he : e ∈ es.toList) (hn : (es.toList.map (·.born)).Nodup) (hv : e.val = v)
    (h : wpList P ops Q rest (a.put o.dst (.tuple #[e.key, v])) w) : wpList P ops Q (o :: rest) a w := by
  subst hv
  refine wl_run hg _ _ ?_ h
  simp [execOp, hop, hit, entry_any (P := P) w r bm clock seen es clock e hr hb he hn]
theorem wl_range (hg : o.guard = none) (t : TypeId) (x : Operand) (hop : o.op = .range t x) (k e bm : Nat) (es : Array MapEntry) (clock : Nat) (hx : a.eval x = .map (some bm)) (ht : P.underlying t = some (.map k e)) (hb : w.heap[bm]? = some (.map es clock))
    (h : wpList P ops Q rest (a.put o.dst (.pointer (some ⟨w.heap.size, 0, none⟩))) (w.alloc (.mapIter (some bm) clock #[] clock))) : wpList P ops Q (o :: rest) a w := by
  refine wl_run hg _ _ ?_ h
  simp [execOp, hop, hx, range_any w t k e bm es clock ht hb]
end
theorem SecOk.len {w : World} {b : Nat} {c : Array Value} {T : TypeId} {fr : Nat × Nat} {r : Option Addr} {n k : Nat} (h : SecOk w b c T fr r n k) : (sR w b).length = 256 := by
  have h0 := h.size
  have h1 : (c.toList.take 256).length = 256 := by simp [h0]
  unfold sR
  rw [sC_of h.blk, h.wr]
  rcases h.row with h2 | ⟨g, off, cg, eg, frg, h2, h3, h4⟩
  · subst h2; cases r <;> exact h1
  · subst h2
    cases n with
    | zero => exact h1
    | succ n =>
      show (((sC w g).toList.drop (off + n * 256)).take 256).length = 256
      rw [sC_of h3]
      simp; omega
/-- The block that an entry leads to. -/
def sB (e : MapEntry) : Nat := match e.val with
  | .pointer (some a) => a.block
  | _ => 0
/-- A block, made to last. -/
def finO (w : World) (j : Nat) : Option Obj := match w.heap[j]? with
  | some (Obj.cells _ T fr) => some (.cells (sR w j ++ [Value.slice none 0 0]).toArray T fr)
  | x => x
def hit (es : Array MapEntry) (seen : Array Nat) (j : Nat) : Bool := es.toList.any fun e => seen.contains e.born && decide (sB e = j)
structure Mid (w : World) (bm : Nat) (es : Array MapEntry) (clock : Nat) (seen : Array Nat) (W : World) : Prop where
  size : w.heap.size < W.heap.size
  os : W.os = w.os
  tape : W.tape = w.tape
  output : W.output = w.output
  iter : W.heap[w.heap.size]? = some (.mapIter (some bm) clock seen clock)
  blk : ∀ j, j < w.heap.size → W.heap[j]? = if hit es seen j then finO w j else w.heap[j]?
/-- What a file is. -/
structure FileOk (w : World) (bm : Nat) (es : Array MapEntry) (clock : Nat) : Prop where
  map : w.heap[bm]? = some (.map es clock)
  old : ∀ e ∈ es.toList, e.born < clock
  nodup : (es.toList.map (·.born)).Nodup
  ptr : ∀ e ∈ es.toList, e.val = .pointer (some ⟨sB e, 0, none⟩)
  sec : ∀ e ∈ es.toList, ∃ c T fr r n k, SecOk w (sB e) c T fr r n k
  inj : ∀ e ∈ es.toList, ∀ e' ∈ es.toList, sB e = sB e' → e = e'
  apart : ∀ e ∈ es.toList, ∀ e' ∈ es.toList, ∀ a n k, (sC w (sB e))[256]? = some (.slice (some a) n k) → n = 0 ∨ a.block ≠ sB e'
theorem FileOk.no_map {w : World} {bm clock : Nat} {es : Array MapEntry} (h : FileOk w bm es clock) {seen : Array Nat} : hit es seen bm = false := by
  unfold hit
  rw [List.any_eq_false]
  intro e he hh
  simp only [Bool.and_eq_true, decide_eq_true_eq] at hh
  obtain ⟨c, T, fr, r, n, k, hs⟩ := h.sec e he
  have h1 := hs.blk
  rw [hh.2, h.map] at h1
  cases h1
theorem Mid.start {w : World} {bm clock : Nat} {es : Array MapEntry} : Mid w bm es clock #[] (w.alloc (.mapIter (some bm) clock #[] clock)) := by
  refine ⟨by simp, rfl, rfl, rfl, heap_alloc_new _ _, fun j hj => ?_⟩
  have : hit es #[] j = false := by simp [hit]
  rw [this, if_neg (by simp)]
  exact heap_alloc_old _ _ hj
theorem Mid.drew {w W : World} {bm clock : Nat} {es : Array MapEntry} {seen : Array Nat} (h : Mid w bm es clock seen W) : Mid w bm es clock seen W.drew := ⟨h.size, h.os, h.tape, h.output, h.iter, h.blk⟩
theorem mem_left {es : Array MapEntry} {seen : Array Nat} {e : MapEntry} (h : e ∈ (leftOf es seen).toList) : e ∈ es.toList ∧ seen.contains e.born = false := by
  unfold leftOf at h
  simp at h
  exact ⟨by simpa using h.1, by simpa using h.2⟩
theorem not_hit {w : World} {bm clock : Nat} {es : Array MapEntry} (h : FileOk w bm es clock) {seen : Array Nat} {e : MapEntry} (he : e ∈ es.toList) (hs : seen.contains e.born = false) : hit es seen (sB e) = false := by
  unfold hit
  rw [List.any_eq_false]
  intro e' he' hh
  simp only [Bool.and_eq_true, decide_eq_true_eq] at hh
  obtain rfl := h.inj e' he' e he hh.2
  rw [hs] at hh
  cases hh.1
/-- A sector that is still to come stands as it did. -/
theorem Mid.sec {w W : World} {bm clock : Nat} {es : Array MapEntry} {seen : Array Nat} (hm : Mid w bm es clock seen W) (h : FileOk w bm es clock) {e : MapEntry} (he : e ∈ es.toList) (hs : seen.contains e.born = false) {W2 : World} (hW : ∀ j, j < w.heap.size → W2.heap[j]? = W.heap[j]?)
    {c : Array Value} {T : TypeId} {fr : Nat × Nat} {r : Option Addr} {n k : Nat} (hk : SecOk w (sB e) c T fr r n k) : SecOk W2 (sB e) c T fr r n k ∧ sR W2 (sB e) = sR w (sB e) := by
  have hlt := (Array.getElem?_eq_some_iff.1 hk.blk).1
  have hb : W2.heap[sB e]? = w.heap[sB e]? := by rw [hW _ hlt, hm.blk _ hlt, not_hit h he hs]; rfl
  have hC : sC W2 (sB e) = sC w (sB e) := by unfold sC; rw [hb]
  have hc : sC w (sB e) = c := sC_of hk.blk
  have hrow : ∀ g off, r = some ⟨g, off, none⟩ → n ≠ 0 → g < w.heap.size → W2.heap[g]? = w.heap[g]? := fun g off hr hn hg => by
    have hnh : hit es seen g = false := by
      unfold hit
      rw [List.any_eq_false]
      intro e' he' hh
      simp only [Bool.and_eq_true, decide_eq_true_eq] at hh
      have := h.apart e he e' he' ⟨g, off, none⟩ n k (by rw [hc, hk.wr, hr])
      rcases this with h0 | h0
      · exact hn h0
      · exact h0 hh.2.symm
    rw [hW _ hg, hm.blk _ hg, hnh]; rfl
  have hR : sR W2 (sB e) = sR w (sB e) := by
    unfold sR
    rw [hC, hc, hk.wr]
    rcases hk.row with h0 | ⟨g, off, cg, eg, frg, h1, h2, h3⟩
    · subst h0; cases r <;> rfl
    · subst h1
      cases n with
      | zero => rfl
      | succ n =>
        have hg := hrow g off rfl (by simp) (Array.getElem?_eq_some_iff.1 h2).1
        show ((sC W2 g).toList.drop (off + n * 256)).take 256 = ((sC w g).toList.drop (off + n * 256)).take 256
        rw [sC_of h2, sC_of (hg.trans h2)]
  refine ⟨⟨hb.trans hk.blk, hk.free, hk.size, hk.wr, hk.small, ?_, by rw [hR]; exact hk.one⟩, hR⟩
  rcases hk.row with h0 | ⟨g, off, cg, eg, frg, h1, h2, h3⟩
  · exact .inl h0
  · by_cases hn : n = 0
    · exact .inl hn
    · exact .inr ⟨g, off, cg, eg, frg, h1, (hrow g off h1 hn (Array.getElem?_eq_some_iff.1 h2).1).trans h2, h3⟩
theorem Mid.step {w W W1 W3 : World} {bm clock : Nat} {es : Array MapEntry} {seen : Array Nat} (hm : Mid w bm es clock seen W) (h : FileOk w bm es clock) {e : MapEntry} (he : e ∈ es.toList) (hs : seen.contains e.born = false) (hW1 : W1 = W ∨ W1 = W.drew)
    (hB : Below (putB W1 w.heap.size (.mapIter (some bm) clock (seen.push e.born) clock)).heap.size (putB W1 w.heap.size (.mapIter (some bm) clock (seen.push e.born) clock)) W3)
    {c : Array Value} {T : TypeId} {fr : Nat × Nat} {r : Option Addr} {n k : Nat} (hk : SecOk w (sB e) c T fr r n k) :
    Mid w bm es clock (seen.push e.born) (putB W3 (sB e) (.cells (sR w (sB e) ++ [Value.slice none 0 0]).toArray T fr)) := by
  have hm1 : Mid w bm es clock seen W1 := by rcases hW1 with rfl | rfl; exact hm; exact hm.drew
  have hlt := (Array.getElem?_eq_some_iff.1 hk.blk).1
  have hsz := hB.size
  have hbk := hB.block
  rw [putB_size] at hsz hbk
  have hos := hB.os
  have htp := hB.tape
  have hou := hB.output
  refine ⟨by rw [putB_size]; have := hm1.size; omega, hos.trans hm1.os, htp.trans hm1.tape, hou.trans hm1.output, ?_, fun j hj => ?_⟩
  · rw [putB_get, if_neg (by omega), hbk _ hm1.size, putB_get, if_pos rfl, if_pos hm1.size]
  · have hjj : j < W1.heap.size := by have := hm1.size; omega
    have hold : W3.heap[j]? = W1.heap[j]? := by rw [hbk j hjj, putB_get, if_neg (by omega)]
    by_cases hj2 : sB e = j
    · subst hj2
      have h1 : hit es (seen.push e.born) (sB e) = true := by
        unfold hit
        rw [List.any_eq_true]
        exact ⟨e, he, by simp⟩
      rw [putB_get, if_pos rfl, if_pos (by have := hm1.size; omega), h1, if_pos rfl]
      unfold finO
      rw [hk.blk]
    · have h1 : hit es (seen.push e.born) j = hit es seen j := by
        unfold hit
        rw [Bool.eq_iff_iff, List.any_eq_true, List.any_eq_true]
        constructor
        · rintro ⟨e', h2, h3⟩
          simp only [Bool.and_eq_true, decide_eq_true_eq, Array.contains_push, Bool.or_eq_true, beq_iff_eq] at h3
          obtain ⟨h3 | h3, h4⟩ := h3
          · exact ⟨e', h2, by simp only [Bool.and_eq_true, decide_eq_true_eq]; exact ⟨h3, h4⟩⟩
          · exfalso
            have hee : e' = e := by
              have a1 := find_born e es.toList h.nodup he
              have a2 := find_born e' es.toList h.nodup h2
              first | (rw [h3] at a2; rw [a1] at a2; exact (Option.some.inj a2).symm) | (rw [← h3] at a2; rw [a1] at a2; exact (Option.some.inj a2).symm)
            subst hee
            exact hj2 h4
        · rintro ⟨e', h2, h3⟩
          simp only [Bool.and_eq_true, decide_eq_true_eq] at h3
          exact ⟨e', h2, by simp only [Bool.and_eq_true, decide_eq_true_eq, Array.contains_push, Bool.or_eq_true]; exact ⟨.inl h3.1, h3.2⟩⟩
      rw [putB_get, if_neg hj2, hold, hm1.blk j hj, h1]
theorem Mid.stop {w W : World} {bm clock : Nat} {es : Array MapEntry} {seen : Array Nat} (hm : Mid w bm es clock seen W) (h0 : (leftOf es seen).size = 0) :
    ∀ j, j < w.heap.size → W.heap[j]? = if (es.toList.any fun e => decide (sB e = j)) then finO w j else w.heap[j]? := fun j hj => by
  rw [hm.blk j hj]
  have : hit es seen j = es.toList.any fun e => decide (sB e = j) := by
    have hall : ∀ e ∈ es.toList, seen.contains e.born = true := fun e he => by
      cases hc : seen.contains e.born with
      | true => rfl
      | false =>
        exfalso
        have : e ∈ (leftOf es seen).toList := by unfold leftOf; simp; exact ⟨by simpa using he, by simpa using hc⟩
        have h1 := List.length_pos_of_mem this
        simp at h1; omega
    unfold hit
    rw [Bool.eq_iff_iff, List.any_eq_true, List.any_eq_true]
    constructor
    · rintro ⟨e, h2, h3⟩
      rw [Bool.and_eq_true] at h3
      exact ⟨e, h2, h3.2⟩
    · rintro ⟨e, h2, h3⟩
      exact ⟨e, h2, by rw [Bool.and_eq_true]; exact ⟨hall e h2, h3⟩⟩
  rw [this]
theorem Mid.map {w W : World} {bm clock : Nat} {es : Array MapEntry} {seen : Array Nat} (hm : Mid w bm es clock seen W) (h : FileOk w bm es clock) : W.heap[bm]? = some (.map es clock) := by
  have hlt := (Array.getElem?_eq_some_iff.1 h.map).1
  rw [hm.blk bm hlt, h.no_map, if_neg (by simp)]
  exact h.map
theorem Mid.seenIs {w W : World} {bm clock : Nat} {es : Array MapEntry} {seen : Array Nat} (hm : Mid w bm es clock seen W) : W.iterSeen w.heap.size = seen := by
  unfold World.iterSeen; rw [hm.iter]
theorem left_less {es : Array MapEntry} {seen : Array Nat} {e : MapEntry} (h : e ∈ (leftOf es seen).toList) : (leftOf es (seen.push e.born)).size < (leftOf es seen).size := by
  have := mem_left h
  have h2 : ∀ p : MapEntry → Bool, (es.filter p).size = (es.toList.filter p).length := fun p => by rw [← Array.length_toList, Array.toList_filter]
  unfold leftOf
  rw [h2, h2]
  refine filter_lt _ _ (fun x hx => ?_) e (by simpa using this.2) (by simp) es.toList this.1
  simp at hx ⊢
  exact hx.1
/-- A sector's two stores. -/
theorem two_st (c : Array Value) (L : List Value) (hc : c.size = 257) (hL : L.length = 256) (v : Value) : (wrL (wrL c.toList 0 L) 256 [v]) = L ++ [v] := by
  unfold wrL
  simp [hL, hc]
theorem st_two {P : Program} {t : TypeId} {w : World} {b : Nat} {c : Array Value} {T : TypeId} {fr : Nat × Nat} {L : List Value} (h : w.heap[b]? = some (.cells c T fr)) (hu : FrU fr c.size) (hc : c.size = 257) (hL : L.length = 256) (hs : szOf P t = some 1) :
    (storeVar t ⟨b, 256, none⟩ (Value.slice none 0 0)).run P (putB w b (.cells (wrL c.toList 0 L).toArray T fr)) = .ok () (putB w b (.cells (L ++ [Value.slice none 0 0]).toArray T fr)) := by
  have hz : (wrL c.toList 0 L).toArray.size = 257 := by unfold wrL; simp [hL, hc]
  have hb : (putB w b (.cells (wrL c.toList 0 L).toArray T fr)).heap[b]? = some (.cells (wrL c.toList 0 L).toArray T fr) := by
    rw [putB_get, if_pos rfl, if_pos (Array.getElem?_eq_some_iff.1 h).1]
  rw [st_any (P := P) (t := t) (off := 256) (v := Value.slice none 0 0) hb (by rw [hz]; rw [hc] at hu; exact hu) hs rfl (by rw [hz]; omega) (by intro u hu; simp [Value.cells] at hu; subst hu; rfl), putB_putB]
  congr 4
  exact two_st c L hc hL _
end Go.Ev

/- A file made to last, as the evaluator knows it. -/
namespace Go.Ev
open Go.RowKit Go.MapKept
/-! ### What it computes -/
noncomputable def eidA (e : Ent) : Option Nat := match e.2.1 with
  | .ptr s off => cnd (Nat.beq off 0) (some s) none
  | _ => none
noncomputable def idsA (es : List Ent) : Option (List Nat) := List.rec (motive := fun _ => Option (List Nat)) (some []) (fun e _ ih => obind (eidA e) fun s => obind ih fun r => some (s :: r)) es
noncomputable def distA (l : List Nat) : Bool := List.rec (motive := fun _ => Bool) true (fun x t ih => cnd (hasN x t) false ih) l
/-- What the writes come to: none, or the block and the place of the last one. -/
noncomputable def wrsA (v : AV) : Option (Option (Nat × Nat × Nat)) := match v with
  | .nils => some none
  | .slice g off len _ => Nat.rec (motive := fun _ => Option (Option (Nat × Nat × Nat))) (some none) (fun n _ => some (some (g, off, n))) len
  | .slx g off len _ => Nat.rec (motive := fun _ => Option (Option (Nat × Nat × Nat))) (some none) (fun n _ => some (some (g, off, n))) len
  | _ => none
noncomputable def resA (H : Hp) (ids : List Nat) (r : AV) (p : Option (Nat × Nat × Nat)) : Option AV :=
  Option.rec (motive := fun _ => Option AV) (rowTake r 256) (fun q => cnd (notB (hasN q.1 ids)) (cnd (Nat.blt q.2.2 999999) (obind (cellsAt H q.1) fun rg => obind (rowDrop rg (Nat.add q.2.1 (Nat.mul q.2.2 256))) fun d => rowTake d 256) none) none) p
noncomputable def newA (H : Hp) (ids : List Nat) (s : Nat) : Option AO := obind (H.get s) fun o => match o with
  | .cells r e false => cnd (Nat.beq (rowSize r) 257) (obind (rowGet r 256) fun sl => obind (wrsA sl) fun p => obind (resA H ids r p) fun res => cnd (okRow res) (some (.cells (rowApp (.rone .nils .rnil) res) e false)) none) none
  | _ => none
noncomputable def allN (H : Hp) (ids : List Nat) (l : List Nat) : Option (Tr AO) := List.rec (motive := fun _ => Option (Tr AO)) (some H.tr) (fun s _ ih => obind (newA H ids s) fun o => obind ih fun t => some (t.put s (some o))) l
noncomputable def syM (H : Hp) (es : List Ent) (clock : Nat) : Option (AV × Hp) :=
  cnd (allA (fun b => Nat.blt b clock) es) (cnd (distA (lmp (fun e : Ent => e.2.2) es)) (obind (idsA es) fun ids => cnd (distA ids) (obind (allN H ids ids) fun t => some (.tup .rnil, ⟨H.next, t⟩)) none) none) none
noncomputable def syA (l : List AV) (H : Hp) : Option (AV × Hp) := match l with
  | [.ptr cid off] => cnd (Nat.beq off 0) (obind (cellsAt H cid) fun r => obind (rowGet r 0) fun v => match v with
    | .map m => obind (H.get m) fun o => match o with
      | .map es clock => syM H es clock
      | _ => none
    | _ => none) none
  | _ => none

/-! ### That it does -/
theorem F2.get_l {α β : Type} {r : α → β → Prop} : ∀ {a : List α} {b : List β}, F2 r a b → ∀ {k : Nat} {x : α}, a[k]? = some x → ∃ y, b[k]? = some y ∧ r x y
  | _, _, .nil, k, x, h => by simp at h
  | _, _, .cons h t, 0, x, hh => by
    simp only [List.getElem?_cons_zero, Option.some.injEq] at hh
    subst hh
    exact ⟨_, rfl, h⟩
  | _, _, .cons h t, k + 1, x, hh => by
    rw [List.getElem?_cons_succ] at hh
    obtain ⟨y, h1, h2⟩ := F2.get_l t hh
    exact ⟨y, by rw [List.getElem?_cons_succ]; exact h1, h2⟩
theorem distA_nodup : ∀ {l : List Nat}, distA l = true → l.Nodup
  | [], _ => List.nodup_nil
  | x :: t, h => by
    have h' : cnd (hasN x t) false (distA t) = true := h
    rw [cnd_eq, hasN_eq] at h'
    split at h'
    · cases h'
    · rename_i hc
      exact List.nodup_cons.2 ⟨by simpa using hc, distA_nodup h'⟩
theorem eidA_some {e : Ent} {s : Nat} (h : eidA e = some s) : e.2.1 = .ptr s 0 := by
  unfold eidA at h
  split at h
  · rename_i s' off he
    obtain ⟨h1, h2⟩ := cnd_some h
    cases h2
    rw [he, Nat.eq_of_beq_eq_true h1]
  · cases h
theorem idsA_get : ∀ {es : List Ent} {ids : List Nat}, idsA es = some ids → F2 (fun e s => eidA e = some s) es ids
  | [], _, h => by cases h; exact .nil
  | e :: es, ids, h => by
    have h' : (obind (eidA e) fun s => obind (idsA es) fun r => some (s :: r)) = some ids := h
    obtain ⟨s, h1, h2⟩ := obind_some h'
    obtain ⟨r, h3, h4⟩ := obind_some h2
    cases h4
    exact .cons h1 (idsA_get h3)
theorem allN_get {H : Hp} {ids : List Nat} : ∀ {l : List Nat} {t : Tr AO}, allN H ids l = some t → (∀ s ∈ l, ∃ o, newA H ids s = some o) ∧ ∀ id, t.get id = if id ∈ l then newA H ids id else H.tr.get id
  | [], t, h => by cases h; exact ⟨fun s hs => (by cases hs), fun id => (by rw [if_neg (by simp)])⟩
  | s :: l, t, h => by
    have h' : (obind (newA H ids s) fun o => obind (allN H ids l) fun t => some (t.put s (some o))) = some t := h
    obtain ⟨o, h1, h2⟩ := obind_some h'
    obtain ⟨t', h3, h4⟩ := obind_some h2
    cases h4
    obtain ⟨k1, k2⟩ := allN_get h3
    refine ⟨fun s' hs => ?_, fun id => ?_⟩
    · rcases List.mem_cons.1 hs with rfl | hs
      · exact ⟨o, h1⟩
      · exact k1 s' hs
    · rw [Tr.get_put]
      by_cases e : id = s
      · subst e
        rw [if_pos rfl, if_pos List.mem_cons_self, h1]
      · rw [if_neg e, k2]
        have : id ∈ s :: l ↔ id ∈ l := by simp [e]
        simp only [this]
/-- What is known of a slice of writes. -/
theorem wrsA_rel {E : Env} {v : AV} {c : Value} {p : Option (Nat × Nat × Nat)} (hv : V E v c) (h : wrsA v = some p) :
    (p = none ∧ ∃ r k, c = .slice r 0 k) ∨ ∃ g off n b z k, p = some (g, off, n) ∧ E g = some (b, z) ∧ c = .slice (some ⟨b, off, none⟩) (n + 1) k := by
  unfold wrsA at h
  split at h
  · cases h; exact .inl ⟨rfl, _, _, V_nils hv⟩
  · rename_i g off len cap
    obtain ⟨hle, b, z, h1, h2⟩ := V_slice hv
    cases len with
    | zero => cases h; exact .inl ⟨rfl, _, _, h2⟩
    | succ n => cases h; exact .inr ⟨g, off, n, b, z, _, rfl, h1, h2⟩
  · rename_i g off len size
    obtain ⟨b, z, o', cc, h1, h2, h3, h4⟩ := V_slx hv
    cases len with
    | zero => cases h; exact .inl ⟨rfl, _, _, h2⟩
    | succ n =>
      cases h
      rcases h4 with ⟨rfl, _⟩ | ⟨h4, _⟩
      · exact .inr ⟨g, _, n, b, z, _, rfl, h1, h2⟩
      · cases h4
  · cases h
theorem arith1 {off n x y : Nat} (h1 : off + n * 256 ≤ x) (h2 : 256 ≤ x - (off + n * 256)) (h3 : x ≤ y) : off + (n + 1) * 256 ≤ y := by
  rw [Nat.succ_mul]
  generalize n * 256 = m at h1 h2 ⊢
  exact Nat.le_trans (Nat.le_trans (Nat.le_of_eq (Nat.add_assoc off m 256).symm) (Nat.le_trans (Nat.add_le_add_left h2 _) (Nat.le_of_eq (Nat.add_sub_of_le h1)))) h3
theorem newA_rel {E : Env} {H : Hp} {w : World} {ids : List Nat} {s b z : Nat} {o : AO} (hH : HR E H.get w) (he : E s = some (b, z)) (h : newA H ids s = some o) :
    ∃ c T fr r n k, SecOk w b c T fr r n k ∧ ORel E z o (.cells (sR w b ++ [Value.slice none 0 0]).toArray T fr) ∧ (∀ a n' k', c[256]? = some (.slice (some a) n' k') → n' = 0 ∨ ∃ g og zg, g ∉ ids ∧ H.get g = some og ∧ E g = some (a.block, zg)) := by
  unfold newA at h
  obtain ⟨o1, h1, h2⟩ := obind_some h
  split at h2
  · rename_i r e
    obtain ⟨h3, h4⟩ := cnd_some h2
    obtain ⟨sl, h5, h6⟩ := obind_some h4
    obtain ⟨p, h7, h8⟩ := obind_some h6
    obtain ⟨res, h9, h10⟩ := obind_some h8
    obtain ⟨h11, h12⟩ := cnd_some h10
    cases h12
    obtain ⟨b', z', x, g1, g2, c, fr, rfl, hz, hu, l, x', hc, hr, hx⟩ := hH.obj _ _ h1
    rw [he] at g1; injection g1 with g1; injection g1 with g1 g1'; subst g1; subst g1'
    rw [hx rfl, List.append_nil] at hc
    have hsz : c.size = 257 := by
      have := rowSize_rel hr
      rw [← Array.length_toList, hc, this]
      exact Nat.eq_of_beq_eq_true h3
    obtain ⟨cv, k1, k2⟩ := rowGet_rel hr h5
    have hcv : c[256]? = some cv := by rw [← Array.getElem?_toList, hc]; exact k1
    have hC := sC_of g2
    have key : ∀ (r0 : Option Addr) (n k : Nat), cv = .slice r0 n k → n < 1000000 → (n = 0 ∨ ∃ g off cg eg frg, r0 = some ⟨g, off, none⟩ ∧ w.heap[g]? = some (.cells cg eg frg) ∧ off + n * 256 ≤ cg.size) → R E res (sR w b) →
        (∀ a n' k', c[256]? = some (.slice (some a) n' k') → n' = 0 ∨ ∃ g og zg, g ∉ ids ∧ H.get g = some og ∧ E g = some (a.block, zg)) →
        ∃ c' T fr r n k, SecOk w b c' T fr r n k ∧ ORel E z (.cells (rowApp (.rone .nils .rnil) res) e false) (.cells (sR w b ++ [Value.slice none 0 0]).toArray T fr) ∧ (∀ a n' k', c'[256]? = some (.slice (some a) n' k') → n' = 0 ∨ ∃ g og zg, g ∉ ids ∧ H.get g = some og ∧ E g = some (a.block, zg)) := by
      intro r0 n k e0 hn hrow hres hap
      subst e0
      have hsec : SecOk w b c e fr r0 n k := ⟨g2, hu, hsz, hcv, hn, hrow, okRow_rel hres h11⟩
      refine ⟨c, e, fr, r0, n, k, hsec, ?_, hap⟩
      have hl := hsec.len
      refine ⟨_, fr, rfl, ?_, ?_, _, [], by rw [List.append_nil], ?_, fun _ => rfl⟩
      · simp [hl]; omega
      · have : (sR w b ++ [Value.slice none 0 0]).toArray.size = c.size := by simp [hl, hsz]
        rw [this]; exact hu
      · exact rowApp_rel (s := .rone .nils .rnil) (l2 := [Value.slice none 0 0]) ⟨_, [], rfl, rfl, rfl⟩ hres
    rcases wrsA_rel k2 h7 with ⟨rfl, r0, k, e0⟩ | ⟨g, off, n, bg, zg, k, rfl, q1, e0⟩
    · have h9' : rowTake r 256 = some res := h9
      refine key r0 0 k e0 (by omega) (.inl rfl) ?_ ?_
      · have hR : sR w b = c.toList.take 256 := by
          unfold sR; rw [hC, hcv, e0]; cases r0 <;> rfl
        rw [hR, hc]
        exact (rowTake_rel hr h9').1
      · intro a n' k' hh
        rw [hcv, e0] at hh
        injection hh with hh; injection hh with _ hh _
        exact .inl hh.symm
    · have h9' : cnd (notB (hasN g ids)) (cnd (Nat.blt n 999999) (obind (cellsAt H g) fun rg => obind (rowDrop rg (Nat.add off (Nat.mul n 256))) fun d => rowTake d 256) none) none = some res := h9
      obtain ⟨m1, m2⟩ := cnd_some h9'
      obtain ⟨m3, m4⟩ := cnd_some m2
      obtain ⟨rg, m5, m6⟩ := obind_some m4
      obtain ⟨d, m7, m8⟩ := obind_some m6
      obtain ⟨eg, xg, m9⟩ := cellsAt_some m5
      obtain ⟨bg', zg', xo, u1, u2, cg, frg, rfl, ug, uu, lg, xg', uc, ur, _⟩ := hH.obj _ _ m9
      rw [q1] at u1; injection u1 with u1; injection u1 with u1 u1'; subst u1; subst u1'
      obtain ⟨v1, v2⟩ := rowDrop_rel ur m7
      obtain ⟨v3, v4⟩ := rowTake_rel v1 m8
      have v2' : off + n * 256 ≤ lg.length := v2
      rw [List.length_drop] at v4
      have v4' : 256 ≤ lg.length - (off + n * 256) := v4
      clear v2 v4
      have hlg : lg.length ≤ cg.size := by rw [← Array.length_toList, uc, List.length_append]; omega
      have hn : n < 999999 := by simpa [Nat.blt_eq] using m3
      have hn1 : n + 1 < 1000000 := by omega
      have hle1 : off + (n + 1) * 256 ≤ cg.size := arith1 v2' v4' hlg
      refine key (some ⟨bg, off, none⟩) (n + 1) k e0 hn1 (.inr ⟨bg, off, cg, eg, frg, rfl, u2, hle1⟩) ?_ ?_
      · have hR : sR w b = (cg.toList.drop (off + n * 256)).take 256 := by
          unfold sR; rw [hC, hcv, e0]
          show ((sC w bg).toList.drop (off + n * 256)).take 256 = _
          rw [sC_of u2]
        rw [hR, uc, List.drop_append_of_le_length v2', List.take_append_of_le_length (by rw [List.length_drop]; exact v4')]
        exact v3
      · intro a n' k' hh
        rw [hcv, e0] at hh
        injection hh with hh; injection hh with hh _ _
        injection hh with hh
        subst hh
        refine .inr ⟨g, _, zg, ?_, m9, q1⟩
        rw [hasN_eq] at m1
        intro hm
        have : ids.contains g = true := by simpa using hm
        rw [this] at m1
        cases m1
  · cases h2
theorem born_list {E : Env} : ∀ {es : List Ent} {cs : List MapEntry}, F2 (ERel E) es cs → cs.map (·.born) = lmp (fun e : Ent => e.2.2) es
  | [], [], .nil => rfl
  | e :: es, c :: cs, .cons h t => by
    show c.born :: cs.map (·.born) = e.2.2 :: lmp (fun e : Ent => e.2.2) es
    rw [born_list t, h.2.2]
theorem nodup_idx {l : List Nat} (h : l.Nodup) {i j x : Nat} (h1 : l[i]? = some x) (h2 : l[j]? = some x) : i = j := by
  exact (List.getElem?_inj (List.getElem?_eq_some_iff.1 h1).1 h).1 (h1.trans h2.symm)
theorem sy_known {P : Program} {f : FuncId} {base : Nat} {w0 : World}
    (hs : ∀ (bf bm : Nat) (cf : Array Value) (ef : TypeId) (frf : Nat × Nat) (es : Array MapEntry) (clock : Nat) (w : World), w.heap[bf]? = some (.cells cf ef frf) → cf[0]? = some (.map (some bm)) → FileOk w bm es clock →
      Calls P f #[.pointer (some ⟨bf, 0, none⟩)] w fun e w' => e = .returned (.tuple #[]) ∧ ∃ seen, Mid w bm es clock seen w' ∧ (leftOf es seen).size = 0) :
    ∀ l E H w (args : Array Value) r, syA l H = some r → F2 (V E) l args.toList → Inv E H w base w0 → Calls P f args w (RetOk E H w r) := by
  intro l E H w args r h hl hI
  have hH := hI.hr
  unfold syA at h
  split at h
  · rename_i cid off
    obtain ⟨h0, h1⟩ := cnd_some h
    obtain rfl : off = 0 := Nat.eq_of_beq_eq_true h0
    obtain ⟨rc, h2, h3⟩ := obind_some h1
    obtain ⟨v, h4, h5⟩ := obind_some h3
    obtain ⟨ec, xc, h6⟩ := cellsAt_some h2
    split at h5
    · rename_i m
      obtain ⟨o, h7, h8⟩ := obind_some h5
      split at h8
      · rename_i es clock
        unfold syM at h8
        obtain ⟨a1, a2⟩ := cnd_some h8
        obtain ⟨a3, a4⟩ := cnd_some a2
        obtain ⟨ids, a5, a6⟩ := obind_some a4
        obtain ⟨a7, a8⟩ := cnd_some a6
        obtain ⟨t, a9, a10⟩ := obind_some a8
        cases a10
        cases args with
        | mk al =>
        cases hl with
        | cons hx ht =>
        cases ht
        obtain ⟨bf, zf, k1, rfl⟩ := V_ptr hx
        obtain ⟨bf', zf', xf, k2, k3, cf, frf, rfl, kz, ku, lf, xf', kc, kr, _⟩ := hH.obj _ _ h6
        rw [k1] at k2; injection k2 with k2; injection k2 with k2 k2'; subst k2; subst k2'
        obtain ⟨cv, k4, k5⟩ := rowGet_rel kr h4
        obtain ⟨bm, zm, k6, rfl⟩ := V_map k5
        have hf0 : cf[0]? = some (.map (some bm)) := by
          rw [← Array.getElem?_toList, kc, List.getElem?_append_left (List.getElem?_eq_some_iff.1 k4).1]; exact k4
        obtain ⟨bm', zm', xm, j1, j2, cs, rfl, j3⟩ := hH.obj _ _ h7
        rw [k6] at j1; injection j1 with j1; injection j1 with j1 j1'; subst j1; subst j1'
        have j3' : F2 (ERel E) es cs.toList := j3
        have hids := idsA_get a5
        have hnd := distA_nodup a7
        obtain ⟨n1, n2⟩ := allN_get a9
        -- an entry, its number, its block
        have look : ∀ e ∈ cs.toList, ∃ (i : Nat) (s : Nat) (z : Nat), cs.toList[i]? = some e ∧ ids[i]? = some s ∧ E s = some (sB e, z) ∧ e.val = .pointer (some ⟨sB e, 0, none⟩) := by
          intro e he
          obtain ⟨i, hi, hie⟩ := List.getElem_of_mem he
          have hi' : cs.toList[i]? = some e := by rw [List.getElem?_eq_getElem hi, hie]
          obtain ⟨x, y1, y2⟩ := j3'.get_r hi'
          obtain ⟨s, y3, y4⟩ := hids.get_l y1
          have y5 := y2.2.1
          rw [eidA_some y4] at y5
          obtain ⟨b, z, y6, y7⟩ := V_ptr y5
          have y8 : sB e = b := by unfold sB; rw [y7]
          exact ⟨i, s, z, hi', y3, by rw [y8]; exact y6, by rw [y8]; exact y7⟩
        have back : ∀ s ∈ ids, ∃ e ∈ cs.toList, ∃ z, E s = some (sB e, z) := by
          intro s hs
          obtain ⟨i, hi, hie⟩ := List.getElem_of_mem hs
          have hi' : ids[i]? = some s := by rw [List.getElem?_eq_getElem hi, hie]
          obtain ⟨x, y1, y2⟩ := hids.get_r hi'
          obtain ⟨e, y3, y4⟩ := j3'.get_l y1
          have y5 := y4.2.1
          rw [eidA_some y2] at y5
          obtain ⟨b, z, y6, y7⟩ := V_ptr y5
          have y8 : sB e = b := by unfold sB; rw [y7]
          exact ⟨e, List.mem_of_getElem? y3, z, by rw [y8]; exact y6⟩
        have live : ∀ s ∈ ids, ∃ o, H.get s = some o := fun s hs => by
          obtain ⟨o, ho⟩ := n1 s hs
          unfold newA at ho
          obtain ⟨o1, q1, _⟩ := obind_some ho
          exact ⟨o1, q1⟩
        have hfile : FileOk w bm cs clock := by
          refine ⟨j2, ?_, ?_, fun e he => ?_, fun e he => ?_, fun e he e' he' hb => ?_, fun e he e' he' a n k hh => ?_⟩
          · have := allA_rel (f := fun b => Nat.blt b clock) j3'
            rw [a1] at this
            intro e he
            have := List.all_eq_true.1 this.symm e he
            simpa [Nat.blt_eq] using this
          · rw [born_list j3']; exact distA_nodup a3
          · obtain ⟨i, s, z, _, _, _, q⟩ := look e he; exact q
          · obtain ⟨i, s, z, q1, q2, q3, _⟩ := look e he
            obtain ⟨o, ho⟩ := n1 s (List.mem_of_getElem? q2)
            obtain ⟨c, T, fr, r, n, k, q4, _⟩ := newA_rel hH q3 ho
            exact ⟨c, T, fr, r, n, k, q4⟩
          · obtain ⟨i, s, z, q1, q2, q3, _⟩ := look e he
            obtain ⟨i', s', z', q1', q2', q3', _⟩ := look e' he'
            obtain ⟨o1, p1⟩ := live s (List.mem_of_getElem? q2)
            obtain ⟨o2, p2⟩ := live s' (List.mem_of_getElem? q2')
            rw [← hb] at q3'
            have hss : s = s' := hH.inj s s' o1 o2 (sB e) z z' p1 p2 q3 q3'
            subst hss
            have hii := nodup_idx hnd q2 q2'
            subst hii
            rw [q1] at q1'; exact Option.some.inj q1'
          · obtain ⟨i, s, z, q1, q2, q3, _⟩ := look e he
            obtain ⟨o, ho⟩ := n1 s (List.mem_of_getElem? q2)
            obtain ⟨c, T, fr, r, n', k', q4, _, q5⟩ := newA_rel hH q3 ho
            rw [sC_of q4.blk] at hh
            rcases q5 a n k hh with q6 | ⟨g, og, zg, q6, q7, q8⟩
            · exact .inl q6
            · right
              intro hb
              obtain ⟨i', s', z', q1', q2', q3', _⟩ := look e' he'
              obtain ⟨o2, p2⟩ := live s' (List.mem_of_getElem? q2')
              rw [← hb] at q3'
              have : g = s' := hH.inj g s' og o2 a.block zg z' q7 p2 q8 q3'
              subst this
              exact q6 (List.mem_of_getElem? q2')
        refine (hs bf bm cf ec frf cs clock w k3 hf0 hfile).mono ?_
        rintro e w' ⟨rfl, seen, hmid, hend⟩
        have hfin := hmid.stop hend
        have hitOf : ∀ s b z, s ∈ ids → E s = some (b, z) → (cs.toList.any fun e => decide (sB e = b)) = true := fun s b z hs hE => by
          obtain ⟨e, he, z', q⟩ := back s hs
          rw [hE] at q; injection q with q; injection q with q _
          rw [List.any_eq_true]
          exact ⟨e, he, by simp [q]⟩
        have noHit : ∀ id o b z, H.get id = some o → id ∉ ids → E id = some (b, z) → (cs.toList.any fun e => decide (sB e = b)) = false := fun id o b z ho hid hE => by
          rw [List.any_eq_false]
          intro e he hh
          have hh' : sB e = b := by simpa using hh
          obtain ⟨i, s, z', _, q2, q3, _⟩ := look e he
          obtain ⟨o2, p2⟩ := live s (List.mem_of_getElem? q2)
          rw [hh'] at q3
          have : id = s := hH.inj id s o o2 b z z' ho p2 hE q3
          subst this
          exact hid (List.mem_of_getElem? q2)
        have liveNew : ∀ id o, t.get id = some o → ∃ o0, H.get id = some o0 := fun id o ho => by
          rw [n2] at ho
          split at ho
          · rename_i hm; exact live id hm
          · exact ⟨o, ho⟩
        refine ⟨E, _, rfl, ⟨Env.le_refl E, fun _ _ h => .inl h, Nat.le_refl _, ⟨fun id o ho => ?_, fun id id' o o' b z z' g1 g2 g3 g4 => ?_⟩, hmid.os, hmid.tape, hmid.output, Nat.le_of_lt hmid.size, fun b hb hno => ?_, fun id o b z g1 g2 => ?_⟩, ?_⟩
        · have ho' : t.get id = some o := ho
          rw [n2] at ho'
          split at ho'
          · rename_i hm
            obtain ⟨o0, p0⟩ := live id hm
            obtain ⟨b, z, x, p1, p2, _⟩ := hH.obj id o0 p0
            obtain ⟨c, T, fr, r, n, k, q4, q5, _⟩ := newA_rel hH p1 ho'
            have hlt := (Array.getElem?_eq_some_iff.1 p2).1
            refine ⟨b, z, _, p1, ?_, q5⟩
            rw [hfin b hlt, hitOf id b z hm p1, if_pos rfl]
            unfold finO
            rw [q4.blk]
          · rename_i hm
            obtain ⟨b, z, x, p1, p2, p3⟩ := hH.obj id o ho'
            have hlt := (Array.getElem?_eq_some_iff.1 p2).1
            refine ⟨b, z, x, p1, ?_, p3⟩
            rw [hfin b hlt, noHit id o b z ho' hm p1]
            exact p2
        · obtain ⟨o1, p1⟩ := liveNew id o g1
          obtain ⟨o2, p2⟩ := liveNew id' o' g2
          exact hH.inj id id' o1 o2 b z z' p1 p2 g3 g4
        · rw [hfin b hb]
          have : (cs.toList.any fun e => decide (sB e = b)) = false := by
            rw [List.any_eq_false]
            intro e he hh
            have hh' : sB e = b := by simpa using hh
            obtain ⟨i, s, z', _, q2, q3, _⟩ := look e he
            obtain ⟨o2, p2⟩ := live s (List.mem_of_getElem? q2)
            rw [hh'] at q3
            exact hno s o2 z' p2 q3
          rw [this]; rfl
        · obtain ⟨o1, p1⟩ := liveNew id o g1
          exact .inr ⟨id, o1, z, p1, g2⟩
        · exact ⟨#[], rfl, rfl⟩
      · cases h8
    · cases h5
  · cases h
end Go.Ev
