/- What a file's sectors become when the file is made to last: loads and stores of parts of a block, and a step over a map. -/
import Derived.Test.YtjdjpjebbdcfeaaGreatDoorEqE
import Derived.WalkKit
namespace Go.Ev
open Go Go.RowKit
section
variable {P : Program} {ops : Array Oper} {rest : List Oper} {o : Oper} {a : Act} {w : World} {Q : Exit → Act → World → Prop}
/-- One operation whose run is known. -/
theorem wl_run (hg : o.guard = none) (v : Value) (w' : World) (hr : (execOp a.eval o).run P w = .ok (.value v) w') (h : wpList P ops Q rest (a.put o.dst v) w') : wpList P ops Q (o :: rest) a w := by
  refine wpList_plain hg fun K hK => ?_
  unfold Oper.wp
  rw [hr, Oper.upon_value]
  exact hK _ _ h
theorem wl_skip (hg : o.guard = none) (w' : World) (hr : (execOp a.eval o).run P w = .ok .skip w') (h : wpList P ops Q rest (a.put o.dst undef) w') : wpList P ops Q (o :: rest) a w := by
  refine wpList_plain hg fun K hK => ?_
  unfold Oper.wp
  rw [hr, Oper.upon_skip]
  exact hK _ _ h
theorem wl_load (hg : o.guard = none) (t : TypeId) (x : Operand) (hop : o.op = .load t x) (ad : Addr) (hx : a.eval x = .pointer (some ad)) (v : Value) (hr : (loadVar t ad).run P w = .ok v w) (h : wpList P ops Q rest (a.put o.dst v) w) : wpList P ops Q (o :: rest) a w := by
  refine wl_run hg v w ?_ h
  simp [execOp, hop, hx, Instr.loadAt, Instr.sureAddr, hr]
theorem wl_store (hg : o.guard = none) (t : TypeId) (x y : Operand) (hop : o.op = .store t x y) (ad : Addr) (hx : a.eval x = .pointer (some ad)) (v : Value) (hy : a.eval y = v) (w' : World) (hr : (storeVar t ad v).run P w = .ok () w') (h : wpList P ops Q rest (a.put o.dst undef) w') : wpList P ops Q (o :: rest) a w := by
  refine wl_skip hg w' ?_ h
  simp [execOp, hop, hx, hy, Instr.storeAt, Instr.sureAddr, hr]
theorem wl_alloc (hg : o.guard = none) (t : TypeId) (hop : o.op = .alloc t) (ob : Obj) (hr : (Instr.alloc t true (.tuple #[])).run P w = .ok (.pointer (some ⟨w.heap.size, 0, none⟩)) (w.alloc ob)) (h : wpList P ops Q rest (a.put o.dst (.pointer (some ⟨w.heap.size, 0, none⟩))) (w.alloc ob)) : wpList P ops Q (o :: rest) a w := by
  refine wl_run hg _ _ ?_ h
  simp [execOp, hop, hr]
theorem ld_agg {t : TypeId} {b off n : Nat} {c : Array Value} {e : TypeId} {fr : Nat × Nat} (h : w.heap[b]? = some (.cells c e fr)) (ha : isAggB P t = some true) (hs : szOf P t = some n) (hn : off + n ≤ c.size) :
    (loadVar t ⟨b, off, none⟩).run P w = .ok (.agg ((c.toList.drop off).take n).toArray) w := by
  simp only [loadVar, Sem.run_bind, run_isAgg' ha, Result.andThen_ok, if_true, run_sizeOf' hs, run_loadCells P h hn, Sem.run_pure]
theorem ld_one {t : TypeId} {b off : Nat} {c : Array Value} {e : TypeId} {fr : Nat × Nat} {v : Value} (h : w.heap[b]? = some (.cells c e fr)) (ha : isAggB P t = some false) (hv : c[off]? = some v) :
    (loadVar t ⟨b, off, none⟩).run P w = .ok v w := by
  simp [loadVar, run_isAgg' ha, cellAt h, hv]
theorem st_any {t : TypeId} {b off n : Nat} {c : Array Value} {e : TypeId} {fr : Nat × Nat} {v : Value} (h : w.heap[b]? = some (.cells c e fr)) (hu : FrU fr c.size) (hs : szOf P t = some n) (hc : v.cells.size = n) (hn : off + n ≤ c.size) (h1 : ∀ u ∈ v.cells.toList, u.oneCell' = true) :
    (storeVar t ⟨b, off, none⟩ v).run P w = .ok () (putB w b (.cells (wrL c.toList off v.cells.toList).toArray e fr)) := by
  have hst := run_storeCells P (b := b) (off := off) (e := e) (fr := fr) v.cells.toList 0 h hu (by simp [hc]; omega) h1
  simp only [storeVar, Sem.run_bind, run_sizeOf' hs, Result.andThen_ok, hc, ne_eq, not_true_eq_false, if_false]
  simpa using hst
theorem al_run {t : TypeId} {i : TypeInfo} {z : Value} (hi : P.info? t = some i) (hz : i.zero = some z) : (Instr.alloc t true (.tuple #[])).run P w = .ok (.pointer (some ⟨w.heap.size, 0, none⟩)) (w.alloc (.cells z.cells t)) := by
  simp [Instr.alloc, zeroValue, typeInfo, hi, hz, newVar, newRow]
theorem fa_run {s : TypeId} {f k b off : Nat} (h : fieldOff P s f = some k) : (Instr.fieldAt s (.pointer (some ⟨b, off, none⟩)) f).run P w = .ok (.pointer (some ⟨b, off + k, none⟩)) w := by
  unfold fieldOff at h
  obtain ⟨u, hu, h3⟩ := obind_some h
  cases u <;> simp only at h3 <;> try (cases h3; done)
  rename_i fs
  obtain ⟨fd, hf, h4⟩ := obind_some h3
  obtain ⟨n, hn, h5⟩ := obind_some h4
  cases n with
  | zero => cases h5
  | succ n =>
    cases h5
    simp [Instr.fieldAt, run_underlying hu, hf, Instr.sureAddr, fieldPlace, run_sizeOf' hn, add_off]
theorem ia_run {t e : TypeId} {b off len cap z i : Nat} (hu : P.underlying t = some (.slice e)) (hz : szOf P e = some z) (hi : i < len) :
    (Instr.indexAt t (.slice (some ⟨b, off, none⟩) len cap) (.int .i64 (i : Int))).run P w = .ok (.pointer (some ⟨b, off + i * z, none⟩)) w := by
  simp [Instr.indexAt, asIntOf, run_underlying hu, hi, run_sizeOf' hz, add_off]
theorem wl_fa (hg : o.guard = none) (s : TypeId) (x : Operand) (f : Nat) (hop : o.op = .fieldAddr s x f) (b off k : Nat) (hx : a.eval x = .pointer (some ⟨b, off, none⟩)) (hk : fieldOff P s f = some k) (h : wpList P ops Q rest (a.put o.dst (.pointer (some ⟨b, off + k, none⟩))) w) : wpList P ops Q (o :: rest) a w := by
  refine wl_run hg _ w ?_ h
  simp [execOp, hop, hx, fa_run hk]
/-- A row of cells stored over a whole block. -/
theorem wl_whole (hg : o.guard = none) (t : TypeId) (x y : Operand) (hop : o.op = .store t x y) (N : Nat) (hx : a.eval x = .pointer (some ⟨N, 0, none⟩)) (L : List Value) (hy : a.eval y = .agg L.toArray) (n : Nat) (zs : Array Value) (T : TypeId)
    (HN : w.heap[N]? = some (.cells zs T)) (hz : zs.size = n) (hL : L.length = n) (hs : szOf P t = some n) (h1 : ∀ u ∈ L, u.oneCell' = true)
    (h : wpList P ops Q rest (a.put o.dst undef) (putB w N (.cells L.toArray T))) : wpList P ops Q (o :: rest) a w := by
  refine wl_store hg t x y hop _ hx _ hy _ ?_ h
  have e := st_any (P := P) (t := t) (off := 0) (v := .agg L.toArray) HN (.inl rfl) hs (by simp [Value.cells, hL]) (by omega) (fun u hu => h1 u (by simpa [Value.cells] using hu))
  rw [e]
  congr 3
  show (wrL zs.toList 0 L).toArray = L.toArray
  unfold wrL
  simp [hz, hL]
theorem wl_ia (hg : o.guard = none) (t : TypeId) (x y : Operand) (hop : o.op = .indexAddr t x y) (e b off len cap z i : Nat) (hx : a.eval x = .slice (some ⟨b, off, none⟩) len cap) (hy : a.eval y = .int .i64 (i : Int)) (hu : P.underlying t = some (.slice e)) (hz : szOf P e = some z) (hi : i < len)
    (h : wpList P ops Q rest (a.put o.dst (.pointer (some ⟨b, off + i * z, none⟩))) w) : wpList P ops Q (o :: rest) a w := by
  refine wl_run hg _ w ?_ h
  simp [execOp, hop, hx, hy, ia_run hu hz hi]
end
theorem res_cell {P : Program} {fn : Func} {p : Tmp} {ty : TypeId} (h : fn.results = #[.cell p ty]) (tmps : Array Value) (w : World) (N T n : Nat) (L : List Value) (hp : tmps.getD p undef = .pointer (some ⟨N, 0, none⟩))
    (HN : w.heap[N]? = some (.cells L.toArray T)) (ha : isAggB P ty = some true) (hs : szOf P ty = some n) (hL : L.length = n) : (results fn tmps).run P w = .ok (.agg L.toArray) w := by
  have hp' : tmps[p]?.getD undef = .pointer (some ⟨N, 0, none⟩) := by simpa using hp
  have e := ld_agg (P := P) (t := ty) (off := 0) HN ha hs (by simp [hL])
  have e2 : ((L.drop 0).take n) = L := by rw [List.drop_zero, ← hL, List.take_length]
  rw [show L.toArray.toList = L from rfl, e2] at e
  simp [results, h, hp', asAddr, e]
theorem below_putB {B N : Nat} {w W : World} (h : Below B w W) (hN : B ≤ N) (x : Obj) : Below B w (putB W N x) :=
  h.trans ⟨rfl, rfl, rfl, by rw [putB_size]; exact Nat.le_refl _, fun k hk => by rw [putB_get, if_neg (by omega)]⟩
/-- A block's cells. -/
def sC (w : World) (b : Nat) : Array Value := match w.heap[b]? with
  | some (Obj.cells c _ _) => c
  | _ => #[]
/-- What a sector has. -/
def sR (w : World) (b : Nat) : List Value := match (sC w b)[256]? with
  | some (Value.slice (some a) (n + 1) _) => ((sC w a.block).toList.drop (a.off + n * 256)).take 256
  | _ => (sC w b).toList.take 256
theorem sC_of {w : World} {b : Nat} {c : Array Value} {e : TypeId} {fr : Nat × Nat} (h : w.heap[b]? = some (.cells c e fr)) : sC w b = c := by
  unfold sC; rw [h]
structure SecOk (w : World) (b : Nat) (c : Array Value) (T : TypeId) (fr : Nat × Nat) (r : Option Addr) (n k : Nat) : Prop where
  blk : w.heap[b]? = some (.cells c T fr)
  free : FrU fr c.size
  size : c.size = 257
  wr : c[256]? = some (.slice r n k)
  small : n < 1000000
  row : n = 0 ∨ ∃ g off cg eg frg, r = some ⟨g, off, none⟩ ∧ w.heap[g]? = some (.cells cg eg frg) ∧ off + n * 256 ≤ cg.size
  one : ∀ v ∈ sR w b, v.oneCell' = true
end Go.Ev
