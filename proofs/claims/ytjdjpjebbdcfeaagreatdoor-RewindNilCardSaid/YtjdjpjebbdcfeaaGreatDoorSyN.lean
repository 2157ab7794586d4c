/- A step over a map that stands anywhere, and its entry. -/
import Derived.Test.YtjdjpjebbdcfeaaGreatDoorSyP
import Derived.Laws.IdiomRangeMap
namespace Go.Ev
open Go Go.RowKit
theorem next_any {P : Program} (w : World) (ty : TypeId) (r bm since c0 : Nat) (seen : Array Nat) (es : Array MapEntry) (clock : Nat) (hr : w.heap[r]? = some (.mapIter (some bm) since seen c0)) (hb : w.heap[bm]? = some (.map es clock)) (hold : ∀ x ∈ es.toList, x.born < since) (hsc : since ≤ c0) :
    ((leftOf es seen).size = 0 ∧ (Instr.next (.pointer (some ⟨r, 0, none⟩)) false ty).run P w = .ok (.tuple #[.bool false]) w) ∨
    ∃ e ∈ (leftOf es seen).toList, ∃ w1 : World, (w1 = w ∨ w1 = w.drew) ∧ (Instr.next (.pointer (some ⟨r, 0, none⟩)) false ty).run P w = .ok (.tuple #[.bool true, e.key, e.val]) (putB w1 r (.mapIter (some bm) since (seen.push e.born) clock)) := by
  simp only [Instr.next, getObj, Sem.run_bind, Sem.run, hr, hb, Result.andThen, next_test_false seen es since c0 hold hsc, Bool.false_eq_true, if_false]
  unfold leftOf
  have hmem : ∀ x ∈ (Array.filter (fun e => !seen.contains e.born) es).toList, x.born < since := fun x hx => hold x (by simp at hx ⊢; exact hx.1)
  generalize Array.filter (fun e => !seen.contains e.born) es = L at hmem ⊢
  have e1 : L.filter (fun x => decide (x.born < since)) = L := Array.filter_eq_self.2 (fun x hx => by simpa using hmem x (by simpa using hx))
  have e2 : L.filter (fun x => decide (x.born ≥ since)) = #[] := by
    rw [Array.filter_eq_empty_iff]
    intro x hx
    have := hmem x (by simpa using hx)
    simp
    omega
  simp only [e1, e2, Array.append_empty]
  by_cases h0 : L.size = 0
  · left
    have : L = #[] := Array.eq_empty_of_size_eq_zero h0
    subst this
    refine ⟨rfl, ?_⟩
    simp [choose, Sem.run, Question.forced]
  · right
    have hne : L.isEmpty = false := by simp [Array.isEmpty, h0]
    simp only [hne, Bool.false_eq_true, if_false, Array.empty_append, Array.size_map]
    obtain ⟨j, w1, hj, hal, hrun⟩ := choose_next (P := P) (w := w) L.size (by omega)
    refine ⟨L[j], by simp, w1, hal, ?_⟩
    have hr1 : w1.heap[r]? = some (.mapIter (some bm) since seen c0) := by rcases hal with rfl | rfl <;> exact hr
    have hset : ∀ (o' : Obj), (setObj r o').run P w1 = .ok () (putB w1 r o') := fun o' => by
      simp [setObj, Sem.run, hr1, putB]
    simp only [hrun, Array.getElem?_map, Array.getElem?_eq_getElem hj, Option.map_some, Sem.run_bind, hset, Result.andThen]
    rfl
theorem entry_any {P : Program} (w : World) (r bm since : Nat) (seen : Array Nat) (es : Array MapEntry) (clock : Nat) (e : MapEntry) (hr : w.heap[r]? = some (.mapIter (some bm) since (seen.push e.born) clock)) (hb : w.heap[bm]? = some (.map es clock)) (he : e ∈ es.toList) (hn : (es.toList.map (·.born)).Nodup) :
    (Instr.entry (.pointer (some ⟨r, 0, none⟩))).run P w = .ok (.tuple #[e.key, e.val]) w := by
  have hf : es.find? (·.born == e.born) = some e := by rw [← Array.find?_toList]; exact find_born e es.toList hn he
  simp only [Instr.entry, getObj, Sem.run_bind, Sem.run, hr, hb, Result.andThen, Array.back?_push, bne_self_eq_false, Bool.false_eq_true, if_false, hf]
  rfl
theorem range_any {P : Program} (w : World) (t k e : TypeId) (bm : Nat) (es : Array MapEntry) (clock : Nat) (ht : P.underlying t = some (.map k e)) (hb : w.heap[bm]? = some (.map es clock)) :
    (Instr.range t (.map (some bm))).run P w = .ok (.pointer (some ⟨w.heap.size, 0, none⟩)) (w.alloc (.mapIter (some bm) clock #[] clock)) := run_range_map w t k e bm es clock ht hb
/-- What a step has handed out. -/
structure Came (es : Array MapEntry) (seen : Array Nat) (w : World) (e : MapEntry) (w1 : World) : Prop where
  mem : e ∈ (leftOf es seen).toList
  world : w1 = w ∨ w1 = w.drew
section
variable {P : Program} {ops : Array Oper} {rest : List Oper} {o : Oper} {a : Act} {w : World} {Q : Exit → Act → World → Prop}
theorem wl_next (hg : o.guard = none) (it : Operand) (hop : o.op = .next it false) (r bm clock : Nat) (seen : Array Nat) (es : Array MapEntry) (hit : a.eval it = .pointer (some ⟨r, 0, none⟩)) (hr : w.heap[r]? = some (.mapIter (some bm) clock seen clock)) (hb : w.heap[bm]? = some (.map es clock)) (hold : ∀ x ∈ es.toList, x.born < clock)
    (hDone : (leftOf es seen).size = 0 → wpList P ops Q rest (a.put o.dst (.tuple #[.bool false])) w)
    (hMore : ∀ e w1, Came es seen w e w1 → wpList P ops Q rest (a.put o.dst (.tuple #[.bool true, e.key, e.val])) (putB w1 r (.mapIter (some bm) clock (seen.push e.born) clock))) :
    wpList P ops Q (o :: rest) a w := by
  rcases next_any (P := P) w o.type r bm clock clock seen es clock hr hb hold (Nat.le_refl _) with ⟨h0, hrun⟩ | ⟨e, he, w1, h1, hrun⟩
  · refine wl_run hg _ _ ?_ (hDone h0)
    simp [execOp, hop, hit, hrun]
  · refine wl_run hg _ _ ?_ (hMore e w1 ⟨he, h1⟩)
    simp [execOp, hop, hit, hrun]
theorem wl_entry (hg : o.guard = none) (it : Operand) (hop : o.op = .entry it) (r bm clock : Nat) (seen : Array Nat) (es : Array MapEntry) (e : MapEntry) (v : Value) (hit : a.eval it = .pointer (some ⟨r, 0, none⟩)) (hr : w.heap[r]? = some (.mapIter (some bm) clock (seen.push e.born) clock)) (hb : w.heap[bm]? = some (.map es clock)) (he : e ∈ es.toList) (hn : (es.toList.map (·.born)).Nodup) (hv : e.val = v)
    (h : wpList P ops Q rest (a.put o.dst (.tuple #[e.key, v])) w) : wpList P ops Q (o :: rest) a w := by
  subst hv
  refine wl_run hg _ _ ?_ h
  simp [execOp, hop, hit, entry_any (P := P) w r bm clock seen es clock e hr hb he hn]
theorem wl_range (hg : o.guard = none) (t : TypeId) (x : Operand) (hop : o.op = .range t x) (k e bm : Nat) (es : Array MapEntry) (clock : Nat) (hx : a.eval x = .map (some bm)) (ht : P.underlying t = some (.map k e)) (hb : w.heap[bm]? = some (.map es clock))
    (h : wpList P ops Q rest (a.put o.dst (.pointer (some ⟨w.heap.size, 0, none⟩))) (w.alloc (.mapIter (some bm) clock #[] clock))) : wpList P ops Q (o :: rest) a w := by
  refine wl_run hg _ _ ?_ h
  simp [execOp, hop, hx, range_any w t k e bm es clock ht hb]
end
theorem SecOk.len {w : World} {b : Nat} {c : Array Value} {T : TypeId} {fr : Nat × Nat} {r : Option Addr} {n k : Nat} (h : SecOk w b c T fr r n k) : (sR w b).length = 256 := by
  have h0 := h.size
  have h1 : (c.toList.take 256).length = 256 := by simp [h0]
  unfold sR
  rw [sC_of h.blk, h.wr]
  rcases h.row with h2 | ⟨g, off, cg, eg, frg, h2, h3, h4⟩
  · subst h2; cases r <;> exact h1
  · subst h2
    cases n with
    | zero => exact h1
    | succ n =>
      show (((sC w g).toList.drop (off + n * 256)).take 256).length = 256
      rw [sC_of h3]
      simp; omega
/-- The block that an entry leads to. -/
def sB (e : MapEntry) : Nat := match e.val with
  | .pointer (some a) => a.block
  | _ => 0
/-- A block, made to last. -/
def finO (w : World) (j : Nat) : Option Obj := match w.heap[j]? with
  | some (Obj.cells _ T fr) => some (.cells (sR w j ++ [Value.slice none 0 0]).toArray T fr)
  | x => x
def hit (es : Array MapEntry) (seen : Array Nat) (j : Nat) : Bool := es.toList.any fun e => seen.contains e.born && decide (sB e = j)
structure Mid (w : World) (bm : Nat) (es : Array MapEntry) (clock : Nat) (seen : Array Nat) (W : World) : Prop where
  size : w.heap.size < W.heap.size
  os : W.os = w.os
  tape : W.tape = w.tape
  output : W.output = w.output
  iter : W.heap[w.heap.size]? = some (.mapIter (some bm) clock seen clock)
  blk : ∀ j, j < w.heap.size → W.heap[j]? = if hit es seen j then finO w j else w.heap[j]?
/-- What a file is. -/
structure FileOk (w : World) (bm : Nat) (es : Array MapEntry) (clock : Nat) : Prop where
  map : w.heap[bm]? = some (.map es clock)
  old : ∀ e ∈ es.toList, e.born < clock
  nodup : (es.toList.map (·.born)).Nodup
  ptr : ∀ e ∈ es.toList, e.val = .pointer (some ⟨sB e, 0, none⟩)
  sec : ∀ e ∈ es.toList, ∃ c T fr r n k, SecOk w (sB e) c T fr r n k
  inj : ∀ e ∈ es.toList, ∀ e' ∈ es.toList, sB e = sB e' → e = e'
  apart : ∀ e ∈ es.toList, ∀ e' ∈ es.toList, ∀ a n k, (sC w (sB e))[256]? = some (.slice (some a) n k) → n = 0 ∨ a.block ≠ sB e'
theorem FileOk.no_map {w : World} {bm clock : Nat} {es : Array MapEntry} (h : FileOk w bm es clock) {seen : Array Nat} : hit es seen bm = false := by
  unfold hit
  rw [List.any_eq_false]
  intro e he hh
  simp only [Bool.and_eq_true, decide_eq_true_eq] at hh
  obtain ⟨c, T, fr, r, n, k, hs⟩ := h.sec e he
  have h1 := hs.blk
  rw [hh.2, h.map] at h1
  cases h1
theorem Mid.start {w : World} {bm clock : Nat} {es : Array MapEntry} : Mid w bm es clock #[] (w.alloc (.mapIter (some bm) clock #[] clock)) := by
  refine ⟨by simp, rfl, rfl, rfl, heap_alloc_new _ _, fun j hj => ?_⟩
  have : hit es #[] j = false := by simp [hit]
  rw [this, if_neg (by simp)]
  exact heap_alloc_old _ _ hj
theorem Mid.drew {w W : World} {bm clock : Nat} {es : Array MapEntry} {seen : Array Nat} (h : Mid w bm es clock seen W) : Mid w bm es clock seen W.drew := ⟨h.size, h.os, h.tape, h.output, h.iter, h.blk⟩
theorem mem_left {es : Array MapEntry} {seen : Array Nat} {e : MapEntry} (h : e ∈ (leftOf es seen).toList) : e ∈ es.toList ∧ seen.contains e.born = false := by
  unfold leftOf at h
  simp at h
  exact ⟨by simpa using h.1, by simpa using h.2⟩
theorem not_hit {w : World} {bm clock : Nat} {es : Array MapEntry} (h : FileOk w bm es clock) {seen : Array Nat} {e : MapEntry} (he : e ∈ es.toList) (hs : seen.contains e.born = false) : hit es seen (sB e) = false := by
  unfold hit
  rw [List.any_eq_false]
  intro e' he' hh
  simp only [Bool.and_eq_true, decide_eq_true_eq] at hh
  obtain rfl := h.inj e' he' e he hh.2
  rw [hs] at hh
  cases hh.1
/-- A sector that is still to come stands as it did. -/
theorem Mid.sec {w W : World} {bm clock : Nat} {es : Array MapEntry} {seen : Array Nat} (hm : Mid w bm es clock seen W) (h : FileOk w bm es clock) {e : MapEntry} (he : e ∈ es.toList) (hs : seen.contains e.born = false) {W2 : World} (hW : ∀ j, j < w.heap.size → W2.heap[j]? = W.heap[j]?)
    {c : Array Value} {T : TypeId} {fr : Nat × Nat} {r : Option Addr} {n k : Nat} (hk : SecOk w (sB e) c T fr r n k) : SecOk W2 (sB e) c T fr r n k ∧ sR W2 (sB e) = sR w (sB e) := by
  have hlt := (Array.getElem?_eq_some_iff.1 hk.blk).1
  have hb : W2.heap[sB e]? = w.heap[sB e]? := by rw [hW _ hlt, hm.blk _ hlt, not_hit h he hs]; rfl
  have hC : sC W2 (sB e) = sC w (sB e) := by unfold sC; rw [hb]
  have hc : sC w (sB e) = c := sC_of hk.blk
  have hrow : ∀ g off, r = some ⟨g, off, none⟩ → n ≠ 0 → g < w.heap.size → W2.heap[g]? = w.heap[g]? := fun g off hr hn hg => by
    have hnh : hit es seen g = false := by
      unfold hit
      rw [List.any_eq_false]
      intro e' he' hh
      simp only [Bool.and_eq_true, decide_eq_true_eq] at hh
      have := h.apart e he e' he' ⟨g, off, none⟩ n k (by rw [hc, hk.wr, hr])
      rcases this with h0 | h0
      · exact hn h0
      · exact h0 hh.2.symm
    rw [hW _ hg, hm.blk _ hg, hnh]; rfl
  have hR : sR W2 (sB e) = sR w (sB e) := by
    unfold sR
    rw [hC, hc, hk.wr]
    rcases hk.row with h0 | ⟨g, off, cg, eg, frg, h1, h2, h3⟩
    · subst h0; cases r <;> rfl
    · subst h1
      cases n with
      | zero => rfl
      | succ n =>
        have hg := hrow g off rfl (by simp) (Array.getElem?_eq_some_iff.1 h2).1
        show ((sC W2 g).toList.drop (off + n * 256)).take 256 = ((sC w g).toList.drop (off + n * 256)).take 256
        rw [sC_of h2, sC_of (hg.trans h2)]
  refine ⟨⟨hb.trans hk.blk, hk.free, hk.size, hk.wr, hk.small, ?_, by rw [hR]; exact hk.one⟩, hR⟩
  rcases hk.row with h0 | ⟨g, off, cg, eg, frg, h1, h2, h3⟩
  · exact .inl h0
  · by_cases hn : n = 0
    · exact .inl hn
    · exact .inr ⟨g, off, cg, eg, frg, h1, (hrow g off h1 hn (Array.getElem?_eq_some_iff.1 h2).1).trans h2, h3⟩
theorem Mid.step {w W W1 W3 : World} {bm clock : Nat} {es : Array MapEntry} {seen : Array Nat} (hm : Mid w bm es clock seen W) (h : FileOk w bm es clock) {e : MapEntry} (he : e ∈ es.toList) (hs : seen.contains e.born = false) (hW1 : W1 = W ∨ W1 = W.drew)
    (hB : Below (putB W1 w.heap.size (.mapIter (some bm) clock (seen.push e.born) clock)).heap.size (putB W1 w.heap.size (.mapIter (some bm) clock (seen.push e.born) clock)) W3)
    {c : Array Value} {T : TypeId} {fr : Nat × Nat} {r : Option Addr} {n k : Nat} (hk : SecOk w (sB e) c T fr r n k) :
    Mid w bm es clock (seen.push e.born) (putB W3 (sB e) (.cells (sR w (sB e) ++ [Value.slice none 0 0]).toArray T fr)) := by
  have hm1 : Mid w bm es clock seen W1 := by rcases hW1 with rfl | rfl; exact hm; exact hm.drew
  have hlt := (Array.getElem?_eq_some_iff.1 hk.blk).1
  have hsz := hB.size
  have hbk := hB.block
  rw [putB_size] at hsz hbk
  have hos := hB.os
  have htp := hB.tape
  have hou := hB.output
  refine ⟨by rw [putB_size]; have := hm1.size; omega, hos.trans hm1.os, htp.trans hm1.tape, hou.trans hm1.output, ?_, fun j hj => ?_⟩
  · rw [putB_get, if_neg (by omega), hbk _ hm1.size, putB_get, if_pos rfl, if_pos hm1.size]
  · have hjj : j < W1.heap.size := by have := hm1.size; omega
    have hold : W3.heap[j]? = W1.heap[j]? := by rw [hbk j hjj, putB_get, if_neg (by omega)]
    by_cases hj2 : sB e = j
    · subst hj2
      have h1 : hit es (seen.push e.born) (sB e) = true := by
        unfold hit
        rw [List.any_eq_true]
        exact ⟨e, he, by simp⟩
      rw [putB_get, if_pos rfl, if_pos (by have := hm1.size; omega), h1, if_pos rfl]
      unfold finO
      rw [hk.blk]
    · have h1 : hit es (seen.push e.born) j = hit es seen j := by
        unfold hit
        rw [Bool.eq_iff_iff, List.any_eq_true, List.any_eq_true]
        constructor
        · rintro ⟨e', h2, h3⟩
          simp only [Bool.and_eq_true, decide_eq_true_eq, Array.contains_push, Bool.or_eq_true, beq_iff_eq] at h3
          obtain ⟨h3 | h3, h4⟩ := h3
          · exact ⟨e', h2, by simp only [Bool.and_eq_true, decide_eq_true_eq]; exact ⟨h3, h4⟩⟩
          · exfalso
            have hee : e' = e := by
              have a1 := find_born e es.toList h.nodup he
              have a2 := find_born e' es.toList h.nodup h2
              first | (rw [h3] at a2; rw [a1] at a2; exact (Option.some.inj a2).symm) | (rw [← h3] at a2; rw [a1] at a2; exact (Option.some.inj a2).symm)
            subst hee
            exact hj2 h4
        · rintro ⟨e', h2, h3⟩
          simp only [Bool.and_eq_true, decide_eq_true_eq] at h3
          exact ⟨e', h2, by simp only [Bool.and_eq_true, decide_eq_true_eq, Array.contains_push, Bool.or_eq_true]; exact ⟨.inl h3.1, h3.2⟩⟩
      rw [putB_get, if_neg hj2, hold, hm1.blk j hj, h1]
theorem Mid.stop {w W : World} {bm clock : Nat} {es : Array MapEntry} {seen : Array Nat} (hm : Mid w bm es clock seen W) (h0 : (leftOf es seen).size = 0) :
    ∀ j, j < w.heap.size → W.heap[j]? = if (es.toList.any fun e => decide (sB e = j)) then finO w j else w.heap[j]? := fun j hj => by
  rw [hm.blk j hj]
  have : hit es seen j = es.toList.any fun e => decide (sB e = j) := by
    have hall : ∀ e ∈ es.toList, seen.contains e.born = true := fun e he => by
      cases hc : seen.contains e.born with
      | true => rfl
      | false =>
        exfalso
        have : e ∈ (leftOf es seen).toList := by unfold leftOf; simp; exact ⟨by simpa using he, by simpa using hc⟩
        have h1 := List.length_pos_of_mem this
        simp at h1; omega
    unfold hit
    rw [Bool.eq_iff_iff, List.any_eq_true, List.any_eq_true]
    constructor
    · rintro ⟨e, h2, h3⟩
      rw [Bool.and_eq_true] at h3
      exact ⟨e, h2, h3.2⟩
    · rintro ⟨e, h2, h3⟩
      exact ⟨e, h2, by rw [Bool.and_eq_true]; exact ⟨hall e h2, h3⟩⟩
  rw [this]
theorem Mid.map {w W : World} {bm clock : Nat} {es : Array MapEntry} {seen : Array Nat} (hm : Mid w bm es clock seen W) (h : FileOk w bm es clock) : W.heap[bm]? = some (.map es clock) := by
  have hlt := (Array.getElem?_eq_some_iff.1 h.map).1
  rw [hm.blk bm hlt, h.no_map, if_neg (by simp)]
  exact h.map
theorem Mid.seenIs {w W : World} {bm clock : Nat} {es : Array MapEntry} {seen : Array Nat} (hm : Mid w bm es clock seen W) : W.iterSeen w.heap.size = seen := by
  unfold World.iterSeen; rw [hm.iter]
theorem left_less {es : Array MapEntry} {seen : Array Nat} {e : MapEntry} (h : e ∈ (leftOf es seen).toList) : (leftOf es (seen.push e.born)).size < (leftOf es seen).size := by
  have := mem_left h
  have h2 : ∀ p : MapEntry → Bool, (es.filter p).size = (es.toList.filter p).length := fun p => by rw [← Array.length_toList, Array.toList_filter]
  unfold leftOf
  rw [h2, h2]
  refine filter_lt _ _ (fun x hx => ?_) e (by simpa using this.2) (by simp) es.toList this.1
  simp at hx ⊢
  exact hx.1
/-- A sector's two stores. -/
theorem two_st (c : Array Value) (L : List Value) (hc : c.size = 257) (hL : L.length = 256) (v : Value) : (wrL (wrL c.toList 0 L) 256 [v]) = L ++ [v] := by
  unfold wrL
  simp [hL, hc]
theorem st_two {P : Program} {t : TypeId} {w : World} {b : Nat} {c : Array Value} {T : TypeId} {fr : Nat × Nat} {L : List Value} (h : w.heap[b]? = some (.cells c T fr)) (hu : FrU fr c.size) (hc : c.size = 257) (hL : L.length = 256) (hs : szOf P t = some 1) :
    (storeVar t ⟨b, 256, none⟩ (Value.slice none 0 0)).run P (putB w b (.cells (wrL c.toList 0 L).toArray T fr)) = .ok () (putB w b (.cells (L ++ [Value.slice none 0 0]).toArray T fr)) := by
  have hz : (wrL c.toList 0 L).toArray.size = 257 := by unfold wrL; simp [hL, hc]
  have hb : (putB w b (.cells (wrL c.toList 0 L).toArray T fr)).heap[b]? = some (.cells (wrL c.toList 0 L).toArray T fr) := by
    rw [putB_get, if_pos rfl, if_pos (Array.getElem?_eq_some_iff.1 h).1]
  rw [st_any (P := P) (t := t) (off := 256) (v := Value.slice none 0 0) hb (by rw [hz]; rw [hc] at hu; exact hu) hs rfl (by rw [hz]; omega) (by intro u hu; simp [Value.cells] at hu; subst hu; rfl), putB_putB]
  congr 4
  exact two_st c L hc hL _
end Go.Ev
