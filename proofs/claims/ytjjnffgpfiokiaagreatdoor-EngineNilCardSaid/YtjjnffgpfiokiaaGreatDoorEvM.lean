/- The builtins append, copy, len; make of slices. -/
import Derived.Test.YtjjnffgpfiokiaaGreatDoorEvL
namespace Go.Ev
open Go.RowKit

/-- the first cells of a block, from a place on -/
noncomputable def preA (H : Hp) (id off m : Nat) : Option AV := obind (cellsAt H id) fun r => obind (rowDrop r off) fun x => rowTake x m
theorem preA_rel {P : Program} {E : Env} {H : Hp} {w : World} {id off m b z : Nat} {v : AV} (hH : HR E H.get w) (he : E id = some (b, z)) (h : preA H id off m = some v) :
    ∃ l : List Value, (loadCells ⟨b, off, none⟩ m).run P w = .ok l.toArray w ∧ R E v l ∧ l.length = m ∧ off + m ≤ z := by
  unfold preA at h
  obtain ⟨r, h1, h2⟩ := obind_some h
  obtain ⟨x, h3, h4⟩ := obind_some h2
  obtain ⟨e, ex, h5⟩ := cellsAt_some h1
  obtain ⟨b', z', o, h6, h7, c, fr, rfl, hz, hu, l, x', hc, hr, _⟩ := hH.obj id _ h5
  rw [he] at h6; injection h6 with h6; injection h6 with h6 h6'; subst h6; subst h6'
  obtain ⟨h8, h9⟩ := rowDrop_rel hr h3
  obtain ⟨h10, h11⟩ := rowTake_rel h8 h4
  rw [List.length_drop] at h11
  have hlen : c.size = l.length + x'.length := by rw [← Array.length_toList, hc, List.length_append]
  refine ⟨(l.drop off).take m, ?_, h10, by rw [List.length_take, List.length_drop]; omega, by omega⟩
  rw [run_loadCells P h7 (by omega), hc, List.drop_append_of_le_length (by omega), List.take_append_of_le_length (by rw [List.length_drop]; omega)]

/-- what append and copy take in: how many, and their cells -/
noncomputable def srcA (H : Hp) (z : Nat) (x : AV) : Option (Nat × AV) := match x with
  | .nils => some (0, .rnil)
  | .str n d => cnd (Nat.beq n 0) (some (0, .rnil)) (cnd (Nat.beq z 1) (some (n, .rpk true n d .rnil)) none)
  | .slice id off len _ => cnd (Nat.beq len 0) (some (0, .rnil)) (omap (fun r => (len, r)) (preA H id off (Nat.mul len z)))
  | .slx id off len _ => cnd (Nat.beq len 0) (some (0, .rnil)) (omap (fun r => (len, r)) (preA H id off (Nat.mul len z)))
  | _ => none

theorem str_cells (s : ByteArray) (n d : Nat) (_hd : d < 2 ^ (8 * n)) (hs : s.data.toList = bytesOf n d) : ((s.extract 0 n).data.map fun b => Value.int .u8 b.toNat).toList = (toL 8 n d).map (pv true) := by
  have e : (s.extract 0 n).data.toList = s.data.toList := by
    rw [ByteArray.data_extract]
    have := str_size hs
    simp [List.extract_eq_take_drop]
    rw [List.take_of_length_le]
    rw [Array.length_toList]; exact Nat.le_of_eq this
  rw [Array.toList_map, e, hs]
  unfold bytesOf
  rw [List.map_map]
  apply List.map_congr_left
  intro x hx
  have := toL_lt 8 n d x hx
  simp only [Function.comp, pv]
  congr 1
  have h2 : (UInt8.ofNat x).toNat = x := by simp; omega
  exact_mod_cast h2

theorem srcA_rel {P : Program} {E : Env} {H : Hp} {w : World} {z n : Nat} {x r : AV} {cx : Value} (hH : HR E H.get w) (hx : V E x cx) (h : srcA H z x = some (n, r)) :
    ∃ l : List Value, (Builtin.lenOf cx).run P w = .ok n w ∧ (Builtin.firstCells z n cx).run P w = .ok l.toArray w ∧ R E r l ∧ l.length = n * z := by
  unfold srcA at h
  split at h
  · cases h
    obtain rfl := V_nils hx
    exact ⟨[], by simp [Builtin.lenOf], by simp [Builtin.firstCells], rfl, by simp⟩
  · rename_i m d
    obtain ⟨hd, s, rfl, hs⟩ := V_str hx
    have hsz := str_size hs
    rw [cnd_eq] at h
    split at h
    · rename_i h0
      obtain rfl : m = 0 := by simpa using h0
      cases h
      refine ⟨[], by simp [Builtin.lenOf, hsz], ?_, rfl, by simp⟩
      have := str_cells s 0 d hd hs
      simp only [Builtin.firstCells, Sem.run_pure]
      congr 1
      apply Array.ext'
      rw [this]; rfl
    · obtain ⟨hz1, h⟩ := cnd_some h
      obtain rfl : z = 1 := by simpa using hz1
      cases h
      refine ⟨(toL 8 n d).map (pv true), by simp [Builtin.lenOf, hsz], ?_, ⟨hd, [], by rw [List.append_nil]; rfl, rfl⟩, by simp [toL_length]⟩
      have := str_cells s n d hd hs
      simp only [Builtin.firstCells, Sem.run_pure]
      congr 1
      apply Array.ext'
      rw [this]
  · rename_i id off len cap
    obtain ⟨hlc, b, zz, he, rfl⟩ := V_slice hx
    rw [cnd_eq] at h
    split at h
    · rename_i h0
      obtain rfl : len = 0 := by simpa using h0
      cases h
      exact ⟨[], by simp [Builtin.lenOf], by simp [Builtin.firstCells, loadCells, loadCellsFrom], rfl, by simp⟩
    · rw [omap_eq, Option.map_eq_some_iff] at h
      obtain ⟨r', h1, h2⟩ := h
      cases h2
      obtain ⟨l, g1, g2, g3, _⟩ := preA_rel (P := P) hH he h1
      exact ⟨l, by simp [Builtin.lenOf], by simpa [Builtin.firstCells] using g1, g2, g3⟩
  · rename_i id off len cap
    obtain ⟨b, zz, o', cc, he, rfl, hlc, hor⟩ := V_slx hx
    rw [cnd_eq] at h
    split at h
    · rename_i h0
      obtain rfl : len = 0 := by simpa using h0
      cases h
      exact ⟨[], by simp [Builtin.lenOf], by simp [Builtin.firstCells, loadCells, loadCellsFrom], rfl, by simp⟩
    · rename_i h0
      have h0' : len ≠ 0 := by simpa using h0
      obtain ⟨rfl, _⟩ : o' = off ∧ off + cc * cap ≤ zz := by
        rcases hor with h | h
        · exact h
        · omega
      rw [omap_eq, Option.map_eq_some_iff] at h
      obtain ⟨r', h1, h2⟩ := h
      cases h2
      obtain ⟨l, g1, g2, g3, _⟩ := preA_rel (P := P) hH he h1
      exact ⟨l, by simp [Builtin.lenOf], by simpa [Builtin.firstCells] using g1, g2, g3⟩
  · cases h

noncomputable def notInt (P : Program) (t : TypeId) : Bool := match P.underlying t with
  | some (.slice _) => true
  | some .string => true
  | _ => false
theorem notInt_rel {P : Program} {t : TypeId} (h : notInt P t = true) : (∃ e, P.underlying t = some (.slice e)) ∨ P.underlying t = some .string := by
  unfold notInt at h
  split at h
  · rename_i e he; exact .inl ⟨e, he⟩
  · rename_i he; exact .inr he
  · cases h

/-- what a growing append asks of its element type -/
noncomputable def growOk (P : Program) (e : TypeId) (z need : Nat) : Bool := match P.info? e, zeroA P e with
  | some i, some v => cnd (Nat.beq (rowSize (vrow v)) z) (Nat.ble (Nat.mul (Nat.add (Nat.mul 2 need) 1000) i.bytes) 281474976710656) false
  | _, _ => false

theorem nextcap_le (need cap : Nat) (h : cap < need) : Builtin.nextslicecap need cap ≤ 2 * need + 1000 := by
  unfold Builtin.nextslicecap
  split
  · omega
  · split
    · omega
    · simp only [Builtin.growBy]
      repeat' split
      all_goals omega

theorem growOk_rel {P : Program} {e : TypeId} {z need : Nat} (h : growOk P e z need = true) : ∃ i zc, P.info? e = some i ∧ (∀ w, (zeroValue e).run P w = .ok zc w) ∧ zc.cells.size = z ∧ (2 * need + 1000) * i.bytes ≤ 281474976710656 := by
  unfold growOk at h
  split at h
  · rename_i i v h1 h2
    rw [cnd_eq] at h
    split at h
    · rename_i h3
      obtain ⟨zc, h4, h5⟩ := zeroA_rel h2 (fun _ => none)
      refine ⟨i, zc, h1, h4, ?_, ble_iff.1 h⟩
      have := rowSize_rel (vrow_rel h5)
      rw [Array.length_toList] at this
      rw [this]; simpa using h3
    · cases h
  · cases h

theorem zeroCells_size (zs : Array Value) (n : Nat) : (Builtin.zeroCells zs n).size = n * zs.size := by simp [Builtin.zeroCells]

/-- An append that grows: a new row, as wide as the tape says. -/
theorem run_grow {P : Program} {w : World} {st xt : TypeId} {e : TypeId} {z n sLen sCap : Nat} {base : Option Addr} {cx : Value} {old new : List Value} {ty : TypeId}
    (hu : P.underlying st = some (.slice e)) (hz : szOf P e = some z) (hx : notInt P xt = true) (hg : growOk P e z (sLen + n) = true) (hneed : sCap < sLen + n) (h63 : ¬ (9223372036854775807 < ((sLen : Int) + (n : Int))))
    (h1 : (Builtin.lenOf cx).run P w = .ok n w) (h2 : (Builtin.firstCells z n cx).run P w.drew = .ok new.toArray w.drew) (h3 : (Builtin.firstCells z sLen (.slice base sLen sCap)).run P w.drew = .ok old.toArray w.drew)
    (hold : old.length = sLen * z) (hnew : new.length = n * z) :
    ∃ (newCap : Nat) (rest : List Value), sLen + n ≤ newCap ∧ (old ++ new ++ rest).length = newCap * z ∧
      (Builtin.append_ #[st, xt] ty #[.slice base sLen sCap, cx]).run P w = .ok (.slice (some ⟨w.heap.size, 0, none⟩) (sLen + n) newCap) (w.drew.alloc (.cells (old ++ new ++ rest).toArray e)) := by
  obtain ⟨i, zc, hi, hzv, hzs, hb⟩ := growOk_rel hg
  have hnc : sLen + n ≤ grownCap w (sLen + n) sCap e := by unfold grownCap; exact Nat.le_add_right _ _
  refine ⟨grownCap w (sLen + n) sCap e, (Builtin.zeroCells zc.cells (grownCap w (sLen + n) sCap e - (sLen + n))).toList, hnc, ?_, ?_⟩
  · rw [List.length_append, List.length_append, hold, hnew, Array.length_toList, zeroCells_size, hzs, ← Nat.add_mul, ← Nat.add_mul]
    congr 1; omega
  · have hcap := nextcap_le (sLen + n) sCap hneed
    have hle : ¬ (sLen + n ≤ sCap) := by omega
    have hbt : ¬ (281474976710656 < Builtin.nextslicecap (sLen + n) sCap * i.bytes) := by
      have := Nat.mul_le_mul_right i.bytes hcap
      omega
    have hsz : ∀ w : World, (sizeOf e).run P w = .ok z w := run_sizeOf' hz
    have hfi : ∀ w : World, (typeInfo e).run P w = .ok i w := fun w => by simp [typeInfo, hi]
    rcases notInt_rel hx with ⟨e', hd⟩ | hd
    · simp [Builtin.append_, run_underlying hu, run_underlying hd, hsz, h1, hle, hfi, hbt, h2, h3, hzv, Question.forced, newRow, grownCap, h63]
      congr 2
      apply Array.ext'
      simp
    · simp [Builtin.append_, run_underlying hu, run_underlying hd, hsz, h1, hle, hfi, hbt, h2, h3, hzv, Question.forced, newRow, grownCap, h63]
      congr 2
      apply Array.ext'
      simp

/-- An append that finds room. -/
theorem run_room {P : Program} {w : World} {st xt : TypeId} {e e' : TypeId} {z n sLen sCap b off : Nat} {cx : Value} {new : List Value} {ty : TypeId} {c : Array Value} {fr : Nat × Nat}
    (hu : P.underlying st = some (.slice e)) (hz : szOf P e = some z) (hx : notInt P xt = true) (hneed : sLen + n ≤ sCap)
    (h1 : (Builtin.lenOf cx).run P w = .ok n w) (h2 : (Builtin.firstCells z n cx).run P w = .ok new.toArray w)
    (hb : w.heap[b]? = some (.cells c e' fr)) (hfr : FrU fr c.size) (hroom : off + sLen * z + new.length ≤ c.size) (hone : ∀ v ∈ new, v.oneCell' = true) :
    (Builtin.append_ #[st, xt] ty #[.slice (some ⟨b, off, none⟩) sLen sCap, cx]).run P w = .ok (.slice (some ⟨b, off, none⟩) (sLen + n) sCap) (putB w b (.cells (wrL c.toList (off + sLen * z) new).toArray e' fr)) := by
  have hsz : ∀ w : World, (sizeOf e).run P w = .ok z w := run_sizeOf' hz
  have hst := run_storeCells P (b := b) (off := off + sLen * z) (e := e') (fr := fr) new 0 hb hfr (by omega) hone
  simp only [Nat.add_zero] at hst
  rcases notInt_rel hx with ⟨e', hd⟩ | hd
  · simp [Builtin.append_, run_underlying hu, run_underlying hd, hsz, h1, hneed, h2, add_off, hst]
  · simp [Builtin.append_, run_underlying hu, run_underlying hd, hsz, h1, hneed, h2, add_off, hst]
theorem run_room_nil {P : Program} {w : World} {st xt : TypeId} {e : TypeId} {z n sLen sCap : Nat} {cx : Value} {new : List Value} {ty : TypeId}
    (hu : P.underlying st = some (.slice e)) (hz : szOf P e = some z) (hx : notInt P xt = true) (hneed : sLen + n ≤ sCap)
    (h1 : (Builtin.lenOf cx).run P w = .ok n w) (h2 : (Builtin.firstCells z n cx).run P w = .ok new.toArray w) :
    (Builtin.append_ #[st, xt] ty #[.slice none sLen sCap, cx]).run P w = .ok (.slice none (sLen + n) sCap) w := by
  have hsz : ∀ w : World, (sizeOf e).run P w = .ok z w := run_sizeOf' hz
  rcases notInt_rel hx with ⟨e', hd⟩ | hd
  · simp [Builtin.append_, run_underlying hu, run_underlying hd, hsz, h1, hneed, h2]
  · simp [Builtin.append_, run_underlying hu, run_underlying hd, hsz, h1, hneed, h2]
/-- Nothing appended to a slice with a base: the store of nothing. -/
theorem run_room_zero {P : Program} {w : World} {st xt : TypeId} {e : TypeId} {z sLen sCap : Nat} {a : Addr} {cx : Value} {ty : TypeId}
    (hu : P.underlying st = some (.slice e)) (hz : szOf P e = some z) (hx : notInt P xt = true) (hneed : sLen ≤ sCap)
    (h1 : (Builtin.lenOf cx).run P w = .ok 0 w) (h2 : (Builtin.firstCells z 0 cx).run P w = .ok #[] w) :
    (Builtin.append_ #[st, xt] ty #[.slice (some a) sLen sCap, cx]).run P w = .ok (.slice (some a) sLen sCap) w := by
  have hsz : ∀ w : World, (sizeOf e).run P w = .ok z w := run_sizeOf' hz
  rcases notInt_rel hx with ⟨e', hd⟩ | hd
  · simp [Builtin.append_, run_underlying hu, run_underlying hd, hsz, h1, hneed, h2, storeCells]
  · simp [Builtin.append_, run_underlying hu, run_underlying hd, hsz, h1, hneed, h2, storeCells]

noncomputable def smallN (n : Nat) : Bool := Nat.blt n 1073741824
/-- append, abstractly. A slice whose capacity is not known: either the row grows in place, or it is laid anew; the old name is let go. -/
noncomputable def apGrow (P : Program) (H : Hp) (e : TypeId) (z len n : Nat) (old row : AV) : Option (AV × Hp) :=
  cnd (growOk P e z (Nat.add len n)) (cnd (smallN (Nat.add len n)) (some (newV H (.cells (rowApp row old) e true) fun i H' => forceN (Nat.add len n) fun m => (.slx i 0 m z, H'))) none) none
noncomputable def apPut (H : Hp) (id at_ : Nat) (row : AV) : Option Hp := cnd (okRow row) (obind (H.get id) fun o => match o with
  | .cells r e x => obind (rowPut r at_ row) fun r' => some ⟨H.next, H.tr.put id (some (.cells r' e x))⟩
  | _ => none) none
noncomputable def apX (P : Program) (H : Hp) (e : TypeId) (z id len n : Nat) (row : AV) : Option (AV × Hp) :=
  cnd (okRow row) (obind (H.get id) fun o => match o with
    | .cells r e' _x => cnd (Nat.beq e e') (obind (rowTake r (Nat.mul len z)) fun old => cnd (growOk P e z (Nat.add len n)) (cnd (smallN (Nat.add len n))
        (some (newV ⟨H.next, H.tr.put id none⟩ (.cells (rowApp row old) e true) fun i H' => forceN (Nat.add len n) fun m => (.slx i 0 m z, H'))) none) none) none
    | _ => none) none
noncomputable def apA (P : Program) (H : Hp) (st xt : TypeId) (s x : AV) : Option (AV × Hp) :=
  cnd (notInt P xt) (obind (P.underlying st) fun u => match u with
    | .slice e => obind (szOf P e) fun z => obind (srcA H z x) fun q => match s with
        | .nils => cnd (Nat.beq q.1 0) (some (.nils, H)) (apGrow P H e z 0 q.1 .rnil q.2)
        | .slice id off len cap => cnd (Nat.beq q.1 0) (some (.slice id off len cap, H))
            (cnd (Nat.ble (Nat.add len q.1) cap) (omap (fun H' => (forceN (Nat.add len q.1) fun m => .slice id off m cap, H')) (apPut H id (Nat.add off (Nat.mul len z)) q.2))
              (cnd (Nat.beq len 0) (apGrow P H e z 0 q.1 .rnil q.2) (obind (preA H id off (Nat.mul len z)) fun old => apGrow P H e z len q.1 old q.2)))
        | .slx id off len z' => cnd (Nat.beq q.1 0) (some (.slx id off len z', H)) (cnd (Nat.beq off 0) (cnd (Nat.beq z z') (apX P H e z id len q.1 q.2) none) none)
        | _ => none
    | _ => none) none

theorem grow_stp {E : Env} {H : Hp} {w : World} (hH : HR E H.get w) (hb : E H.next = none) {e : TypeId} {z len n : Nat} {old row : AV} {lo ln rest : List Value} {newCap : Nat} (ho : R E old lo) (hr : R E row ln) (hc : len + n ≤ newCap)
    (hlen : (lo ++ ln ++ rest).length = newCap * z) :
    ∃ E', Stp E H.get H.next w E' (Hp.get ⟨H.next + 1, H.tr.put H.next (some (.cells (rowApp row old) e true))⟩) (H.next + 1) (w.drew.alloc (.cells (lo ++ ln ++ rest).toArray e)) ∧
      V E' (.slx H.next 0 (len + n) z) (.slice (some ⟨w.heap.size, 0, none⟩) (len + n) newCap) := by
  refine ⟨E.new H.next w.heap.size (newCap * z), ?_, ?_⟩
  · refine (alloc_stp hH.drew hb (newCap * z) ?_).drew_first
    refine ⟨(lo ++ ln ++ rest).toArray, (0, 0), rfl, by simpa using hlen, .inl rfl, lo ++ ln, rest, by simp, ?_, fun h => by cases h⟩
    exact (rowApp_rel hr ho).mono (Env.new_le hb)
  · refine ⟨w.heap.size, newCap * z, 0, newCap, Env.new_self _ _ _ _, rfl, hc, .inl ⟨rfl, by omega⟩⟩

theorem small_lt {n : Nat} (h : smallN n = true) : n < 1073741824 := blt_iff.1 h

theorem apGrow_rel {P : Program} {E : Env} {H : Hp} {w : World} {st xt ty e : TypeId} {z len n cap : Nat} {base : Option Addr} {old row : AV} {lo ln : List Value} {cx : Value} {r : AV × Hp}
    (hH : HR E H.get w) (hb : E H.next = none) (hu : P.underlying st = some (.slice e)) (hz : szOf P e = some z) (hx : notInt P xt = true)
    (ho : R E old lo) (hr : R E row ln) (h1 : (Builtin.lenOf cx).run P w = .ok n w) (h2 : (Builtin.firstCells z n cx).run P w.drew = .ok ln.toArray w.drew)
    (h3 : (Builtin.firstCells z len (.slice base len cap)).run P w.drew = .ok lo.toArray w.drew) (hlo : lo.length = len * z) (hln : ln.length = n * z) (hcap : cap < len + n)
    (h : apGrow P H e z len n old row = some r) :
    ∃ E' c w', (Builtin.append_ #[st, xt] ty #[.slice base len cap, cx]).run P w = .ok c w' ∧ Stp E H.get H.next w E' r.2.get r.2.next w' ∧ V E' r.1 c := by
  unfold apGrow at h
  obtain ⟨g1, ha⟩ := cnd_some h
  obtain ⟨g2, hc⟩ := cnd_some ha
  rw [newV_eq, forceN_eq] at hc
  cases hc
  have g2' : len + n < 1073741824 := small_lt g2
  obtain ⟨newCap, rest, k1, k2, k3⟩ := run_grow (ty := ty) hu hz hx g1 hcap (by omega) h1 h2 h3 hlo hln
  obtain ⟨E', k4, k5⟩ := grow_stp (e := e) hH hb ho hr k1 k2
  exact ⟨E', _, _, k3, k4, k5⟩

end Go.Ev
