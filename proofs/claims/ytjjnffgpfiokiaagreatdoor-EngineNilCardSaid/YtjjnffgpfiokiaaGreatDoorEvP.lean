/- make, interface values, functions, conversions, maps, texts gone over. -/
import Derived.Test.YtjjnffgpfiokiaaGreatDoorEvO
import Derived.Laws.BytesArg
namespace Go.Ev
open Go.RowKit

theorem wrap64 (m : Nat) (h : m < 9223372036854775808) : IntKind.i64.wrap (m : Int) = m := by
  have e := wrapN_eq .i64 m
  unfold wrapN at e
  rw [cnd_eq, if_pos (show Nat.blt m (kLim .i64) = true from blt_iff.2 h), forceN_eq] at e
  injection e with _ e
  exact e.symm
noncomputable def mkSliceA (P : Program) (H : Hp) (t : TypeId) (l c : AV) : Option (AV × Hp) :=
  obind (P.underlying t) fun u => match u with
    | .slice e => obind (P.info? e) fun i => obind (asNat l) fun l => obind (asNat c) fun c =>
        cnd (Nat.ble l c) (cnd (smallN c) (cnd (Nat.ble (Nat.mul i.bytes c) 281474976710656) (obind (zRow P e c i.size) fun r => some (newV H (.cells r e false) fun n H' => forceN l fun l => forceN c fun c => (.slice n 0 l c, H'))) none) none) none
    | _ => none
theorem mkSliceA_rel {P : Program} {E : Env} {H : Hp} {w : World} {t : TypeId} {l c : AV} {cl cc : Value} {r : AV × Hp} (hH : HR E H.get w) (hb : E H.next = none) (hl : V E l cl) (hc : V E c cc)
    (h : mkSliceA P H t l c = some r) : ActOk P E H w (Instr.makeSlice t cl cc) r := by
  unfold mkSliceA at h
  obtain ⟨u, hu, h1⟩ := obind_some h
  clear h
  split at h1
  · rename_i e
    obtain ⟨i, hi, h2⟩ := obind_some h1
    obtain ⟨ln, g1, h3⟩ := obind_some h2
    obtain ⟨cn, g2, h4⟩ := obind_some h3
    obtain ⟨g3, h5⟩ := cnd_some h4
    obtain ⟨g4, h6⟩ := cnd_some h5
    obtain ⟨g5, h7⟩ := cnd_some h6
    obtain ⟨row, g6, h8⟩ := obind_some h7
    rw [newV_eq, forceN_eq, forceN_eq] at h8
    cases h8
    clear h1 h2 h3 h4 h5 h6 h7
    obtain ⟨k1, rfl⟩ := asNat_rel g1 hl
    obtain ⟨k2, rfl⟩ := asNat_rel g2 hc
    have g3' : ln ≤ cn := ble_iff.1 g3
    have g4' : cn < 1073741824 := small_lt g4
    have g5' : i.bytes * cn ≤ 281474976710656 := ble_iff.1 g5
    obtain ⟨zc, q1, q2⟩ := zRow_rel (E := E) g6
    have w1 : IntKind.i64.wrap (cn : Int) = cn := wrap64 cn (by omega)
    have w2 : IntKind.i64.wrap (ln : Int) = ln := wrap64 ln (by omega)
    have a1 : ∀ k n, (asInt (.int k n)).run P w = .ok n w := fun k n => by simp [asInt, asIntOf]
    have hsz : ∀ w : World, (sizeOf e).run P w = .ok i.size w := run_sizeOf' (by unfold szOf; rw [hi]; rfl)
    have hfi : ∀ w : World, (typeInfo e).run P w = .ok i w := fun w => by simp [typeInfo, hi]
    have n1 : ¬ ((cn : Int) < 0) := by omega
    have n2 : ¬ ((i.bytes : Int) * (cn : Int) > 2 ^ 48) := by
      have : ((i.bytes * cn : Nat) : Int) ≤ ((281474976710656 : Nat) : Int) := Int.ofNat_le.2 g5'
      rw [Int.natCast_mul] at this
      have e0 : ((281474976710656 : Nat) : Int) = 281474976710656 := rfl
      rw [e0] at this
      intro hh
      have h48 : (2 : Int) ^ 48 = 281474976710656 := by decide
      rw [h48] at hh
      omega
    have n3 : ¬ ((ln : Int) < 0) := by omega
    have n4 : ¬ ((ln : Int) > (cn : Int)) := by omega
    refine ⟨E.new H.next w.heap.size (cn * i.size), .slice (some ⟨w.heap.size, 0, none⟩) ln cn, w.alloc (.cells ((Array.range (cn * i.size)).map (fun j => zc[j % zc.size]!)) e), ?_, ?_, ?_⟩
    · simp only [Instr.makeSlice, Sem.run_bind, run_underlying hu, Result.andThen_ok, a1, hfi, w1, w2, n1, n2, n3, n4, decide_false, Bool.or_self, Bool.false_eq_true, if_false, run_askRoom, hsz, Int.toNat_natCast]
      rcases q1 with ⟨k1, rfl⟩ | ⟨k1, c, k2, rfl⟩
      · simp [k1, newRow]
      · simp [k1, k2 w, newRow]
    · have := alloc_stp (o := .cells row e false) (x := .cells ((Array.range (cn * i.size)).map (fun j => zc[j % zc.size]!)) e) hH hb ((Array.range (cn * i.size)).map (fun j => zc[j % zc.size]!)).size (cells_orel (q2.mono (Env.new_le hb)))
      simpa using this
    · exact ⟨g3', w.heap.size, _, Env.new_self _ _ _ _, rfl⟩
  · cases h1

noncomputable def mkMapA (P : Program) (H : Hp) (t : TypeId) (r : Option AV) : Option (AV × Hp) :=
  match r with
  | none => some (newV H (.map [] 0) fun n H' => (.map n, H'))
  | some x => obind (P.underlying t) fun u => match u with
    | .map _ _ => obind (asNat x) fun _ => some (newV H (.map [] 0) fun n H' => (.map n, H'))
    | _ => none
theorem mkMap_stp {E : Env} {H : Hp} {w : World} (hH : HR E H.get w) (hb : E H.next = none) : ∃ E', Stp E H.get H.next w E' (Hp.get ⟨H.next + 1, H.tr.put H.next (some (.map [] 0))⟩) (H.next + 1) (w.alloc (.map #[] 0)) ∧ V E' (.map H.next) (.map (some w.heap.size)) :=
  ⟨E.new H.next w.heap.size 0, alloc_stp hH hb 0 ⟨#[], rfl, .nil⟩, w.heap.size, 0, Env.new_self _ _ _ _, rfl⟩
theorem mkMapA_rel {P : Program} {E : Env} {H : Hp} {w : World} {t : TypeId} {x : Option AV} {cx : Option Value} {r : AV × Hp} (hH : HR E H.get w) (hb : E H.next = none) (hx : OV E x cx)
    (h : mkMapA P H t x = some r) : ActOk P E H w (Instr.makeMap t cx) r := by
  unfold mkMapA at h
  obtain ⟨E', g1, g2⟩ := mkMap_stp hH hb
  cases x with
  | none =>
    simp only [newV_eq] at h
    cases h
    cases cx with
    | none => exact ⟨E', _, _, by simp [Instr.makeMap], g1, g2⟩
    | some c => cases hx
  | some x =>
    obtain ⟨u, hu, h1⟩ := obind_some h
    cases cx with
    | none => cases hx
    | some c =>
      split at h1
      · obtain ⟨n, h2, h3⟩ := obind_some h1
        rw [newV_eq] at h3
        cases h3
        obtain ⟨k, rfl⟩ := asNat_rel h2 hx
        exact ⟨E', _, _, by simp [Instr.makeMap, run_underlying hu, asInt, asIntOf], g1, g2⟩
      · cases h1

noncomputable def isIf (P : Program) (t : TypeId) : Option Bool := omap (fun u : TypeDesc => match u with | .interface _ => true | _ => false) (P.underlying t)
noncomputable def mkIfA (P : Program) (t : TypeId) (x : AV) : Option AV := obind (isIf P t) fun b => cnd b none (some (.iface t x))
theorem mkIfA_rel {P : Program} {E : Env} {w : World} {t : TypeId} {x v : AV} {cx : Value} (hx : V E x cx) (h : mkIfA P t x = some v) : ValOk P E w (Instr.makeInterface t cx) v := by
  unfold mkIfA at h
  obtain ⟨b, h1, h2⟩ := obind_some h
  unfold isIf at h1
  rw [omap_eq, Option.map_eq_some_iff] at h1
  obtain ⟨u, hu, h3⟩ := h1
  cases b with
  | true => cases h2
  | false =>
    cases h2
    refine ⟨.iface t cx, ?_, cx, rfl, hx⟩
    unfold Instr.makeInterface
    simp only [Sem.run_bind, run_underlying hu, Result.andThen_ok]
    cases u <;> first | rfl | cases h3

noncomputable def exA (t : AV) (i : Nat) : Option AV := match t with
  | .tup r => rowGet r i
  | _ => none
theorem exA_rel {P : Program} {E : Env} {w : World} {x v : AV} {i : Nat} {cx : Value} (hx : V E x cx) (h : exA x i = some v) : ValOk P E w (Instr.extract cx i) v := by
  unfold exA at h
  split at h
  · obtain ⟨cs, rfl, hr⟩ := V_tup hx
    obtain ⟨c, h1, h2⟩ := rowGet_rel hr h
    exact ⟨c, by simp [Instr.extract, ← Array.getElem?_toList, h1], h2⟩
  · cases h

noncomputable def asB (x : AV) : Option Bool := match x with
  | .bool b => some b
  | _ => none
theorem asB_rel {E : Env} {x : AV} {b : Bool} {cx : Value} (hx : V E x cx) (h : asB x = some b) : cx = .bool b := by
  unfold asB at h
  split at h
  · cases h; exact V_bool hx
  · cases h

/-! ### Conversions that turn no memory -/
noncomputable def cvA (P : Program) (src dst : TypeId) (x : AV) : Option AV :=
  obind (P.underlying src) fun _us => obind (P.underlying dst) fun ud => match ud, x with
    | .int k, .int _ n => some (wrapZ k n)
    | .string, .str n d => some (.str n d)
    | _, _ => none
theorem cvA_rel {P : Program} {E : Env} {w : World} {src dst : TypeId} {x v : AV} {cx : Value} (hx : V E x cx) (h : cvA P src dst x = some v) : ValOk P E w (convert src dst cx) v := by
  unfold cvA at h
  obtain ⟨us, hs, h1⟩ := obind_some h
  obtain ⟨ud, hd, h2⟩ := obind_some h1
  split at h2
  · rename_i k k' n
    cases h2
    obtain rfl := V_int hx
    refine ⟨.int k (k.wrap n), ?_, by rw [wrapZ_eq]; rfl⟩
    cases us <;> simp [convert, run_underlying hs, run_underlying hd, Conv.intToInt]
  · cases h2
    obtain ⟨h3, s, rfl, h4⟩ := V_str hx
    refine ⟨.string s, ?_, h3, s, rfl, h4⟩
    cases us <;> simp [convert, run_underlying hs, run_underlying hd]
  · cases h2

/-! ### Bytes as a text, and back -/
noncomputable def rowB (r : AV) : Option (Nat × Nat) :=
  rowRec none (some (0, 0)) (fun _ _ _ => none) (fun k n d _ ih => cnd k (obind ih fun p => forceN (Nat.add n p.1) fun m => forceN (catD 8 n d p.2) fun e => some (m, e)) (cnd (Nat.beq n 0) ih none)) r
theorem rowB_rel {E : Env} : ∀ {r : AV} {l : List Value} {n d : Nat}, R E r l → rowB r = some (n, d) → l = (toL 8 n d).map (pv true) ∧ d < 2 ^ (8 * n) := by
  intro r
  induction r with
  | rnil => intro l n d h hg; cases hg; rw [R_nil h]; exact ⟨rfl, by decide⟩
  | rone v r _ _ => intro l n d _ hg; cases hg
  | rpk k n d r hr =>
    rintro l n' d' ⟨hd, l', h, h2⟩ hg; injection h with h; subst h
    have hg' : cnd k (obind (rowB r) fun p => forceN (Nat.add n p.1) fun m => forceN (catD 8 n d p.2) fun e => some (m, e)) (cnd (Nat.beq n 0) (rowB r) none) = some (n', d') := hg
    cases k with
    | true =>
      have h3 : (obind (rowB r) fun p => forceN (Nat.add n p.1) fun m => forceN (catD 8 n d p.2) fun e => some (m, e)) = some (n', d') := hg'
      obtain ⟨⟨m, e⟩, h4, h5⟩ := obind_some h3
      rw [forceN_eq, forceN_eq] at h5
      cases h5
      obtain ⟨h6, h7⟩ := hr h2 h4
      have hd' : d < 2 ^ (8 * n) := hd
      refine ⟨?_, catD_lt 8 n m d e hd' h7⟩
      show _ = (toL 8 (n + m) (catD 8 n d e)).map (pv true)
      rw [toL_cat 8 n m d e hd', List.map_append, h6]
      rfl
    | false =>
      have h3 : cnd (Nat.beq n 0) (rowB r) none = some (n', d') := hg'
      obtain ⟨h4, h5⟩ := cnd_some h3
      obtain rfl : n = 0 := Nat.eq_of_beq_eq_true h4
      exact hr h2 h5
  | _ => intro l n d _ hg; cases hg

noncomputable def bsA2 (H : Hp) (x : AV) : Option AV :=
  obind (lenOfA x) fun n => obind (fstA H 1 n x) fun r => obind (rowB r) fun p => cnd (Nat.beq p.1 n) (some (.str p.1 p.2)) none
noncomputable def b2sA (P : Program) (H : Hp) (src dst : TypeId) (x : AV) : Option AV :=
  obind (P.underlying src) fun us => obind (P.underlying dst) fun ud => match us, ud with
    | .slice e, .string => obind (P.underlying e) fun ue => match ue with
      | .int k => cnd (kEq k .u8) (match x with | .str _ _ => none | _ => bsA2 H x) none
      | _ => none
    | _, _ => none

theorem bsA2_rel {P : Program} {E : Env} {H : Hp} {w : World} {x v : AV} {cx : Value} (hH : HR E H.get w) (hx : V E x cx) (hn : ∀ n d, x ≠ .str n d) (h : bsA2 H x = some v) :
    ValOk P E w (Conv.bytesToString cx) v ∧ ∃ a n c, cx = .slice a n c := by
  unfold bsA2 at h
  obtain ⟨n, h1, h2⟩ := obind_some h
  obtain ⟨r, h3, h4⟩ := obind_some h2
  obtain ⟨⟨m, d⟩, h5, h6⟩ := obind_some h4
  obtain ⟨h7, h8⟩ := cnd_some h6
  obtain rfl : m = n := by simpa using h7
  cases h8
  obtain ⟨l, k1, k2, k3⟩ := fstA_rel (P := P) hH hx h3 (fun e => by subst e; cases h1; rfl)
  obtain ⟨rfl, hd⟩ := rowB_rel k2 h5
  have hcx : (m = 0 ∧ cx = .slice none 0 0) ∨ (∃ a c, cx = .slice (some a) m c) := by
    unfold lenOfA at h1
    split at h1
    · cases h1; exact .inl ⟨rfl, V_nils hx⟩
    · rename_i a b; exact absurd rfl (hn a b)
    · cases h1; obtain ⟨_, b, z, _, rfl⟩ := V_slice hx; exact .inr ⟨_, _, rfl⟩
    · cases h1; obtain ⟨b, z, o, c, _, rfl, _⟩ := V_slx hx; exact .inr ⟨_, _, rfl⟩
    · cases h1
  rcases hcx with ⟨rfl, rfl⟩ | ⟨a, c, rfl⟩
  · have hd0 : d = 0 := by simp at hd; exact hd
    subst hd0
    exact ⟨⟨.string .empty, by simp [Conv.bytesToString], by decide, _, rfl, rfl⟩, _, _, _, rfl⟩
  · have k1' : (loadCells a m).run P w = .ok (((toL 8 m d).map (fun x : Nat => (x : Int))).map (Value.int .u8)).toArray w := by
      rw [List.map_map]
      have e : (Value.int .u8 ∘ fun x : Nat => (x : Int)) = pv true := by funext x; rfl
      rw [e]
      simpa [Builtin.firstCells] using k1
    have := run_bytesToString w a m c _ k1'
    rw [foldl_push_bytes] at this
    refine ⟨⟨_, this, hd, _, rfl, ?_⟩, _, _, _, rfl⟩
    have e : ((fun n : Int => UInt8.ofNat n.toNat) ∘ fun x : Nat => (x : Int)) = UInt8.ofNat := by funext x; simp
    show (ByteArray.empty.data ++ _).toList = _
    rw [Array.toList_append, List.map_map, e]
    rfl

theorem b2sA_rel {P : Program} {E : Env} {H : Hp} {w : World} {src dst : TypeId} {x v : AV} {cx : Value} (hH : HR E H.get w) (hx : V E x cx) (h : b2sA P H src dst x = some v) : ValOk P E w (convert src dst cx) v := by
  unfold b2sA at h
  obtain ⟨us, hs, h1⟩ := obind_some h
  obtain ⟨ud, hd, h2⟩ := obind_some h1
  split at h2
  · rename_i e
    obtain ⟨ue, he, h3⟩ := obind_some h2
    split at h3
    · obtain ⟨h4, h5⟩ := cnd_some h3
      obtain rfl := kEq_eq h4
      split at h5
      · cases h5
      · rename_i hno
        obtain ⟨⟨c, g1, g2⟩, a, n, cc, rfl⟩ := bsA2_rel (P := P) hH hx (fun n d e => hno n d e) h5
        exact ⟨c, by rw [run_convert_bytes_string w src dst e a n cc hs he hd]; exact g1, g2⟩
    · cases h3
  · cases h2

theorem freeze_new (w : World) (c : Array Value) (e : TypeId) (b : Nat) (hb : b = w.heap.size) : (w.alloc (.cells c e)).freeze ⟨b, c.size, none⟩ 1 = w.alloc (.cells c e (c.size, c.size + 1)) := by
  subst hb
  unfold World.freeze
  rw [if_neg (by decide)]
  unfold World.alloc
  congr 1
  apply Array.ext
  · simp
  · intro i h1 h2
    rw [Array.getElem_modify]
    split
    · rename_i hi; subst hi; simp
    · rename_i hi
      simp at h2
      rw [Array.getElem_push, Array.getElem_push]
      have hi' : w.heap.size ≠ i := hi
      have : i < w.heap.size := by omega
      simp [this]

/-- A text as bytes: a new row whose capacity is not known, frozen behind its end. -/
noncomputable def s2bA (P : Program) (H : Hp) (src dst : TypeId) (x : AV) : Option (AV × Hp) :=
  obind (P.underlying src) fun us => obind (P.underlying dst) fun ud => match us, ud, x with
    | .string, .slice e, .str n d => obind (P.underlying e) fun ue => match ue with
      | .int k => cnd (kEq k .u8) (some (newV H (.cells (cnd (Nat.beq n 0) .rnil (.rpk true n d .rnil)) e true) fun i H' => (.slx i 0 n 1, H'))) none
      | _ => none
    | _, _, _ => none
theorem s2bA_rel {P : Program} {E : Env} {H : Hp} {w : World} {src dst : TypeId} {x : AV} {r : AV × Hp} {cx : Value} (hH : HR E H.get w) (hb : E H.next = none) (hx : V E x cx) (h : s2bA P H src dst x = some r) : ActOk P E H w (convert src dst cx) r := by
  unfold s2bA at h
  obtain ⟨us, hs, h1⟩ := obind_some h
  obtain ⟨ud, hd, h2⟩ := obind_some h1
  split at h2
  · rename_i e n d
    obtain ⟨ue, he, h3⟩ := obind_some h2
    split at h3
    · obtain ⟨h4, h5⟩ := cnd_some h3
      obtain rfl := kEq_eq h4
      rw [newV_eq] at h5
      cases h5
      obtain ⟨hdl, s, rfl, hsd⟩ := V_str hx
      have hsz := str_size hsd
      have hcells := cells_of_bytes s n d hsd
      have hcap : n ≤ grownCap w n 0 e := by unfold grownCap; exact Nat.le_add_right _ _
      let cells : Array Value := (s.data.map fun b => Value.int .u8 b.toNat) ++ Array.replicate (grownCap w n 0 e - n) (.int .u8 0)
      have hcs : cells.size = grownCap w n 0 e := by
        have : s.data.size = n := hsz
        simp [cells, this]; omega
      have hlist : cells.toList = (toL 8 n d).map (pv true) ++ List.replicate (grownCap w n 0 e - n) (.int .u8 0) := by
        simp only [cells, Array.toList_append, hcells, Array.toList_replicate]
      refine ⟨E.new H.next w.heap.size cells.size, .slice (some ⟨w.heap.size, 0, none⟩) n (grownCap w n 0 e), w.drew.alloc (.cells cells e (cells.size, cells.size + 1)), ?_, ?_, ?_⟩
      · have hq : (Question.appendCap n 0 e).forced = false := rfl
        have hgc : (Question.appendCap n 0 e).cut (w.tape w.drawn (Question.appendCap n 0 e)) = grownCap w n 0 e := rfl
        simp [convert, run_underlying hs, run_underlying hd, run_underlying he, Conv.stringToBytes, hsz, hq, hgc, newRow, markStringish]
        have e1 : Array.map (fun b => Value.int IntKind.u8 (b.toNat : Int)) s.data ++ Array.replicate (grownCap w n 0 e - n) (Value.int IntKind.u8 0) = cells := rfl
        rw [e1]
        have e2 : (w.drew.alloc (.cells cells e)).shape? w.heap.size = some (e, cells.size) := by
          show (match (w.heap.push (.cells cells e))[w.heap.size]? with | some (.cells c elem _) => some (elem, c.size) | _ => none) = _
          rw [Array.getElem?_push_size]
        rw [e2]
        simp only [run_freeze, Result.andThen_ok]
        have e3 := freeze_new w.drew cells e w.heap.size rfl
        rw [e3]
      · refine (alloc_stp hH.drew hb cells.size ?_).drew_first
        refine ⟨cells, (cells.size, cells.size + 1), rfl, rfl, .inr (Nat.le_refl _), _, _, hlist, ?_, fun h => by cases h⟩
        rw [cnd_eq]
        split
        · rename_i h0
          obtain rfl : n = 0 := by simpa using h0
          rfl
        · exact ⟨hdl, [], by rw [List.append_nil]; rfl, rfl⟩
      · exact ⟨w.heap.size, cells.size, 0, _, Env.new_self _ _ _ _, rfl, hcap, .inl ⟨rfl, by rw [hcs]; omega⟩⟩
    · cases h3
  · cases h2

/-- Bytes as bytes: the block is marked behind its end. -/
theorem run_freeze' {P : Program} (w : World) (a : Addr) (n : Nat) : (freeze a n).run P w = .ok () (w.freeze a n) := rfl
noncomputable def idOf (x : AV) : Option Nat := match x with
  | .slice id _ _ _ => some id
  | .slx id _ _ _ => some id
  | _ => none
noncomputable def s2sA (P : Program) (H : Hp) (src dst : TypeId) (x : AV) : Option (AV × Hp) :=
  obind (P.underlying src) fun us => match us with
    | .slice e => obind (P.underlying e) fun ue => match ue with
      | .int k => cnd (kEq k .u8) (cnd (Nat.beq src dst) (obind (idOf x) fun id => obind (cellsAt H id) fun _ => some (x, H)) none) none
      | _ => none
    | _ => none
theorem stp_less {E E' : Env} {f f' g : Nat → Option AO} {n n' : Nat} {w w' : World} (s : Stp E f n w E' f' n' w') (hg : ∀ id o, g id = some o → f' id = some o) : Stp E f n w E' g n' w' :=
  ⟨s.le, s.dom, s.next, s.hr.sub hg, s.os, s.tape, s.output, s.size, s.kept, fun id o b z h1 h2 => s.own id o b z (hg _ _ h1) h2⟩
theorem freeze_end {w : World} {b z : Nat} {c : Array Value} {e : TypeId} {fr : Nat × Nat} (h : w.heap[b]? = some (.cells c e fr)) (hz : c.size = z) (hu : FrU fr c.size) :
    ∃ fr', FrU fr' c.size ∧ w.freeze ⟨b, z, none⟩ 1 = putB w b (.cells c e fr') := by
  subst hz
  refine ⟨if fr.1 = fr.2 then (c.size, c.size + 1) else (min fr.1 c.size, max fr.2 (c.size + 1)), ?_, ?_⟩
  · split
    · exact .inr (Nat.le_refl _)
    · rename_i hn
      rcases hu with hu | hu
      · exact absurd hu hn
      · exact .inr (by simp; omega)
  · obtain ⟨lo, hi⟩ := fr
    unfold World.freeze putB
    rw [if_neg (by decide)]
    congr 1
    apply Array.ext_getElem?
    intro i
    rw [Array.getElem?_modify, Array.getElem?_setIfInBounds]
    by_cases hi' : b = i
    · subst hi'
      have hlt := (Array.getElem?_eq_some_iff.1 h).1
      rw [if_pos rfl, if_pos rfl, if_pos hlt, h]
      simp
    · rw [if_neg hi', if_neg hi']
theorem s2sA_rel {P : Program} {E : Env} {H : Hp} {w : World} {src dst : TypeId} {x : AV} {r : AV × Hp} {cx : Value} (hH : HR E H.get w) (hx : V E x cx) (h : s2sA P H src dst x = some r) : ActOk P E H w (convert src dst cx) r := by
  unfold s2sA at h
  obtain ⟨us, hs, h1⟩ := obind_some h
  split at h1
  · rename_i e
    obtain ⟨ue, he, h2⟩ := obind_some h1
    split at h2
    · obtain ⟨h3, h4⟩ := cnd_some h2
      obtain ⟨h5, h6⟩ := cnd_some h4
      obtain ⟨id, h7, h8⟩ := obind_some h6
      obtain ⟨row, h9, h10⟩ := obind_some h8
      cases h10
      obtain rfl := kEq_eq h3
      obtain rfl : src = dst := Nat.eq_of_beq_eq_true h5
      obtain ⟨elem, ex, ho⟩ := cellsAt_some h9
      have hcx : ∃ b z off l cap, E id = some (b, z) ∧ cx = .slice (some ⟨b, off, none⟩) l cap := by
        unfold idOf at h7
        split at h7
        · cases h7; obtain ⟨_, b, z, he, rfl⟩ := V_slice hx; exact ⟨b, z, _, _, _, he, rfl⟩
        · cases h7; obtain ⟨b, z, o, c, he, rfl, _⟩ := V_slx hx; exact ⟨b, z, _, _, _, he, rfl⟩
        · cases h7
      obtain ⟨b, z, off, l, cap, hid, rfl⟩ := hcx
      obtain ⟨b', z', x', g1, g2, c, fr, rfl, g3, g4, g5⟩ := hH.obj _ _ ho
      rw [hid] at g1; injection g1 with g1; injection g1 with g1 g1'; subst g1; subst g1'
      obtain ⟨fr', k1, k2⟩ := freeze_end g2 g3 g4
      refine ⟨E, _, putB w b (.cells c elem fr'), ?_, ?_, hx⟩
      · have hsh : w.shape? b = some (elem, c.size) := by unfold World.shape?; rw [g2]
        simp [convert, run_underlying hs, run_underlying he, markStringish, hsh, g3, k2]
      · have := hH.put (n := H.next) ho hid (o' := .cells _ elem ex) (x := .cells c elem fr') ⟨c, fr', rfl, g3, k1, g5⟩
        refine stp_less this fun i o hi => ?_
        unfold upd
        split
        · rename_i e1; subst e1; rw [ho] at hi; exact hi
        · exact hi
    · cases h2
  · cases h1
end Go.Ev
