/- copy, clear, len, min, max, make, interface values, functions, tuples. -/
import Derived.Test.YtjjnffgpfiokiaaGreatDoorEvN
import Derived.MapKept
namespace Go.Ev
open Go.RowKit

def isC : Obj → Bool
  | .cells _ _ _ => true
  | _ => false
theorem gO {P : Program} {w : World} {r : Nat} {o : Obj} (h : w.heap[r]? = some o) (hc : isC o = false := by rfl) : (getObj r).run P w = .ok o w := by
  cases o <;> first | (cases hc; done) | simp [getObj, Sem.run, h]
theorem cells_of_bytes (b : ByteArray) (n e : Nat) (h : b.data.toList = bytesOf n e) : (b.data.map fun b => Value.int .u8 b.toNat).toList = (toL 8 n e).map (pv true) := by
  rw [Array.toList_map, h]
  unfold bytesOf
  rw [List.map_map]
  apply List.map_congr_left
  intro x hx
  have := toL_lt 8 n e x hx
  simp only [Function.comp, pv]
  congr 1
  have h2 : (UInt8.ofNat x).toNat = x := by simp; omega
  exact_mod_cast h2

/-- What a builtin that takes nothing of the world answers. -/
def ValOk (P : Program) (E : Env) (w : World) (m : Sem Value) (v : AV) : Prop := ∃ c, m.run P w = .ok c w ∧ V E v c
/-- What one that turns memory answers. -/
def ActOk (P : Program) (E : Env) (H : Hp) (w : World) (m : Sem Value) (r : AV × Hp) : Prop :=
  ∃ E' c w', m.run P w = .ok c w' ∧ Stp E H.get H.next w E' r.2.get r.2.next w' ∧ V E' r.1 c
theorem ValOk.act {P : Program} {E : Env} {H : Hp} {w : World} {m : Sem Value} {v : AV} (hH : HR E H.get w) (h : ValOk P E w m v) : ActOk P E H w m (v, H) := by
  obtain ⟨c, h1, h2⟩ := h
  exact ⟨E, c, w, h1, Stp.refl hH, h2⟩

noncomputable def intA (n : Nat) : AV := .int .i64 (Int.ofNat n)

noncomputable def lenA (P : Program) (H : Hp) (t : TypeId) (x : AV) : Option AV :=
  obind (P.underlying t) fun u => match u, x with
    | .string, .str n _ => some (intA n)
    | .slice _, .nils => some (intA 0)
    | .slice _, .slice _ _ n _ => some (intA n)
    | .slice _, .slx _ _ n _ => some (intA n)
    | .array n _, _ => some (intA n)
    | .pointer arr, _ => obind (P.underlying arr) fun v => match v with
      | .array n _ => some (intA n)
      | _ => none
    | .map _ _, .nilm => some (intA 0)
    | .map _ _, .map id => obind (H.get id) fun o => match o with
      | .map es _ => some (intA es.length)
      | _ => none
    | _, _ => none
theorem lenA_rel {P : Program} {E : Env} {H : Hp} {w : World} {ts : Array TypeId} {t ty : TypeId} {x v : AV} {cx : Value} (hH : HR E H.get w) (ht : ts[0]? = some t) (hx : V E x cx) (h : lenA P H t x = some v) :
    ValOk P E w (Builtin.len_ ts ty #[cx]) v := by
  unfold lenA at h
  obtain ⟨u, hu, h1⟩ := obind_some h
  have key : ∀ (n : Nat) (d : TypeDesc), P.underlying t = some d → ((Builtin.len_ ts ty #[cx]).run P w = .ok (goInt n) w) → ValOk P E w (Builtin.len_ ts ty #[cx]) (intA n) := fun n d _ hr => ⟨_, hr, rfl⟩
  split at h1
  · rename_i n d
    cases h1
    obtain ⟨_, s, rfl, hs⟩ := V_str hx
    exact key n _ hu (by simp [Builtin.len_, ht, run_underlying hu, str_size hs])
  · cases h1
    obtain rfl := V_nils hx
    exact key 0 _ hu (by simp [Builtin.len_, ht, run_underlying hu])
  · cases h1
    obtain ⟨_, b, z, _, rfl⟩ := V_slice hx
    exact key _ _ hu (by simp [Builtin.len_, ht, run_underlying hu])
  · cases h1
    obtain ⟨b, z, o, c, _, rfl, _⟩ := V_slx hx
    exact key _ _ hu (by simp [Builtin.len_, ht, run_underlying hu])
  · cases h1
    exact key _ _ hu (by cases cx <;> simp [Builtin.len_, ht, run_underlying hu])
  · rename_i arr _
    obtain ⟨d, hd, h2⟩ := obind_some h1
    split at h2
    · cases h2
      exact key _ _ hu (by cases cx <;> simp [Builtin.len_, ht, run_underlying hu, run_underlying hd])
    · cases h2
  · cases h1
    obtain rfl := V_nilm hx
    exact key 0 _ hu (by simp [Builtin.len_, ht, run_underlying hu])
  · obtain ⟨o, ho, h2⟩ := obind_some h1
    split at h2
    · cases h2
      obtain ⟨b, z, he, rfl⟩ := V_map hx
      obtain ⟨b', z', x, h3, h4, cs, rfl, h5⟩ := hH.obj _ _ ho
      rw [he] at h3; injection h3 with h3; injection h3 with h3 _; subst h3
      exact key _ _ hu (by simp [Builtin.len_, ht, run_underlying hu, gO h4, h5.length])
    · cases h2
  · cases h1

noncomputable def mxA (mx : Bool) (x y : AV) : Option AV := match x, y with
  | .int k a, .int k' b => cnd (kEq k k') (some (cnd mx (cnd (ltZ a b) (.int k b) (.int k a)) (cnd (ltZ b a) (.int k b) (.int k a)))) none
  | _, _ => none
noncomputable def mxL (mx : Bool) (l : List AV) (x : AV) : Option AV := List.rec (motive := fun _ => AV → Option AV) (fun x => some x) (fun y _ ih x => obind (mxA mx x y) ih) l x
theorem mxA_rel {P : Program} {E : Env} {w : World} {mx : Bool} {x y v : AV} {cx cy : Value} (hx : V E x cx) (hy : V E y cy) (h : mxA mx x y = some v) :
    ∃ c, ((if mx then Builtin.max2 else Builtin.min2) cx cy).run P w = .ok c w ∧ V E v c := by
  unfold mxA at h
  split at h
  · rename_i k a k' b
    obtain ⟨h1, h2⟩ := cnd_some h
    obtain rfl := kEq_eq h1
    cases h2
    obtain rfl := V_int hx
    obtain rfl := V_int hy
    cases mx
    · refine ⟨.int k (if b < a then b else a), by simp [Builtin.min2], ?_⟩
      simp only [cnd_eq, ltZ_eq, decide_eq_true_eq, Bool.false_eq_true, if_false]
      split <;> rfl
    · refine ⟨.int k (if a < b then b else a), by simp [Builtin.max2], ?_⟩
      simp only [cnd_eq, ltZ_eq, decide_eq_true_eq, if_true]
      split
      · rfl
      · rfl
  · cases h
theorem mxL_rel {P : Program} {E : Env} {w : World} {mx : Bool} : ∀ {l : List AV} {cl : List Value} {x v : AV} {cx : Value}, F2 (V E) l cl → V E x cx → mxL mx l x = some v →
    ∃ c, (cl.foldlM (if mx then Builtin.max2 else Builtin.min2) cx).run P w = .ok c w ∧ V E v c
  | [], [], x, v, cx, _, hx, h => by cases h; exact ⟨cx, by simp, hx⟩
  | y :: l, cy :: cl, x, v, cx, .cons hy hl, hx, h => by
    have h' : obind (mxA mx x y) (mxL mx l) = some v := h
    obtain ⟨z, h1, h2⟩ := obind_some h'
    obtain ⟨c, h3, h4⟩ := mxA_rel (P := P) (w := w) hx hy h1
    obtain ⟨c', h5, h6⟩ := mxL_rel (P := P) (w := w) hl h4 h2
    exact ⟨c', by rw [List.foldlM_cons, Sem.run_bind, h3]; exact h5, h6⟩

/-! ### Copy, clear -/
/-- The first n of what copy reads. -/
noncomputable def fstA (H : Hp) (z n : Nat) (x : AV) : Option AV := match x with
  | .nils => some .rnil
  | .str m d => cnd (Nat.beq n 0) (some .rnil) (cnd (Nat.beq z 1) (cnd (Nat.ble n m) (some (forceN (loD 8 d n) fun e => .rpk true n e .rnil)) none) none)
  | .slice id off _ _ => cnd (Nat.beq n 0) (some .rnil) (preA H id off (Nat.mul n z))
  | .slx id off len _ => cnd (Nat.beq n 0) (some .rnil) (cnd (Nat.ble n len) (preA H id off (Nat.mul n z)) none)
  | _ => none
theorem fstA_rel {P : Program} {E : Env} {H : Hp} {w : World} {z n : Nat} {x r : AV} {cx : Value} (hH : HR E H.get w) (hx : V E x cx) (h : fstA H z n x = some r) (hn : x = .nils → n = 0) :
    ∃ l : List Value, (Builtin.firstCells z n cx).run P w = .ok l.toArray w ∧ R E r l ∧ l.length = n * z := by
  unfold fstA at h
  split at h
  · cases h
    obtain rfl := V_nils hx
    obtain rfl := hn rfl
    exact ⟨[], by simp [Builtin.firstCells], rfl, by simp⟩
  · rename_i m d
    obtain ⟨hd, s, rfl, hs⟩ := V_str hx
    rw [cnd_eq] at h
    split at h
    · rename_i h0
      obtain rfl : n = 0 := by simpa using h0
      cases h
      exact ⟨[], by simp [Builtin.firstCells], rfl, by simp⟩
    · obtain ⟨hz1, h1⟩ := cnd_some h
      obtain ⟨hle, h2⟩ := cnd_some h1
      obtain rfl : z = 1 := by simpa using hz1
      have hle' : n ≤ m := ble_iff.1 hle
      rw [forceN_eq] at h2
      cases h2
      have e1 := extract_str s m d 0 n hd hs hle' (Nat.zero_le _)
      have e2 : hiD 8 d 0 = d := by simp [hiD]
      rw [e2, Nat.sub_zero] at e1
      refine ⟨(toL 8 n (loD 8 d n)).map (pv true), ?_, ⟨loD_lt _ _ _, [], by rw [List.append_nil]; rfl, rfl⟩, by simp [toL_length]⟩
      simp only [Builtin.firstCells, Sem.run_pure]
      congr 1
      apply Array.ext'
      rw [cells_of_bytes _ _ _ e1]
  · rename_i id off len cap
    obtain ⟨hlc, b, zz, he, rfl⟩ := V_slice hx
    rw [cnd_eq] at h
    split at h
    · rename_i h0
      obtain rfl : n = 0 := by simpa using h0
      cases h
      exact ⟨[], firstCells_zero _ _ _ _ _, rfl, by simp⟩
    · obtain ⟨l, g1, g2, g3, _⟩ := preA_rel (P := P) hH he h
      exact ⟨l, by simpa [Builtin.firstCells] using g1, g2, g3⟩
  · rename_i id off len cap
    obtain ⟨b, zz, o', cc, he, rfl, hlc, hor⟩ := V_slx hx
    rw [cnd_eq] at h
    split at h
    · rename_i h0
      obtain rfl : n = 0 := by simpa using h0
      cases h
      exact ⟨[], firstCells_zero _ _ _ _ _, rfl, by simp⟩
    · rename_i h0
      have h0' : n ≠ 0 := by simpa using h0
      obtain ⟨hle, h1⟩ := cnd_some h
      have hle' : n ≤ len := ble_iff.1 hle
      obtain ⟨rfl, _⟩ : o' = off ∧ off + cc * cap ≤ zz := by
        rcases hor with h | h
        · exact h
        · omega
      obtain ⟨l, g1, g2, g3, _⟩ := preA_rel (P := P) hH he h1
      exact ⟨l, by simpa [Builtin.firstCells] using g1, g2, g3⟩
  · cases h

noncomputable def lenOfA (x : AV) : Option Nat := match x with
  | .nils => some 0
  | .str n _ => some n
  | .slice _ _ n _ => some n
  | .slx _ _ n _ => some n
  | _ => none
theorem lenOfA_rel {P : Program} {E : Env} {w : World} {x : AV} {n : Nat} {cx : Value} (hx : V E x cx) (h : lenOfA x = some n) : (Builtin.lenOf cx).run P w = .ok n w := by
  unfold lenOfA at h
  split at h
  · cases h; obtain rfl := V_nils hx; simp [Builtin.lenOf]
  · cases h; obtain ⟨_, s, rfl, hs⟩ := V_str hx; simp [Builtin.lenOf, str_size hs]
  · cases h; obtain ⟨_, b, z, _, rfl⟩ := V_slice hx; simp [Builtin.lenOf]
  · cases h; obtain ⟨b, z, o, c, _, rfl, _⟩ := V_slx hx; simp [Builtin.lenOf]
  · cases h

noncomputable def minN (a b : Nat) : Nat := cnd (Nat.ble a b) a b
theorem minN_eq (a b : Nat) : minN a b = Nat.min a b := by unfold minN; rw [cmin]

noncomputable def copyA (P : Program) (H : Hp) (dt : TypeId) (x y : AV) : Option (AV × Hp) :=
  obind (P.underlying dt) fun u => match u with
    | .slice e => obind (szOf P e) fun z => obind (lenOfA y) fun m => match x with
      | .nils => some (intA 0, H)
      | .slice id off len _ => forceN (minN m len) fun n => cnd (Nat.beq n 0) (some (intA 0, H)) (obind (fstA H z n y) fun r => obind (apPut H id off r) fun H' => some (intA n, H'))
      | .slx id off len _ => forceN (minN m len) fun n => cnd (Nat.beq n 0) (some (intA 0, H)) (obind (fstA H z n y) fun r => obind (apPut H id off r) fun H' => some (intA n, H'))
      | _ => none
    | _ => none


theorem put_of {P : Program} {E : Env} {H H' : Hp} {w : World} {id off b z : Nat} {row : AV} {ln : List Value} (hH : HR E H.get w) (he : E id = some (b, z)) (hr : R E row ln) (h : apPut H id off row = some H') :
    ∃ w', (storeCells ⟨b, off, none⟩ ln).run P w = .ok () w' ∧ Stp E H.get H.next w E H'.get H'.next w' := by
  obtain ⟨c, e, fr, h1, h2, h3, h4, h5⟩ := apPut_rel hH he hr h
  have := run_storeCells P (b := b) (off := off) (e := e) (fr := fr) ln 0 h1 h2 (by omega) h4
  exact ⟨_, this, by simpa using h5⟩

theorem copyA_rel {P : Program} {E : Env} {H : Hp} {w : World} {ts : Array TypeId} {dt ty : TypeId} {x y : AV} {cx cy : Value} {r : AV × Hp} (hH : HR E H.get w) (ht : ts[0]? = some dt) (hx : V E x cx) (hy : V E y cy)
    (h : copyA P H dt x y = some r) : ActOk P E H w (Builtin.copy_ ts ty #[cx, cy]) r := by
  unfold copyA at h
  obtain ⟨u, hu, h1⟩ := obind_some h
  clear h
  split at h1
  · rename_i e
    obtain ⟨z, hz, h2⟩ := obind_some h1
    obtain ⟨m, hm, h3⟩ := obind_some h2
    clear h1 h2
    have hl := lenOfA_rel (P := P) (w := w) hy hm
    have hsz : ∀ w : World, (sizeOf e).run P w = .ok z w := run_sizeOf' hz
    have zero : ∀ len cap (a : Option Addr), Nat.min m len = 0 → cx = .slice a len cap → (Builtin.copy_ ts ty #[cx, cy]).run P w = .ok (goInt (0 : Nat)) w := by
      rintro len cap a h0 rfl
      have hf : ∃ l, (Builtin.firstCells z 0 cy).run P w = .ok l w ∧ l = #[] := by
        cases y <;> simp only [lenOfA] at hm <;> try (cases hm; done)
        · obtain ⟨_, s, rfl, _⟩ := V_str hy; exact ⟨_, rfl, by apply Array.ext'; simp⟩
        · obtain rfl := V_nils hy; exact ⟨_, rfl, rfl⟩
        · obtain ⟨_, b, zz, _, rfl⟩ := V_slice hy; exact ⟨_, firstCells_zero _ _ _ _ _, rfl⟩
        · obtain ⟨b, zz, o, c, _, rfl, _⟩ := V_slx hy; exact ⟨_, firstCells_zero _ _ _ _ _, rfl⟩
      obtain ⟨l, hf, rfl⟩ := hf
      cases a <;> simp [Builtin.copy_, ht, run_underlying hu, hl, hsz, h0, hf, storeCells]
    have main : ∀ id len b zz off cap, E id = some (b, zz) → cx = .slice (some ⟨b, off, none⟩) len cap → ∀ n, n = Nat.min m len → n ≠ 0 → ∀ (row : AV) (H' : Hp), fstA H z n y = some row → apPut H id off row = some H' →
        ActOk P E H w (Builtin.copy_ ts ty #[cx, cy]) (intA n, H') := by
      rintro id len b zz off cap he rfl n rfl hn0 row H' g1 g2
      obtain ⟨l, k1, k2, k3⟩ := fstA_rel (P := P) hH hy g1 (fun e => by subst e; cases hm; exact absurd (Nat.zero_min len) hn0)
      obtain ⟨w', k4, k5⟩ := put_of (P := P) hH he k2 g2
      exact ⟨E, goInt (Nat.min m len : Nat), w', by simp [Builtin.copy_, ht, run_underlying hu, hl, hsz, k1, k4], k5, rfl⟩
    split at h3
    · cases h3
      obtain rfl := V_nils hx
      exact ⟨E, _, w, zero 0 0 none (Nat.min_zero m) rfl, Stp.refl hH, rfl⟩
    · rename_i id off len cap
      obtain ⟨hlc, b, zz, he, rfl⟩ := V_slice hx
      rw [forceN_eq, minN_eq, cnd_eq] at h3
      split at h3
      · rename_i h0
        cases h3
        exact ⟨E, _, w, zero len cap _ (by simpa using h0) rfl, Stp.refl hH, rfl⟩
      · rename_i h0
        obtain ⟨row, g1, h4⟩ := obind_some h3
        obtain ⟨H', g2, h5⟩ := obind_some h4
        cases h5
        exact main id len b zz off cap he rfl _ rfl (by simpa using h0) row H' g1 g2
    · rename_i id off len cap
      obtain ⟨b, zz, o', cc, he, rfl, hlc, hor⟩ := V_slx hx
      rw [forceN_eq, minN_eq, cnd_eq] at h3
      split at h3
      · rename_i h0
        cases h3
        exact ⟨E, _, w, zero len cc _ (by simpa using h0) rfl, Stp.refl hH, rfl⟩
      · rename_i h0
        have h0' : Nat.min m len ≠ 0 := by simpa using h0
        obtain ⟨rfl, _⟩ : o' = off ∧ off + cc * cap ≤ zz := by
          rcases hor with h | h
          · exact h
          · obtain ⟨rfl, _⟩ := h; exact absurd (Nat.min_zero m) h0'
        obtain ⟨row, g1, h4⟩ := obind_some h3
        obtain ⟨H', g2, h5⟩ := obind_some h4
        cases h5
        exact main id len b zz o' cc he rfl _ rfl h0' row H' g1 g2
    · cases h3
  · cases h1

/-- clear of a slice -/
noncomputable def clearA (P : Program) (H : Hp) (t : TypeId) (x : AV) : Option (AV × Hp) :=
  obind (P.underlying t) fun u => match u, x with
    | _, .nilm => some (.tup .rnil, H)
    | _, .nils => some (.tup .rnil, H)
    | .map _ _, .map id => obind (H.get id) fun o => match o with
      | .map _ clock => some (.tup .rnil, ⟨H.next, H.tr.put id (some (.map [] clock))⟩)
      | _ => none
    | .slice e, .slice id off n _ => cnd (Nat.beq n 0) (some (.tup .rnil, H)) (obind (zeroA P e) fun v => forceN n fun n => omap (fun H' => (.tup .rnil, H')) (apPut H id off (rowRep (vrow v) n)))
    | .slice e, .slx id off n _z => cnd (Nat.beq n 0) (some (.tup .rnil, H)) (obind (zeroA P e) fun v => forceN n fun n => omap (fun H' => (.tup .rnil, H')) (apPut H id off (rowRep (vrow v) n)))
    | _, _ => none

theorem zeroCells_rep (cs : Array Value) (n : Nat) : (Builtin.zeroCells cs n).toList = (List.replicate n cs.toList).flatten := by
  by_cases h0 : cs.size = 0
  · have : cs.toList = [] := by simpa using h0
    rw [this]
    simp [Builtin.zeroCells, h0]
  · have := rep_cells cs.toList cs.size (by simp) (Nat.pos_of_ne_zero h0) n
    rw [← this]
    simp [Builtin.zeroCells]

theorem clearA_rel {P : Program} {E : Env} {H : Hp} {w : World} {ts : Array TypeId} {t ty : TypeId} {x : AV} {cx : Value} {r : AV × Hp} (hH : HR E H.get w) (ht : ts[0]? = some t) (hx : V E x cx)
    (h : clearA P H t x = some r) : ActOk P E H w (Builtin.clear_ ts ty #[cx]) r := by
  unfold clearA at h
  obtain ⟨u, hu, h1⟩ := obind_some h
  clear h
  have none : ∀ len cap (a : Option Addr), (len = 0 ∨ a = none) → cx = .slice a len cap → ActOk P E H w (Builtin.clear_ ts ty #[cx]) (.tup .rnil, H) := by
    rintro len cap a hh rfl
    refine ⟨E, .tuple #[], w, ?_, Stp.refl hH, ⟨_, rfl, rfl⟩⟩
    rcases hh with rfl | rfl
    · cases a <;> simp [Builtin.clear_, ht, run_underlying hu]
    · simp [Builtin.clear_, ht, run_underlying hu]
  have some' : ∀ e id len b zz off cap, u = .slice e → E id = some (b, zz) → cx = .slice (some ⟨b, off, .none⟩) len cap → len ≠ 0 → ∀ (v : AV) (H' : Hp), zeroA P e = some v → apPut H id off (rowRep (vrow v) len) = some H' →
      ActOk P E H w (Builtin.clear_ ts ty #[cx]) (.tup .rnil, H') := by
    rintro e id len b zz off cap rfl he rfl h0 v H' h1 h2
    obtain ⟨zc, g1, g2⟩ := zeroA_rel h1 E
    have g3 := rowRep_rel (vrow_rel g2) len
    rw [← zeroCells_rep] at g3
    obtain ⟨w', k1, k2⟩ := put_of (P := P) hH he g3 h2
    refine ⟨E, .tuple #[], w', ?_, k2, ⟨_, rfl, rfl⟩⟩
    cases len with
    | zero => exact absurd rfl h0
    | succ len => simp [Builtin.clear_, ht, run_underlying hu, g1, k1]
  split at h1
  · cases h1
    obtain rfl := V_nilm hx
    exact ⟨E, .tuple #[], w, by simp [Builtin.clear_, ht, run_underlying hu], Stp.refl hH, ⟨_, rfl, rfl⟩⟩
  · cases h1
    obtain rfl := V_nils hx
    exact none 0 0 .none (.inl rfl) rfl
  · obtain ⟨o, ho, h2⟩ := obind_some h1
    split at h2
    · rename_i es clock
      cases h2
      obtain ⟨b, z, he, rfl⟩ := V_map hx
      obtain ⟨b', z', x, h3, h4, cs, rfl, h5⟩ := hH.obj _ _ ho
      rw [he] at h3; injection h3 with h3; injection h3 with h3 _; subst h3
      refine ⟨E, .tuple #[], putB w b (.map #[] clock), ?_, ?_, ⟨_, rfl, rfl⟩⟩
      · simp [Builtin.clear_, ht, run_underlying hu, gO h4, setObj, Sem.run, h4, putB]
      · show Stp E H.get H.next w E (Hp.get ⟨H.next, H.tr.put _ _⟩) H.next _
        rw [upd_put]
        exact hH.put ho he ⟨#[], rfl, .nil⟩
    · cases h2
  · rename_i e id off n cap
    obtain ⟨hlc, b, zz, he, rfl⟩ := V_slice hx
    rw [cnd_eq] at h1
    split at h1
    · rename_i h0
      cases h1
      exact none n cap _ (.inl (by simpa using h0)) rfl
    · rename_i h0
      obtain ⟨v, g1, h2⟩ := obind_some h1
      rw [forceN_eq, omap_eq, Option.map_eq_some_iff] at h2
      obtain ⟨H', g2, rfl⟩ := h2
      exact some' e id n b zz off cap rfl he rfl (by simpa using h0) v H' g1 g2
  · rename_i e id off n z
    obtain ⟨b, zz, o', cc, he, rfl, hlc, hor⟩ := V_slx hx
    rw [cnd_eq] at h1
    split at h1
    · rename_i h0
      cases h1
      exact none n cc _ (.inl (by simpa using h0)) rfl
    · rename_i h0
      have h0' : n ≠ 0 := by simpa using h0
      obtain ⟨rfl, _⟩ : o' = off ∧ off + cc * z ≤ zz := by
        rcases hor with h | h
        · exact h
        · omega
      obtain ⟨v, g1, h2⟩ := obind_some h1
      rw [forceN_eq, omap_eq, Option.map_eq_some_iff] at h2
      obtain ⟨H', g2, rfl⟩ := h2
      exact some' e id n b zz o' cc rfl he rfl h0' v H' g1 g2
  · cases h1

end Go.Ev
