/- Slices; new memory; aggregates; the builtins. -/
import Derived.Test.YtjjnffgpfiokiaaGreatDoorEvJ
namespace Go.Ev
open Go.RowKit

/-! ### Slices -/
section sl
variable (P : Program)
/-- the three bounds: low, high, max, of a length and a capacity that are known -/
noncomputable def bnd (dflt : Nat) (o : Option AV) : Option Nat := Option.rec (motive := fun _ => Option Nat) (some dflt) asNat o
noncomputable def strCut (n d l h : Nat) : Option AV := cnd (Nat.ble h n) (cnd (Nat.ble l h) (some (forceN (loD 8 (hiD 8 d l) (Nat.sub h l)) fun e => forceN (Nat.sub h l) fun m => .str m e)) none) none
noncomputable def cutK (id off z l h m cap : Nat) : Option AV :=
  cnd (Nat.ble m cap) (cnd (Nat.ble h m) (cnd (Nat.ble l h) (some (forceN (cnd (Nat.beq m l) off (Nat.add off (Nat.mul l z))) fun o => forceN (Nat.sub h l) fun n => forceN (Nat.sub m l) fun c => .slice id o n c)) none) none) none
/-- a slice whose capacity is not known -/
noncomputable def cutX (id off z len l h : Nat) (mx : Option AV) : Option AV :=
  cnd (Nat.ble l h) (Option.rec (motive := fun _ => Option AV)
    (cnd (Nat.ble h len) (some (forceN (Nat.add off (Nat.mul l z)) fun o => forceN (Nat.sub h l) fun n => .slx id o n z)) none)
    (fun mv => obind (asNat mv) fun m => cnd (Nat.ble m len) (cnd (Nat.ble h m)
      (cnd (Nat.beq len 0) (some (.slx id off 0 z))
        (some (forceN (cnd (Nat.beq m l) off (Nat.add off (Nat.mul l z))) fun o => forceN (Nat.sub h l) fun n => forceN (Nat.sub m l) fun c => .slice id o n c))) none) none) mx) none
noncomputable def sliceA (t : TypeId) (x : AV) (lo hi mx : Option AV) : Option AV :=
  obind (P.underlying t) fun u => obind (bnd 0 lo) fun l => match x with
    | .str n d => (match u, mx with
      | .string, none => obind (bnd n hi) fun h => strCut n d l h
      | _, _ => none)
    | .ptr id off => (match u with
      | .array n e => obind (szOf P e) fun z => obind (bnd n hi) fun h => obind (bnd n mx) fun m => (match hi, mx with
        | none, some _ => none
        | _, _ => cutK id off z l h m n)
      | _ => none)
    | .slice id off len cap => (match u with
      | .slice e => obind (szOf P e) fun z => obind (bnd len hi) fun h => obind (bnd cap mx) fun m => (match hi, mx with
        | none, some _ => none
        | _, _ => cutK id off z l h m cap)
      | _ => none)
    | .slx id off len z' => (match u with
      | .slice e => obind (szOf P e) fun z => cnd (Nat.beq z z') (obind (bnd len hi) fun h => (match hi, mx with
        | none, some _ => none
        | _, _ => cutX id off z len l h mx)) none
      | _ => none)
    | .nils => (match u with
      | .slice e => obind (szOf P e) fun _ => obind (bnd 0 hi) fun h => obind (bnd 0 mx) fun m => (match hi, mx with
        | none, some _ => none
        | _, _ => cnd (Nat.beq l 0) (cnd (Nat.beq h 0) (cnd (Nat.beq m 0) (some .nils) none) none) none)
      | _ => none)
    | _ => none
end sl

theorem ble_iff {a b : Nat} : (Nat.ble a b = true) ↔ a ≤ b := by simp
theorem cnd_some {α : Type} {b : Bool} {x : Option α} {y : α} (h : cnd b x none = some y) : b = true ∧ x = some y := by
  cases b
  · cases h
  · exact ⟨rfl, h⟩

theorem run_sliceBound' {P : Program} {k : IntKind} {i y : Nat} (h : i ≤ y) (code : BoundsCode) (w : World) : (Instr.sliceBound (.int k (i : Int)) y code).run P w = .ok i w := by
  have : (i : Int) ≤ y := by omega
  simp [Instr.sliceBound, asIntOf, this]

/-- optional operands -/
def OV (E : Env) : Option AV → Option Value → Prop
  | none, none => True
  | some v, some c => V E v c
  | _, _ => False

theorem bounds_run {P : Program} {E : Env} {lo hi mx : Option AV} {clo chi cmx : Option Value} {len cap l h m : Nat} (hl : OV E lo clo) (hh : OV E hi chi) (hm : OV E mx cmx)
    (e1 : bnd 0 lo = some l) (e2 : bnd len hi = some h) (e3 : bnd cap mx = some m) (hno : ¬ (hi = none ∧ mx ≠ none)) (h1 : m ≤ cap) (h2 : h ≤ m) (h3 : l ≤ h) (b : Bool) (w : World) :
    (Instr.sliceBounds b len cap clo chi cmx).run P w = .ok (l, h, m) w := by
  have gl : clo = none ∧ l = 0 ∨ ∃ k, clo = some (.int k (l : Int)) := by
    cases lo with
    | none => cases clo with
      | none => cases e1; exact .inl ⟨rfl, rfl⟩
      | some c => exact hl.elim
    | some v => cases clo with
      | none => exact hl.elim
      | some c => obtain ⟨k, hk⟩ := asNat_rel (i := l) e1 hl; exact .inr ⟨k, by rw [hk]⟩
  have gm : mx = none ∧ cmx = none ∧ m = cap ∨ ∃ k, cmx = some (.int k (m : Int)) := by
    cases mx with
    | none => cases cmx with
      | none => cases e3; exact .inl ⟨rfl, rfl, rfl⟩
      | some c => exact hm.elim
    | some v => cases cmx with
      | none => exact hm.elim
      | some c => obtain ⟨k, hk⟩ := asNat_rel (i := m) e3 hm; exact .inr ⟨k, by rw [hk]⟩
  have gh : (hi = none ∧ chi = none ∧ h = len) ∨ ∃ k, chi = some (.int k (h : Int)) := by
    cases hi with
    | none => cases chi with
      | none => cases e2; exact .inl ⟨rfl, rfl, rfl⟩
      | some c => exact hh.elim
    | some v => cases chi with
      | none => exact hh.elim
      | some c => obtain ⟨k, hk⟩ := asNat_rel (i := h) e2 hh; exact .inr ⟨k, by rw [hk]⟩
  unfold Instr.sliceBounds
  rcases gm with ⟨hmx, rfl, rfl⟩ | ⟨km, rfl⟩
  · rcases gh with ⟨_, rfl, rfl⟩ | ⟨kh, rfl⟩
    · rcases gl with ⟨rfl, rfl⟩ | ⟨kl, rfl⟩
      · simp
      · simp [run_sliceBound' h3]
    · rcases gl with ⟨rfl, rfl⟩ | ⟨kl, rfl⟩
      · simp [run_sliceBound' h2]
      · simp [run_sliceBound' h2, run_sliceBound' h3]
  · rcases gh with ⟨hhi, rfl, rfl⟩ | ⟨kh, rfl⟩
    · exfalso
      apply hno
      refine ⟨hhi, fun e => ?_⟩
      subst e
      exact hm.elim
    · rcases gl with ⟨rfl, rfl⟩ | ⟨kl, rfl⟩
      · simp [run_sliceBound' h1, run_sliceBound' h2]
      · simp [run_sliceBound' h1, run_sliceBound' h2, run_sliceBound' h3]

theorem cutK_some {id off z l h m cap : Nat} {v : AV} (hh : cutK id off z l h m cap = some v) : m ≤ cap ∧ h ≤ m ∧ l ≤ h ∧ v = .slice id (if m = l then off else off + l * z) (h - l) (m - l) := by
  unfold cutK at hh
  obtain ⟨h1, hh⟩ := cnd_some hh
  obtain ⟨h2, hh⟩ := cnd_some hh
  obtain ⟨h3, hh⟩ := cnd_some hh
  simp only [forceN_eq] at hh
  cases hh
  refine ⟨ble_iff.1 h1, ble_iff.1 h2, ble_iff.1 h3, ?_⟩
  congr 1
  rw [cnd_eq]
  by_cases e : m = l
  · rw [if_pos e, if_pos (by simpa using e)]
  · rw [if_neg e, if_neg (by simpa using e)]; rfl

theorem add_off' (b off k : Nat) : (⟨b, off, none⟩ : Addr).add k = ⟨b, off + k, none⟩ := add_off b off k

theorem extract_str (s : ByteArray) (n d l h : Nat) (_hd : d < 2 ^ (8 * n)) (hs : s.data.toList = bytesOf n d) (h1 : h ≤ n) (h2 : l ≤ h) :
    (s.extract l h).data.toList = bytesOf (h - l) (loD 8 (hiD 8 d l) (h - l)) := by
  have e : (s.extract l h).data.toList = (s.data.toList.drop l).take (h - l) := by
    rw [ByteArray.data_extract]
    simp [List.extract_eq_take_drop]
  rw [e, hs]
  unfold bytesOf
  rw [← List.map_drop, ← List.map_take, ← toL_hi, ← toL_lo 8 (n - l) _ _ (by omega)]

theorem sliceA_rel {P : Program} {E : Env} {t : TypeId} {x v : AV} {cx : Value} {lo hi mx : Option AV} {clo chi cmx : Option Value} (hx : V E x cx) (hl : OV E lo clo) (hh : OV E hi chi) (hm : OV E mx cmx)
    (h : sliceA P t x lo hi mx = some v) (w : World) : ∃ c, (Instr.sliceAt t cx clo chi cmx).run P w = .ok c w ∧ V E v c := by
  unfold sliceA at h
  obtain ⟨u, hu, ha⟩ := obind_some h
  obtain ⟨l, e1, hq⟩ := obind_some ha
  clear h ha
  have h := hq
  clear hq
  split at h
  · rename_i n d
    split at h
    · obtain ⟨hi', e2, h⟩ := obind_some h
      unfold strCut at h
      obtain ⟨g1, h⟩ := cnd_some h
      obtain ⟨g2, h⟩ := cnd_some h
      have g1 := ble_iff.1 g1
      have g2 := ble_iff.1 g2
      simp only [forceN_eq] at h
      cases h
      obtain ⟨hd, s, rfl, hs⟩ := V_str hx
      have hsz := str_size hs
      have hc : cmx = none := by
        cases cmx with
        | none => rfl
        | some c => exact hm.elim
      subst hc
      have hb := bounds_run (P := P) (E := E) (len := s.size) (cap := s.size) hl hh (mx := none) (cmx := none) trivial e1 (by rw [hsz]; exact e2) (m := s.size) rfl (by simp) (Nat.le_refl _) (by omega) g2 false w
      refine ⟨.string (s.extract l hi'), ?_, loD_lt _ _ _, _, rfl, extract_str s n d l hi' hd hs g1 g2⟩
      simp [Instr.sliceAt, Instr.slice, run_underlying hu, hb]
    · cases h
  · rename_i id off
    split at h
    · rename_i n e
      obtain ⟨z, hz, h⟩ := obind_some h
      obtain ⟨hi', e2, h⟩ := obind_some h
      obtain ⟨m, e3, h⟩ := obind_some h
      have hno : ¬ (hi = none ∧ mx ≠ none) := by
        rintro ⟨rfl, hne⟩
        cases mx with
        | none => exact hne rfl
        | some _ => cases h
      have h' : cutK id off z l hi' m n = some v := by
        cases hi with
        | none => cases mx with
          | none => exact h
          | some _ => cases h
        | some _ => exact h
      obtain ⟨g1, g2, g3, rfl⟩ := cutK_some h'
      obtain ⟨b, zz, he, rfl⟩ := V_ptr hx
      have hb := bounds_run (P := P) (E := E) (len := n) (cap := n) hl hh hm e1 e2 e3 hno g1 g2 g3 false w
      refine ⟨.slice (some (if m = l then ⟨b, off, none⟩ else ⟨b, off + l * z, none⟩)) (hi' - l) (m - l), ?_, ?_⟩
      · simp [Instr.sliceAt, run_underlying hu, Instr.sureAddr, hb, run_sizeOf' hz, add_off]
      · refine ⟨by omega, b, zz, he, ?_⟩
        split <;> rfl
    · cases h
  · rename_i id off len cap
    split at h
    · rename_i e
      obtain ⟨z, hz, h⟩ := obind_some h
      obtain ⟨hi', e2, h⟩ := obind_some h
      obtain ⟨m, e3, h⟩ := obind_some h
      have hno : ¬ (hi = none ∧ mx ≠ none) := by
        rintro ⟨rfl, hne⟩
        cases mx with
        | none => exact hne rfl
        | some _ => cases h
      have h' : cutK id off z l hi' m cap = some v := by
        cases hi with
        | none => cases mx with
          | none => exact h
          | some _ => cases h
        | some _ => exact h
      obtain ⟨g1, g2, g3, rfl⟩ := cutK_some h'
      obtain ⟨hlc, b, zz, he, rfl⟩ := V_slice hx
      have hb := bounds_run (P := P) (E := E) (len := len) (cap := cap) hl hh hm e1 e2 e3 hno g1 g2 g3 true w
      refine ⟨.slice (some (if m = l then ⟨b, off, none⟩ else ⟨b, off + l * z, none⟩)) (hi' - l) (m - l), ?_, ?_⟩
      · simp [Instr.sliceAt, Instr.slice, run_underlying hu, hb, run_sizeOf' hz, add_off]
        split <;> rfl
      · refine ⟨by omega, b, zz, he, ?_⟩
        split <;> rfl
    · cases h
  · rename_i id off len z'
    split at h
    · rename_i e
      obtain ⟨z, hz, h⟩ := obind_some h
      obtain ⟨hzz, hqq⟩ := cnd_some h
      clear h
      obtain rfl : z = z' := by simpa using hzz
      obtain ⟨hi', e2, h⟩ := obind_some hqq
      have hno : ¬ (hi = none ∧ mx ≠ none) := by
        rintro ⟨rfl, hne⟩
        cases mx with
        | none => exact hne rfl
        | some _ => cases h
      have h' : cutX id off z len l hi' mx = some v := by
        cases hi with
        | none => cases mx with
          | none => exact h
          | some _ => cases h
        | some _ => exact h
      obtain ⟨b, zz, o', cc, he, rfl, hlc, hor⟩ := V_slx hx
      unfold cutX at h'
      obtain ⟨g3, h'⟩ := cnd_some h'
      have g3 := ble_iff.1 g3
      cases mx with
      | none =>
        have h'' : cnd (Nat.ble hi' len) (some (forceN (Nat.add off (Nat.mul l z)) fun o => forceN (Nat.sub hi' l) fun n => AV.slx id o n z)) none = some v := h'
        obtain ⟨g2, h''⟩ := cnd_some h''
        have g2 := ble_iff.1 g2
        simp only [forceN_eq] at h''
        cases h''
        have hc : cmx = none := by
          cases cmx with
          | none => rfl
          | some c => exact hm.elim
        subst hc
        have hb := bounds_run (P := P) (E := E) (len := len) (cap := cc) hl hh (mx := none) (cmx := none) trivial e1 e2 (m := cc) rfl (by simp) (Nat.le_refl _) (by omega) g3 true w
        refine ⟨.slice (some (if cc = l then ⟨b, o', none⟩ else ⟨b, o' + l * z, none⟩)) (hi' - l) (cc - l), ?_, ?_⟩
        · simp [Instr.sliceAt, Instr.slice, run_underlying hu, hb, run_sizeOf' hz, add_off]
          split <;> rfl
        · by_cases ecl : cc = l
          · refine ⟨b, zz, o', cc - l, he, by rw [if_pos ecl]; rfl, by show hi' - l ≤ cc - l; omega, .inr ⟨by show hi' - l = 0; omega, by omega⟩⟩
          · refine ⟨b, zz, o' + l * z, cc - l, he, by rw [if_neg ecl]; rfl, by show hi' - l ≤ _; omega, ?_⟩
            rcases hor with ⟨rfl, hle⟩ | ⟨hl0, hc0⟩
            · refine .inl ⟨rfl, ?_⟩
              show o' + l * z + (cc - l) * z ≤ zz
              have : l * z + (cc - l) * z = cc * z := by rw [← Nat.add_mul]; congr 1; omega
              omega
            · omega
      | some mv =>
        have h'' : (obind (asNat mv) fun m => cnd (Nat.ble m len) (cnd (Nat.ble hi' m)
            (cnd (Nat.beq len 0) (some (.slx id off 0 z))
            (some (forceN (cnd (Nat.beq m l) off (Nat.add off (Nat.mul l z))) fun o => forceN (Nat.sub hi' l) fun n => forceN (Nat.sub m l) fun c => .slice id o n c))) none) none) = some v := h'
        obtain ⟨m, e3, h''⟩ := obind_some h''
        obtain ⟨g1, h''⟩ := cnd_some h''
        obtain ⟨g2, h''⟩ := cnd_some h''
        have g1 := ble_iff.1 g1
        have g2 := ble_iff.1 g2
        have hb := bounds_run (P := P) (E := E) (len := len) (cap := cc) hl hh hm e1 e2 e3 hno (by omega) g2 g3 true w
        have hrun : (Instr.sliceAt t (.slice (some ⟨b, o', none⟩) len cc) clo chi cmx).run P w = .ok (.slice (some (if m = l then ⟨b, o', none⟩ else ⟨b, o' + l * z, none⟩)) (hi' - l) (m - l)) w := by
          simp [Instr.sliceAt, Instr.slice, run_underlying hu, hb, run_sizeOf' hz, add_off]
          split <;> rfl
        refine ⟨_, hrun, ?_⟩
        rw [cnd_eq] at h''
        split at h''
        · rename_i h0
          have h0' : len = 0 := by simpa using h0
          cases h''
          refine ⟨b, zz, (if m = l then o' else o' + l * z), 0, he, ?_, by omega, .inr ⟨rfl, rfl⟩⟩
          rw [show hi' - l = 0 by omega, show m - l = 0 by omega]
          split <;> rfl
        · rename_i h0
          have h0' : len ≠ 0 := by simpa using h0
          simp only [forceN_eq] at h''
          cases h''
          obtain ⟨rfl, _⟩ : o' = off ∧ off + cc * z ≤ zz := by
            rcases hor with h | h
            · exact h
            · omega
          refine ⟨by show hi' - l ≤ m - l; omega, b, zz, he, ?_⟩
          rw [cnd_eq]
          by_cases e : m = l
          · rw [if_pos e, if_pos (by simpa using e)]; rfl
          · rw [if_neg e, if_neg (by simpa using e)]; rfl
    · cases h
  · split at h
    · rename_i e
      obtain ⟨z, hz, h⟩ := obind_some h
      obtain ⟨hi', e2, h⟩ := obind_some h
      obtain ⟨m, e3, h⟩ := obind_some h
      have hno : ¬ (hi = none ∧ mx ≠ none) := by
        rintro ⟨rfl, hne⟩
        cases mx with
        | none => exact hne rfl
        | some _ => cases h
      have h' : cnd (Nat.beq l 0) (cnd (Nat.beq hi' 0) (cnd (Nat.beq m 0) (some AV.nils) none) none) none = some v := by
        cases hi with
        | none => cases mx with
          | none => exact h
          | some _ => cases h
        | some _ => exact h
      obtain ⟨g1, h'⟩ := cnd_some h'
      obtain ⟨g2, h'⟩ := cnd_some h'
      obtain ⟨g3, h'⟩ := cnd_some h'
      obtain rfl : l = 0 := by simpa using g1
      obtain rfl : hi' = 0 := by simpa using g2
      obtain rfl : m = 0 := by simpa using g3
      cases h'
      obtain rfl := V_nils hx
      have hb := bounds_run (P := P) (E := E) (len := 0) (cap := 0) hl hh hm e1 e2 e3 hno (Nat.le_refl _) (Nat.le_refl _) (Nat.le_refl _) true w
      exact ⟨.slice none 0 0, by simp [Instr.sliceAt, Instr.slice, run_underlying hu, hb, run_sizeOf' hz], rfl⟩
    · cases h
  · cases h

end Go.Ev
