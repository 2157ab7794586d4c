/- Entries of the model: what functions without a body answer. -/
import Derived.Test.YtjjnffgpfiokiaaGreatDoorEvZe
import Derived.Lib.MakeNoZero
import Derived.Lib.Bytealg
import Derived.Laws.Externs
namespace Go.Ev
open Go.RowKit Go.MapKept

inductive XK where
  | same | makeNoZero (t e : TypeId) | idxByte | count | cmp
def XK.sem : XK → Func → (Array Value → Sem Value)
  | .same, _ => Extern.AbiNoEscape.same
  | .makeNoZero t _, fn => Extern.BytealgMakeNoZero.makeNoZero fn.params #[t]
  | .idxByte, _ => Extern.BytealgIndexByte.indexByte
  | .count, _ => Extern.BytealgCount.count
  | .cmp, _ => Extern.BytealgCompare.compare

/-- The first place from i on where a byte stands (fuel m), or none. -/
noncomputable def fstB (d c : Nat) (m : Nat) : Nat → Option Nat := Nat.rec (motive := fun _ => Nat → Option Nat) (fun _ => none) (fun _ ih i => cnd (Nat.beq (digit 8 d i) c) (some i) (ih (Nat.succ i))) m
noncomputable def cntB (d c : Nat) (m : Nat) : Nat → Nat → Nat := Nat.rec (motive := fun _ => Nat → Nat → Nat) (fun _ n => n) (fun _ ih i n => forceN (cnd (Nat.beq (digit 8 d i) c) (Nat.succ n) n) fun n => ih (Nat.succ i) n) m
/-- Which of two strings stands first. -/
noncomputable def cmpD (d d' n n' : Nat) (m : Nat) : Nat → AV := Nat.rec (motive := fun _ => Nat → AV) (fun _ => .int .i64 (.ofNat 0)) (fun _ ih i => cnd (Nat.blt i n) (cnd (Nat.blt i n') (cnd (Nat.blt (digit 8 d i) (digit 8 d' i)) (.int .i64 (Int.negSucc 0)) (cnd (Nat.blt (digit 8 d' i) (digit 8 d i)) (.int .i64 (.ofNat 1)) (ih (Nat.succ i)))) (.int .i64 (.ofNat 1))) (cnd (Nat.blt i n') (.int .i64 (Int.negSucc 0)) (.int .i64 (.ofNat 0)))) m
noncomputable def extK (P : Program) (k : XK) (l : List AV) (H : Hp) : Option (AV × Hp) := match k, l with
  | .same, [x] => some (x, H)
  | .makeNoZero t e, [.int .i64 (.ofNat n)] => cnd (smallN n) (match P.underlying t with
    | some (.slice e') => cnd (Nat.beq e' e) (some (newV H (.cells .rnil e true) fun i H' => (.slx i 0 n 1, H'))) none
    | _ => none) none
  | .idxByte, [.str n d, .int .u8 (.ofNat c)] => cnd (Nat.blt c 256) (some (Option.rec (motive := fun _ => AV) (.int .i64 (Int.negSucc 0)) (fun i => intA i) (fstB d c n 0), H)) none
  | .count, [.str n d, .int .u8 (.ofNat c)] => cnd (Nat.blt c 256) (some (intA (cntB d c n 0 0), H)) none
  | .cmp, [.str n d, .str n' d'] => some (cmpD d d' n n' (Nat.succ n) 0, H)
  | _, _ => none

theorem byte_at {s : ByteArray} {n d i : Nat} (hs : s.data.toList = bytesOf n d) (hi : i < n) : s[i]! = UInt8.ofNat (digit 8 d i) := by
  have h1 : s.data.toList[i]? = some (UInt8.ofNat (digit 8 d i)) := by
    rw [hs]; unfold bytesOf; rw [List.getElem?_map, toL_get 8 n d i hi]; rfl
  have h2 : s.data[i]? = some (UInt8.ofNat (digit 8 d i)) := by rw [← Array.getElem?_toList]; exact h1
  have hsz : i < s.size := by rw [str_size hs]; exact hi
  have h3 : s[i]! = s.data[i]! := by
    rw [getElem!_pos s i hsz]
    have : i < s.data.size := hsz
    rw [getElem!_pos s.data i this]
    rfl
  rw [h3, getElem!_def, h2]

theorem fstB_eq {s : ByteArray} {n d c : Nat} (hs : s.data.toList = bytesOf n d) (hc : c < 256) : ∀ (m i : Nat), i + m = n → (List.range' i m).find? (fun i => s[i]! == UInt8.ofNat c) = fstB d c m i
  | 0, i, _ => rfl
  | m + 1, i, h => by
    rw [List.range'_succ, List.find?_cons]
    have e : fstB d c (m + 1) i = cnd (Nat.beq (digit 8 d i) c) (some i) (fstB d c m (i + 1)) := rfl
    rw [e, byte_at hs (by omega), cnd_eq]
    have hd : digit 8 d i < 256 := digit_lt 8 d i
    by_cases hq : digit 8 d i = c
    · rw [if_pos (by rw [hq]; exact Nat.beq_refl c), hq]
      simp
    · have h1 : (UInt8.ofNat (digit 8 d i) == UInt8.ofNat c) = false := by
        rw [beq_eq_false_iff_ne]
        exact fun h => hq (u8_inj hd hc h)
      rw [h1, if_neg (fun h => hq (Nat.eq_of_beq_eq_true h))]
      exact fstB_eq hs hc m (i + 1) (by omega)

theorem cntB_eq {n d c : Nat} (hc : c < 256) : ∀ (m i k : Nat), i + m = n → cntB d c m i k = k + Lib.countByte (((toL 8 n d).drop i).map UInt8.ofNat) (UInt8.ofNat c)
  | 0, i, k, h => by
    have e : cntB d c 0 i k = k := rfl
    rw [e, List.drop_eq_nil_of_le (by rw [toL_length]; omega)]
    simp [Lib.countByte]
  | m + 1, i, k, h => by
    have e : cntB d c (m + 1) i k = forceN (cnd (Nat.beq (digit 8 d i) c) (Nat.succ k) k) fun n => cntB d c m (i + 1) n := rfl
    have hlt : i < (toL 8 n d).length := by rw [toL_length]; omega
    have hg : (toL 8 n d)[i] = digit 8 d i := by
      have := toL_get 8 n d i (by omega)
      rw [List.getElem?_eq_getElem hlt] at this
      exact Option.some.inj this
    rw [e, forceN_eq, cntB_eq (n := n) hc m (i + 1) _ (by omega), List.drop_eq_getElem_cons hlt, hg, List.map_cons, cnd_eq]
    unfold Lib.countByte
    rw [List.count_cons]
    have hd : digit 8 d i < 256 := digit_lt 8 d i
    by_cases hq : digit 8 d i = c
    · rw [if_pos (by rw [hq]; exact Nat.beq_refl c), if_pos (by rw [hq]; simp)]
      omega
    · rw [if_neg (fun h => hq (Nat.eq_of_beq_eq_true h)), if_neg (fun h => hq (u8_inj hd hc (eq_of_beq h)))]
      omega

theorem u8_lt {a b : Nat} (ha : a < 256) (hb : b < 256) : (UInt8.ofNat a < UInt8.ofNat b) ↔ a < b := by
  rw [UInt8.lt_iff_toNat_lt, UInt8.toNat_ofNat', UInt8.toNat_ofNat', Nat.mod_eq_of_lt (by omega), Nat.mod_eq_of_lt (by omega)]
theorem cmpD_eq {n d n' d' : Nat} : ∀ (m i : Nat), i + m = n + 1 → 1 ≤ m → cmpD d d' n n' m i = .int .i64 (Lib.compareBytes (((toL 8 n d).drop i).map UInt8.ofNat) (((toL 8 n' d').drop i).map UInt8.ofNat))
  | 0, i, _, h => by omega
  | m + 1, i, h, _ => by
    have e : cmpD d d' n n' (m + 1) i = cnd (Nat.blt i n) (cnd (Nat.blt i n') (cnd (Nat.blt (digit 8 d i) (digit 8 d' i)) (.int .i64 (Int.negSucc 0)) (cnd (Nat.blt (digit 8 d' i) (digit 8 d i)) (.int .i64 (.ofNat 1)) (cmpD d d' n n' m (i + 1)))) (.int .i64 (.ofNat 1))) (cnd (Nat.blt i n') (.int .i64 (Int.negSucc 0)) (.int .i64 (.ofNat 0))) := rfl
    have hcons : ∀ {n d : Nat}, i < n → ((toL 8 n d).drop i).map UInt8.ofNat = UInt8.ofNat (digit 8 d i) :: ((toL 8 n d).drop (i + 1)).map UInt8.ofNat := by
      intro n d hlt
      have hl : i < (toL 8 n d).length := by rw [toL_length]; exact hlt
      have hg : (toL 8 n d)[i] = digit 8 d i := by
        have := toL_get 8 n d i hlt
        rw [List.getElem?_eq_getElem hl] at this
        exact Option.some.inj this
      rw [List.drop_eq_getElem_cons hl, hg, List.map_cons]
    have hnil : ∀ {n d : Nat}, ¬ i < n → ((toL 8 n d).drop i).map UInt8.ofNat = [] := by
      intro n d hlt
      rw [List.drop_eq_nil_of_le (by rw [toL_length]; omega), List.map_nil]
    rw [e]
    simp only [cnd_eq, blt_iff]
    by_cases h1 : i < n
    · by_cases h2 : i < n'
      · rw [if_pos h1, if_pos h2, hcons h1, hcons h2]
        unfold Lib.compareBytes
        have a1 : digit 8 d i < 256 := digit_lt 8 d i
        have a2 : digit 8 d' i < 256 := digit_lt 8 d' i
        by_cases h3 : digit 8 d i < digit 8 d' i
        · rw [if_pos h3, if_pos ((u8_lt a1 a2).2 h3)]; rfl
        · rw [if_neg h3, if_neg (fun h => h3 ((u8_lt a1 a2).1 h))]
          by_cases h4 : digit 8 d' i < digit 8 d i
          · rw [if_pos h4, if_pos ((u8_lt a2 a1).2 h4)]; rfl
          · rw [if_neg h4, if_neg (fun h => h4 ((u8_lt a2 a1).1 h))]
            exact cmpD_eq m (i + 1) (by omega) (by omega)
      · rw [if_pos h1, if_neg h2, hcons h1, hnil h2]; rfl
    · by_cases h2 : i < n'
      · rw [if_neg h1, if_pos h2, hnil h1, hcons h2]; rfl
      · rw [if_neg h1, if_neg h2, hnil h1, hnil h2]; rfl
theorem u8_of {c : Nat} : ((Int.ofNat c).toNat.toUInt8) = UInt8.ofNat c := by simp

theorem extK_rel {P : Program} {k : XK} {l : List AV} {E : Env} {H : Hp} {w : World} {fn : Func} {args : Array Value} {r : AV × Hp} (hH : HR E H.get w) (hb : E H.next = none) (hl : F2 (V E) l args.toList) (h : extK P k l H = some r) : ActOk P E H w (k.sem fn args) r := by
  unfold extK at h
  split at h
  · rename_i x
    cases h
    obtain ⟨c, ha, h1⟩ := F2_one hl
    have ha := ofL ha; subst ha
    exact ⟨E, c, w, rfl, Stp.refl hH, h1⟩
  · rename_i t e n
    obtain ⟨h1, h2⟩ := cnd_some h
    have h1' : n < 1073741824 := small_lt h1
    obtain ⟨c, ha, h3⟩ := F2_one hl
    have ha := ofL ha; subst ha
    obtain rfl := V_int h3
    split at h2
    · rename_i e' hu
      obtain ⟨h4, h5⟩ := cnd_some h2
      obtain rfl : e' = e := by simpa using h4
      rw [newV_eq] at h5
      cases h5
      obtain ⟨cs, g1, g2, _⟩ := Lib.run_makeNoZero (P := P) w fn.params t e' hu n (by omega)
      refine ⟨E.new H.next w.heap.size cs.size, _, _, g1, ?_, ?_⟩
      · exact ((alloc_stp (o := .cells .rnil e' true) (x := .cells cs e') (w := w.drew.drew) hH.drew.drew hb cs.size ⟨cs, (0, 0), rfl, rfl, .inl rfl, [], cs.toList, by simp, rfl, fun h => by cases h⟩).drew_first).drew_first
      · exact ⟨w.heap.size, cs.size, 0, cs.size, Env.new_self _ _ _ _, rfl, g2, .inl ⟨rfl, by omega⟩⟩
    · cases h2
  · rename_i n d c
    obtain ⟨h1, h2⟩ := cnd_some h
    have h1' : c < 256 := blt_iff.1 h1
    cases h2
    obtain ⟨c1, c2, ha, h3, h4⟩ := F2_two hl
    have ha := ofL ha; subst ha
    obtain ⟨_, s, rfl, hs⟩ := V_str h3
    obtain rfl := V_int h4
    refine ⟨E, _, w, run_indexByte_string (P := P) s (Int.ofNat c) w, Stp.refl hH, ?_⟩
    unfold firstIdx
    rw [u8_of, str_size hs, List.range_eq_range', fstB_eq hs h1' n 0 (by omega)]
    cases fstB d c n 0 with
    | none => rfl
    | some i => rfl
  · rename_i n d c
    obtain ⟨h1, h2⟩ := cnd_some h
    have h1' : c < 256 := blt_iff.1 h1
    cases h2
    obtain ⟨c1, c2, ha, h3, h4⟩ := F2_two hl
    have ha := ofL ha; subst ha
    obtain ⟨_, s, rfl, hs⟩ := V_str h3
    obtain rfl := V_int h4
    refine ⟨E, _, w, Lib.run_countString (P := P) s (Int.ofNat c) w, Stp.refl hH, ?_⟩
    rw [u8_of, hs, cntB_eq (n := n) h1' n 0 0 (by omega)]
    simp only [List.drop_zero, Nat.zero_add]
    rfl
  · rename_i n d n' d'
    cases h
    obtain ⟨c1, c2, ha, h3, h4⟩ := F2_two hl
    have ha := ofL ha; subst ha
    obtain ⟨_, s, rfl, hs⟩ := V_str h3
    obtain ⟨_, s', rfl, hs'⟩ := V_str h4
    refine ⟨E, _, w, Lib.run_compareString s s' w, Stp.refl hH, ?_⟩
    rw [hs, hs', cmpD_eq _ _ (by omega) (by omega)]
    rfl
  · cases h

/-- A table of entries. -/
noncomputable def extT (P : Program) (tb : List (Nat × XK)) : Ext := fun f l H => List.rec (motive := fun _ => Option (AV × Hp)) none (fun p _ ih => cnd (Nat.beq f p.1) (extK P p.2 l H) ih) tb
theorem extT_ok {P : Program} {base : Nat} {w0 : World} : ∀ {tb : List (Nat × XK)}, (∀ p ∈ tb, ∀ fn : Func, P.funcs[p.1]? = some fn → (fn.name == "runtime.NumGoroutine") = false ∧ Extern.findNext fn = none ∧ Extern.find fn = some (p.2.sem fn)) → ExtOk P base w0 (extT P tb)
  | [], _ => fun f fn l E H w args r _ _ h => by cases h
  | p :: tb, hall => fun f fn l E H w args r hf hb h hl hI => by
    have hx : cnd (Nat.beq f p.1) (extK P p.2 l H) (extT P tb f l H) = some r := h
    rw [cnd_eq] at hx
    split at hx
    · rename_i he
      obtain rfl : f = p.1 := by simpa using he
      obtain ⟨h1, h2, h3⟩ := hall p (.head _) fn hf
      obtain ⟨E', c, w', g1, g2, g3⟩ := extK_rel (fn := fn) hI.hr hI.bd.none hl hx
      refine ⟨E', c, w', ?_, g2, g3⟩
      rw [run_callFunc_extern hf h1 (by rw [hb]; rfl) h2 h3, g1]
      rfl
    · exact extT_ok (fun q hq => hall q (.tail _ hq)) f fn l E H w args r hf hb hx hl hI
end Go.Ev
