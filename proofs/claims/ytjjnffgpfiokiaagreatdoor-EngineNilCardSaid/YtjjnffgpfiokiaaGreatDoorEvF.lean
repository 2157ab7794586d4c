/- Loads, stores, addresses, parts, aggregates: what they answer abstractly, and that the model answers so. -/
import Derived.Test.YtjjnffgpfiokiaaGreatDoorEvE
import Derived.Laws.Tables
namespace Go.Ev
open Go.RowKit

/-! ### Rows as values' cells -/
noncomputable def vrow (v : AV) : AV :=
  AV.rec (motive := fun _ => AV) (fun b => packA (.bool b) .rnil) (fun k n => packA (.int k n) .rnil) (fun n d => .rone (.str n d) .rnil) (.rone .nilp .rnil) (fun i o => .rone (.ptr i o) .rnil) (fun i o => .rone (.gptr i o) .rnil)
    (.rone .nils .rnil) (fun a b c d => .rone (.slice a b c d) .rnil) (fun a b c d => .rone (.slx a b c d) .rnil) (.rone .nilm .rnil) (fun a => .rone (.map a) .rnil) (.rone .nilf .rnil) (fun f p q _ _ => .rone (.func f p q) .rnil)
    (fun a => .rone (.yld a) .rnil) (.rone .nili .rnil) (fun t v _ => .rone (.iface t v) .rnil) (fun r _ => r) (fun r _ => .rone (.tup r) .rnil) .rnil (fun v r _ _ => .rone (.rone v r) .rnil) (fun k n d r _ => .rone (.rpk k n d r) .rnil) v
theorem vrow_rel {E : Env} {v : AV} {c : Value} (h : V E v c) : R E (vrow v) c.cells.toList := by
  cases v with
  | bool b => have := h; injection this with this; subst this; exact packA_rel (v := .bool b) (r := .rnil) (l := []) rfl rfl
  | int k n => have := h; injection this with this; subst this; exact packA_rel (v := .int k n) (r := .rnil) (l := []) rfl rfl
  | agg r => obtain ⟨cs, h1, h2⟩ := h; injection h1 with h1; subst h1; exact h2
  | rnil => cases h
  | rone v r => obtain ⟨_, _, h, _⟩ := h; cases h
  | rpk k n d r => obtain ⟨_, _, h, _⟩ := h; cases h
  | str n d => obtain ⟨h0, s, h1, h2⟩ := h; injection h1 with h1; subst h1; exact ⟨_, [], rfl, ⟨h0, s, rfl, h2⟩, rfl⟩
  | nilp => have := h; injection this with this; subst this; exact ⟨_, [], rfl, h, rfl⟩
  | gptr g o => have := h; injection this with this; subst this; exact ⟨_, [], rfl, h, rfl⟩
  | nils => have := h; injection this with this; subst this; exact ⟨_, [], rfl, h, rfl⟩
  | nilm => have := h; injection this with this; subst this; exact ⟨_, [], rfl, h, rfl⟩
  | nilf => have := h; injection this with this; subst this; exact ⟨_, [], rfl, h, rfl⟩
  | nili => have := h; injection this with this; subst this; exact ⟨_, [], rfl, h, rfl⟩
  | ptr i o => have h' := h; obtain ⟨b, z, _, h1⟩ := h'; injection h1 with h1; subst h1; exact ⟨_, [], rfl, h, rfl⟩
  | slice a b c d => have h' := h; obtain ⟨_, b, z, _, h1⟩ := h'; injection h1 with h1; subst h1; exact ⟨_, [], rfl, h, rfl⟩
  | slx a b c d => have h' := h; obtain ⟨b, z, o, cc, _, h1, _⟩ := h'; injection h1 with h1; subst h1; exact ⟨_, [], rfl, h, rfl⟩
  | map a => have h' := h; obtain ⟨b, z, _, h1⟩ := h'; injection h1 with h1; subst h1; exact ⟨_, [], rfl, h, rfl⟩
  | func f p q => have h' := h; obtain ⟨_, b, z, h1, _⟩ := h'; injection h1 with h1; subst h1; exact ⟨_, [], rfl, h, rfl⟩
  | yld a => have h' := h; obtain ⟨b, z, _, h1⟩ := h'; injection h1 with h1; subst h1; exact ⟨_, [], rfl, h, rfl⟩
  | iface t v => have h' := h; obtain ⟨b, h1, _⟩ := h'; injection h1 with h1; subst h1; exact ⟨_, [], rfl, h, rfl⟩
  | tup r => have h' := h; obtain ⟨b, h1, _⟩ := h'; injection h1 with h1; subst h1; exact ⟨_, [], rfl, h, rfl⟩

/-- A value that may stand in one cell. -/
noncomputable def okCell (v : AV) : Bool :=
  AV.rec (motive := fun _ => Bool) (fun _ => true) (fun _ _ => true) (fun _ _ => true) true (fun _ _ => true) (fun _ _ => true) true (fun _ _ _ _ => true) (fun _ _ _ _ => true)
    true (fun _ => true) true (fun _ _ _ _ _ => true) (fun _ => true) true (fun _ _ _ => true) (fun _ _ => false) (fun _ _ => false) false (fun _ _ _ _ => false) (fun _ _ _ _ _ => false) v
theorem okCell_rel {E : Env} {v : AV} {c : Value} (h : V E v c) (ho : okCell v = true) : c.oneCell' = true := by
  cases v with
  | agg r => cases ho
  | tup r => cases ho
  | rnil => cases ho
  | rone v r => cases ho
  | rpk k n d r => cases ho
  | str n d => obtain ⟨h0, s, h1, h2⟩ := h; injection h1 with h1; subst h1; rfl
  | ptr i o => obtain ⟨b, z, _, h1⟩ := h; injection h1 with h1; subst h1; rfl
  | slice a b c d => obtain ⟨_, b, z, _, h1⟩ := h; injection h1 with h1; subst h1; rfl
  | slx a b c d => obtain ⟨b, z, o, cc, _, h1, _⟩ := h; injection h1 with h1; subst h1; rfl
  | map a => obtain ⟨b, z, _, h1⟩ := h; injection h1 with h1; subst h1; rfl
  | func f p q => obtain ⟨_, b, z, h1, _⟩ := h; injection h1 with h1; subst h1; rfl
  | yld a => obtain ⟨b, z, _, h1⟩ := h; injection h1 with h1; subst h1; rfl
  | iface t v => obtain ⟨b, h1, _⟩ := h; injection h1 with h1; subst h1; rfl
  | _ => have := h; injection this with this; subst this; rfl
noncomputable def okRow (r : AV) : Bool := rowRec false true (fun v _ ih => cnd (okCell v) ih false) (fun _ _ _ _ ih => ih) r
theorem okRow_rel {E : Env} : ∀ {r : AV} {l : List Value}, R E r l → okRow r = true → ∀ v ∈ l, v.oneCell' = true := by
  intro r
  induction r with
  | rnil => intro l h _; rw [R_nil h]; simp
  | rone x r _ hr =>
    rintro l ⟨c, l', h, h1, h2⟩ ho; injection h with h; subst h
    have ho' : cnd (okCell x) (okRow r) false = true := ho
    rw [cnd_eq] at ho'
    split at ho'
    · rename_i hx
      intro v hv
      rcases List.mem_cons.1 hv with rfl | hv
      · exact okCell_rel h1 hx
      · exact hr h2 ho' v hv
    · cases ho'
  | rpk k n d r hr =>
    rintro l ⟨_, l', h, h2⟩ ho; injection h with h; subst h
    intro v hv
    rcases List.mem_append.1 hv with hv | hv
    · obtain ⟨x, _, rfl⟩ := List.mem_map.1 hv
      cases k <;> rfl
    · exact hr h2 ho v hv
  | _ => intro l _ ho; cases ho

/-- A row written into a row. -/
noncomputable def rowWr (r : AV) (off : Nat) (s : AV) : Option AV :=
  obind (rowTake r off) fun a => obind (rowDrop r (Nat.add off (rowSize s))) fun b => some (rowApp (rowApp b s) a)
noncomputable def isOne (s : AV) : Bool := rowRec false false (fun _ r _ => isRnil r) (fun _ n _ r _ => cnd (Nat.beq n 1) (isRnil r) false) s
noncomputable def rowPut (r : AV) (off : Nat) (s : AV) : Option AV :=
  cnd (isOne s) (obind (rowGet s 0) fun v => rowSet v r off) (rowWr r off s)
theorem rowWr_rel {E : Env} {r s r' : AV} {l m : List Value} {off : Nat} (hr : R E r l) (hs : R E s m) (h : rowWr r off s = some r') : R E r' (wrL l off m) ∧ off + m.length ≤ l.length := by
  unfold rowWr at h
  obtain ⟨a, h1, h2⟩ := obind_some h
  obtain ⟨b, h3, h4⟩ := obind_some h2
  cases h4
  obtain ⟨ha, _⟩ := rowTake_rel hr h1
  obtain ⟨hb, hle⟩ := rowDrop_rel hr h3
  rw [← rowSize_rel hs] at hb hle
  refine ⟨?_, hle⟩
  unfold wrL
  rw [List.append_assoc]
  exact rowApp_rel (rowApp_rel hb hs) ha
theorem isOne_rel {E : Env} {s : AV} {m : List Value} (hs : R E s m) (h : isOne s = true) : m.length = 1 := by
  rw [rowSize_rel hs]
  cases s with
  | rone v r => have hr : r = .rnil := isRnil_eq h; subst hr; rfl
  | rpk k n d r =>
    have h' : cnd (Nat.beq n 1) (isRnil r) false = true := h
    rw [cnd_eq] at h'
    split at h'
    · rename_i hn
      have hn' : n = 1 := by simpa [Nat.beq_eq] using hn
      subst hn'
      have hr : r = .rnil := isRnil_eq h'; subst hr; rfl
    · cases h'
  | _ => cases h
theorem rowPut_rel {E : Env} {r s r' : AV} {l m : List Value} {off : Nat} (hr : R E r l) (hs : R E s m) (h : rowPut r off s = some r') : R E r' (wrL l off m) ∧ off + m.length ≤ l.length := by
  unfold rowPut at h
  rw [cnd_eq] at h
  split at h
  · rename_i ho
    obtain ⟨v, h1, h2⟩ := obind_some h
    obtain ⟨c, h3, h4⟩ := rowGet_rel hs h1
    have hl := isOne_rel hs ho
    obtain ⟨c', rfl⟩ : ∃ c', m = [c'] := by
      cases m with
      | nil => cases hl
      | cons x t => cases t with
        | nil => exact ⟨x, rfl⟩
        | cons _ _ => simp at hl
    cases h3
    obtain ⟨h5, h6⟩ := rowSet_rel h4 hr h2
    refine ⟨?_, h6⟩
    unfold wrL
    rw [List.set_eq_take_append_cons_drop, if_pos h6] at h5
    simpa using h5
  · exact rowWr_rel hr hs h

/-! ### Loads and stores -/
section ops
variable (P : Program)

noncomputable def cellsAt (H : Hp) (id : Nat) : Option AV :=
  obind (H.get id) fun o => AO.rec (motive := fun _ => Option AV) (fun r _ _ => some r) (fun _ _ => none) (fun _ _ _ _ => none) (fun _ _ _ => none) (fun _ _ _ _ _ _ _ _ _ => none) (fun _ => none) o

/-- A part of a row, as a value of a type. -/
noncomputable def partA (t : TypeId) (r : AV) (off : Nat) : Option AV :=
  obind (isAggB P t) fun b => cnd b (obind (szOf P t) fun n => obind (rowDrop r off) fun x => omap .agg (rowTake x n)) (rowGet r off)

noncomputable def ldV (H : Hp) (t : TypeId) (id off : Nat) : Option AV := obind (cellsAt H id) fun r => partA P t r off

noncomputable def stV (H : Hp) (t : TypeId) (id off : Nat) (v : AV) : Option Hp :=
  obind (H.get id) fun o => AO.rec (motive := fun _ => Option Hp)
    (fun r e x => obind (szOf P t) fun n => forceN (rowSize (vrow v)) fun m => cnd (Nat.beq m n) (cnd (okRow (vrow v)) (obind (rowPut r off (vrow v)) fun r' => some ⟨H.next, H.tr.put id (some (.cells r' e x))⟩) none) none)
    (fun _ _ => none) (fun _ _ _ _ => none) (fun _ _ _ => none) (fun _ _ _ _ _ _ _ _ _ => none) (fun _ => none) o
end ops

theorem cellsAt_some {H : Hp} {id : Nat} {r : AV} (h : cellsAt H id = some r) : ∃ e x, H.get id = some (.cells r e x) := by
  unfold cellsAt at h
  obtain ⟨o, h1, h2⟩ := obind_some h
  cases o <;> first | (cases h2; exact ⟨_, _, h1⟩) | cases h2

theorem upd_put (H : Hp) (id n : Nat) (x : Option AO) : Hp.get ⟨n, H.tr.put id x⟩ = upd H.get id x := by
  funext j
  unfold Hp.get upd
  rw [Tr.get_put]

theorem partA_list {P : Program} {E : Env} {t : TypeId} {r v : AV} {l _x : List Value} {off : Nat} (hr : R E r l) (h : partA P t r off = some v) :
    (∃ n, isAggB P t = some true ∧ szOf P t = some n ∧ off + n ≤ l.length ∧ V E v (.agg ((l.drop off).take n).toArray)) ∨
    (isAggB P t = some false ∧ ∃ c, l[off]? = some c ∧ V E v c) := by
  unfold partA at h
  obtain ⟨b, h1, h2⟩ := obind_some h
  rw [cnd_eq] at h2
  cases b with
  | true =>
    rw [if_pos rfl] at h2
    obtain ⟨n, h3, h4⟩ := obind_some h2
    obtain ⟨y, h5, h6⟩ := obind_some h4
    rw [omap_eq, Option.map_eq_some_iff] at h6
    obtain ⟨y2, h7, rfl⟩ := h6
    obtain ⟨h8, h9⟩ := rowDrop_rel hr h5
    obtain ⟨h10, h11⟩ := rowTake_rel h8 h7
    refine .inl ⟨n, h1, h3, ?_, _, rfl, h10⟩
    rw [List.length_drop] at h11; omega
  | false =>
    rw [if_neg (by simp)] at h2
    exact .inr ⟨h1, rowGet_rel hr h2⟩

theorem ldV_rel {P : Program} {E : Env} {H : Hp} {w : World} {t : TypeId} {id off b z : Nat} {v : AV} (hH : HR E H.get w) (he : E id = some (b, z)) (h : ldV P H t id off = some v) :
    ∃ c, (loadVar t ⟨b, off, none⟩).run P w = .ok c w ∧ V E v c := by
  unfold ldV at h
  obtain ⟨r, h1, h2⟩ := obind_some h
  obtain ⟨e, x, h3⟩ := cellsAt_some h1
  obtain ⟨b', z', o, h4, h5, c, fr, rfl, hz, hu, l, x', hc, hr, _⟩ := hH.obj id _ h3
  rw [he] at h4; injection h4 with h4; injection h4 with h4 _; subst h4
  rcases partA_list (_x := x') hr h2 with ⟨n, h6, h7, h8, h9⟩ | ⟨h6, cc, h7, h8⟩
  · refine ⟨_, ?_, h9⟩
    have hlen : l.length ≤ c.size := by rw [← Array.length_toList, hc, List.length_append]; omega
    simp only [loadVar, Sem.run_bind, run_isAgg' h6, Result.andThen_ok, if_true, run_sizeOf' h7, run_loadCells P h5 (off := off) (n := n) (by omega), Sem.run_pure]
    rw [hc, List.drop_append_of_le_length (by omega), List.take_append_of_le_length (by rw [List.length_drop]; omega)]
  · refine ⟨cc, ?_, h8⟩
    have h9 : c[off]? = some cc := by
      rw [← Array.getElem?_toList, hc, List.getElem?_append_left (by obtain ⟨hlt, _⟩ := List.getElem?_eq_some_iff.1 h7; exact hlt)]; exact h7
    simp [loadVar, run_isAgg' h6, cellAt h5, h9]

theorem stV_rel {P : Program} {E : Env} {H H' : Hp} {w : World} {t : TypeId} {id off b z : Nat} {v : AV} {c : Value} (hH : HR E H.get w) (he : E id = some (b, z)) (hv : V E v c) (h : stV P H t id off v = some H') :
    ∃ w', (storeVar t ⟨b, off, none⟩ c).run P w = .ok () w' ∧ Stp E H.get H.next w E H'.get H'.next w' := by
  unfold stV at h
  obtain ⟨o, h1, h2⟩ := obind_some h
  cases o with
  | cells r e x =>
    obtain ⟨n, h3, h4⟩ := obind_some h2
    rw [forceN_eq, cnd_eq] at h4
    split at h4
    · rename_i hsz
      rw [cnd_eq] at h4
      split at h4
      · rename_i hok
        obtain ⟨r', h5, h6⟩ := obind_some h4
        cases h6
        have hrow := vrow_rel hv
        obtain ⟨b', z', oo, h7, h8, cc, fr, rfl, hz, hu, l, x', hc, hr, hx⟩ := hH.obj id _ h1
        rw [he] at h7; injection h7 with h7; injection h7 with h7 h7'; subst h7; subst h7'
        obtain ⟨h9, h10⟩ := rowPut_rel hr hrow h5
        have hlen : cc.size = l.length + x'.length := by rw [← Array.length_toList, hc, List.length_append]
        have hcs : c.cells.size = n := by
          have := rowSize_rel hrow
          rw [Array.length_toList] at this
          rw [this]; simpa [Nat.beq_eq] using hsz
        have hst := run_storeCells P (b := b) (off := off) (e := e) (fr := fr) c.cells.toList 0 h8 hu (by rw [hlen]; omega) (okRow_rel hrow hok)
        refine ⟨putB w b (.cells (wrL cc.toList (off + 0) c.cells.toList).toArray e fr), ?_, ?_⟩
        · simp only [storeVar, Sem.run_bind, run_sizeOf' h3, Result.andThen_ok, hcs, ne_eq, not_true_eq_false, if_false]
          exact hst
        · rw [upd_put]
          refine hH.put h1 he ⟨_, fr, rfl, ?_, ?_, wrL l off c.cells.toList, x', ?_, h9, hx⟩
          · simp [wrL]; rw [hlen] at hz; simp at h10; omega
          · have : (wrL cc.toList (off + 0) c.cells.toList).toArray.size = cc.size := by simp [wrL]; simp at h10; omega
            rw [this]; exact hu
          · simp only [wrL, Nat.add_zero]
            rw [hc, List.take_append_of_le_length (by omega), List.drop_append_of_le_length (by omega)]
            simp
      · cases h4
    · cases h4
  | _ => cases h2

end Go.Ev
