/- Maps gone over: what stands next may be any; the entry itself. Lists of outcomes. -/
import Derived.Test.YtjjnffgpfiokiaaGreatDoorEvZf
namespace Go.Ev
open Go.RowKit Go.MapKept

/-! ### Lists of outcomes -/
noncomputable def apl {α : Type} (u v : List α) : List α := List.rec (motive := fun _ => List α) v (fun x _ ih => x :: ih) u
theorem apl_eq {α : Type} (u v : List α) : apl u v = u ++ v := by
  induction u with
  | nil => rfl
  | cons x u ih => show x :: apl u v = _; rw [ih]; rfl
/-- All outcomes of f at all of a list. -/
noncomputable def lall {α β : Type} (f : α → Option (List β)) (l : List α) : Option (List β) :=
  List.rec (motive := fun _ => Option (List β)) (some []) (fun a t ih => List.rec (motive := fun _ => Option (List β)) (f a) (fun _ _ _ => obind (f a) fun u => obind ih fun v => some (apl u v)) t) l
theorem lall_some {α β : Type} {f : α → Option (List β)} : ∀ {l : List α} {rs : List β}, lall f l = some rs → ∀ a ∈ l, ∃ u, f a = some u ∧ ∀ r ∈ u, r ∈ rs
  | [], _, _, a, ha => by cases ha
  | [b], rs, h, a, ha => by
    obtain rfl : a = b := by simpa using ha
    exact ⟨rs, h, fun r hr => hr⟩
  | b :: c :: l, rs, h, a, ha => by
    have h' : (obind (f b) fun u => obind (lall f (c :: l)) fun v => some (apl u v)) = some rs := h
    obtain ⟨u, h1, h2⟩ := obind_some h'
    obtain ⟨v, h3, h4⟩ := obind_some h2
    cases h4
    rcases List.mem_cons.1 ha with rfl | ha
    · exact ⟨u, h1, fun r hr => by rw [apl_eq]; exact List.mem_append_left _ hr⟩
    · obtain ⟨u', g1, g2⟩ := lall_some h3 a ha
      exact ⟨u', g1, fun r hr => by rw [apl_eq]; exact List.mem_append_right _ (g2 r hr)⟩
noncomputable def lbind {α β : Type} (x : Option (List α)) (f : α → Option (List β)) : Option (List β) := obind x fun l => lall f l
theorem lbind_some {α β : Type} {x : Option (List α)} {f : α → Option (List β)} {rs : List β} (h : lbind x f = some rs) : ∃ l, x = some l ∧ ∀ a ∈ l, ∃ u, f a = some u ∧ ∀ r ∈ u, r ∈ rs := by
  obtain ⟨l, h1, h2⟩ := obind_some h
  exact ⟨l, h1, lall_some h2⟩
noncomputable def lone' {α : Type} (x : Option α) : Option (List α) := omap (fun r => [r]) x
theorem lone_some {α : Type} {x : Option α} {rs : List α} (h : lone' x = some rs) : ∃ r, x = some r ∧ rs = [r] := by
  unfold lone' at h
  rw [omap_eq, Option.map_eq_some_iff] at h
  obtain ⟨r, h1, rfl⟩ := h
  exact ⟨r, h1, rfl⟩
noncomputable def lmp {α β : Type} (f : α → β) (l : List α) : List β := List.rec (motive := fun _ => List β) [] (fun a _ ih => f a :: ih) l
theorem lmp_eq {α β : Type} (f : α → β) (l : List α) : lmp f l = l.map f := by
  induction l with
  | nil => rfl
  | cons a l ih => show f a :: lmp f l = _; rw [ih]; rfl

/-! ### What is left of a map -/
noncomputable def hasN (n : Nat) (l : List Nat) : Bool := List.rec (motive := fun _ => Bool) false (fun m _ ih => cnd (Nat.beq m n) true ih) l
theorem hasN_eq (n : Nat) (l : List Nat) : hasN n l = l.contains n := by
  induction l with
  | nil => rfl
  | cons m l ih =>
    show cnd (Nat.beq m n) true (hasN n l) = _
    rw [ih, cnd_eq, List.contains_cons]
    by_cases h : m = n
    · subst h; simp
    · rw [if_neg (fun hh => h (Nat.eq_of_beq_eq_true hh))]
      have : (n == m) = false := by simpa using fun e : n = m => h e.symm
      rw [this]; rfl
noncomputable def filA (f : Nat → Bool) (es : List Ent) : List Ent := List.rec (motive := fun _ => List Ent) [] (fun e _ ih => cnd (f e.2.2) (e :: ih) ih) es
theorem filA_rel {E : Env} {f : Nat → Bool} : ∀ {es : List Ent} {cs : List MapEntry}, F2 (ERel E) es cs → F2 (ERel E) (filA f es) (cs.filter fun e => f e.born)
  | [], [], .nil => .nil
  | e :: es, c :: cs, .cons h t => by
    have ih := filA_rel (f := f) t
    have hb : c.born = e.2.2 := h.2.2
    show F2 (ERel E) (cnd (f e.2.2) (e :: filA f es) (filA f es)) _
    rw [cnd_eq, List.filter_cons, hb]
    split
    · exact .cons h ih
    · exact ih
noncomputable def allA (f : Nat → Bool) (es : List Ent) : Bool := List.rec (motive := fun _ => Bool) true (fun e _ ih => cnd (f e.2.2) ih false) es
theorem allA_rel {E : Env} {f : Nat → Bool} : ∀ {es : List Ent} {cs : List MapEntry}, F2 (ERel E) es cs → allA f es = cs.all fun e => f e.born
  | [], [], .nil => rfl
  | e :: es, c :: cs, .cons h t => by
    have ih := allA_rel (f := f) t
    have hb : c.born = e.2.2 := h.2.2
    show cnd (f e.2.2) (allA f es) false = _
    rw [cnd_eq, List.all_cons, hb, ih]
    cases f e.2.2 <;> rfl
noncomputable def isNil {α : Type} (l : List α) : Bool := List.rec (motive := fun _ => Bool) true (fun _ _ _ => false) l
theorem isNil_eq {α : Type} (l : List α) : isNil l = l.isEmpty := by cases l <;> rfl
noncomputable def orB (a b : Bool) : Bool := cnd a true b
noncomputable def snocN (l : List Nat) (n : Nat) : List Nat := List.rec (motive := fun _ => List Nat) [n] (fun m _ ih => m :: ih) l
theorem snocN_eq (l : List Nat) (n : Nat) : snocN l n = l ++ [n] := by
  induction l with
  | nil => rfl
  | cons m l ih => show m :: snocN l n = _; rw [ih]; rfl

noncomputable def overR (H : Hp) : AV × Hp := (.tup (packA (.bool false) .rnil), H)
noncomputable def stepR (H : Hp) (id : Nat) (m since clock : Nat) (seen : List Nat) (e : Ent) : AV × Hp :=
  (.tup (packA (.bool true) (packA e.1 (packA e.2.1 .rnil))), ⟨H.next, H.tr.put id (some (.iter (some m) since (snocN seen e.2.2) clock))⟩)
/-- What may stand next. -/
noncomputable def nxtM (H : Hp) (it : AV) : Option (List (AV × Hp)) := match it with
  | .ptr id off => cnd (Nat.beq off 0) (obind (H.get id) fun o => match o with
    | .iter none _ _ _ => some [overR H]
    | .iter (some m) since seen last => obind (H.get m) fun o => match o with
      | .map es clock => cnd (orB (isNil seen) (orB (isNil es) (notB (allA (fun b => Nat.ble last b) es))))
          ((fun left => (fun old new => some (apl (cnd (isNil old) [overR H] []) (lmp (stepR H id m since clock seen) (apl old new))))
            (filA (fun b => Nat.blt b since) left) (filA (fun b => Nat.ble since b) left)) (filA (fun b => notB (hasN b seen)) es)) none
      | _ => none
    | _ => none) none
  | _ => none

theorem choose_next {P : Program} {w : World} (n : Nat) (hn : 0 < n) : ∃ k w', k < n ∧ (w' = w ∨ w' = w.drew) ∧ (choose (.mapNext n)).run P w = .ok k w' := by
  by_cases h : n ≤ 1
  · refine ⟨0, w, hn, .inl rfl, ?_⟩
    simp [choose, Sem.run, Question.forced, h]
  · refine ⟨w.tape w.drawn (.mapNext n) % n, w.drew, Nat.mod_lt _ hn, .inr rfl, ?_⟩
    unfold choose Sem.run
    rw [if_neg (by simp [Question.forced, h])]
    rfl

theorem F2.get_r {α β : Type} {r : α → β → Prop} : ∀ {a : List α} {b : List β}, F2 r a b → ∀ {k : Nat} {y : β}, b[k]? = some y → ∃ x, a[k]? = some x ∧ r x y
  | _, _, .nil, k, y, h => by simp at h
  | _, _, .cons h t, 0, y, hh => by
    simp only [List.getElem?_cons_zero, Option.some.injEq] at hh
    subst hh
    exact ⟨_, rfl, h⟩
  | _, _, .cons h t, k + 1, y, hh => by
    rw [List.getElem?_cons_succ] at hh
    obtain ⟨x, h1, h2⟩ := F2.get_r t hh
    exact ⟨x, by rw [List.getElem?_cons_succ]; exact h1, h2⟩
theorem F2.app {α β : Type} {r : α → β → Prop} : ∀ {a : List α} {b : List β} {c : List α} {d : List β}, F2 r a b → F2 r c d → F2 r (a ++ c) (b ++ d)
  | _, _, _, _, .nil, k => k
  | _, _, _, _, .cons h t, k => .cons h (F2.app t k)

theorem F2.emp {α β : Type} {r : α → β → Prop} {a : List α} {b : List β} (h : F2 r a b) : a.isEmpty = b.isEmpty := by cases h <;> rfl
theorem filter_born (cs : Array MapEntry) (seen : List Nat) (p : Nat → Bool) :
    ((cs.filter fun e => !seen.toArray.contains e.born).filter fun e => p e.born).toList = ((cs.toList.filter fun e => !seen.contains e.born).filter fun e => p e.born) := by
  have h : (fun e : MapEntry => !seen.toArray.contains e.born) = fun e => !seen.contains e.born := by funext e; rw [List.contains_toArray]
  rw [Array.toList_filter, Array.toList_filter, h]
theorem lt_fun (n : Nat) : (fun e : MapEntry => decide (e.born < n)) = fun e => (fun b => Nat.blt b n) e.born := by
  funext e; rw [Bool.eq_iff_iff]; simp [Nat.blt_eq]
theorem ge_fun (n : Nat) : (fun e : MapEntry => decide (e.born ≥ n)) = fun e => (fun b => Nat.ble n b) e.born := by
  funext e; rw [Bool.eq_iff_iff]; simp

theorem nxtM_rel {P : Program} {E : Env} {H : Hp} {w : World} {it : AV} {ty : TypeId} {ci : Value} {rs : List (AV × Hp)} (hH : HR E H.get w) (hi : V E it ci) (h : nxtM H it = some rs) :
    ∃ r ∈ rs, ActOk P E H w (Instr.next ci false ty) r := by
  unfold nxtM at h
  split at h
  · rename_i id off
    obtain ⟨h0, h1⟩ := cnd_some h
    obtain rfl : off = 0 := by simpa using h0
    obtain ⟨o, h2, h3⟩ := obind_some h1
    obtain ⟨b, z, he, rfl⟩ := V_ptr hi
    have over : V E (.tup (packA (.bool false) .rnil)) (.tuple #[.bool false]) := ⟨_, rfl, packA_rel (v := .bool false) rfl rfl⟩
    split at h3
    · obtain ⟨b', z', x', g3, g4, g5⟩ := hH.obj _ _ h2
      rw [he] at g3; injection g3 with g3; injection g3 with g3 g3'; subst g3; subst g3'
      have g5' : x' = .mapIter none _ _ _ := g5
      subst g5'
      cases h3
      exact ⟨_, List.mem_singleton.2 rfl, E, .tuple #[.bool false], w, by simp [Instr.next, gO g4], Stp.refl hH, over⟩
    · rename_i m since seen last
      obtain ⟨o2, h4, h5⟩ := obind_some h3
      split at h5
      · rename_i es clock
        obtain ⟨h6, h7⟩ := cnd_some h5
        obtain ⟨b', z', x', g3, g4, bm, zm, g6, rfl⟩ := hH.obj _ _ h2
        rw [he] at g3; injection g3 with g3; injection g3 with g3 g3'; subst g3; subst g3'
        obtain ⟨bm', zm', xm, q3, q4, cs, rfl, hf⟩ := hH.obj _ _ h4
        rw [g6] at q3; injection q3 with q3; injection q3 with q3 q3'; subst q3; subst q3'
        cases h7
        have hleft : F2 (ERel E) (filA (fun b => notB (hasN b seen)) es) (cs.toList.filter fun e => !seen.contains e.born) := by
          have := filA_rel (f := fun b => notB (hasN b seen)) hf
          have e : (fun e : MapEntry => notB (hasN e.born seen)) = fun e => !seen.contains e.born := by
            funext e; rw [hasN_eq]; cases seen.contains e.born <;> rfl
          rw [e] at this
          exact this
        have hold := filA_rel (f := fun b => Nat.blt b since) hleft
        have hnew := filA_rel (f := fun b => Nat.ble since b) hleft
        have hbad : (!seen.isEmpty && !cs.toList.isEmpty && cs.toList.all fun e => decide (e.born ≥ last)) = false := by
          have ha : allA (fun b => Nat.ble last b) es = cs.toList.all fun e => decide (e.born ≥ last) := by
            rw [allA_rel hf, ge_fun]
          have hl : es.isEmpty = cs.toList.isEmpty := hf.emp
          rw [← ha, ← hl]
          unfold orB at h6
          rw [isNil_eq, isNil_eq] at h6
          revert h6
          cases seen.isEmpty <;> cases es.isEmpty <;> cases allA (fun b => Nat.ble last b) es <;> simp [cnd, notB]
        -- what the model chooses from
        have e1 : ((cs.filter fun e => !seen.toArray.contains e.born).filter fun e => decide (e.born < since)).toList = ((cs.toList.filter fun e => !seen.contains e.born).filter fun e => Nat.blt e.born since) := by
          rw [lt_fun]; exact filter_born cs seen (fun b => Nat.blt b since)
        have e2 : ((cs.filter fun e => !seen.toArray.contains e.born).filter fun e => decide (e.born ≥ since)).toList = ((cs.toList.filter fun e => !seen.contains e.born).filter fun e => Nat.ble since e.born) := by
          rw [ge_fun]; exact filter_born cs seen (fun b => Nat.ble since b)
        rw [← e1] at hold
        rw [← e2] at hnew
        clear e1 e2
        generalize hold' : filA (fun b => Nat.blt b since) (filA (fun b => notB (hasN b seen)) es) = old at *
        generalize hnew' : filA (fun b => Nat.ble since b) (filA (fun b => notB (hasN b seen)) es) = new at *
        generalize hO : ((cs.filter fun e => !seen.toArray.contains e.born).filter fun e => decide (e.born < since)) = Old at *
        generalize hN : ((cs.filter fun e => !seen.toArray.contains e.born).filter fun e => decide (e.born ≥ since)) = New at *
        have hne : isNil old = Old.isEmpty := by
          rw [isNil_eq, hold.emp]
          simp
        have hcand : 0 < ((if Old.isEmpty then #[none] else #[]) ++ (Old ++ New).map some : Array (Option MapEntry)).size := by
          by_cases hq : Old.isEmpty
          · simp [hq]; omega
          · have : 0 < Old.size := by
              rcases Nat.eq_zero_or_pos Old.size with h0 | h0
              · exact absurd (by simpa using Array.eq_empty_of_size_eq_zero h0) hq
              · exact h0
            simp; omega
        obtain ⟨k, w1, hk, hw1, hrun⟩ := choose_next (P := P) (w := w) _ hcand
        have hst : ∀ E' f' n' w', Stp E H.get H.next w E' f' n' w' → w1 = w → Stp E H.get H.next w E' f' n' w' := fun _ _ _ _ s _ => s
        -- the world behind the draw
        have hH1 : HR E H.get w1 := by
          rcases hw1 with rfl | rfl
          · exact hH
          · exact hH.drew
        have first : ∀ {E' f' n' w'}, Stp E H.get H.next w1 E' f' n' w' → Stp E H.get H.next w E' f' n' w' := fun s => by
          rcases hw1 with rfl | rfl
          · exact s
          · exact s.drew_first
        have hb1 : w1.heap[b]? = some (.mapIter (some bm) since seen.toArray last) := by
          rcases hw1 with rfl | rfl
          · exact g4
          · exact g4
        have hrunAll : ∀ c w', (match ((if Old.isEmpty then #[none] else #[]) ++ (Old ++ New).map some : Array (Option MapEntry))[k]? with
              | some (some e) => (do setObj b (.mapIter (some bm) since (seen.toArray.push e.born) clock); pure (.tuple #[.bool true, e.key, e.val]) : Sem Value)
              | some none => pure (.tuple #[.bool false])
              | none => stuck "Next: no such candidate").run P w1 = .ok c w' → (Instr.next (.pointer (some ⟨b, 0, none⟩)) false ty).run P w = .ok c w' := by
          intro c w' hh
          have hbad' : (!seen.toArray.isEmpty && !cs.isEmpty && cs.all fun e => decide (e.born ≥ last)) = false := by
            have : (seen.toArray.isEmpty = seen.isEmpty) := by simp
            have h2 : cs.isEmpty = cs.toList.isEmpty := by simp
            have h3 : (cs.all fun e => decide (e.born ≥ last)) = cs.toList.all fun e => decide (e.born ≥ last) := by simp
            rw [this, h2, h3]; exact hbad
          unfold Instr.next
          simp only [Sem.run_bind, gO g4, Result.andThen_ok, gO q4]
          rw [if_neg (by rw [hbad']; simp)]
          simp only [Sem.run_bind, Result.andThen_ok, hO, hN, hrun]
          exact hh
        by_cases hover : ((if Old.isEmpty then #[none] else #[]) ++ (Old ++ New).map some : Array (Option MapEntry))[k]? = some none
        · -- none is next
          have hOe : Old.isEmpty = true := by
            by_cases hq : Old.isEmpty
            · exact hq
            · rw [if_neg hq] at hover
              have h1 := Array.mem_of_getElem? hover
              rw [Array.mem_append] at h1
              rcases h1 with h1 | h1
              · simp at h1
              · rw [Array.mem_map] at h1
                obtain ⟨_, _, h1⟩ := h1
                cases h1
          refine ⟨overR H, ?_, E, .tuple #[.bool false], w1, hrunAll _ _ ?_, first (Stp.refl hH1), over⟩
          · rw [apl_eq, hne, hOe, cnd_eq, if_pos rfl]
            exact List.mem_append_left _ (List.mem_singleton.2 rfl)
          · rw [hover]; simp
        · -- an entry is next
          obtain ⟨e, hek⟩ : ∃ e, ((if Old.isEmpty then #[none] else #[]) ++ (Old ++ New).map some : Array (Option MapEntry))[k]? = some (some e) := by
            cases hq : ((if Old.isEmpty then #[none] else #[]) ++ (Old ++ New).map some : Array (Option MapEntry))[k]? with
            | none => rw [Array.getElem?_eq_none_iff] at hq; omega
            | some x => cases x with
              | none => exact absurd hq hover
              | some e => exact ⟨e, rfl⟩
          have hmem : ∃ j : Nat, (Old ++ New).toList[j]? = some e := by
            have h1 : some e ∈ ((if Old.isEmpty then #[none] else #[]) ++ (Old ++ New).map some : Array (Option MapEntry)) := Array.mem_of_getElem? hek
            have h2 : e ∈ (Old ++ New).toList := by
              rcases Array.mem_append.1 h1 with h1 | h1
              · by_cases hq : Old.isEmpty
                · rw [if_pos hq] at h1; simp at h1
                · rw [if_neg hq] at h1; simp at h1
              · simpa using h1
            obtain ⟨j, hj, hj'⟩ := List.getElem_of_mem h2
            exact ⟨j, by rw [List.getElem?_eq_getElem hj, hj']⟩
          obtain ⟨j, hj⟩ := hmem
          have hon : F2 (ERel E) (apl old new) (Old ++ New).toList := by
            rw [apl_eq, Array.toList_append]
            exact hold.app hnew
          obtain ⟨x, hx1, hx2⟩ := hon.get_r hj
          refine ⟨stepR H id m since clock seen x, ?_, E, .tuple #[.bool true, e.key, e.val], putB w1 b (.mapIter (some bm) since (seen.toArray.push e.born) clock), hrunAll _ _ ?_, first ?_, ?_⟩
          · rw [apl_eq, lmp_eq]
            exact List.mem_append_right _ (List.mem_map.2 ⟨x, List.mem_of_getElem? hx1, rfl⟩)
          · rw [hek]
            simp [setObj, Sem.run, hb1, putB]
          · show Stp E H.get H.next w1 E (Hp.get ⟨H.next, H.tr.put _ _⟩) H.next _
            rw [upd_put]
            refine hH1.put h2 he ⟨bm, zm, g6, ?_⟩
            rw [snocN_eq, hx2.2.2]
            simp
          · exact ⟨_, rfl, packA_rel (v := .bool true) rfl (packA_rel hx2.1 (packA_rel hx2.2.1 rfl))⟩
      · cases h5
    · cases h3
  · cases h
end Go.Ev

/- One operation, with all its outcomes. -/
namespace Go.Ev
open Go.RowKit Go.MapKept

/-! ### The entry at which an iterator stands -/
noncomputable def lastN (l : List Nat) : Option Nat := List.rec (motive := fun _ => Option Nat) none (fun m t ih => List.rec (motive := fun _ => Option Nat) (some m) (fun _ _ _ => ih) t) l
theorem lastN_eq : ∀ l : List Nat, lastN l = l.getLast?
  | [] => rfl
  | [_] => rfl
  | m :: n :: l => by
    show lastN (n :: l) = _
    rw [lastN_eq (n :: l), List.getLast?_cons_cons]
noncomputable def fndA (b : Nat) (es : List Ent) : Option Ent := List.rec (motive := fun _ => Option Ent) none (fun e _ ih => cnd (Nat.beq e.2.2 b) (some e) ih) es
theorem fndA_rel {E : Env} {b : Nat} {e : Ent} : ∀ {es : List Ent} {cs : List MapEntry}, F2 (ERel E) es cs → fndA b es = some e → ∃ c, cs.find? (fun e => e.born == b) = some c ∧ ERel E e c
  | [], [], .nil, h => by cases h
  | x :: es, c :: cs, .cons h t, hh => by
    have hb : c.born = x.2.2 := h.2.2
    have hh' : cnd (Nat.beq x.2.2 b) (some x) (fndA b es) = some e := hh
    rw [cnd_eq] at hh'
    rw [List.find?_cons, hb]
    split at hh'
    · rename_i h1
      cases hh'
      exact ⟨c, by rw [show (e.2.2 == b) = true from by rw [Nat.eq_of_beq_eq_true h1]; exact beq_self_eq_true b], h⟩
    · rename_i h1
      obtain ⟨c', g1, g2⟩ := fndA_rel t hh'
      refine ⟨c', ?_, g2⟩
      have : (x.2.2 == b) = false := by simpa using h1
      rw [this]; exact g1
noncomputable def entA (H : Hp) (it : AV) : Option AV := match it with
  | .ptr id off => cnd (Nat.beq off 0) (obind (H.get id) fun o => match o with
    | .iter (some m) _ seen stepped => obind (lastN seen) fun b => obind (H.get m) fun o => match o with
      | .map es clock => cnd (Nat.beq clock stepped) (omap (fun e : Ent => .tup (packA e.1 (packA e.2.1 .rnil))) (fndA b es)) none
      | _ => none
    | _ => none) none
  | _ => none
theorem entA_rel {P : Program} {E : Env} {H : Hp} {w : World} {it v : AV} {ci : Value} (hH : HR E H.get w) (hi : V E it ci) (h : entA H it = some v) : ValOk P E w (Instr.entry ci) v := by
  unfold entA at h
  split at h
  · rename_i id off
    obtain ⟨h0, h1⟩ := cnd_some h
    obtain rfl : off = 0 := by simpa using h0
    obtain ⟨o, h2, h3⟩ := obind_some h1
    obtain ⟨b, z, he, rfl⟩ := V_ptr hi
    split at h3
    · rename_i m since seen stepped
      obtain ⟨bo, h4, h5⟩ := obind_some h3
      obtain ⟨o2, h6, h7⟩ := obind_some h5
      split at h7
      · rename_i es clock
        obtain ⟨h8, h9⟩ := cnd_some h7
        obtain rfl : clock = stepped := Nat.eq_of_beq_eq_true h8
        rw [omap_eq, Option.map_eq_some_iff] at h9
        obtain ⟨e, h10, rfl⟩ := h9
        obtain ⟨b', z', x', g3, g4, bm, zm, g6, rfl⟩ := hH.obj _ _ h2
        rw [he] at g3; injection g3 with g3; injection g3 with g3 g3'; subst g3; subst g3'
        obtain ⟨bm', zm', xm, q3, q4, cs, rfl, hf⟩ := hH.obj _ _ h6
        rw [g6] at q3; injection q3 with q3; injection q3 with q3 q3'; subst q3; subst q3'
        obtain ⟨c, k1, k2⟩ := fndA_rel hf h10
        rw [lastN_eq] at h4
        have hback : seen.toArray.back? = some bo := by simpa using h4
        have hfind : cs.find? (fun e => e.born == bo) = some c := by rw [← Array.find?_toList]; exact k1
        refine ⟨.tuple #[c.key, c.val], ?_, _, rfl, packA_rel k2.1 (packA_rel k2.2.1 rfl)⟩
        simp [Instr.entry, gO g4, gO q4, hback, hfind]
      · cases h7
    · cases h3
  · cases h

/-! ### Calls with all their outcomes -/
abbrev CallerM := Nat → List AV → Hp → Option (List (AV × Hp))
section
variable (P : Program) (gl : Nat → Option AV) (base : Nat) (w0 : World)
def CallOkM (call : CallerM) : Prop := ∀ f l E H w (args : Array Value) rs, call f l H = some rs → F2 (V E) l args.toList → Inv E H w base w0 →
  ((∃ fn, P.funcs[f]? = some fn ∧ fn.body = none) ∧ ∃ r ∈ rs, ∃ E' c w', (callFunc f args).run P w = .ok (.value c) w' ∧ Stp E H.get H.next w E' r.2.get r.2.next w' ∧ V E' r.1 c) ∨
  (∃ f' args', (callFunc f args).run P w = .ok (.enter f' args') w ∧ Calls P f' args' w (fun e w' => ∃ r ∈ rs, RetOk E H w r e w'))
def RoundOkM (rnd : CallerM) : Prop := ∀ id l E H w (args : Array Value) rs b z, rnd id l H = some rs → F2 (V E) l args.toList → Inv E H w base w0 → E id = some (b, z) →
  ∃ f tmps assign body, (Instr.yield b args).run P w = .ok (.round b f tmps assign body) w ∧ ∀ n, RoundIn Fence.wide n P b f tmps assign body w (fun e w' => ∃ r ∈ rs, RetOk E H w r e w')
/-- One that has one outcome. -/
noncomputable def one (c : CallerM) : Caller := fun f l H => obind (c f l H) fun rs => List.rec (motive := fun _ => Option (AV × Hp)) none (fun r t _ => List.rec (motive := fun _ => Option (AV × Hp)) (some r) (fun _ _ _ => none) t) rs
theorem one_some {c : CallerM} {f : Nat} {l : List AV} {H : Hp} {r : AV × Hp} (h : one c f l H = some r) : c f l H = some [r] := by
  unfold one at h
  obtain ⟨rs, h1, h2⟩ := obind_some h
  rw [h1]
  cases rs with
  | nil => cases h2
  | cons a t =>
    cases t with
    | nil => cases h2; rfl
    | cons b t => cases h2
end
theorem one_ok {P : Program} {base : Nat} {w0 : World} {c : CallerM} (h : CallOkM P base w0 c) : CallOk P base w0 (one c) := by
  intro f l E H w args r hr hl hI
  rcases h f l E H w args _ (one_some hr) hl hI with ⟨h1, r', hm, h2⟩ | ⟨f', args', h1, h2⟩
  · obtain rfl := List.mem_singleton.1 hm
    exact .inl ⟨h1, h2⟩
  · refine .inr ⟨f', args', h1, h2.mono ?_⟩
    rintro e w' ⟨r', hm, h3⟩
    obtain rfl := List.mem_singleton.1 hm
    exact h3
theorem one_round {P : Program} {base : Nat} {w0 : World} {c : CallerM} (h : RoundOkM P base w0 c) : RoundOk P base w0 (one c) := by
  intro id l E H w args r b z hr hl hI he
  obtain ⟨f, tmps, asg, body, h1, h2⟩ := h id l E H w args _ b z (one_some hr) hl hI he
  refine ⟨f, tmps, asg, body, h1, fun n => (h2 n).mono ?_⟩
  rintro e w' ⟨r', hm, h3⟩
  obtain rfl := List.mem_singleton.1 hm
  exact h3

section
variable (P : Program) (gl : Nat → Option AV)
noncomputable def evCallM (call rnd : CallerM) (T : Fm) (H : Hp) (c : Call) : Option (List (AV × Hp)) :=
  match c.callee with
  | .builtin b => lone' (obind (opL T c.args.toList) fun l => bltA P H b c.argTypes.toList l)
  | .value f => obind (opd T f) fun f => obind (opL T c.args.toList) fun l => match f with
    | .func (.func id) p q => obind (rowL p) fun p => obind (rowL q) fun q => call id (apL p (apL l q)) H
    | .yld id => rnd id l H
    | _ => none
  | .invoke recv name => obind (opd T recv) fun r => obind (opL T c.args.toList) fun l => match r with
    | .iface t v => obind (methA P t v name) fun q => call q.1 (q.2 :: l) H
    | _ => none
noncomputable def evOpM (call rnd : CallerM) (T : Fm) (H : Hp) (op : Op) : Option (List (AV × Hp)) :=
  match op with
  | .call c => evCallM P call rnd T H c
  | .next it false => obind (opd T it) fun it => nxtM H it
  | .entry it => obind (opd T it) fun it => lone' (omap (fun v => (v, H)) (entA H it))
  | op => lone' (evB P gl T H op)
end

def noC : Caller := fun _ _ _ => none
theorem noC_ok {P : Program} {base : Nat} {w0 : World} : CallOk P base w0 noC := fun _ _ _ _ _ _ _ h => by cases h
theorem noC_round {P : Program} {base : Nat} {w0 : World} : RoundOk P base w0 noC := fun _ _ _ _ _ _ _ _ _ h => by cases h

theorem evOpM_rel {P : Program} {gl : Nat → Option AV} {base : Nat} {w0 : World} {call rnd : CallerM} (hC : CallOkM P base w0 call) (hR : RoundOkM P base w0 rnd) (hG : GlOk gl base w0)
    {F : Fence} (hF : Wd F) {n : Nat} {E : Env} {H : Hp} {w : World} {T : Fm} {a : Act} {o : Oper} {rs : List (AV × Hp)} (hI : Inv E H w base w0) (hT : FR E T a) (h : evOpM P gl call rnd T H o.op = some rs)
    {next : Act → World → Prop} {Q : Exit → Act → World → Prop} (hn : ∀ r ∈ rs, ∀ E' c w', Stp E H.get H.next w E' r.2.get r.2.next w' → V E' r.1 c → next (a.put o.dst c) w') :
    o.wpIn F n P a w next Q := by
  by_cases hcall : ∃ c, o.op = .call c ∧ ∀ b, c.callee ≠ .builtin b
  · obtain ⟨c, hc, hnb⟩ := hcall
    refine ⟨fun f _ => hF.fn f, ?_⟩
    have hsem : Oper.semAt F.round a.eval o = execOp a.eval o := by
      refine Oper.semAt_eq _ _ _ (fun c' hc' => ?_)
      rw [hc] at hc'
      cases hc'
    rw [hsem]
    rw [hc] at h
    have h : evCallM P call rnd T H c = some rs := h
    unfold evCallM at h
    split at h
    · rename_i b hb; exact absurd hb (hnb b)
    · rename_i f hf
      obtain ⟨fv, h1, h2⟩ := obind_some h
      obtain ⟨l, h3, h4⟩ := obind_some h2
      have hl := opL_rel hT h3
      have hfv := opd_rel hT h1
      split at h4
      · rename_i id p q
        obtain ⟨lp, h5, h6⟩ := obind_some h4
        obtain ⟨lq, h7, h8⟩ := obind_some h6
        obtain ⟨_, ps, qs, hev, k1, k2⟩ := V_func hfv
        have hargs : F2 (V E) (apL lp (apL l lq)) (ps ++ c.args.map a.eval ++ qs).toList := by
          have := apL_rel (rowL_rel k1 h5) (apL_rel hl (rowL_rel k2 h7))
          simpa using this
        have hrun : (execOp a.eval o).run P w = (callFunc id (ps ++ c.args.map a.eval ++ qs)).run P w := by
          unfold execOp
          rw [hc]
          simp [resolve, hf, hev, Deferred.ofValue, invoke]
        rw [hrun]
        rcases hC id _ E H w _ rs h8 hargs hI with ⟨_, r, hm, E', v, w', g1, g2, g3⟩ | ⟨f', args', g1, g2⟩
        · rw [g1]; exact hn r hm E' v w' g2 g3
        · rw [g1, Oper.uponIn_enter]
          refine ⟨hF.dep n, (hF.calls g2).mono ?_⟩
          rintro e w' ⟨r, hm, E', v, rfl, g3, g4⟩
          exact hn r hm E' v w' g3 g4
      · rename_i id
        obtain ⟨b, z, he, hev⟩ := (hfv : ∃ b z, _)
        have hev : a.eval f = .func (.yield b) #[] #[] := by injection hev
        have hargs : F2 (V E) l (c.args.map a.eval).toList := by rw [Array.toList_map]; exact hl
        obtain ⟨fn, tmps, asg, body, g1, g2⟩ := hR id l E H w _ rs b z h4 hargs hI he
        have hrun : (execOp a.eval o).run P w = (Instr.yield b (c.args.map a.eval)).run P w := by
          unfold execOp
          rw [hc]
          simp [resolve, hf, hev, Deferred.ofValue, invoke]
        rw [hrun, g1, Oper.uponIn_round]
        refine ⟨hF.dep n, (hF.round (g2 _)).mono ?_⟩
        rintro e w' ⟨r, hm, E', v, rfl, g3, g4⟩
        exact hn r hm E' v w' g3 g4
      · cases h4
    · rename_i recv name hb
      obtain ⟨rv, h1, h2⟩ := obind_some h
      obtain ⟨l, h3, h4⟩ := obind_some h2
      have hl := opL_rel hT h3
      have hrv := opd_rel hT h1
      split at h4
      · rename_i t v
        obtain ⟨⟨fid, rc⟩, h5, h6⟩ := obind_some h4
        obtain ⟨x, hev, hx⟩ := V_iface hrv
        obtain ⟨rcv, g0, hrc⟩ := methA_rel (P := P) hx h5 w
        have hargs : F2 (V E) (rc :: l) (#[rcv] ++ c.args.map a.eval).toList := by
          have : (#[rcv] ++ c.args.map a.eval).toList = rcv :: c.args.toList.map a.eval := by simp
          rw [this]
          exact .cons hrc hl
        have hrun : (execOp a.eval o).run P w = (callFunc fid (#[rcv] ++ c.args.map a.eval)).run P w := by
          unfold execOp
          rw [hc]
          have e1 : ((#[Value.iface t x] ++ c.args.map a.eval)[0]? : Option Value) = some (.iface t x) := by
            have : (#[Value.iface t x] ++ c.args.map a.eval).toList = .iface t x :: (c.args.map a.eval).toList := by simp
            rw [← Array.getElem?_toList, this]; rfl
          have e2 : (#[Value.iface t x] ++ c.args.map a.eval).extract 1 (#[Value.iface t x] ++ c.args.map a.eval).size = c.args.map a.eval := by
            apply Array.ext'
            simp [List.take_of_length_le]
          simp only [resolve, hb, hev, invoke, Sem.run_bind, Sem.run_pure, Result.andThen_ok, e1, e2, callMethod, program_run, g0]
        rw [hrun]
        rcases hC fid _ E H w _ rs h6 hargs hI with ⟨_, r, hm, E', v, w', g1, g2, g3⟩ | ⟨f', args', g1, g2⟩
        · rw [g1]; exact hn r hm E' v w' g2 g3
        · rw [g1, Oper.uponIn_enter]
          refine ⟨hF.dep n, (hF.calls g2).mono ?_⟩
          rintro e w' ⟨r, hm, E', v, rfl, g3, g4⟩
          exact hn r hm E' v w' g3 g4
      · cases h4
  · -- what calls nothing
    have quiet : ∀ m : Sem Value, (∃ r ∈ rs, ActOk P E H w m r) → execOp a.eval o = (do pure (.value (← m))) → (∀ c, o.op ≠ .defer c) → o.wpIn F n P a w next Q := by
      rintro m ⟨r, hm, E', c, w', g1, g2, g3⟩ he hnc
      refine ⟨fun f _ => hF.fn f, ?_⟩
      rw [Oper.semAt_eq _ _ _ (fun c' hc' => absurd hc' (hnc _)), he]
      simp only [Sem.run_bind, g1, Result.andThen_ok, Sem.run_pure]
      exact hn r hm E' c w' g2 g3
    have plain : ∀ r, rs = [r] → evOp P gl noC noC T H o.op = some r → o.wpIn F n P a w next Q := by
      rintro r rfl hr
      exact evOp_rel noC_ok noC_round hG hF hI hT hr fun E' c w' g1 g2 => hn r (List.mem_singleton.2 rfl) E' c w' g1 g2
    unfold evOpM at h
    split at h
    · rename_i c hc
      cases hb : c.callee with
      | builtin b =>
        unfold evCallM at h
        rw [hb] at h
        obtain ⟨r, h1, rfl⟩ := lone_some h
        refine plain r rfl ?_
        rw [hc]
        show evCall P noC noC T H c = some r
        unfold evCall
        rw [hb]
        exact h1
      | value f => exact absurd ⟨c, hc, fun b hb' => by rw [hb] at hb'; cases hb'⟩ hcall
      | invoke recv name => exact absurd ⟨c, hc, fun b hb' => by rw [hb] at hb'; cases hb'⟩ hcall
    · rename_i it hop
      obtain ⟨iv, h1, h2⟩ := obind_some h
      obtain ⟨r, hm, hr⟩ := nxtM_rel (P := P) (ty := o.type) hI.hr (opd_rel hT h1) h2
      refine quiet _ ⟨r, hm, hr⟩ ?_ (fun c hc => by rw [hop] at hc; cases hc)
      unfold execOp
      rw [hop]
    · rename_i it hop
      obtain ⟨iv, h1, h2⟩ := obind_some h
      obtain ⟨r, h3, rfl⟩ := lone_some h2
      rw [omap_eq, Option.map_eq_some_iff] at h3
      obtain ⟨v, h4, rfl⟩ := h3
      refine quiet _ ⟨_, List.mem_singleton.2 rfl, (entA_rel (P := P) hI.hr (opd_rel hT h1) h4).act hI.hr⟩ ?_ (fun c hc => by rw [hop] at hc; cases hc)
      unfold execOp
      rw [hop]
    · rename_i hnc _ _
      obtain ⟨r, h1, rfl⟩ := lone_some h
      refine plain r rfl ?_
      unfold evOp
      split
      · rename_i c hc; exact absurd hc (hnc c)
      · exact h1
end Go.Ev
