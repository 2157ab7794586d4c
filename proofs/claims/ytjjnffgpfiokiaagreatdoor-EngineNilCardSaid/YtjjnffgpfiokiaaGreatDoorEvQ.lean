/- Maps: what is found, laid, taken out. Texts gone over. -/
import Derived.Test.YtjjnffgpfiokiaaGreatDoorEvP
namespace Go.Ev
open Go.RowKit Go.MapKept

abbrev Ent := AV × AV × Nat
def ERel (E : Env) (p : Ent) (e : MapEntry) : Prop := V E p.1 e.key ∧ V E p.2.1 e.val ∧ e.born = p.2.2

noncomputable def kdA (d : TypeDesc) (k : AV) : Bool := match d, k with
  | .int k, .int k' _ => kEq k' k
  | .string, .str _ _ => true
  | .bool, .bool _ => true
  | _, _ => false
theorem kdA_rel {E : Env} {d : TypeDesc} {k : AV} {c : Value} (hk : V E k c) (h : kdA d k = true) : IsKey d c := by
  unfold kdA at h
  split at h
  · obtain rfl := V_int hk; simpa [IsKey] using kEq_eq h
  · obtain ⟨_, s, rfl, _⟩ := V_str hk; simp [IsKey]
  · obtain rfl := V_bool hk; simp [IsKey]
  · cases h

theorem ba_ext {s r : ByteArray} (h : s.data.toList = r.data.toList) : s = r := by
  obtain ⟨⟨a⟩⟩ := s
  obtain ⟨⟨b⟩⟩ := r
  have h : a = b := h
  subst h
  rfl
/-- Are two keys the same? -/
noncomputable def sameA (x y : AV) : Option Bool := match x, y with
  | .int k a, .int k' b => cnd (kEq k k') (some (eqZ a b)) none
  | .str n d, .str m e => some (seq n d m e)
  | .bool a, .bool b => some (cnd a b (notB b))
  | _, _ => none
theorem sameA_rel {E : Env} {d : TypeDesc} {x y : AV} {cx cy : Value} {b : Bool} (hx : V E x cx) (hy : V E y cy) (hd : kdA d x = true) (h : sameA x y = some b) :
    Instr.sameNow d cx cy = some b ∧ (b = true → cx = cy) := by
  unfold sameA at h
  split at h
  · obtain ⟨h1, h2⟩ := cnd_some h
    obtain rfl := kEq_eq h1
    cases h2
    obtain rfl := V_int hx
    obtain rfl := V_int hy
    cases d <;> simp only [kdA] at hd <;> try (cases hd; done)
    rw [eqZ_eq]
    refine ⟨by simp [Instr.sameNow], fun hh => ?_⟩
    have := eq_of_beq hh
    rw [this]
  · cases h
    obtain ⟨h1, s, rfl, h2⟩ := V_str hx
    obtain ⟨h3, r, rfl, h4⟩ := V_str hy
    cases d <;> simp only [kdA] at hd <;> try (cases hd; done)
    rename_i n d' m e'
    have key : seq n d' m e' = true ↔ s = r := by
      rw [seq_iff]
      constructor
      · rintro ⟨rfl, rfl⟩; exact ba_ext (h2.trans h4.symm)
      · intro e; subst e; exact bytesOf_inj h1 h3 (h2.symm.trans h4)
    refine ⟨?_, fun hh => by rw [key.1 hh]⟩
    show some (s == r) = _
    congr 1
    rw [Bool.eq_iff_iff, key]
    exact bytes_beq s r
  · cases h
    obtain rfl := V_bool hx
    obtain rfl := V_bool hy
    rename_i a b
    cases d <;> simp only [kdA] at hd <;> try (cases hd; done)
    cases a <;> cases b <;> exact ⟨rfl, fun h => by first | rfl | cases h⟩
  · cases h

noncomputable def findA (k : AV) (es : List Ent) : Nat → Option (Option (Nat × AV)) :=
  List.rec (motive := fun _ => Nat → Option (Option (Nat × AV))) (fun _ => some none) (fun e _ ih i => obind (sameA k e.1) fun b => cnd b (some (some (i, e.2.1))) (ih (Nat.succ i))) es
theorem findA_rel {E : Env} {d : TypeDesc} {k : AV} {ck : Value} (hk : V E k ck) (hd : kdA d k = true) : ∀ {es : List Ent} {cs : List MapEntry} {i : Nat} {r : Option (Nat × AV)}, F2 (ERel E) es cs → findA k es i = some r →
    (r = none ∧ Instr.findNow d ck cs i = some none) ∨ (∃ j v c e, r = some (i + j, v) ∧ Instr.findNow d ck cs i = some (some (i + j, c)) ∧ V E v c ∧ cs[j]? = some e ∧ e.key = ck)
  | [], [], i, r, _, h => by cases h; exact .inl ⟨rfl, rfl⟩
  | p :: es, e :: cs, i, r, .cons ⟨h1, h2, h3⟩ ht, h => by
    have h' : (obind (sameA k p.1) fun b => cnd b (some (some (i, p.2.1))) (findA k es (i + 1))) = some r := h
    obtain ⟨b, g1, g2⟩ := obind_some h'
    obtain ⟨g3, g4⟩ := sameA_rel hk h1 hd g1
    cases b with
    | true =>
      cases g2
      exact .inr ⟨0, _, e.val, e, rfl, by simp [Instr.findNow, g3], h2, rfl, (g4 rfl).symm⟩
    | false =>
      have g2' : findA k es (i + 1) = some r := g2
      rcases findA_rel hk hd ht g2' with ⟨q1, q2⟩ | ⟨j, v, c, e', q1, q2, q3, q4, q5⟩
      · exact .inl ⟨q1, by simp [Instr.findNow, g3, q2]⟩
      · exact .inr ⟨j + 1, v, c, e', by rw [q1]; congr 2; omega, by simp [Instr.findNow, g3, q2]; omega, q3, by simpa using q4, q5⟩

section
variable (P : Program)
/-- A map's entries. -/
noncomputable def entsA (H : Hp) (x : AV) : Option (List Ent) := match x with
  | .nilm => some []
  | .map id => obind (H.get id) fun o => match o with
    | .map es _ => some es
    | _ => none
  | _ => none
noncomputable def lookA (H : Hp) (t : TypeId) (x k : AV) (ok : Bool) : Option AV :=
  obind (P.underlying t) fun u => match u with
    | .map kt et => obind (P.underlying kt) fun d => cnd (kdA d k) (obind (entsA H x) fun es => obind (findA k es 0) fun r =>
        obind (Option.rec (motive := fun _ => Option (AV × Bool)) (omap (fun z => (z, false)) (zeroA P et)) (fun p => some (p.2, true)) r) fun q =>
          some (cnd ok (.tup (packA q.1 (packA (.bool q.2) .rnil))) q.1)) none
    | _ => none
end
theorem entsA_rel {P : Program} {E : Env} {H : Hp} {w : World} {x : AV} {cx : Value} {es : List Ent} (hH : HR E H.get w) (hx : V E x cx) (h : entsA H x = some es) :
    (cx = .map none ∧ es = []) ∨ (∃ id b z cs clock, x = .map id ∧ E id = some (b, z) ∧ H.get id = some (.map es clock) ∧ cx = .map (some b) ∧ w.heap[b]? = some (.map cs clock) ∧ F2 (ERel E) es cs.toList) := by
  unfold entsA at h
  split at h
  · cases h; exact .inl ⟨V_nilm hx, rfl⟩
  · rename_i id
    obtain ⟨o, h1, h2⟩ := obind_some h
    split at h2
    · cases h2
      obtain ⟨b, z, he, rfl⟩ := V_map hx
      obtain ⟨b', z', x', h3, h4, cs, rfl, h5⟩ := hH.obj _ _ h1
      rw [he] at h3; injection h3 with h3; injection h3 with h3 _; subst h3
      exact .inr ⟨id, b, z, cs, _, rfl, he, h1, rfl, h4, h5⟩
    · cases h2
  · cases h

theorem tup2_rel {E : Env} {v : AV} {c : Value} (b : Bool) (h : V E v c) : V E (.tup (packA v (packA (.bool b) .rnil))) (.tuple #[c, .bool b]) :=
  ⟨_, rfl, packA_rel h (packA_rel (show V E (.bool b) (.bool b) from rfl) (show R E .rnil [] from rfl))⟩

theorem lookA_rel {P : Program} {E : Env} {H : Hp} {w : World} {t : TypeId} {x k v : AV} {cx ck : Value} {ok : Bool} (hH : HR E H.get w) (hx : V E x cx) (hk : V E k ck) (h : lookA P H t x k ok = some v) :
    ValOk P E w (Instr.lookup t cx ck ok) v := by
  unfold lookA at h
  obtain ⟨u, hu, h1⟩ := obind_some h
  split at h1
  · rename_i kt et
    obtain ⟨d, hd, h2⟩ := obind_some h1
    obtain ⟨h3, h4⟩ := cnd_some h2
    obtain ⟨es, h5, h6⟩ := obind_some h4
    obtain ⟨r, h7, h8⟩ := obind_some h6
    obtain ⟨q, h9, h10⟩ := obind_some h8
    cases h10
    have hkey := kdA_rel hk h3
    have hck : ∀ b, (Instr.checkKey b 10000 kt ck).run P w = .ok () w := fun b => run_checkKey hd hkey b 9999
    have fin : ∀ c b, V E q.1 c → q.2 = b → V E (cnd ok (.tup (packA q.1 (packA (.bool q.2) .rnil))) q.1) (if ok then .tuple #[c, .bool b] else c) := by
      rintro c b hc rfl
      cases ok
      · exact hc
      · exact tup2_rel _ hc
    rcases entsA_rel (P := P) hH hx h5 with ⟨rfl, rfl⟩ | ⟨id, b, z, cs, clock, rfl, he, hg, rfl, hb, hf⟩
    · cases h7
      have h9' : omap (fun z => (z, false)) (zeroA P et) = some q := h9
      rw [omap_eq, Option.map_eq_some_iff] at h9'
      obtain ⟨z, g1, rfl⟩ := h9'
      obtain ⟨c, g2, g3⟩ := zeroA_rel g1 E
      have q2 : Instr.findNow d ck [] 0 = some none := rfl
      refine ⟨_, ?_, fin c false g3 rfl⟩
      simp [Instr.lookup, run_underlying hu, hck, run_findKey hd q2, g2]
    · rcases findA_rel (d := d) hk h3 hf h7 with ⟨rfl, q2⟩ | ⟨j, v', c, e', rfl, q2, q3, q4, q5⟩
      · have h9' : omap (fun z => (z, false)) (zeroA P et) = some q := h9
        rw [omap_eq, Option.map_eq_some_iff] at h9'
        obtain ⟨z, g1, rfl⟩ := h9'
        obtain ⟨c, g2, g3⟩ := zeroA_rel g1 E
        refine ⟨_, ?_, fin c false g3 rfl⟩
        simp [Instr.lookup, run_underlying hu, gO hb, hck, run_findKey hd q2, g2]
      · have h9' : some (v', true) = some q := h9
        cases h9'
        refine ⟨_, ?_, fin c true q3 rfl⟩
        simp [Instr.lookup, run_underlying hu, gO hb, hck, run_findKey hd q2]
  · cases h1

/-! ### A map is turned -/
noncomputable def modL (es : List Ent) (k v : AV) : Nat → List Ent :=
  List.rec (motive := fun _ => Nat → List Ent) (fun _ => []) (fun e t ih i => Nat.rec (motive := fun _ => List Ent) ((k, v, e.2.2) :: t) (fun j _ => e :: ih j) i) es
theorem modL_rel {E : Env} {k v : AV} {ck cv : Value} (hk : V E k ck) (hv : V E v cv) : ∀ {es : List Ent} {cs : List MapEntry} (i : Nat), F2 (ERel E) es cs →
    F2 (ERel E) (modL es k v i) (cs.modify i fun e => { e with key := ck, val := cv })
  | [], [], i, _ => by cases i <;> exact .nil
  | p :: es, e :: cs, 0, .cons h ht => .cons ⟨hk, hv, h.2.2⟩ ht
  | p :: es, e :: cs, i + 1, .cons h ht => .cons h (modL_rel hk hv i ht)
noncomputable def snocL (es : List Ent) (x : Ent) : List Ent := List.rec (motive := fun _ => List Ent) [x] (fun e _ ih => e :: ih) es
theorem snocL_rel {E : Env} {x : Ent} {e : MapEntry} (hx : ERel E x e) : ∀ {es : List Ent} {cs : List MapEntry}, F2 (ERel E) es cs → F2 (ERel E) (snocL es x) (cs ++ [e])
  | [], [], _ => .cons hx .nil
  | _ :: _, _ :: _, .cons h ht => .cons h (snocL_rel hx ht)
noncomputable def delL (es : List Ent) : Nat → List Ent :=
  List.rec (motive := fun _ => Nat → List Ent) (fun _ => []) (fun e t ih i => Nat.rec (motive := fun _ => List Ent) t (fun j _ => e :: ih j) i) es
theorem delL_rel {E : Env} : ∀ {es : List Ent} {cs : List MapEntry} (i : Nat), F2 (ERel E) es cs → F2 (ERel E) (delL es i) (cs.eraseIdx i)
  | [], [], i, _ => by cases i <;> exact .nil
  | p :: es, e :: cs, 0, .cons h ht => ht
  | p :: es, e :: cs, i + 1, .cons h ht => .cons h (delL_rel i ht)

theorem sameBits_key {d : TypeDesc} {a : Value} (h : IsKey d a) (n : Nat) : Instr.sameBits n a a = true := by
  cases d <;> cases a <;> simp_all [IsKey, Instr.sameBits, bytes_beq]

noncomputable def updA (P : Program) (H : Hp) (t : TypeId) (m k v : AV) : Option (AV × Hp) :=
  obind (P.underlying t) fun u => match u, m with
    | .map kt _, .map id => obind (P.underlying kt) fun d => cnd (kdA d k) (obind (H.get id) fun o => match o with
      | .map es clock => obind (findA k es 0) fun r => Option.rec (motive := fun _ => Option (AV × Hp))
          (some (.tup .rnil, ⟨H.next, H.tr.put id (some (.map (snocL es (k, v, clock)) (Nat.succ clock)))⟩))
          (fun p => some (.tup .rnil, ⟨H.next, H.tr.put id (some (.map (modL es k v p.1) clock))⟩)) r
      | _ => none) none
    | _, _ => none
theorem updA_rel {P : Program} {E : Env} {H : Hp} {w : World} {t : TypeId} {m k v : AV} {cm ck cv : Value} {r : AV × Hp} (hH : HR E H.get w) (hm : V E m cm) (hk : V E k ck) (hv : V E v cv) (h : updA P H t m k v = some r) :
    ∃ w', (Instr.mapUpdate t cm ck cv).run P w = .ok () w' ∧ Stp E H.get H.next w E r.2.get r.2.next w' ∧ r.1 = .tup .rnil := by
  unfold updA at h
  obtain ⟨u, hu, h1⟩ := obind_some h
  split at h1
  · rename_i kt et id
    obtain ⟨d, hd, h2⟩ := obind_some h1
    obtain ⟨h3, h4⟩ := cnd_some h2
    obtain ⟨o, h5, h6⟩ := obind_some h4
    split at h6
    · rename_i es clock
      obtain ⟨q, h7, h8⟩ := obind_some h6
      obtain ⟨b, z, he, rfl⟩ := V_map hm
      obtain ⟨b', z', x', g3, g4, cs, rfl, hf⟩ := hH.obj _ _ h5
      rw [he] at g3; injection g3 with g3; injection g3 with g3 g3'; subst g3; subst g3'
      have hkey := kdA_rel hk h3
      have hck : ∀ b, (Instr.checkKey b 10000 kt ck).run P w = .ok () w := fun b => run_checkKey hd hkey b 9999
      rcases findA_rel (d := d) hk h3 hf h7 with ⟨rfl, q2⟩ | ⟨j, v', c, e', rfl, q2, q3, q4, q5⟩
      · have h8' : some (AV.tup .rnil, (⟨H.next, H.tr.put id (some (.map (snocL es (k, v, clock)) (clock + 1)))⟩ : Hp)) = some r := h8
        cases h8'
        refine ⟨putB w b (.map (cs.push { key := ck, val := cv, born := clock }) (clock + 1)), ?_, ?_, rfl⟩
        · simp [Instr.mapUpdate, run_underlying hu, gO g4, hck, run_findKey hd q2, setObj, Sem.run, g4, putB]
        · show Stp E H.get H.next w E (Hp.get ⟨H.next, H.tr.put _ _⟩) H.next _
          rw [upd_put]
          refine hH.put h5 he ⟨_, rfl, ?_⟩
          rw [Array.toList_push]
          exact snocL_rel ⟨hk, hv, rfl⟩ hf
      · have h8' : some (AV.tup .rnil, (⟨H.next, H.tr.put id (some (.map (modL es k v (0 + j)) clock))⟩ : Hp)) = some r := h8
        rw [Nat.zero_add] at h8'
        cases h8'
        refine ⟨putB w b (.map (cs.modify j fun e => { e with key := ck, val := cv }) clock), ?_, ?_, rfl⟩
        · have hks : ((cs[j]?).map (·.key)).getD ck = ck := by
            rw [← Array.getElem?_toList, q4]; exact q5
          have hst : ∀ w, (Instr.keyThatStays ck ck).run P w = .ok ck w := fun w => by simp [Instr.keyThatStays, sameBits_key hkey]
          simp [Instr.mapUpdate, run_underlying hu, gO g4, hck, run_findKey hd q2, hks, hst, setObj, Sem.run, g4, putB]
        · show Stp E H.get H.next w E (Hp.get ⟨H.next, H.tr.put _ _⟩) H.next _
          rw [upd_put]
          refine hH.put h5 he ⟨_, rfl, ?_⟩
          rw [Array.toList_modify]
          exact modL_rel hk hv j hf
    · cases h6
  · cases h1

noncomputable def delA (P : Program) (H : Hp) (t : TypeId) (m k : AV) : Option (AV × Hp) :=
  obind (P.underlying t) fun u => match u, m with
    | .map kt _, .nilm => obind (P.underlying kt) fun d => cnd (kdA d k) (some (.tup .rnil, H)) none
    | .map kt _, .map id => obind (P.underlying kt) fun d => cnd (kdA d k) (obind (H.get id) fun o => match o with
      | .map es clock => obind (findA k es 0) fun r => Option.rec (motive := fun _ => Option (AV × Hp))
          (some (.tup .rnil, H))
          (fun p => some (.tup .rnil, ⟨H.next, H.tr.put id (some (.map (delL es p.1) clock))⟩)) r
      | _ => none) none
    | _, _ => none
theorem putB_same {w : World} {b : Nat} {o : Obj} (h : w.heap[b]? = some o) : putB w b o = w := by
  obtain ⟨hlt, hb⟩ := Array.getElem?_eq_some_iff.1 h
  unfold putB
  have : w.heap.setIfInBounds b o = w.heap := by
    apply Array.ext
    · simp
    · intro j h1 h2
      rw [Array.getElem_setIfInBounds (by simpa using h1)]
      by_cases ej : b = j
      · subst ej; simp [hb]
      · simp [ej]
  rw [this]
theorem delA_rel {P : Program} {E : Env} {H : Hp} {w : World} {ts : Array TypeId} {t ty : TypeId} {m k : AV} {cm ck : Value} {r : AV × Hp} (hH : HR E H.get w) (ht : ts[0]? = some t) (hm : V E m cm) (hk : V E k ck) (h : delA P H t m k = some r) :
    ActOk P E H w (Builtin.delete_ ts ty #[cm, ck]) r := by
  unfold delA at h
  obtain ⟨u, hu, h1⟩ := obind_some h
  split at h1
  · rename_i kt et
    obtain ⟨d, hd, h2⟩ := obind_some h1
    obtain ⟨h3, h4⟩ := cnd_some h2
    cases h4
    obtain rfl := V_nilm hm
    have hck : ∀ b, (Instr.checkKey b 10000 kt ck).run P w = .ok () w := fun b => run_checkKey hd (kdA_rel hk h3) b 9999
    exact ⟨E, .tuple #[], w, by simp [Builtin.delete_, ht, run_underlying hu, hck], Stp.refl hH, _, rfl, rfl⟩
  · rename_i kt et id
    obtain ⟨d, hd, h2⟩ := obind_some h1
    obtain ⟨h3, h4⟩ := cnd_some h2
    obtain ⟨o, h5, h6⟩ := obind_some h4
    split at h6
    · rename_i es clock
      obtain ⟨q, h7, h8⟩ := obind_some h6
      obtain ⟨b, z, he, rfl⟩ := V_map hm
      obtain ⟨b', z', x', g3, g4, cs, rfl, hf⟩ := hH.obj _ _ h5
      rw [he] at g3; injection g3 with g3; injection g3 with g3 g3'; subst g3; subst g3'
      have hkey := kdA_rel hk h3
      have hck : ∀ b, (Instr.checkKey b 10000 kt ck).run P w = .ok () w := fun b => run_checkKey hd hkey b 9999
      rcases findA_rel (d := d) hk h3 hf h7 with ⟨rfl, q2⟩ | ⟨j, v', c, e', rfl, q2, q3, q4, q5⟩
      · have h8' : some (AV.tup .rnil, H) = some r := h8
        cases h8'
        refine ⟨E, .tuple #[], w, ?_, Stp.refl hH, _, rfl, rfl⟩
        have hs : (setObj b (.map cs clock)).run P w = .ok () w := by
          have := putB_same g4
          simp only [setObj, Sem.run, g4]
          exact congrArg _ this
        simp [Builtin.delete_, ht, run_underlying hu, gO g4, hck, run_findKey hd q2, hs]
      · have h8' : some (AV.tup .rnil, (⟨H.next, H.tr.put id (some (.map (delL es (0 + j)) clock))⟩ : Hp)) = some r := h8
        rw [Nat.zero_add] at h8'
        cases h8'
        refine ⟨E, .tuple #[], putB w b (.map (cs.eraseIdxIfInBounds j) clock), ?_, ?_, _, rfl, rfl⟩
        · simp [Builtin.delete_, ht, run_underlying hu, gO g4, hck, run_findKey hd q2, setObj, Sem.run, g4, putB]
        · show Stp E H.get H.next w E (Hp.get ⟨H.next, H.tr.put _ _⟩) H.next _
          rw [upd_put]
          refine hH.put h5 he ⟨_, rfl, ?_⟩
          have hj : j < cs.size := by
            obtain ⟨hlt, _⟩ := List.getElem?_eq_some_iff.1 q4
            simpa using hlt
          have : (cs.eraseIdxIfInBounds j).toList = cs.toList.eraseIdx j := by simp [Array.eraseIdxIfInBounds, hj]
          rw [this]
          exact delL_rel j hf
    · cases h6
  · cases h1

/-! ### An entry by its stamp -/
noncomputable def nthE (es : List Ent) : Nat → Option Ent := List.rec (motive := fun _ => Nat → Option Ent) (fun _ => none) (fun e _ ih i => Nat.rec (motive := fun _ => Option Ent) (some e) (fun j _ => ih j) i) es
theorem nthE_rel {E : Env} : ∀ {es : List Ent} {cs : List MapEntry} {i : Nat} {p : Ent}, F2 (ERel E) es cs → nthE es i = some p → ∃ e, cs[i]? = some e ∧ ERel E p e
  | [], [], _, _, .nil, h => by cases h
  | _ :: _, c :: _, 0, _, .cons h _, hh => by cases hh; exact ⟨c, rfl, h⟩
  | _ :: es, c :: cs, i + 1, p, .cons _ t, hh => by
    obtain ⟨e, h1, h2⟩ := nthE_rel (i := i) t hh
    exact ⟨e, by simpa using h1, h2⟩
noncomputable def meA (P : Program) (H : Hp) (t : TypeId) (m k : AV) : Option (AV × Hp) :=
  obind (P.underlying t) fun u => match u, m with
    | .map kt et, .map id => obind (P.underlying kt) fun d => cnd (kdA d k) (obind (H.get id) fun o => match o with
      | .map es clock => obind (findA k es 0) fun r => Option.rec (motive := fun _ => Option (AV × Hp))
          (obind (zeroA P et) fun z => some (.tup (packA z (packA (intA clock) .rnil)), ⟨H.next, H.tr.put id (some (.map (snocL es (k, z, clock)) (Nat.succ clock)))⟩))
          (fun p => obind (nthE es p.1) fun q => some (.tup (packA p.2 (packA (intA q.2.2) .rnil)), H)) r
      | _ => none) none
    | _, _ => none
theorem meA_rel {P : Program} {E : Env} {H : Hp} {w : World} {t : TypeId} {m k : AV} {cm ck : Value} {r : AV × Hp} (hH : HR E H.get w) (hm : V E m cm) (hk : V E k ck) (h : meA P H t m k = some r) :
    ActOk P E H w (Instr.mapEntry t cm ck) r := by
  unfold meA at h
  obtain ⟨u, hu, h1⟩ := obind_some h
  split at h1
  · rename_i kt et id
    obtain ⟨d, hd, h2⟩ := obind_some h1
    obtain ⟨h3, h4⟩ := cnd_some h2
    obtain ⟨o, h5, h6⟩ := obind_some h4
    split at h6
    · rename_i es clock
      obtain ⟨q, h7, h8⟩ := obind_some h6
      obtain ⟨b, z, he, rfl⟩ := V_map hm
      obtain ⟨b', z', x', g3, g4, cs, rfl, hf⟩ := hH.obj _ _ h5
      rw [he] at g3; injection g3 with g3; injection g3 with g3 g3'; subst g3; subst g3'
      have hkey := kdA_rel hk h3
      have hck : ∀ b, (Instr.checkKey b 10000 kt ck).run P w = .ok () w := fun b => run_checkKey hd hkey b 9999
      rcases findA_rel (d := d) hk h3 hf h7 with ⟨rfl, q2⟩ | ⟨j, v', c, e', rfl, q2, q3, q4, q5⟩
      · have h8' : (obind (zeroA P et) fun z => some (AV.tup (packA z (packA (intA clock) .rnil)), (⟨H.next, H.tr.put id (some (.map (snocL es (k, z, clock)) (clock + 1)))⟩ : Hp))) = some r := h8
        obtain ⟨zv, k1, k2⟩ := obind_some h8'
        cases k2
        obtain ⟨c, k3, k4⟩ := zeroA_rel k1 E
        refine ⟨E, .tuple #[c, goInt clock], putB w b (.map (cs.push { key := ck, val := c, born := clock }) (clock + 1)), ?_, ?_, ?_⟩
        · simp [Instr.mapEntry, run_underlying hu, gO g4, hck, run_findKey hd q2, k3, setObj, Sem.run, g4, putB]
        · show Stp E H.get H.next w E (Hp.get ⟨H.next, H.tr.put _ _⟩) H.next _
          rw [upd_put]
          refine hH.put h5 he ⟨_, rfl, ?_⟩
          rw [Array.toList_push]
          exact snocL_rel ⟨hk, k4, rfl⟩ hf
        · exact ⟨_, rfl, packA_rel k4 (packA_rel (v := intA clock) (c := goInt clock) rfl rfl)⟩
      · have h8' : (obind (nthE es (0 + j)) fun q => some (AV.tup (packA v' (packA (intA q.2.2) .rnil)), H)) = some r := h8
        rw [Nat.zero_add] at h8'
        obtain ⟨p, k1, k2⟩ := obind_some h8'
        cases k2
        obtain ⟨e2, k3, k4⟩ := nthE_rel hf k1
        rw [q4] at k3; cases k3
        have q4' : cs[j]? = some e' := by rw [← Array.getElem?_toList]; exact q4
        subst q5
        have hst : ∀ w, (Instr.keyThatStays e'.key e'.key).run P w = .ok e'.key w := fun w => by simp [Instr.keyThatStays, sameBits_key hkey]
        have hsame : (cs.modify j fun e => { e with key := e'.key }) = cs := by
          apply Array.ext_getElem?
          intro i
          rw [Array.getElem?_modify]
          split
          · rename_i e; subst e
            rw [q4']
            rfl
          · rfl
        refine ⟨E, .tuple #[c, goInt e'.born], putB w b (.map cs clock), ?_, ?_, ?_⟩
        · simp [Instr.mapEntry, run_underlying hu, gO g4, hck, run_findKey hd q2, hst, setObj, Sem.run, g4, putB, hsame, q4']
        · have := hH.put (n := H.next) h5 he (o' := .map es clock) (x := .map cs clock) ⟨cs, rfl, hf⟩
          refine stp_less this fun i o hi => ?_
          unfold upd
          split
          · rename_i e1; subst e1; rw [h5] at hi; exact hi
          · exact hi
        · refine ⟨_, rfl, packA_rel q3 (packA_rel (v := intA p.2.2) (c := goInt e'.born) ?_ rfl)⟩
          rw [k4.2.2]; rfl
    · cases h6
  · cases h1
noncomputable def setB (s : Nat) (v : AV) (es : List Ent) : Option (List Ent) := List.rec (motive := fun _ => Option (List Ent)) none (fun e t ih => cnd (Nat.beq e.2.2 s) (some ((e.1, v, e.2.2) :: t)) (omap (fun l => e :: l) ih)) es
theorem setB_rel {E : Env} {s : Nat} {v : AV} {cv : Value} (hv : V E v cv) : ∀ {es es' : List Ent} {cs : List MapEntry}, F2 (ERel E) es cs → setB s v es = some es' →
    ∃ i, cs.findIdx? (fun e => (e.born : Int) == (s : Int)) = some i ∧ F2 (ERel E) es' (cs.modify i fun e => { e with val := cv })
  | [], es', [], .nil, h => by cases h
  | e :: es, es', c :: cs, .cons h t, hh => by
    have hb : c.born = e.2.2 := h.2.2
    have hh' : cnd (Nat.beq e.2.2 s) (some ((e.1, v, e.2.2) :: es)) (omap (fun l => e :: l) (setB s v es)) = some es' := hh
    rw [cnd_eq] at hh'
    rw [List.findIdx?_cons, hb]
    split at hh'
    · rename_i h1
      have h1 := Nat.eq_of_beq_eq_true h1
      cases hh'
      refine ⟨0, by rw [h1]; simp, .cons ⟨h.1, hv, h.2.2⟩ t⟩
    · rename_i h1
      rw [omap_eq, Option.map_eq_some_iff] at hh'
      obtain ⟨l, h2, rfl⟩ := hh'
      obtain ⟨i, g1, g2⟩ := setB_rel hv t h2
      have hne : ((e.2.2 : Int) == (s : Int)) = false := by
        rw [beq_eq_false_iff_ne]
        intro h3
        apply h1
        have : e.2.2 = s := by omega
        rw [this]; exact Nat.beq_refl s
      refine ⟨i + 1, by rw [hne, g1]; rfl, .cons h g2⟩
noncomputable def esA (H : Hp) (m s v : AV) : Option Hp := match m, s with
  | .map id, .int .i64 (.ofNat n) => obind (H.get id) fun o => match o with
    | .map es clock => obind (setB n v es) fun es' => some ⟨H.next, H.tr.put id (some (.map es' clock))⟩
    | _ => none
  | _, _ => none
theorem esA_rel {P : Program} {E : Env} {H H' : Hp} {w : World} {t : TypeId} {m s v : AV} {cm cst cv : Value} (hH : HR E H.get w) (hm : V E m cm) (hs : V E s cst) (hv : V E v cv) (h : esA H m s v = some H') :
    ∃ w', (Instr.entryStore t cm cst cv).run P w = .ok () w' ∧ Stp E H.get H.next w E H'.get H'.next w' := by
  unfold esA at h
  split at h
  · rename_i id n
    obtain ⟨o, h5, h6⟩ := obind_some h
    split at h6
    · rename_i es clock
      obtain ⟨es', h7, h8⟩ := obind_some h6
      cases h8
      obtain ⟨b, z, he, rfl⟩ := V_map hm
      obtain rfl := V_int hs
      obtain ⟨b', z', x', g3, g4, cs, rfl, hf⟩ := hH.obj _ _ h5
      rw [he] at g3; injection g3 with g3; injection g3 with g3 g3'; subst g3; subst g3'
      obtain ⟨i, g5, g6⟩ := setB_rel hv hf h7
      have g5' : cs.findIdx? (fun e => (e.born : Int) == (Int.ofNat n)) = some i := by
        have e0 : cs.toList.toArray = cs := by simp
        rw [← e0, List.findIdx?_toArray]; exact g5
      refine ⟨putB w b (.map (cs.modify i fun e => { e with val := cv }) clock), ?_, ?_⟩
      · simp [Instr.entryStore, gO g4, asInt, asIntOf, setObj, putB]
        have g5'' : cs.findIdx? (fun e => (e.born : Int) == (n : Int)) = some i := g5'
        rw [g5'']
        simp [Sem.run, g4]
      · show Stp E H.get H.next w E (Hp.get ⟨H.next, H.tr.put _ _⟩) H.next _
        rw [upd_put]
        refine hH.put h5 he ⟨_, rfl, ?_⟩
        rw [Array.toList_modify]
        exact g6
    · cases h6
  · cases h

/-! ### Texts gone over -/
noncomputable def rngA (P : Program) (H : Hp) (t : TypeId) (x : AV) : Option (AV × Hp) :=
  obind (P.underlying t) fun u => match u, x with
    | .string, .str n d => some (newV H (.siter n d 0) fun i H' => (.ptr i 0, H'))
    | .map _ _, .nilm => some (newV H (.iter none 0 [] 0) fun i H' => (.ptr i 0, H'))
    | .map _ _, .map id => obind (H.get id) fun o => match o with
      | .map _ clock => some (newV H (.iter (some id) clock [] clock) fun i H' => (.ptr i 0, H'))
      | _ => none
    | _, _ => none
theorem new_rel {E : Env} {H : Hp} {w : World} (hH : HR E H.get w) (hb : E H.next = none) (z : Nat) {o : AO} {x : Obj} (ho : ∀ E', E.le E' → ORel E' z o x) :
    ∃ E', Stp E H.get H.next w E' (Hp.get ⟨H.next + 1, H.tr.put H.next (some o)⟩) (H.next + 1) (w.alloc x) ∧ V E' (.ptr H.next 0) (.pointer (some ⟨w.heap.size, 0, none⟩)) ∧ E.le E' ∧ E' H.next = some (w.heap.size, z) :=
  ⟨E.new H.next w.heap.size z, alloc_stp hH hb z (ho _ (Env.new_le hb)), ⟨_, _, Env.new_self _ _ _ _, rfl⟩, Env.new_le hb, Env.new_self _ _ _ _⟩
theorem rngA_rel {P : Program} {E : Env} {H : Hp} {w : World} {t : TypeId} {x : AV} {cx : Value} {r : AV × Hp} (hH : HR E H.get w) (hb : E H.next = none) (hx : V E x cx) (h : rngA P H t x = some r) :
    ActOk P E H w (Instr.range t cx) r := by
  unfold rngA at h
  obtain ⟨u, hu, h1⟩ := obind_some h
  split at h1
  · rw [newV_eq] at h1
    cases h1
    obtain ⟨hd, s, rfl, hs⟩ := V_str hx
    obtain ⟨E', g1, g2, _⟩ := new_rel hH hb 0 (o := .siter _ _ 0) (x := .stringIter s 0) (fun _ _ => ⟨hd, s, hs, rfl⟩)
    exact ⟨E', _, _, by simp [Instr.range, run_underlying hu], g1, g2⟩
  · rw [newV_eq] at h1
    cases h1
    obtain rfl := V_nilm hx
    obtain ⟨E', g1, g2, _⟩ := new_rel hH hb 0 (o := .iter none 0 [] 0) (x := .mapIter none 0 #[] 0) (fun _ _ => rfl)
    exact ⟨E', _, _, by simp [Instr.range, run_underlying hu], g1, g2⟩
  · obtain ⟨o, h2, h3⟩ := obind_some h1
    split at h3
    · rename_i id _ es clock
      rw [newV_eq] at h3
      cases h3
      obtain ⟨b, z, he, rfl⟩ := V_map hx
      obtain ⟨b', z', x', g3, g4, cs, rfl, hf⟩ := hH.obj _ _ h2
      rw [he] at g3; injection g3 with g3; injection g3 with g3 g3'; subst g3; subst g3'
      obtain ⟨E', g1, g2, _⟩ := new_rel hH hb 0 (o := .iter (some id) clock [] clock) (x := .mapIter (some b) clock #[] clock) (fun E' hE => ⟨b, z, hE _ _ he, rfl⟩)
      exact ⟨E', _, _, by simp [Instr.range, run_underlying hu, gO g4], g1, g2⟩
    · cases h3
  · cases h1

noncomputable def nxtA (H : Hp) (it : AV) (isS : Bool) : Option (AV × Hp) := match it, isS with
  | .ptr id off, true => cnd (Nat.beq off 0) (obind (H.get id) fun o => match o with
    | .siter n d pos => cnd (Nat.blt pos n) (forceN (digit 8 d pos) fun b => cnd (Nat.blt b 128)
        (some (.tup (packA (.bool true) (.rone (intA pos) (.rone (.int .i32 (Int.ofNat b)) .rnil))), ⟨H.next, H.tr.put id (some (.siter n d (Nat.succ pos)))⟩)) none)
        (some (.tup (packA (.bool false) .rnil), H))
    | _ => none) none
  | .ptr id off, false => cnd (Nat.beq off 0) (obind (H.get id) fun o => match o with
    | .iter none _ _ _ => some (.tup (packA (.bool false) .rnil), H)
    | _ => none) none
  | _, _ => none
theorem nxtA_rel {P : Program} {E : Env} {H : Hp} {w : World} {it : AV} {isS : Bool} {ty : TypeId} {ci : Value} {r : AV × Hp} (hH : HR E H.get w) (hi : V E it ci) (h : nxtA H it isS = some r) :
    ActOk P E H w (Instr.next ci isS ty) r := by
  unfold nxtA at h
  split at h
  · rename_i id off
    obtain ⟨h0, h1⟩ := cnd_some h
    obtain rfl : off = 0 := by simpa using h0
    obtain ⟨o, h2, h3⟩ := obind_some h1
    obtain ⟨b, z, he, rfl⟩ := V_ptr hi
    split at h3
    · rename_i n d pos
      obtain ⟨b', z', x', g3, g4, g5⟩ := hH.obj _ _ h2
      obtain ⟨hd, s, hs, rfl⟩ := g5
      rw [he] at g3; injection g3 with g3; injection g3 with g3 g3'; subst g3; subst g3'
      have hsz := str_size hs
      rw [cnd_eq] at h3
      split at h3
      · rename_i hp
        have hp' : pos < n := blt_iff.1 hp
        rw [forceN_eq] at h3
        obtain ⟨g6, g7⟩ := cnd_some h3
        have g6' : digit 8 d pos < 128 := blt_iff.1 g6
        cases g7
        have hget : (s.get! pos).toNat = digit 8 d pos := by
          have h1 : s.data.toList[pos]? = some (UInt8.ofNat (digit 8 d pos)) := by
            rw [hs]; unfold bytesOf; rw [List.getElem?_map, toL_get 8 n d pos hp']; rfl
          have h2 : s.data[pos]? = some (UInt8.ofNat (digit 8 d pos)) := by rw [← Array.getElem?_toList]; exact h1
          have h3 : s.get! pos = UInt8.ofNat (digit 8 d pos) := by
            show s.data[pos]! = _
            rw [getElem!_def, h2]
          rw [h3]; simp; omega
        have hdec : Utf8.decode s pos = (digit 8 d pos, 1) := by
          unfold Utf8.decode
          simp only [Nat.add_zero, hget]
          rw [if_pos (by omega)]
        refine ⟨E, .tuple #[.bool true, goInt pos, .int .i32 (digit 8 d pos : Nat)], putB w b (.stringIter s (pos + 1)), ?_, ?_, ?_⟩
        · simp [Instr.next, gO g4, hsz, hp', hdec, setObj, Sem.run, g4, putB]
        · show Stp E H.get H.next w E (Hp.get ⟨H.next, H.tr.put _ _⟩) H.next _
          rw [upd_put]
          exact hH.put h2 he ⟨hd, s, hs, rfl⟩
        · refine ⟨_, rfl, packA_rel (v := .bool true) rfl ⟨_, _, rfl, rfl, _, _, rfl, rfl, rfl⟩⟩
      · rename_i hp
        have hp' : ¬ pos < n := fun hh => hp (blt_iff.2 hh)
        cases h3
        exact ⟨E, .tuple #[.bool false], w, by simp [Instr.next, gO g4, hsz, hp'], Stp.refl hH, _, rfl, packA_rel (v := .bool false) rfl rfl⟩
    · cases h3
  · rename_i id off
    obtain ⟨h0, h1⟩ := cnd_some h
    obtain rfl : off = 0 := by simpa using h0
    obtain ⟨o, h2, h3⟩ := obind_some h1
    obtain ⟨b, z, he, rfl⟩ := V_ptr hi
    split at h3
    · obtain ⟨b', z', x', g3, g4, g5⟩ := hH.obj _ _ h2
      rw [he] at g3; injection g3 with g3; injection g3 with g3 g3'; subst g3; subst g3'
      have g5' : x' = .mapIter none _ _ _ := g5
      subst g5'
      cases h3
      exact ⟨E, .tuple #[.bool false], w, by simp [Instr.next, gO g4], Stp.refl hH, _, rfl, packA_rel (v := .bool false) rfl rfl⟩
    · cases h3
  · cases h
end Go.Ev
