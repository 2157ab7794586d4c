/- The sum of CRC-32C as the evaluator knows it. -/
import Derived.Test.YtjdjpjebbdcfeaaGreatDoorMvE
import Derived.Test.YtjdjpjebbdcfeaaGreatDoorCrcP
namespace Go.Ev
open Go.RowKit Go.MapKept Go.Crc

/-! ### What a slice holds -/
theorem preA_cells {E : Env} {H : Hp} {w : World} {id off m b z : Nat} {v : AV} (hH : HR E H.get w) (he : E id = some (b, z)) (h : preA H id off m = some v) :
    ∃ l : List Value, R E v l ∧ l.length = m ∧ ∀ j u, l[j]? = some u → w.cell? ⟨b, off + j, none⟩ = some u := by
  unfold preA at h
  obtain ⟨r, h1, h2⟩ := obind_some h
  obtain ⟨x, h3, h4⟩ := obind_some h2
  obtain ⟨e, ex, h5⟩ := cellsAt_some h1
  obtain ⟨b', z', o, h6, h7, c, fr, rfl, hz, hu, l, x', hc, hr, _⟩ := hH.obj id _ h5
  rw [he] at h6; injection h6 with h6; injection h6 with h6 h6'; subst h6; subst h6'
  obtain ⟨h8, h9⟩ := rowDrop_rel hr h3
  obtain ⟨h10, h11⟩ := rowTake_rel h8 h4
  rw [List.length_drop] at h11
  refine ⟨(l.drop off).take m, h10, by rw [List.length_take, List.length_drop]; omega, fun j u hj => ?_⟩
  rw [List.getElem?_take] at hj
  split at hj
  · rw [List.getElem?_drop] at hj
    unfold World.cell?
    rw [h7]
    have : c.toList[off + j]? = some u := by
      rw [hc, List.getElem?_append_left (List.getElem?_eq_some_iff.1 hj).1]; exact hj
    simpa using this
  · cases hj
noncomputable def slRow (H : Hp) (x : AV) : Option (Nat × AV) := match x with
  | .nils => some (0, .rnil)
  | .slice id off len _ => cnd (Nat.beq len 0) (some (0, .rnil)) (omap (fun r => (len, r)) (preA H id off len))
  | .slx id off len _ => cnd (Nat.beq len 0) (some (0, .rnil)) (omap (fun r => (len, r)) (preA H id off len))
  | _ => none
theorem slRow_rel {E : Env} {H : Hp} {w : World} {x r : AV} {n : Nat} {cx : Value} (hH : HR E H.get w) (hx : V E x cx) (h : slRow H x = some (n, r)) :
    ∃ l : List Value, R E r l ∧ l.length = n ∧ ((cx = .slice none 0 0 ∧ n = 0) ∨ ∃ b off c, cx = .slice (some ⟨b, off, none⟩) n c ∧ ∀ j u, l[j]? = some u → w.cell? ⟨b, off + j, none⟩ = some u) := by
  unfold slRow at h
  split at h
  · cases h
    exact ⟨[], rfl, rfl, .inl ⟨V_nils hx, rfl⟩⟩
  · rename_i id off len cap
    obtain ⟨_, b, z, he, rfl⟩ := V_slice hx
    rw [cnd_eq] at h
    split at h
    · rename_i h0
      cases h
      obtain rfl : len = 0 := Nat.eq_of_beq_eq_true h0
      exact ⟨[], rfl, rfl, .inr ⟨b, off, cap, rfl, fun j u hj => by cases hj⟩⟩
    · rw [omap_eq, Option.map_eq_some_iff] at h
      obtain ⟨v, h1, h2⟩ := h
      cases h2
      obtain ⟨l, g1, g2, g3⟩ := preA_cells hH he h1
      exact ⟨l, g1, g2, .inr ⟨b, off, cap, rfl, g3⟩⟩
  · rename_i id off len size
    obtain ⟨b, z, off', c, he, rfl, hlc, hor⟩ := V_slx hx
    rw [cnd_eq] at h
    split at h
    · rename_i h0
      cases h
      obtain rfl : len = 0 := Nat.eq_of_beq_eq_true h0
      exact ⟨[], rfl, rfl, .inr ⟨b, off', c, rfl, fun j u hj => by cases hj⟩⟩
    · rename_i h0
      rw [omap_eq, Option.map_eq_some_iff] at h
      obtain ⟨v, h1, h2⟩ := h
      cases h2
      obtain ⟨l, g1, g2, g3⟩ := preA_cells hH he h1
      rcases hor with ⟨rfl, _⟩ | ⟨rfl, _⟩
      · exact ⟨l, g1, g2, .inr ⟨b, off', c, rfl, g3⟩⟩
      · exact absurd (Nat.beq_refl 0) h0
  · cases h

/-! ### The sum -/
noncomputable def crcD : Nat := 739192992287711479272199505450802174180944935565270117958735211195864883404034321072575759094604862722103638970562105654534965976895685875045062592379112792078985738769595739548904202597956689934399229134939183684703714920378025961387270778473281346239181994539903784708069763525514523240966634758967547723819948093640238732618841930738396489733218495472825776362786651876001733504161834172818020394346043168775838788836904094212573134772649703407841545716218812283123984658267516726659948613643534969466376019494666614718815429190684246327365394372519258139400530706807260825564948901732507176286259752944669944548605679086391305931301222988237278526118373278492307487107474296386730408839343753629123128283572704772544098648517013212824233746728729854273945055038163572363387039908578405517982904131040319505009390255243990278860523606265815895619710957563380635837315129012976704357344131429050367435482781212454439427280336740616644805562249867251859340971513883299426874200217165290071196282711253218164865174241416073419876796213293517950780480733835793334181716730049909888366296838117288969681076010175182486226749959458237712061794030512295298309798453151350168298336411933176330063767835252143862258384197256040876755067274410026075604127347481305827849130625987059819492849891529288490451730106428376839488665315100810248841715739596040091270955624355315201462555945279029196416991040143682248153287045556144390819759753283690710943841433520922330785319143598322120010359670046292912296136999474302691355293324886616216537430761212949134977443278613456733727644009057088654822989287437792990360527449046917776586498554113667460252688333953726837853077886002223252717428049737186417130969568838070377296274375688487884511950345697105344492065413654582468965021167618282726469469929715764674333614324035309623813703284835732759643444816186743644084768553800456975483023122915759126937036001171360984116527371042249105866775992680472790331893395027602898497596949565462107432141452181910127216554936352241472142685417685618824675396402282974391037184848625305334079832924861339728594832024687877422901193159812755254516361032103358958860399075665489958680801135040793967932263797765198140728704255468134266160630916650637156666977854355604551105352627939572551570066195951258251545213658746024110892771407706843609824354401912642345941057507434795836161327506684973593222243082074173577446865175872619707633030268690896528048779238513612740446475572226293760
noncomputable def stD (r c : Nat) : Nat := Nat.xor (Nat.shiftRight r 8) (digit 32 crcD (Nat.xor (Nat.mod r 256) c))
noncomputable def tabOk (m : Nat) : Bool := Nat.rec (motive := fun _ => Bool) true (fun i ih => cnd (Nat.beq (digit 32 crcD i) (tb i)) ih false) m
theorem tabOk_get : ∀ {m i : Nat}, tabOk m = true → i < m → digit 32 crcD i = tb i
  | m + 1, i, h, hi => by
    obtain ⟨h1, h2⟩ := cnd_true (show cnd (Nat.beq (digit 32 crcD m) (tb m)) (tabOk m) false = true from h)
    by_cases e : i = m
    · subst e; exact Nat.eq_of_beq_eq_true h1
    · exact tabOk_get h2 (by omega)
set_option maxRecDepth 100000 in
theorem tab_ok : tabOk 256 = true := by decide +kernel
theorem stD_eq {r c : Nat} (hc : c < 256) : stD r c = st r c := by
  unfold stD st
  have h1 : Nat.xor (Nat.mod r 256) c = r % 256 ^^^ c := rfl
  have h2 : Nat.shiftRight r 8 = r / 256 := Nat.shiftRight_eq_div_pow r 8
  rw [h1, h2, tabOk_get tab_ok (xor_byte (Nat.mod_lt r (by decide)) hc)]
  rfl
/-- The sum over n bytes. -/
noncomputable def crcN (n : Nat) : Nat → Nat → Nat := Nat.rec (motive := fun _ => Nat → Nat → Nat) (fun _ r => r) (fun _ ih d r => forceN (stD r (Nat.mod d 256)) fun r' => forceN (Nat.div d 256) fun d' => ih d' r') n
theorem crcN_eq : ∀ (n d r : Nat), crcN n d r = (toL 8 n d).foldl st r
  | 0, _, _ => rfl
  | n + 1, d, r => by
    have h : crcN (n + 1) d r = forceN (stD r (Nat.mod d 256)) fun r' => forceN (Nat.div d 256) fun d' => crcN n d' r' := rfl
    rw [h, forceN_eq, forceN_eq, crcN_eq n, show stD r (d.mod 256) = st r (d.mod 256) from stD_eq (Nat.mod_lt d (by decide))]
    rfl
noncomputable def crcL (H : Hp) (vs : List AV) : Nat → Option Nat := List.rec (motive := fun _ => Nat → Option Nat) (fun r => some r)
  (fun v _ ih r => obind (slRow H v) fun p => obind (rowB p.2) fun q => cnd (Nat.blt p.1 1000000) (cnd (Nat.beq q.1 p.1) (forceN (crcN q.1 q.2 r) fun r' => ih r') none) none) vs
noncomputable def crcA (l : List AV) (H : Hp) : Option (AV × Hp) := match l with
  | [x] => obind (slRow H x) fun p => obind (rowL p.2) fun vs => cnd (Nat.blt p.1 1000000) (obind (crcL H vs 4294967295) fun r => some ((forceN (Nat.sub 4294967295 r) fun r => .int .u32 (Int.ofNat r)), H)) none
  | _ => none

theorem crcL_rel {E : Env} {H : Hp} {w : World} (hH : HR E H.get w) : ∀ {vs : List AV} {cs : List Value} {r r' : Nat}, F2 (V E) vs cs → crcL H vs r = some r' →
    ∃ ls : List (List Nat), ls.length = cs.length ∧ (∀ l ∈ ls, l.length < 1000000) ∧ (∀ (i : Nat) (u : Value), cs[i]? = some u → ∃ l : List Nat, ls[i]? = some l ∧ BytesAt w u l) ∧ r' = ls.flatten.foldl st r
  | [], [], r, r', .nil, h => by cases h; exact ⟨[], rfl, by simp, by simp, rfl⟩
  | v :: vs, c :: cs, r, r', .cons hv ht, h => by
    have h' : (obind (slRow H v) fun p => obind (rowB p.2) fun q => cnd (Nat.blt p.1 1000000) (cnd (Nat.beq q.1 p.1) (forceN (crcN q.1 q.2 r) fun r' => crcL H vs r') none) none) = some r' := h
    obtain ⟨⟨n, row⟩, h1, h2⟩ := obind_some h'
    obtain ⟨⟨m, d⟩, h3, h4⟩ := obind_some h2
    obtain ⟨h5, h6⟩ := cnd_some h4
    obtain ⟨h7, h8⟩ := cnd_some h6
    rw [forceN_eq] at h8
    obtain rfl : m = n := Nat.eq_of_beq_eq_true h7
    obtain ⟨ls, g1, g2, g3, g4⟩ := crcL_rel hH ht h8
    obtain ⟨l, k1, k2, k3⟩ := slRow_rel hH hv h1
    obtain ⟨rfl, hd⟩ := rowB_rel k1 h3
    refine ⟨toL 8 m d :: ls, by simp [g1], ?_, ?_, ?_⟩
    · intro l hl
      rcases List.mem_cons.1 hl with rfl | hl
      · rw [toL_length]; exact blt_iff.1 h5
      · exact g2 l hl
    · intro i u hu
      cases i with
      | zero =>
        simp only [List.getElem?_cons_zero, Option.some.injEq] at hu
        subst hu
        refine ⟨toL 8 m d, rfl, fun x hx => toL_lt 8 m d x hx, ?_⟩
        rcases k3 with ⟨rfl, rfl⟩ | ⟨b, off, c, rfl, k4⟩
        · exact .inl ⟨rfl, rfl⟩
        · refine .inr ⟨b, off, c, by rw [toL_length], fun j hj => k4 j _ ?_⟩
          rw [List.getElem?_map, List.getElem?_eq_getElem hj]
          rfl
      | succ i =>
        rw [List.getElem?_cons_succ] at hu
        obtain ⟨l, q1, q2⟩ := g3 i u hu
        exact ⟨l, by rw [List.getElem?_cons_succ]; exact q1, q2⟩
    · rw [g4, crcN_eq, List.flatten_cons, List.foldl_append]

/-- The sum's contract makes it known. -/
theorem crc_known {P : Program} {f : FuncId} {base : Nat} {w0 : World}
    (hs : ∀ (x : Value) (ls : List (List Nat)) (w : World), ListAt w x ls → ls.length < 1000000 → (∀ l ∈ ls, l.length < 1000000) → Calls P f #[x] w fun e w' => e = .returned (.int .u32 (4294967295 - (ls.flatten.foldl st 4294967295) : Nat)) ∧ Below w.heap.size w w') :
    ∀ l E H w (args : Array Value) r, crcA l H = some r → F2 (V E) l args.toList → Inv E H w base w0 → Calls P f args w (RetOk E H w r) := by
  intro l E H w args r h hl hI
  unfold crcA at h
  split at h
  · rename_i x
    obtain ⟨⟨n, row⟩, h1, h2⟩ := obind_some h
    obtain ⟨vs, h3, h4⟩ := obind_some h2
    obtain ⟨h5, h6⟩ := cnd_some h4
    obtain ⟨q, h7, h8⟩ := obind_some h6
    cases h8
    cases args with
    | mk t =>
      cases hl with
      | cons hx ht =>
        cases ht with
        | nil =>
          rename_i cx
          obtain ⟨cl, k1, k2, k3⟩ := slRow_rel hI.hr hx h1
          have hvs := rowL_rel k1 h3
          obtain ⟨ls, g1, g2, g3, rfl⟩ := crcL_rel hI.hr hvs h7
          have hat : ListAt w cx ls := by
            rcases k3 with ⟨rfl, rfl⟩ | ⟨b, off, c, rfl, k4⟩
            · exact .inl ⟨rfl, List.eq_nil_of_length_eq_zero (by rw [g1, k2])⟩
            · refine .inr ⟨b, off, c, by rw [g1, k2], fun i hi => ?_⟩
              have hi' : i < cl.length := by omega
              obtain ⟨l, q1, q2⟩ := g3 i cl[i] (List.getElem?_eq_getElem hi')
              refine ⟨cl[i], k4 i _ (List.getElem?_eq_getElem hi'), ?_⟩
              rw [List.getElem?_eq_getElem hi] at q1
              injection q1 with q1
              rw [q1]; exact q2
          refine (hs cx ls w hat (by have := blt_iff.1 h5; omega) g2).mono ?_
          rintro e w' ⟨rfl, hb⟩
          refine ⟨E, _, rfl, below_stp hI.hr hb, ?_⟩
          show V E (forceN (Nat.sub 4294967295 (List.foldl st 4294967295 ls.flatten)) fun r => AV.int IntKind.u32 (Int.ofNat r)) _
          rw [forceN_eq]
          rfl
  · cases h
end Go.Ev
