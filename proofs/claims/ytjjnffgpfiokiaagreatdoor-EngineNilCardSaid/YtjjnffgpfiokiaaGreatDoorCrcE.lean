/- CRC-32C, plainly. No program in sight. -/
import Derived.Laws.BitsAllLaws
import Derived.Laws.Tables
import Derived.Below
import Derived.WalkKit
import Derived.Test.YtjjnffgpfiokiaaGreatDoorMvE
namespace Go.Crc
open Go Go.RowKit
/-- A register times x. -/
def bx (p : Nat) : Nat := if p % 2 = 1 then p / 2 ^^^ 2197175160 else p / 2
def it : Nat → Nat → Nat
  | 0, i => i
  | k + 1, i => bx (it k i)
def tb (i : Nat) : Nat := it 8 i
def st (r c : Nat) : Nat := r / 256 ^^^ tb (r % 256 ^^^ c)
theorem bx_lt {p : Nat} (h : p < 4294967296) : bx p < 4294967296 := by
  unfold bx
  split
  · exact Nat.xor_lt_two_pow (n := 32) (by omega) (by omega)
  · omega
theorem it_lt : ∀ (k : Nat) {i : Nat}, i < 4294967296 → it k i < 4294967296
  | 0, _, h => h
  | k + 1, _, h => bx_lt (it_lt k h)
theorem tb_lt {i : Nat} (h : i < 4294967296) : tb i < 4294967296 := it_lt 8 h
theorem xor_byte {a b : Nat} (h : a < 256) (k : b < 256) : a ^^^ b < 256 := Nat.xor_lt_two_pow (n := 8) h k
theorem st_lt {r c : Nat} (h : r < 4294967296) (k : c < 256) : st r c < 4294967296 := by
  unfold st
  exact Nat.xor_lt_two_pow (n := 32) (by omega) (tb_lt (by have := xor_byte (Nat.mod_lt r (by decide : 0 < 256)) k; omega))
theorem ret_u32 {a b : Int} (h : a = b) : Ending.returned (.int .u32 a) = .returned (.int .u32 b) := by rw [h]
theorem and1 (p : Nat) (h1 : p < 4294967296) : bits BinOp.and IntKind.u32 p 1 = ((p % 2 : Nat) : Int) := by
  have := u32_and_nat p 1 h1 (by decide)
  rw [Nat.and_one_is_mod] at this
  exact this
theorem xorc (p : Nat) (h1 : p < 4294967296) : bits BinOp.xor IntKind.u32 ((p : Int) / 2) 2197175160 = ((p / 2 ^^^ 2197175160 : Nat) : Int) := by
  have := u32_xor_nat (p / 2) 2197175160 (by omega) (by decide)
  rw [← this]; rfl
def bxi (p : Int) : Int := if (bits BinOp.and IntKind.u32 p 1 == 1) = true then bits BinOp.xor IntKind.u32 (p / 2) 2197175160 else p / 2
theorem bxi_eq (p : Nat) (h1 : p < 4294967296) : bxi p = ((bx p : Nat) : Int) := by
  unfold bxi bx
  rw [and1 p h1, xorc p h1]
  by_cases h : p % 2 = 1
  · rw [if_pos h, if_pos (by rw [h]; rfl)]
  · rw [if_neg h, if_neg (by intro e; apply h; have : ((p % 2 : Nat) : Int) = 1 := by simpa using e
                             omega)]
    omega
def Arr (W : World) (N T : Nat) (F : Nat → Nat) : Prop := ∃ c : Array Value, W.heap[N]? = some (.cells c T (0, 0)) ∧ c.size = 256 ∧ ∀ i, i < 256 → c[i]? = some (.int .u32 (F i))
theorem Arr.cell {W : World} {N T : Nat} {F : Nat → Nat} (h : Arr W N T F) {i : Nat} (hi : i < 256) : W.cell? ⟨N, i, none⟩ = some (.int .u32 (F i)) := by
  obtain ⟨c, h1, h2, h3⟩ := h
  unfold World.cell?
  rw [h1]
  simpa using h3 i hi
theorem Arr.frozen {W : World} {N T : Nat} {F : Nat → Nat} (h : Arr W N T F) (i : Nat) : W.frozen? ⟨N, i, none⟩ = false := by
  obtain ⟨c, h1, h2, h3⟩ := h
  unfold World.frozen?
  rw [h1]
  simp
theorem Arr.cong {W : World} {N T : Nat} {F G : Nat → Nat} (h : Arr W N T F) (hg : ∀ i, i < 256 → F i = G i) : Arr W N T G := by
  obtain ⟨c, h1, h2, h3⟩ := h
  exact ⟨c, h1, h2, fun i hi => by rw [← hg i hi]; exact h3 i hi⟩
theorem Arr.set {W : World} {N T : Nat} {F : Nat → Nat} (h : Arr W N T F) {i v : Nat} (hi : i < 256) : Arr (W.setCell ⟨N, i, none⟩ (.int .u32 v)) N T (fun j => if j = i then v else F j) := by
  obtain ⟨c, h1, h2, h3⟩ := h
  have hN : N < W.heap.size := (Array.getElem?_eq_some_iff.1 h1).1
  refine ⟨c.setIfInBounds i (.int .u32 v), ?_, by simp [h2], fun j hj => ?_⟩
  · unfold World.setCell
    simp [Array.getElem?_modify, h1]
  · rw [Array.getElem?_setIfInBounds]
    by_cases e : i = j
    · subst e; simp [h2, hi]
    · rw [if_neg e, h3 j hj]
      show _ = some (Value.int IntKind.u32 ((if j = i then v else F j : Nat) : Int))
      rw [if_neg (fun e' : j = i => e e'.symm)]
theorem ones_xor (s : Nat) (h : s < 4294967296) : 4294967295 ^^^ s = 4294967295 - s := by
  have h1 := BitVec.toNat_not (x := BitVec.ofNat 32 s)
  have h2 : (~~~ (BitVec.ofNat 32 s)).toNat = (BitVec.allOnes 32).toNat ^^^ (BitVec.ofNat 32 s).toNat := by rw [← BitVec.toNat_xor, BitVec.allOnes_xor]
  have h3 : (BitVec.ofNat 32 s).toNat = s := by rw [BitVec.toNat_ofNat]; exact Nat.mod_eq_of_lt h
  rw [h2, h3] at h1
  have h4 : (BitVec.allOnes 32).toNat = 4294967295 := by decide
  rw [h4] at h1
  rw [h1]
theorem max_xor (s : Nat) (h : s < 4294967296) : bits BinOp.xor IntKind.u32 IntKind.u32.max (s : Int) = ((4294967295 - s : Nat) : Int) := by
  have h1 := u32_xor_nat 4294967295 s (by decide) h
  rw [ones_xor s h] at h1
  rw [← h1]
  rfl
def BytesAt (w : World) (v : Value) (l : List Nat) : Prop :=
  (∀ x ∈ l, x < 256) ∧ ((v = .slice none 0 0 ∧ l = []) ∨ ∃ b off c, v = .slice (some ⟨b, off, none⟩) l.length c ∧ ∀ j, (h : j < l.length) → w.cell? ⟨b, off + j, none⟩ = some (.int .u8 (l[j] : Nat)))
def ListAt (w : World) (v : Value) (ls : List (List Nat)) : Prop :=
  (v = .slice none 0 0 ∧ ls = []) ∨ ∃ b off c, v = .slice (some ⟨b, off, none⟩) ls.length c ∧ ∀ i, (h : i < ls.length) → ∃ u, w.cell? ⟨b, off + i, none⟩ = some u ∧ BytesAt w u ls[i]
theorem cell_below {w W : World} {B : Nat} (h : Below B w W) (hB : B = w.heap.size) {a : Addr} {v : Value} (hc : w.cell? a = some v) : W.cell? a = some v := by
  have hlt : a.block < w.heap.size := block_lt_of_cell hc
  have := h.block a.block (by omega)
  unfold World.cell? at hc ⊢
  rw [this]; exact hc
def sumTo (ls : List (List Nat)) (i : Nat) : Nat := (ls.take i).flatten.foldl st 4294967295
theorem BytesAt.one {w : World} {v : Value} {l : List Nat} (h : BytesAt w v l) : ∃ A c, v = .slice A l.length c ∧ (∀ j, (h : j < l.length) → ∃ b off, A = some ⟨b, off, none⟩ ∧ w.cell? ⟨b, off + j, none⟩ = some (.int .u8 (l[j] : Nat))) ∧ ∀ x ∈ l, x < 256 := by
  obtain ⟨h0, ⟨rfl, rfl⟩ | ⟨b, off, c, rfl, h1⟩⟩ := h
  · exact ⟨none, 0, rfl, fun j h => by simp at h, h0⟩
  · exact ⟨_, c, rfl, fun j h => ⟨b, off, rfl, h1 j h⟩, h0⟩
theorem ListAt.one {w : World} {v : Value} {ls : List (List Nat)} (h : ListAt w v ls) : ∃ A c, v = .slice A ls.length c ∧ ∀ i, (h : i < ls.length) → ∃ b off u, A = some ⟨b, off, none⟩ ∧ w.cell? ⟨b, off + i, none⟩ = some u ∧ BytesAt w u ls[i] := by
  obtain ⟨rfl, rfl⟩ | ⟨b, off, c, rfl, h1⟩ := h
  · exact ⟨none, 0, rfl, fun j h => by simp at h⟩
  · refine ⟨_, c, rfl, fun i h => ?_⟩
    obtain ⟨u, g1, g2⟩ := h1 i h
    exact ⟨b, off, u, rfl, g1, g2⟩
theorem fold_lt : ∀ (l : List Nat) {r : Nat}, (∀ x ∈ l, x < 256) → r < 4294967296 → l.foldl st r < 4294967296
  | [], _, _, h => h
  | x :: l, _r, hl, h => fold_lt l (fun y hy => hl y (List.mem_cons_of_mem _ hy)) (st_lt h (hl x List.mem_cons_self))
theorem sumTo_lt (ls : List (List Nat)) (i : Nat) (h : ∀ l ∈ ls, ∀ x ∈ l, x < 256) : sumTo ls i < 4294967296 := by
  refine fold_lt _ (fun x hx => ?_) (by decide)
  obtain ⟨l, h1, h2⟩ := List.mem_flatten.1 hx
  exact h l (List.mem_of_mem_take h1) x h2
theorem ListAt.all {w : World} {v : Value} {ls : List (List Nat)} (h : ListAt w v ls) : ∀ l ∈ ls, ∀ x ∈ l, x < 256 := by
  intro l hl
  obtain ⟨i, hi, rfl⟩ := List.getElem_of_mem hl
  obtain ⟨rfl, rfl⟩ | ⟨b, off, c, rfl, h1⟩ := h
  · simp at hi
  · obtain ⟨u, _, g2⟩ := h1 i hi
    exact g2.1
theorem BytesAt.below {w W : World} {v : Value} {l : List Nat} (h : BytesAt w v l) (hb : Below w.heap.size w W) : BytesAt W v l := by
  refine ⟨h.1, h.2.imp_right ?_⟩
  rintro ⟨b, off, c, h1, h2⟩
  exact ⟨b, off, c, h1, fun j hj => cell_below hb rfl (h2 j hj)⟩
theorem ListAt.below {w W : World} {v : Value} {ls : List (List Nat)} (h : ListAt w v ls) (hb : Below w.heap.size w W) : ListAt W v ls := by
  refine h.imp_right ?_
  rintro ⟨b, off, c, h1, h2⟩
  refine ⟨b, off, c, h1, fun i hi => ?_⟩
  obtain ⟨u, g1, g2⟩ := h2 i hi
  exact ⟨u, cell_below hb rfl g1, g2.below hb⟩
end Go.Crc

/- The sum of CRC-32C as the evaluator knows it. -/
namespace Go.Ev
open Go.RowKit Go.MapKept Go.Crc

/-! ### What a slice holds -/
theorem preA_cells {E : Env} {H : Hp} {w : World} {id off m b z : Nat} {v : AV} (hH : HR E H.get w) (he : E id = some (b, z)) (h : preA H id off m = some v) :
    ∃ l : List Value, R E v l ∧ l.length = m ∧ ∀ j u, l[j]? = some u → w.cell? ⟨b, off + j, none⟩ = some u := by
  unfold preA at h
  obtain ⟨r, h1, h2⟩ := obind_some h
  obtain ⟨x, h3, h4⟩ := obind_some h2
  obtain ⟨e, ex, h5⟩ := cellsAt_some h1
  obtain ⟨b', z', o, h6, h7, c, fr, rfl, hz, hu, l, x', hc, hr, _⟩ := hH.obj id _ h5
  rw [he] at h6; injection h6 with h6; injection h6 with h6 h6'; subst h6; subst h6'
  obtain ⟨h8, h9⟩ := rowDrop_rel hr h3
  obtain ⟨h10, h11⟩ := rowTake_rel h8 h4
  rw [List.length_drop] at h11
  refine ⟨(l.drop off).take m, h10, by rw [List.length_take, List.length_drop]; omega, fun j u hj => ?_⟩
  rw [List.getElem?_take] at hj
  split at hj
  · rw [List.getElem?_drop] at hj
    unfold World.cell?
    rw [h7]
    have : c.toList[off + j]? = some u := by
      rw [hc, List.getElem?_append_left (List.getElem?_eq_some_iff.1 hj).1]; exact hj
    simpa using this
  · cases hj
noncomputable def slRow (H : Hp) (x : AV) : Option (Nat × AV) := match x with
  | .nils => some (0, .rnil)
  | .slice id off len _ => cnd (Nat.beq len 0) (some (0, .rnil)) (omap (fun r => (len, r)) (preA H id off len))
  | .slx id off len _ => cnd (Nat.beq len 0) (some (0, .rnil)) (omap (fun r => (len, r)) (preA H id off len))
  | _ => none
theorem slRow_rel {E : Env} {H : Hp} {w : World} {x r : AV} {n : Nat} {cx : Value} (hH : HR E H.get w) (hx : V E x cx) (h : slRow H x = some (n, r)) :
    ∃ l : List Value, R E r l ∧ l.length = n ∧ ((cx = .slice none 0 0 ∧ n = 0) ∨ ∃ b off c, cx = .slice (some ⟨b, off, none⟩) n c ∧ ∀ j u, l[j]? = some u → w.cell? ⟨b, off + j, none⟩ = some u) := by
  unfold slRow at h
  split at h
  · cases h
    exact ⟨[], rfl, rfl, .inl ⟨V_nils hx, rfl⟩⟩
  · rename_i id off len cap
    obtain ⟨_, b, z, he, rfl⟩ := V_slice hx
    rw [cnd_eq] at h
    split at h
    · rename_i h0
      cases h
      obtain rfl : len = 0 := Nat.eq_of_beq_eq_true h0
      exact ⟨[], rfl, rfl, .inr ⟨b, off, cap, rfl, fun j u hj => by cases hj⟩⟩
    · rw [omap_eq, Option.map_eq_some_iff] at h
      obtain ⟨v, h1, h2⟩ := h
      cases h2
      obtain ⟨l, g1, g2, g3⟩ := preA_cells hH he h1
      exact ⟨l, g1, g2, .inr ⟨b, off, cap, rfl, g3⟩⟩
  · rename_i id off len size
    obtain ⟨b, z, off', c, he, rfl, hlc, hor⟩ := V_slx hx
    rw [cnd_eq] at h
    split at h
    · rename_i h0
      cases h
      obtain rfl : len = 0 := Nat.eq_of_beq_eq_true h0
      exact ⟨[], rfl, rfl, .inr ⟨b, off', c, rfl, fun j u hj => by cases hj⟩⟩
    · rename_i h0
      rw [omap_eq, Option.map_eq_some_iff] at h
      obtain ⟨v, h1, h2⟩ := h
      cases h2
      obtain ⟨l, g1, g2, g3⟩ := preA_cells hH he h1
      rcases hor with ⟨rfl, _⟩ | ⟨rfl, _⟩
      · exact ⟨l, g1, g2, .inr ⟨b, off', c, rfl, g3⟩⟩
      · exact absurd (Nat.beq_refl 0) h0
  · cases h

/-! ### The sum -/
noncomputable def crcD : Nat := 739192992287711479272199505450802174180944935565270117958735211195864883404034321072575759094604862722103638970562105654534965976895685875045062592379112792078985738769595739548904202597956689934399229134939183684703714920378025961387270778473281346239181994539903784708069763525514523240966634758967547723819948093640238732618841930738396489733218495472825776362786651876001733504161834172818020394346043168775838788836904094212573134772649703407841545716218812283123984658267516726659948613643534969466376019494666614718815429190684246327365394372519258139400530706807260825564948901732507176286259752944669944548605679086391305931301222988237278526118373278492307487107474296386730408839343753629123128283572704772544098648517013212824233746728729854273945055038163572363387039908578405517982904131040319505009390255243990278860523606265815895619710957563380635837315129012976704357344131429050367435482781212454439427280336740616644805562249867251859340971513883299426874200217165290071196282711253218164865174241416073419876796213293517950780480733835793334181716730049909888366296838117288969681076010175182486226749959458237712061794030512295298309798453151350168298336411933176330063767835252143862258384197256040876755067274410026075604127347481305827849130625987059819492849891529288490451730106428376839488665315100810248841715739596040091270955624355315201462555945279029196416991040143682248153287045556144390819759753283690710943841433520922330785319143598322120010359670046292912296136999474302691355293324886616216537430761212949134977443278613456733727644009057088654822989287437792990360527449046917776586498554113667460252688333953726837853077886002223252717428049737186417130969568838070377296274375688487884511950345697105344492065413654582468965021167618282726469469929715764674333614324035309623813703284835732759643444816186743644084768553800456975483023122915759126937036001171360984116527371042249105866775992680472790331893395027602898497596949565462107432141452181910127216554936352241472142685417685618824675396402282974391037184848625305334079832924861339728594832024687877422901193159812755254516361032103358958860399075665489958680801135040793967932263797765198140728704255468134266160630916650637156666977854355604551105352627939572551570066195951258251545213658746024110892771407706843609824354401912642345941057507434795836161327506684973593222243082074173577446865175872619707633030268690896528048779238513612740446475572226293760
noncomputable def stD (r c : Nat) : Nat := Nat.xor (Nat.shiftRight r 8) (digit 32 crcD (Nat.xor (Nat.mod r 256) c))
noncomputable def tabOk (m : Nat) : Bool := Nat.rec (motive := fun _ => Bool) true (fun i ih => cnd (Nat.beq (digit 32 crcD i) (tb i)) ih false) m
theorem tabOk_get : ∀ {m i : Nat}, tabOk m = true → i < m → digit 32 crcD i = tb i
  | m + 1, i, h, hi => by
    obtain ⟨h1, h2⟩ := cnd_true (show cnd (Nat.beq (digit 32 crcD m) (tb m)) (tabOk m) false = true from h)
    by_cases e : i = m
    · subst e; exact Nat.eq_of_beq_eq_true h1
    · exact tabOk_get h2 (by omega)
set_option maxRecDepth 100000 in
theorem tab_ok : tabOk 256 = true := by decide +kernel
theorem stD_eq {r c : Nat} (hc : c < 256) : stD r c = st r c := by
  unfold stD st
  have h1 : Nat.xor (Nat.mod r 256) c = r % 256 ^^^ c := rfl
  have h2 : Nat.shiftRight r 8 = r / 256 := Nat.shiftRight_eq_div_pow r 8
  rw [h1, h2, tabOk_get tab_ok (xor_byte (Nat.mod_lt r (by decide)) hc)]
  rfl
/-- The sum over n bytes. -/
noncomputable def crcN (n : Nat) : Nat → Nat → Nat := Nat.rec (motive := fun _ => Nat → Nat → Nat) (fun _ r => r) (fun _ ih d r => forceN (stD r (Nat.mod d 256)) fun r' => forceN (Nat.div d 256) fun d' => ih d' r') n
theorem crcN_eq : ∀ (n d r : Nat), crcN n d r = (toL 8 n d).foldl st r
  | 0, _, _ => rfl
  | n + 1, d, r => by
    have h : crcN (n + 1) d r = forceN (stD r (Nat.mod d 256)) fun r' => forceN (Nat.div d 256) fun d' => crcN n d' r' := rfl
    rw [h, forceN_eq, forceN_eq, crcN_eq n, show stD r (d.mod 256) = st r (d.mod 256) from stD_eq (Nat.mod_lt d (by decide))]
    rfl
noncomputable def crcL (H : Hp) (vs : List AV) : Nat → Option Nat := List.rec (motive := fun _ => Nat → Option Nat) (fun r => some r)
  (fun v _ ih r => obind (slRow H v) fun p => obind (rowB p.2) fun q => cnd (Nat.blt p.1 1000000) (cnd (Nat.beq q.1 p.1) (forceN (crcN q.1 q.2 r) fun r' => ih r') none) none) vs
noncomputable def crcA (l : List AV) (H : Hp) : Option (AV × Hp) := match l with
  | [x] => obind (slRow H x) fun p => obind (rowL p.2) fun vs => cnd (Nat.blt p.1 1000000) (obind (crcL H vs 4294967295) fun r => some ((forceN (Nat.sub 4294967295 r) fun r => .int .u32 (Int.ofNat r)), H)) none
  | _ => none

theorem crcL_rel {E : Env} {H : Hp} {w : World} (hH : HR E H.get w) : ∀ {vs : List AV} {cs : List Value} {r r' : Nat}, F2 (V E) vs cs → crcL H vs r = some r' →
    ∃ ls : List (List Nat), ls.length = cs.length ∧ (∀ l ∈ ls, l.length < 1000000) ∧ (∀ (i : Nat) (u : Value), cs[i]? = some u → ∃ l : List Nat, ls[i]? = some l ∧ BytesAt w u l) ∧ r' = ls.flatten.foldl st r
  | [], [], r, r', .nil, h => by cases h; exact ⟨[], rfl, by simp, by simp, rfl⟩
  | v :: vs, c :: cs, r, r', .cons hv ht, h => by
    have h' : (obind (slRow H v) fun p => obind (rowB p.2) fun q => cnd (Nat.blt p.1 1000000) (cnd (Nat.beq q.1 p.1) (forceN (crcN q.1 q.2 r) fun r' => crcL H vs r') none) none) = some r' := h
    obtain ⟨⟨n, row⟩, h1, h2⟩ := obind_some h'
    obtain ⟨⟨m, d⟩, h3, h4⟩ := obind_some h2
    obtain ⟨h5, h6⟩ := cnd_some h4
    obtain ⟨h7, h8⟩ := cnd_some h6
    rw [forceN_eq] at h8
    obtain rfl : m = n := Nat.eq_of_beq_eq_true h7
    obtain ⟨ls, g1, g2, g3, g4⟩ := crcL_rel hH ht h8
    obtain ⟨l, k1, k2, k3⟩ := slRow_rel hH hv h1
    obtain ⟨rfl, hd⟩ := rowB_rel k1 h3
    refine ⟨toL 8 m d :: ls, by simp [g1], ?_, ?_, ?_⟩
    · intro l hl
      rcases List.mem_cons.1 hl with rfl | hl
      · rw [toL_length]; exact blt_iff.1 h5
      · exact g2 l hl
    · intro i u hu
      cases i with
      | zero =>
        simp only [List.getElem?_cons_zero, Option.some.injEq] at hu
        subst hu
        refine ⟨toL 8 m d, rfl, fun x hx => toL_lt 8 m d x hx, ?_⟩
        rcases k3 with ⟨rfl, rfl⟩ | ⟨b, off, c, rfl, k4⟩
        · exact .inl ⟨rfl, rfl⟩
        · refine .inr ⟨b, off, c, by rw [toL_length], fun j hj => k4 j _ ?_⟩
          rw [List.getElem?_map, List.getElem?_eq_getElem hj]
          rfl
      | succ i =>
        rw [List.getElem?_cons_succ] at hu
        obtain ⟨l, q1, q2⟩ := g3 i u hu
        exact ⟨l, by rw [List.getElem?_cons_succ]; exact q1, q2⟩
    · rw [g4, crcN_eq, List.flatten_cons, List.foldl_append]

/-- The sum's contract makes it known. -/
theorem crc_known {P : Program} {f : FuncId} {base : Nat} {w0 : World}
    (hs : ∀ (x : Value) (ls : List (List Nat)) (w : World), ListAt w x ls → ls.length < 1000000 → (∀ l ∈ ls, l.length < 1000000) → Calls P f #[x] w fun e w' => e = .returned (.int .u32 (4294967295 - (ls.flatten.foldl st 4294967295) : Nat)) ∧ Below w.heap.size w w') :
    ∀ l E H w (args : Array Value) r, crcA l H = some r → F2 (V E) l args.toList → Inv E H w base w0 → Calls P f args w (RetOk E H w r) := by
  intro l E H w args r h hl hI
  unfold crcA at h
  split at h
  · rename_i x
    obtain ⟨⟨n, row⟩, h1, h2⟩ := obind_some h
    obtain ⟨vs, h3, h4⟩ := obind_some h2
    obtain ⟨h5, h6⟩ := cnd_some h4
    obtain ⟨q, h7, h8⟩ := obind_some h6
    cases h8
    cases args with
    | mk t =>
      cases hl with
      | cons hx ht =>
        cases ht with
        | nil =>
          rename_i cx
          obtain ⟨cl, k1, k2, k3⟩ := slRow_rel hI.hr hx h1
          have hvs := rowL_rel k1 h3
          obtain ⟨ls, g1, g2, g3, rfl⟩ := crcL_rel hI.hr hvs h7
          have hat : ListAt w cx ls := by
            rcases k3 with ⟨rfl, rfl⟩ | ⟨b, off, c, rfl, k4⟩
            · exact .inl ⟨rfl, List.eq_nil_of_length_eq_zero (by rw [g1, k2])⟩
            · refine .inr ⟨b, off, c, by rw [g1, k2], fun i hi => ?_⟩
              have hi' : i < cl.length := by omega
              obtain ⟨l, q1, q2⟩ := g3 i cl[i] (List.getElem?_eq_getElem hi')
              refine ⟨cl[i], k4 i _ (List.getElem?_eq_getElem hi'), ?_⟩
              rw [List.getElem?_eq_getElem hi] at q1
              injection q1 with q1
              rw [q1]; exact q2
          refine (hs cx ls w hat (by have := blt_iff.1 h5; omega) g2).mono ?_
          rintro e w' ⟨rfl, hb⟩
          refine ⟨E, _, rfl, below_stp hI.hr hb, ?_⟩
          show V E (forceN (Nat.sub 4294967295 (List.foldl st 4294967295 ls.flatten)) fun r => AV.int IntKind.u32 (Int.ofNat r)) _
          rw [forceN_eq]
          rfl
  · cases h
end Go.Ev
