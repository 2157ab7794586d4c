/- A version out of bytes. -/
import Derived.Test.YtekafaeefpgnjaaHbA
namespace Go.Proofs.Hb
open Go Go.RowKit Go.Hb Go.Crc
def s1 (l : List Nat) : Option Nat := adv l (some 0) 8
def s2 (l : List Nat) : Option Nat := adv l (s1 l) 8
def s3 (l : List Nat) : Option Nat := adv l (adv l (s2 l) 2) (vl (got l (s2 l) 2))
def s4 (l : List Nat) : Option Nat := adv l (adv l (s3 l) 2) (vl (got l (s3 l) 2))
def iA (l : List Nat) : Nat := vl (got l (some 0) 8)
def iB (l : List Nat) : Nat := vl (got l (s1 l) 8)
def iK (l : List Nat) : List Nat := got l (adv l (s2 l) 2) (vl (got l (s2 l) 2))
def iV (l : List Nat) : List Nat := got l (adv l (s3 l) 2) (vl (got l (s3 l) 2))
def okI (l : List Nat) : Bool := decide (s4 l = some l.length) && may (iK l).length (iV l).length (iA l) (iB l)
theorem Rd.alloc {W : World} {R A : Nat} {l : List Nat} {c : Nat} {st : Option Nat} (h : Rd W R A l c st) (o : Obj) : Rd (W.alloc o) R A l c st :=
  ⟨(heap_alloc_old _ _ (h := (Array.getElem?_eq_some_iff.1 h.1).1)).trans h.1, h.2.1, h.2.2.1, h.2.2.2.1, h.2.2.2.2.1, fun j hj => below_alloc_cell _ (h.2.2.2.2.2 j hj)⟩
theorem Rd.far {W : World} {R A : Nat} {l : List Nat} {c : Nat} {st : Option Nat} (h : Rd W R A l c st) {a : Addr} (hR : a.block ≠ R) (hA : a.block ≠ A) (v : Value) : Rd (W.setCell a v) R A l c st :=
  ⟨(Below.heap_setCell _ _ _ _ (fun e => hR e.symm)).trans h.1, h.2.1, h.2.2.1, h.2.2.2.1, h.2.2.2.2.1, fun j hj => (World.cell?_setCell_far _ _ _ _ hA).trans (h.2.2.2.2.2 j hj)⟩
theorem row4 {W : World} {N T : Nat} {a b c d : Value} (h : W.heap[N]? = some (.cells #[a, b, c, d] T)) : W.cell? ⟨N, 0, none⟩ = some a ∧ W.cell? ⟨N, 1, none⟩ = some b ∧ W.cell? ⟨N, 2, none⟩ = some c ∧ W.cell? ⟨N, 3, none⟩ = some d := by
  unfold World.cell?
  rw [h]
  exact ⟨rfl, rfl, rfl, rfl⟩
theorem row4f {W : World} {N T : Nat} {a b c d : Value} (h : W.heap[N]? = some (.cells #[a, b, c, d] T)) : W.frozen? ⟨N, 0, none⟩ = false ∧ W.frozen? ⟨N, 1, none⟩ = false ∧ W.frozen? ⟨N, 2, none⟩ = false ∧ W.frozen? ⟨N, 3, none⟩ = false :=
  ⟨frozen_of_row _ _ 0 _ _ h, frozen_of_row _ _ 1 _ _ h, frozen_of_row _ _ 2 _ _ h, frozen_of_row _ _ 3 _ _ h⟩
theorem row4s {W : World} {N T : Nat} {a b c d x y z u : Value} (h : W.heap[N]? = some (.cells #[a, b, c, d] T)) : ((((W.setCell ⟨N, 0, none⟩ x).setCell ⟨N, 1, none⟩ y).setCell ⟨N, 2, none⟩ z).setCell ⟨N, 3, none⟩ u).heap[N]? = some (.cells #[x, y, z, u] T) :=
  heap_setCell_same _ _ 3 _ _ _ (heap_setCell_same _ _ 2 _ _ _ (heap_setCell_same _ _ 1 _ _ _ (heap_setCell_same _ _ 0 _ _ _ h)))
theorem ret_cell {fn : Func} (h : fn.results = #[.cell 2 25, .tmp 3]) (tmps : Array Value) (w : World) (g : Nat) (a b c d : Value) (u : Value) (hp : tmps.getD 2 undef = .pointer (some ⟨g, 0, none⟩)) (hg : w.heap[g]? = some (.cells #[a, b, c, d] 25)) (hu : tmps.getD 3 undef = u) : (results fn tmps).run Try.prog w = .ok (.tuple #[.agg #[a, b, c, d], u]) w := by
  rw [results_cell_tmp h, hp, hu]
  have := run_loadVar_row (P := Try.prog) w g 25 25 #[a, b, c, d] (0, 0) _ hg Try.underlying25 rfl (by kernel_rfl)
  simp [asAddr, Result.andThen, this]
theorem set4o {W : World} {N k : Nat} {x y z u : Value} (h : k ≠ N) : ((((W.setCell ⟨N, 0, none⟩ x).setCell ⟨N, 1, none⟩ y).setCell ⟨N, 2, none⟩ z).setCell ⟨N, 3, none⟩ u).heap[k]? = W.heap[k]? :=
  (Below.heap_setCell _ _ _ _ h).trans ((Below.heap_setCell _ _ _ _ h).trans ((Below.heap_setCell _ _ _ _ h).trans (Below.heap_setCell _ _ _ _ h)))
theorem below4 {w W : World} {B N : Nat} {x y z u : Value} (h : Below B w W) (hN : B ≤ N) : Below B w ((((W.setCell ⟨N, 0, none⟩ x).setCell ⟨N, 1, none⟩ y).setCell ⟨N, 2, none⟩ z).setCell ⟨N, 3, none⟩ u) :=
  (((h.setCell (by exact hN) _).setCell (by exact hN) _).setCell (by exact hN) _).setCell (by exact hN) _
theorem bytes_move {W W' : World} {a : Option Addr} {n k A : Nat} {l : List Nat} (h : BytesAt W (.slice a n k) l) (hA : ∀ b, a = some b → b.block = A) (he : W'.heap[A]? = W.heap[A]?) : BytesAt W' (.slice a n k) l := by
  refine ⟨h.1, h.2.imp_right ?_⟩
  rintro ⟨b, off, c, h1, h2⟩
  refine ⟨b, off, c, h1, fun j hj => ?_⟩
  cases h1
  obtain rfl : b = A := hA _ rfl
  rw [← h2 j hj]
  unfold World.cell?
  rw [he]
def OfPost (l : List Nat) (w : World) (e : Ending) (w' : World) : Prop := (∃ v1 v2, e = .returned (.tuple #[.agg #[v1, v2, .int .u64 (if okI l then iA l else 0 : Nat), .int .u64 (if okI l then iB l else 0 : Nat)], .int .i64 (if okI l then 0 else 13)]) ∧ BytesAt w' v1 (if okI l then iK l else []) ∧ BytesAt w' v2 (if okI l then iV l else [])) ∧ Below w.heap.size w w'
theorem OfPost.no {l : List Nat} {w w' : World} (h : okI l = false) (hb : Below w.heap.size w w') : OfPost l w (.returned (.tuple #[.agg #[.slice none 0 0, .slice none 0 0, .int .u64 0, .int .u64 0], .int .i64 13])) w' := by
  unfold OfPost
  rw [h]
  exact ⟨⟨_, _, rfl, ⟨fun x hx => (by simp at hx), .inl ⟨rfl, rfl⟩⟩, ⟨fun x hx => (by simp at hx), .inl ⟨rfl, rfl⟩⟩⟩, hb⟩
theorem OfPost.yes {l : List Nat} {w w' : World} {v1 v2 : Value} (h : okI l = true) (h1 : BytesAt w' v1 (iK l)) (h2 : BytesAt w' v2 (iV l)) (hb : Below w.heap.size w w') : OfPost l w (.returned (.tuple #[.agg #[v1, v2, .int .u64 (iA l : Nat), .int .u64 (iB l : Nat)], .int .i64 0])) w' := by
  unfold OfPost
  rw [h]
  exact ⟨⟨_, _, rfl, h1, h2⟩, hb⟩
set_option maxRecDepth 100000 in
theorem of_any (l : List Nat) (A0 : Option Addr) (n c0 : Nat) (w : World) (h : BytesAt w (.slice A0 n c0) l) (hl : l.length < 140737488355327) : Calls Try.prog 8 #[.slice A0 n c0] w fun e w' => OfPost l w e w' := by
  have hl2 : l.length < 4611686018427387904 := by omega
  have H := Lib.hid h
  clear h
  go_enter Try.func8, Try.ntmps8
  go_wp2_with (first
    | (go_at_call 18; refine (read_any l _ _ _ _ (H.out.below ((Below.refl _ w).alloc (Nat.le_refl _) _)) hl).mono ?_; rintro e w1 ⟨R, A, c, rfl, hR, hA, hA2, hr1, hb1⟩; have hR' : w.heap.size + 1 ≤ R := (by simpa using hR); have hA' : w.heap.size + 1 ≤ A := (by simpa using hA); have Hr1 := Lib.hid hr1; have Hb1 := Lib.hid hb1; clear hr1 hb1)
    | (go_at_call 19; first | (refine (number_any _ Hr2.out hl2).mono ?_; rintro e w3 ⟨rfl, hr3, hg3⟩; have Hr3 := Lib.hid hr3; have Hg3 := Lib.hid hg3; clear hr3 hg3) | (refine (number_any _ Hr1.out hl2).mono ?_; rintro e w2 ⟨rfl, hr2, hg2⟩; have Hr2 := Lib.hid hr2; have Hg2 := Lib.hid hg2; clear hr2 hg2)))
  have hRlt := (Array.getElem?_eq_some_iff.1 Hr3.out.1).1
  have hz1 := Hg2.out.size
  have hz2 := Hg3.out.size
  have hT3 : w3.heap[w.heap.size]? = some (.cells #[.slice none 0 0, .slice none 0 0, .int .u64 0, .int .u64 0] 25) :=
    (Hg3.out.block _ (by omega) (by simp; omega)).trans ((Hg2.out.block _ (by omega) (by simp; omega)).trans ((Hb1.out.block _ (by simp)).trans (heap_alloc_new _ _)))
  have hB3 : Below w.heap.size w w3 := ((((Below.refl _ w).alloc (Nat.le_refl _) _).trans (Hb1.out.mono (by simp))).grown Hg2.out (by omega) (fun k hk => by cases hk; omega)).grown Hg3.out (by omega) (fun k hk => by cases hk; omega)
  have HT := Lib.hid ((heap_alloc_old w3 (.cells #[.slice none 0 0, .slice none 0 0, .int .u64 (vl (got l (some 0) 8) : Nat), .int .u64 (vl (got l (adv l (some 0) 8) 8) : Nat)] 25) (h := by omega)).trans hT3)
  have HF := Lib.hid (show (w3.alloc (.cells #[.slice none 0 0, .slice none 0 0, .int .u64 (vl (got l (some 0) 8) : Nat), .int .u64 (vl (got l (adv l (some 0) 8) 8) : Nat)] 25)).heap[w3.heap.size]? = some (.cells #[.slice none 0 0, .slice none 0 0, .int .u64 (iA l : Nat), .int .u64 (iB l : Nat)] 25) from heap_alloc_new w3 _)
  have HR := Lib.hid (show Rd (w3.alloc (.cells #[.slice none 0 0, .slice none 0 0, .int .u64 (vl (got l (some 0) 8) : Nat), .int .u64 (vl (got l (adv l (some 0) 8) 8) : Nat)] 25)) R A l c (s2 l) from Hr3.out.alloc _)
  have HB := Lib.hid (hB3.alloc hB3.size (.cells #[.slice none 0 0, .slice none 0 0, .int .u64 (vl (got l (some 0) 8) : Nat), .int .u64 (vl (got l (adv l (some 0) 8) 8) : Nat)] 25))
  have hZ : w3.heap.size < (w3.alloc (.cells #[.slice none 0 0, .slice none 0 0, .int .u64 (vl (got l (some 0) 8) : Nat), .int .u64 (vl (got l (adv l (some 0) 8) 8) : Nat)] 25)).heap.size := by simp
  have hTF : w.heap.size ≠ w3.heap.size := by omega
  have hRF : w3.heap.size ≠ R := by omega
  have hAF : w3.heap.size ≠ A := by omega
  have hTR : w.heap.size ≠ R := by omega
  have hTA : w.heap.size ≠ A := by omega
  have hFge : w.heap.size ≤ w3.heap.size := by omega
  have hA3 : A < w3.heap.size := by omega
  generalize w3.alloc (.cells #[.slice none 0 0, .slice none 0 0, .int .u64 (vl (got l (some 0) 8) : Nat), .int .u64 (vl (got l (adv l (some 0) 8) 8) : Nat)] 25) = W3 at HT HF HR HB hZ ⊢
  generalize w3.heap.size = F at HF hZ hTF hRF hAF hFge hA3 ⊢
  clear Hr3 Hg3 Hr2 Hg2 Hr1 Hb1 hT3 hB3 hz1 hz2 hRlt
  have hAlt := (show A < W3.heap.size by omega)
  go_wp2_with (go_at_call 20; refine (blob_any W3 HR.out hl2).mono ?_; rintro e w4 ⟨⟨a, k, rfl, g1, g2⟩, hr4, hg4⟩; have HF4 := Lib.hid ((hg4.block F hZ (by simpa using hRF)).trans HF.out); have HR4 := Lib.hid hr4; have HG4 := Lib.hid hg4; have HK4 := Lib.hid (And.intro g1 g2); obtain ⟨q0, q1, q2, q3⟩ := row4 HF4.out; obtain ⟨f0, f1, f2, f3⟩ := row4f HF4.out; clear g1 g2 hr4 hg4)
  clear q0 q1 q2 q3 f0 f1 f2 f3
  have hz4 := HG4.out.size
  have HT5 := Lib.hid ((Below.heap_setCell w4 ⟨F, 0, none⟩ (.slice a k k) _ hTF).trans ((HG4.out.block _ (by omega) (by simpa using hTR)).trans HT.out))
  have HF5 := Lib.hid (show (w4.setCell ⟨F, 0, none⟩ (.slice a k k)).heap[F]? = some (.cells #[.slice a k k, .slice none 0 0, .int .u64 (iA l : Nat), .int .u64 (iB l : Nat)] 25) from heap_setCell_same _ _ 0 _ _ _ HF4.out)
  have HR5 := Lib.hid (HR4.out.far (a := ⟨F, 0, none⟩) hRF hAF (.slice a k k))
  have HB5 := Lib.hid ((HB.out.grown HG4.out HB.out.size (fun j hj => by cases hj; omega)).setCell (p := ⟨F, 0, none⟩) hFge (.slice a k k))
  have HK5 := Lib.hid (And.intro (bytes_move HK4.out.1 HK4.out.2 (Below.heap_setCell w4 ⟨F, 0, none⟩ (.slice a k k) A (fun e => hAF e.symm))) HK4.out.2)
  have hz5 : W3.heap.size ≤ (w4.setCell ⟨F, 0, none⟩ (.slice a k k)).heap.size := by simpa [World.setCell] using hz4
  generalize w4.setCell ⟨F, 0, none⟩ (.slice a k k) = W5 at HT5 HF5 HR5 HB5 HK5 hz5 ⊢
  clear HF4 HR4 HG4 HK4 HT HF HR HB hz4
  have hAlt5 : A < W5.heap.size := by omega
  go_wp2_with (go_at_call 20; refine (blob_any W5 HR5.out hl2).mono ?_; rintro e w6 ⟨⟨a2, k2, rfl, g1, g2⟩, hr4, hg4⟩; have HF4 := Lib.hid ((hg4.block F (by omega) (by simpa using hRF)).trans HF5.out); have HR4 := Lib.hid hr4; have HG4 := Lib.hid hg4; have HK4 := Lib.hid (And.intro g1 g2); obtain ⟨q0, q1, q2, q3⟩ := row4 HF4.out; obtain ⟨f0, f1, f2, f3⟩ := row4f HF4.out; clear g1 g2 hr4 hg4)
  clear q0 q1 q2 q3 f0 f1 f2 f3
  have hz6 := HG4.out.size
  have hAn : (⟨F, 1, none⟩ : Addr).block ≠ A := hAF
  have HT7 := Lib.hid ((Below.heap_setCell w6 ⟨F, 1, none⟩ (.slice a2 k2 k2) _ hTF).trans ((HG4.out.block _ (by omega) (by simpa using hTR)).trans HT5.out))
  have HF7 := Lib.hid (show (w6.setCell ⟨F, 1, none⟩ (.slice a2 k2 k2)).heap[F]? = some (.cells #[.slice a k k, .slice a2 k2 k2, .int .u64 (iA l : Nat), .int .u64 (iB l : Nat)] 25) from heap_setCell_same _ _ 1 _ _ _ HF4.out)
  have HR7 := Lib.hid (show Rd _ R A l c (s4 l) from HR4.out.far (a := ⟨F, 1, none⟩) hRF hAF (.slice a2 k2 k2))
  have HB7 := Lib.hid ((HB5.out.grown HG4.out HB5.out.size (fun j hj => by cases hj; omega)).setCell (p := ⟨F, 1, none⟩) hFge (.slice a2 k2 k2))
  have HV7 := Lib.hid (And.intro (show BytesAt _ _ (iV l) from bytes_move HK4.out.1 HK4.out.2 (Below.heap_setCell w6 ⟨F, 1, none⟩ (.slice a2 k2 k2) A (fun e => hAF e.symm))) HK4.out.2)
  have HK7 := Lib.hid (And.intro (show BytesAt _ _ (iK l) from bytes_move HK5.out.1 HK5.out.2 ((Below.heap_setCell w6 ⟨F, 1, none⟩ (.slice a2 k2 k2) A (fun e => hAF e.symm)).trans (HG4.out.block A hAlt5 (by simpa using (fun e => HR5.out.2.1 e))))) HK5.out.2)
  have hz7 : W5.heap.size ≤ (w6.setCell ⟨F, 1, none⟩ (.slice a2 k2 k2)).heap.size := by simpa [World.setCell] using hz6
  generalize w6.setCell ⟨F, 1, none⟩ (.slice a2 k2 k2) = W7 at HT7 HF7 HR7 HB7 HV7 HK7 hz7 ⊢
  have hAlt7 : A < W7.heap.size := by omega
  clear HF4 HR4 HG4 HK4 HT5 HF5 HR5 HB5 HK5 hz6
  have hTlt : w.heap.size < W7.heap.size := (Array.getElem?_eq_some_iff.1 HT7.out).1
  have hFlt : F < W7.heap.size := (Array.getElem?_eq_some_iff.1 HF7.out).1
  obtain rfl := bytes_len HK7.out.1
  obtain rfl := bytes_len HV7.out.1
  clear hz5 hz7 hAlt hAlt5 hA3
  by_cases he : s4 l = some l.length
  · cases hm : may (iK l).length (iV l).length (iA l) (iB l)
    · have hok : okI l = false := by unfold okI; rw [hm, Bool.and_false]
      have HO := Lib.hid hok
      have HM := Lib.hid hm
      have HE := Lib.hid he
      clear hok hm he
      go_wp2_with (first
        | (go_at_call 21; refine (end_any W7 HR7.out hl2).mono ?_; rw [if_pos HE.out]; rintro e w8 ⟨rfl, hb8⟩; have HB8 := Lib.hid hb8; obtain ⟨p0, p1, p2, p3⟩ := row4 ((hb8.block F hFlt).trans HF7.out); clear hb8)
        | (go_at_call 6; refine (may_any _ _ _ _ _ _ _ _ _).mono ?_; rw [HM.out]; rintro e w9 ⟨rfl, hb9⟩; have HB9 := Lib.hid (HB8.out.trans (hb9.mono HB8.out.size)); have eT := (HB9.out.block w.heap.size hTlt).trans HT7.out; obtain ⟨t0, t1, t2, t3⟩ := row4 eT; obtain ⟨u0, u1, u2, u3⟩ := row4f eT; clear hb9))
      exact bodyPost_ret (ret_cell rfl _ _ _ _ _ _ _ _ rfl (row4s eT) rfl) rfl (OfPost.no HO.out (below4 (HB7.out.trans (HB9.out.mono HB7.out.size)) (Nat.le_refl _)))
    · have hok : okI l = true := by unfold okI; rw [hm, he]; simp
      have HO := Lib.hid hok
      have HM := Lib.hid hm
      have HE := Lib.hid he
      clear hok hm he
      go_wp2_with (first
        | (go_at_call 21; refine (end_any W7 HR7.out hl2).mono ?_; rw [if_pos HE.out]; rintro e w8 ⟨rfl, hb8⟩; have HB8 := Lib.hid hb8; obtain ⟨p0, p1, p2, p3⟩ := row4 ((hb8.block F hFlt).trans HF7.out); clear hb8)
        | (go_at_call 6; refine (may_any _ _ _ _ _ _ _ _ _).mono ?_; rw [HM.out]; rintro e w9 ⟨rfl, hb9⟩; have HB9 := Lib.hid (HB8.out.trans (hb9.mono HB8.out.size)); have eT := (HB9.out.block w.heap.size hTlt).trans HT7.out; obtain ⟨t0, t1, t2, t3⟩ := row4 eT; obtain ⟨u0, u1, u2, u3⟩ := row4f eT; obtain ⟨p0, p1, p2, p3⟩ := row4 ((HB9.out.block F hFlt).trans HF7.out); clear hb9))
      have hA9 := HB9.out.block A hAlt7
      exact bodyPost_ret (ret_cell rfl _ _ _ _ _ _ _ _ rfl (row4s eT) rfl) rfl (OfPost.yes HO.out (bytes_move HK7.out.1 HK7.out.2 ((set4o (fun e => hTA e.symm)).trans hA9)) (bytes_move HV7.out.1 HV7.out.2 ((set4o (fun e => hTA e.symm)).trans hA9)) (below4 (HB7.out.trans (HB9.out.mono HB7.out.size)) (Nat.le_refl _)))
  · have hok : okI l = false := by unfold okI; rw [decide_eq_false he, Bool.false_and]
    have HO := Lib.hid hok
    have HE := Lib.hid he
    clear hok he
    go_wp2_with (go_at_call 21; refine (end_any W7 HR7.out hl2).mono ?_; rw [if_neg HE.out]; rintro e w8 ⟨rfl, hb8⟩; have HB8 := Lib.hid hb8; have eT := (hb8.block w.heap.size hTlt).trans HT7.out; obtain ⟨t0, t1, t2, t3⟩ := row4 eT; obtain ⟨u0, u1, u2, u3⟩ := row4f eT; clear hb8)
    exact bodyPost_ret (ret_cell rfl _ _ _ _ _ _ _ _ rfl (row4s eT) rfl) rfl (OfPost.no HO.out (below4 (HB7.out.trans (HB8.out.mono HB7.out.size)) (Nat.le_refl _)))
end Go.Proofs.Hb
