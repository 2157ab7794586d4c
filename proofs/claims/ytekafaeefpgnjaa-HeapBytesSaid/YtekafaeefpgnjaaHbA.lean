/- The reader's walks, over the seat's own translation. The reader's numbers and blobs. The reader's making; May; a version out of bytes. -/
import Derived.Test.YtekafaeefpgnjaaCrcP
import Derived.Test.YtekafaeefpgnjaaHbP
import Derived.Test.YtekafaeefpgnjaaEvJ
import Derived.Test.YtekafaeefpgnjaaProg
import Derived.WalkKit
import Derived.ProofKit
import Derived.KernelRfl
import Derived.IntWalk
import Derived.Lib.Hide
import Derived.BigRegion
import Derived.Deep.RegionHeld3
import Derived.Laws.ResultCell
import Derived.Laws.ShiftsVarLaws
import Derived.OwnWalk
namespace Go.Proofs.Hb
open Go Go.RowKit Go.Hb Go.Crc
theorem ret_bool {a b : Bool} (h : a = b) : Ending.returned (.bool a) = .returned (.bool b) := by rw [h]
/-- The reader's place as a number: behind so many, or broken. -/
def atI : Option Nat → Int
  | none => -1
  | some p => p
/-- A reader: block R, its bytes in block A. -/
def Rd (W : World) (R A : Nat) (l : List Nat) (c : Nat) (st : Option Nat) : Prop :=
  W.heap[R]? = some (.cells #[.slice (some ⟨A, 0, none⟩) l.length c, .int .i64 (atI st)] 75) ∧ A ≠ R ∧ l.length ≤ c ∧ (∀ p, st = some p → p ≤ l.length) ∧ (∀ x ∈ l, x < 256) ∧ ∀ j, (h : j < l.length) → W.cell? ⟨A, j, none⟩ = some (.int .u8 (l[j] : Nat))
theorem Rd.c0 {W : World} {R A : Nat} {l : List Nat} {c : Nat} {st : Option Nat} (h : Rd W R A l c st) : W.cell? ⟨R, 0, none⟩ = some (.slice (some ⟨A, 0, none⟩) l.length c) := by
  unfold World.cell?; rw [h.1]; rfl
theorem Rd.c1 {W : World} {R A : Nat} {l : List Nat} {c : Nat} {st : Option Nat} (h : Rd W R A l c st) : W.cell? ⟨R, 1, none⟩ = some (.int .i64 (atI st)) := by
  unfold World.cell?; rw [h.1]; rfl
theorem Rd.f1 {W : World} {R A : Nat} {l : List Nat} {c : Nat} {st : Option Nat} (h : Rd W R A l c st) : W.frozen? ⟨R, 1, none⟩ = false := frozen_of_row _ _ 1 _ _ h.1
def adv (l : List Nat) (st : Option Nat) (n : Nat) : Option Nat := match st with
  | some p => if p + n ≤ l.length then some (p + n) else none
  | none => none
def got (l : List Nat) (st : Option Nat) (n : Nat) : List Nat := match st with
  | some p => if p + n ≤ l.length then (l.drop p).take n else []
  | none => []
theorem adv_t {l : List Nat} {p n : Nat} (h : p + n ≤ l.length) : adv l (some p) n = some (p + n) := if_pos h
theorem adv_f {l : List Nat} {p n : Nat} (h : ¬ p + n ≤ l.length) : adv l (some p) n = none := if_neg h
theorem got_t {l : List Nat} {p n : Nat} (h : p + n ≤ l.length) : got l (some p) n = (l.drop p).take n := if_pos h
theorem got_f {l : List Nat} {p n : Nat} (h : ¬ p + n ≤ l.length) : got l (some p) n = [] := if_neg h
theorem fits_any (n : Int) (w : World) : Calls Try.prog 29 #[.int .i64 n] w fun e w' => e = .returned (.bool (decide (0 < n) && decide (n ≤ 8))) ∧ w = w' := by
  go_enter Try.func29, Try.ntmps29
  go_wp2
  all_goals
    go_ret
    exact ⟨ret_bool (by rw [Bool.eq_iff_iff]; simp; omega), rfl⟩
theorem nil_ne (b : Addr) (n c : Nat) (w : World) : Sem.run Try.prog (binOp BinOp.eql 22 (.slice (some b) n c) (.slice none 0 0)) w = .ok (.bool false) w := by
  rw [Go.Ev.binOp_eql _ rfl]
  have h := Go.Ev.eqn_sl_r (P := Try.prog) w 9999 Try.underlying22 b n c 0 0
  simp [Op.equal, Op.maxDepth, h]
set_option maxRecDepth 100000 in
theorem failed_any {R A : Nat} {l : List Nat} {c : Nat} {st : Option Nat} (w : World) (h : Rd w R A l c st) : Calls Try.prog 33 #[.pointer (some ⟨R, 0, none⟩)] w fun e w' => e = .returned (.bool st.isNone) ∧ w = w' := by
  have c0 := h.c0
  have c1 := h.c1
  have hs := nil_ne ⟨A, 0, none⟩ l.length c w
  cases st with
  | none =>
    have c1 : w.cell? ⟨R, 1, none⟩ = some (.int .i64 (-1)) := c1
    clear h
    go_enter Try.func33, Try.ntmps33
    go_wp2
    go_ret
    exact ⟨rfl, rfl⟩
  | some p =>
    have c1 : w.cell? ⟨R, 1, none⟩ = some (.int .i64 p) := c1
    have hp : ¬ ((p : Int) < 0) := by omega
    clear h
    go_enter Try.func33, Try.ntmps33
    go_wp2
    go_ret
    exact ⟨ret_bool (by show decide ((p : Int) < 0) = false; exact decide_eq_false (by omega)), rfl⟩
theorem left_some {R A : Nat} {l : List Nat} {c : Nat} {p : Nat} (w : World) (h : Rd w R A l c (some p)) (hl : l.length < 4611686018427387904) : Calls Try.prog 34 #[.pointer (some ⟨R, 0, none⟩)] w fun e w' => e = .returned (.int .i64 ((l.length : Int) - p)) ∧ Below w.heap.size w w' := by
  have H := Lib.hid h
  have c0 : w.drew.cell? ⟨R, 0, none⟩ = some (.slice (some ⟨A, 0, none⟩) l.length c) := h.c0
  have c1 : w.drew.cell? ⟨R, 1, none⟩ = some (.int .i64 p) := h.c1
  have hp := h.2.2.2.1 p rfl
  clear h
  go_enter Try.func34, Try.ntmps34
  go_wp2_with (go_at_call 33; refine (failed_any _ H.out).mono ?_; rintro e w' ⟨rfl, rfl⟩)
  go_region
  go_wp2
  go_ret
  exact ⟨rfl, (Below.refl _ _).drew⟩
theorem end_any {R A : Nat} {l : List Nat} {c : Nat} {st : Option Nat} (w : World) (h : Rd w R A l c st) (hl : l.length < 4611686018427387904) : Calls Try.prog 21 #[.pointer (some ⟨R, 0, none⟩)] w fun e w' => e = .returned (.int .i64 (if st = some l.length then 0 else 4)) ∧ Below w.heap.size w w' := by
  cases st with
  | none =>
    go_enter Try.func21, Try.ntmps21
    go_wp2_with (go_at_call 33; refine (failed_any _ h).mono ?_; rintro e w' ⟨rfl, rfl⟩)
    go_ret
    exact ⟨rfl, Below.refl _ _⟩
  | some p =>
    have hp := h.2.2.2.1 p rfl
    have H := Lib.hid h
    clear h
    by_cases e : p = l.length
    · rw [if_pos (by rw [e])]
      go_enter Try.func21, Try.ntmps21
      go_wp2_with (first | (go_at_call 33; refine (failed_any _ H.out).mono ?_; rintro e w' ⟨rfl, rfl⟩) | (go_at_call 34; refine (left_some _ H.out hl).mono ?_; rintro e w' ⟨rfl, hb⟩))
      go_ret
      exact ⟨rfl, hb⟩
    · rw [if_neg (by simpa using e)]
      go_enter Try.func21, Try.ntmps21
      go_wp2_with (first | (go_at_call 33; refine (failed_any _ H.out).mono ?_; rintro e w' ⟨rfl, rfl⟩) | (go_at_call 34; refine (left_some _ H.out hl).mono ?_; rintro e w' ⟨rfl, hb⟩))
      go_ret
      exact ⟨rfl, hb⟩
theorem gb_refl (w : World) (r : Option Nat) : w.grownBy w r := ⟨rfl, rfl, rfl, Nat.le_refl _, fun _ _ _ => rfl⟩
theorem gb_trans {w a b : World} {r : Option Nat} (h : w.grownBy a r) (k : a.grownBy b r) : w.grownBy b r :=
  ⟨k.os.trans h.os, k.tape.trans h.tape, k.output.trans h.output, Nat.le_trans h.size k.size, fun i hi hr => (k.block i (Nat.lt_of_lt_of_le hi h.size) hr).trans (h.block i hi hr)⟩
theorem gb_set (w : World) (R off : Nat) (v : Value) : w.grownBy (w.setCell ⟨R, off, none⟩ v) (some R) :=
  ⟨rfl, rfl, rfl, by simp [World.setCell], fun k _ hk => Below.heap_setCell _ _ _ _ (fun e => hk (by rw [e]))⟩
theorem gb_drew {w a : World} {r : Option Nat} (h : w.grownBy a r) : w.grownBy a.drew r := ⟨h.os, h.tape, h.output, h.size, h.block⟩
theorem gb_below {w a : World} {r : Option Nat} (h : Below w.heap.size w a) : w.grownBy a r := ⟨h.os, h.tape, h.output, h.size, fun k hk _ => h.block k hk⟩
theorem rd_set {W : World} {R A : Nat} {l : List Nat} {c : Nat} {st : Option Nat} (h : Rd W R A l c st) (st' : Option Nat) (hs : ∀ p, st' = some p → p ≤ l.length) {v : Value} (hv : v = .int .i64 (atI st')) : Rd (W.setCell ⟨R, 1, none⟩ v) R A l c st' := by
  subst hv
  refine ⟨heap_setCell_same _ _ 1 _ _ _ h.1, h.2.1, h.2.2.1, hs, h.2.2.2.2.1, fun j hj => ?_⟩
  rw [World.cell?_setCell_far _ _ _ _ (by exact fun e => h.2.1 e.symm)]
  exact h.2.2.2.2.2 j hj
theorem rd_grown {W W' : World} {R A : Nat} {l : List Nat} {c : Nat} {st : Option Nat} (h : Rd W R A l c st) (hA : A < W.heap.size) (hg : Below W.heap.size W W') : Rd W' R A l c st := by
  have hR : R < W.heap.size := (Array.getElem?_eq_some_iff.1 h.1).1
  exact ⟨(hg.block R hR).trans h.1, h.2.1, h.2.2.1, h.2.2.2.1, h.2.2.2.2.1, fun j hj => (hg.cell hA).trans (h.2.2.2.2.2 j hj)⟩
theorem rd_bytes {W : World} {R A : Nat} {l : List Nat} {c : Nat} {st : Option Nat} (h : Rd W R A l c st) {p n : Nat} (hn : p + n ≤ l.length) (k : Nat) : BytesAt W (.slice (some ⟨A, p, none⟩) n k) ((l.drop p).take n) := by
  refine ⟨fun x hx => h.2.2.2.2.1 x (List.mem_of_mem_drop (List.mem_of_mem_take hx)), .inr ⟨A, p, k, ?_, fun j hj => ?_⟩⟩
  · rw [List.length_take, List.length_drop, Nat.min_eq_left (by omega)]
  · rw [List.length_take, List.length_drop] at hj
    rw [h.2.2.2.2.2 (p + j) (by omega), List.getElem_take, List.getElem_drop]
theorem rd_bytes0 (W : World) (A : Nat) (l : List Nat) (k : Nat) : BytesAt W (.slice (some ⟨A, 0, none⟩) 0 k) (l.take 0) :=
  ⟨fun x hx => by simp at hx, .inr ⟨A, 0, k, by simp, fun j hj => by simp at hj⟩⟩
set_option maxRecDepth 100000 in
theorem next_ok {R A : Nat} {l : List Nat} {c p n : Nat} (w : World) (h : Rd w R A l c (some p)) (hn : p + n ≤ l.length) (hl : l.length < 4611686018427387904) : Calls Try.prog 32 #[.pointer (some ⟨R, 0, none⟩), .int .i64 n] w fun e w' => (∃ v, e = .returned (.tuple #[v, .bool true]) ∧ BytesAt w' v ((l.drop p).take n) ∧ (∃ a, v = .slice a n n ∧ ∀ b, a = some b → b.block = A)) ∧ Rd w' R A l c (some (p + n)) ∧ w.grownBy w' (some R) := by
  have H := Lib.hid h
  have c0 : w.drew.cell? ⟨R, 0, none⟩ = some (.slice (some ⟨A, 0, none⟩) l.length c) := h.c0
  have c1 : w.drew.cell? ⟨R, 1, none⟩ = some (.int .i64 p) := h.c1
  have f1 : w.drew.frozen? ⟨R, 1, none⟩ = false := h.f1
  have hw : IntKind.i64.wrap ((p : Int) + n) = p + n := IntWalk.i64_in _ (by omega)
  have h2 : (n : Int) ≤ (l.length : Int) - p := by omega
  have hc := h.2.2.1
  have h3 : (p : Int) + n ≤ c := by omega
  have h4 : (0 : Int) ≤ n := by omega
  have b0 := h.c0
  have b1 : w.cell? ⟨R, 1, none⟩ = some (.int .i64 p) := h.c1
  have e0 : (w.setCell ⟨R, 1, none⟩ (.int .i64 (p + n))).drew.drew.cell? ⟨R, 0, none⟩ = some (.slice (some ⟨A, 0, none⟩) l.length c) := by
    show (w.setCell ⟨R, 1, none⟩ (.int .i64 (p + n))).cell? ⟨R, 0, none⟩ = _
    rw [World.cell?_setCell_other _ _ _ _ (by simp)]; exact h.c0
  have e1 : (w.setCell ⟨R, 1, none⟩ (.int .i64 (p + n))).drew.drew.cell? ⟨R, 1, none⟩ = some (.int .i64 (p + n)) :=
    (rd_set h (some (p + n)) (fun q hq => by cases hq; omega) (by simp [atI])).c1
  clear h
  go_enter Try.func32, Try.ntmps32
  go_wp2_with (go_at_call 33; refine (failed_any _ H.out).mono ?_; rintro e w' ⟨rfl, rfl⟩)
  go_region
  go_wp2
  go_region
  go_wp2
  · have hn0 : n = 0 := by omega
    subst hn0
    have hr := rd_set H.out (some (p + 0)) (fun q hq => by cases hq; omega) (v := .int .i64 (p + ((0 : Nat) : Int))) (by simp [atI])
    go_ret2
    exact ⟨⟨_, rfl, rd_bytes0 _ _ _ _, ⟨_, rfl, fun b hb => by cases hb; rfl⟩⟩, hr, gb_drew (gb_drew (gb_set _ _ _ _))⟩
  · have hr := rd_set H.out (some (p + n)) (fun q hq => by cases hq; omega) (v := .int .i64 (p + n)) (by simp [atI])
    go_ret2
    exact ⟨⟨_, rfl, rd_bytes hr hn _, ⟨_, rfl, fun b hb => by cases hb; rfl⟩⟩, hr, gb_drew (gb_drew (gb_set _ _ _ _))⟩
set_option maxRecDepth 100000 in
theorem next_no {R A : Nat} {l : List Nat} {c n : Nat} {st : Option Nat} (w : World) (h : Rd w R A l c st) (hn : adv l st n = none) (hl : l.length < 4611686018427387904) : Calls Try.prog 32 #[.pointer (some ⟨R, 0, none⟩), .int .i64 n] w fun e w' => e = .returned (.tuple #[.slice none 0 0, .bool false]) ∧ Rd w' R A l c none ∧ w.grownBy w' (some R) := by
  have H := Lib.hid h
  cases st with
  | none =>
    clear h hn
    go_enter Try.func32, Try.ntmps32
    go_wp2_with (go_at_call 33; refine (failed_any _ H.out).mono ?_; rintro e w' ⟨rfl, rfl⟩)
    go_ret2
    exact ⟨rfl, H.out, gb_refl _ _⟩
  | some p =>
    have hp := h.2.2.2.1 p rfl
    have hn' : l.length < p + n := by
      by_cases e : p + n ≤ l.length
      · rw [adv_t e] at hn; cases hn
      · omega
    have b0 := h.c0
    have b1 : w.cell? ⟨R, 1, none⟩ = some (.int .i64 p) := h.c1
    have c0 : w.drew.cell? ⟨R, 0, none⟩ = some (.slice (some ⟨A, 0, none⟩) l.length c) := h.c0
    have c1 : w.drew.cell? ⟨R, 1, none⟩ = some (.int .i64 p) := h.c1
    have f1 : w.drew.frozen? ⟨R, 1, none⟩ = false := h.f1
    have h2 : ¬ ((n : Int) ≤ (l.length : Int) - p) := by omega
    have hr := rd_set h none (fun q hq => by cases hq) (v := .int .i64 (-1)) rfl
    have HR := Lib.hid hr
    clear h hn hn' hr
    go_enter Try.func32, Try.ntmps32
    go_wp2_with (go_at_call 33; refine (failed_any _ H.out).mono ?_; rintro e w' ⟨rfl, rfl⟩)
    go_region
    go_wp2
    go_ret2
    exact ⟨rfl, HR.out, gb_drew (gb_set _ _ _ _)⟩
/-- The next n bytes, whatever the reader's state. -/
theorem next_any {R A : Nat} {l : List Nat} {c n : Nat} {st : Option Nat} (w : World) (h : Rd w R A l c st) (hl : l.length < 4611686018427387904) : Calls Try.prog 32 #[.pointer (some ⟨R, 0, none⟩), .int .i64 n] w fun e w' => (∃ a k, e = .returned (.tuple #[.slice a k k, .bool (adv l st n).isSome]) ∧ BytesAt w' (.slice a k k) (got l st n) ∧ ∀ b, a = some b → b.block = A) ∧ Rd w' R A l c (adv l st n) ∧ w.grownBy w' (some R) := by
  have bad : adv l st n = none → got l st n = [] → Calls Try.prog 32 #[.pointer (some ⟨R, 0, none⟩), .int .i64 n] w fun e w' => (∃ a k, e = .returned (.tuple #[.slice a k k, .bool (adv l st n).isSome]) ∧ BytesAt w' (.slice a k k) (got l st n) ∧ ∀ b, a = some b → b.block = A) ∧ Rd w' R A l c (adv l st n) ∧ w.grownBy w' (some R) := by
    intro ha hg
    rw [ha, hg]
    refine (next_no w h ha hl).mono ?_
    rintro e w' ⟨rfl, h1, h2⟩
    exact ⟨⟨none, 0, rfl, ⟨fun x hx => by simp at hx, .inl ⟨rfl, rfl⟩⟩, fun b hb => by cases hb⟩, h1, h2⟩
  cases st with
  | none => exact bad rfl rfl
  | some p =>
    by_cases e : p + n ≤ l.length
    · rw [adv_t e, got_t e]
      refine (next_ok w h e hl).mono ?_
      rintro e w' ⟨⟨v, rfl, h1, a, rfl, h4⟩, h2, h3⟩
      exact ⟨⟨a, n, rfl, h1, h4⟩, h2, h3⟩
    · exact bad (adv_f e) (got_f e)
set_option maxRecDepth 100000 in
theorem rbytes_any {R A : Nat} {l : List Nat} {c n : Nat} {st : Option Nat} (w : World) (h : Rd w R A l c st) (hl : l.length < 4611686018427387904) : Calls Try.prog 31 #[.pointer (some ⟨R, 0, none⟩), .int .i64 n] w fun e w' => (∃ a k, e = .returned (.slice a k k) ∧ BytesAt w' (.slice a k k) (got l st n) ∧ ∀ b, a = some b → b.block = A) ∧ Rd w' R A l c (adv l st n) ∧ w.grownBy w' (some R) := by
  have H := Lib.hid h
  clear h
  go_enter Try.func31, Try.ntmps31
  go_wp2_with (go_at_call 32; refine (next_any _ H.out hl).mono ?_; rintro e w' ⟨⟨a, k, rfl, h1, h4⟩, h2, h3⟩)
  go_ret
  exact ⟨⟨a, k, rfl, h1, h4⟩, h2, h3⟩
end Go.Proofs.Hb
namespace Go.Proofs.Hb
open Go Go.RowKit Go.Hb Go.Crc
def lenV : Value → Nat
  | .slice _ n _ => n
  | _ => 0
theorem vl_cons (x : Nat) (r : List Nat) : vl (x :: r) = x * 256 ^ r.length + vl r := by
  suffices h : ∀ (r : List Nat) (a : Nat), r.foldl (fun r b => r * 256 + b) a = a * 256 ^ r.length + vl r by
    have := h r (0 * 256 + x)
    simpa [vl] using this
  intro r
  induction r with
  | nil => intro a; simp [vl]
  | cons y r ih =>
    intro a
    have h1 := ih (a * 256 + y)
    have h2 := ih (0 * 256 + y)
    show r.foldl _ (a * 256 + y) = _
    have h3 : vl (y :: r) = r.foldl (fun r b => r * 256 + b) (0 * 256 + y) := rfl
    rw [h1, h3, h2, List.length_cons, Nat.pow_succ]
    rw [Nat.add_mul, Nat.zero_mul, Nat.zero_add, Nat.mul_comm (256 ^ r.length) 256, ← Nat.mul_assoc, Nat.add_assoc]
/-- One more byte ahead: no wrap. -/
theorem vl_step {l : List Nat} {k : Nat} (hk : k < l.length) : vl (l.drop k) = l[k] * 256 ^ (l.length - (k + 1)) + vl (l.drop (k + 1)) := by
  rw [List.drop_eq_getElem_cons hk, vl_cons, List.length_drop]
theorem pow8 (e : Nat) : (2 : Int) ^ (8 * e) = ((256 ^ e : Nat) : Int) := by
  rw [show (256 : Nat) = 2 ^ 8 from rfl, ← Nat.pow_mul]
  simp
theorem get_step {l : List Nat} {m : Nat} (hl : l.length ≤ 8) (hb : ∀ x ∈ l, x < 256) (hm : m < l.length) :
    IntKind.u64.wrap ((vl (l.drop (m + 1)) : Nat) + IntKind.u64.wrap (IntKind.u64.wrap (l[m] : Nat) * 2 ^ (8 * (l.length - (m + 1))))) = (vl (l.drop m) : Nat) := by
  have hx := hb _ (List.getElem_mem hm)
  have h1 := vl_step hm
  have h2 := vl_lt (l.drop m) (fun x hx => hb x (List.mem_of_mem_drop hx))
  rw [List.length_drop] at h2
  have h3 : 256 ^ (l.length - m) ≤ 256 ^ 8 := Nat.pow_le_pow_right (by decide) (by omega)
  have h4 : (256 : Nat) ^ 8 = 18446744073709551616 := by decide
  rw [h4] at h3
  rw [pow8, IntWalk.u64_in (l[m] : Nat) (by omega)]
  have h5 : ((l[m] : Nat) : Int) * ((256 ^ (l.length - (m + 1)) : Nat) : Int) = ((l[m] * 256 ^ (l.length - (m + 1)) : Nat) : Int) := by rw [Int.natCast_mul]
  rw [h5]
  generalize l[m] * 256 ^ (l.length - (m + 1)) = q at h1 ⊢
  rw [IntWalk.u64_in (q : Nat) (by omega), IntWalk.u64_in _ (by omega), h1]
  omega
set_option maxRecDepth 100000 in
theorem get_any (l : List Nat) (A : Option Addr) (k : Nat) (w : World) (h : BytesAt w (.slice A k k) l) (hl : l.length ≤ 8) : Calls Try.prog 30 #[.slice A k k] w fun e w' => (∃ n, e = .returned (.tuple #[.int .u64 (vl l : Nat), n])) ∧ w = w' := by
  obtain ⟨hb, ⟨h0, rfl⟩ | ⟨b, off, c, h0, hc⟩⟩ := h
  · cases h0
    go_enter Try.func30, Try.ntmps30
    go_wp2_with (go_at_call 29; refine (fits_any _ _).mono ?_; rintro e w' ⟨rfl, rfl⟩)
    go_ret2
    exact ⟨⟨_, rfl⟩, rfl⟩
  · cases h0
    have HC := Lib.hid hc
    clear hc
    have HB := Lib.hid hb
    clear hb
    have HL := Lib.hid hl
    go_enter Try.func30, Try.ntmps30
    go_wp2_with (go_at_call 29; refine (fits_any _ _).mono ?_; rintro e w' ⟨rfl, rfl⟩)
    · have hh : (!decide (0 < l.length)) = true ∨ (!decide ((l.length : Int) ≤ 8)) = true := by assumption
      have hz : l = [] := by
        cases l with
        | nil => rfl
        | cons x r =>
          exfalso
          rcases hh with h | h
          · simp at h
          · simp at h hl; omega
      subst hz
      go_ret2
      exact ⟨⟨_, rfl⟩, rfl⟩
    · have hh : (!decide (0 < l.length)) = false ∧ (!decide ((l.length : Int) ≤ 8)) = false := by assumption
      have hpos : 0 < l.length := by simpa using hh.1
      clear hh
      go_loop [0, 2, 4] (fun t0 t2 t4 => ∃ k : Nat, k ≤ l.length ∧ t0 = .slice (some ⟨b, off, none⟩) k l.length ∧ t2 = .int .u64 (vl (l.drop k) : Nat) ∧ t4 = .int .u64 (8 * (l.length - k) : Nat)) (fun t0 _ _ => lenV t0)
      case atStart => exact ⟨l.length, Nat.le_refl _, rfl, by simp [vl], by simp⟩
      case round =>
        obtain ⟨k, hk, rfl, rfl, rfl⟩ := hrel
        by_cases hz : 0 < k
        · obtain ⟨m, rfl⟩ : ∃ m, k = m + 1 := ⟨k - 1, by omega⟩
          have hcell := HC.out m (by omega)
          have hL := HL.out
          go_wp2
          refine ⟨⟨m, by omega, rfl, ?_, ?_⟩, by simp [lenV]⟩
          · rw [get_step HL.out HB.out (by omega)]
          · have : (8 * ((l.length - (m + 1) : Nat) : Int) + 8) = ((8 * (l.length - m) : Nat) : Int) := by omega
            rw [this]
        · have hk0 : k = 0 := by omega
          subst hk0
          go_wp2
          go_ret2
          exact ⟨⟨_, rfl⟩, rfl⟩
theorem got_len {l : List Nat} {st : Option Nat} {n : Nat} : (got l st n).length ≤ n := by
  unfold got
  split
  · split
    · rw [List.length_take]; omega
    · simp
  · simp
theorem got_len_some {l : List Nat} {st : Option Nat} {n q : Nat} (h : adv l st n = some q) : (got l st n).length = n := by
  cases st with
  | none => cases h
  | some p =>
    by_cases e : p + n ≤ l.length
    · rw [got_t e, List.length_take, List.length_drop]; omega
    · rw [adv_f e] at h; cases h
theorem got_lt {l : List Nat} (hl : ∀ x ∈ l, x < 256) {st : Option Nat} {n : Nat} : ∀ x ∈ got l st n, x < 256 := by
  intro x hx
  unfold got at hx
  split at hx
  · split at hx
    · exact hl x (List.mem_of_mem_drop (List.mem_of_mem_take hx))
    · cases hx
  · cases hx
set_option maxRecDepth 100000 in
theorem number_any {R A : Nat} {l : List Nat} {c : Nat} {st : Option Nat} (w : World) (h : Rd w R A l c st) (hl : l.length < 4611686018427387904) : Calls Try.prog 19 #[.pointer (some ⟨R, 0, none⟩), .int .i64 8] w fun e w' => e = .returned (.int .u64 (vl (got l st 8) : Nat)) ∧ Rd w' R A l c (adv l st 8) ∧ w.grownBy w' (some R) := by
  have H := Lib.hid h
  clear h
  go_enter Try.func19, Try.ntmps19
  go_wp2_with (first | (go_at_call 29; refine (fits_any _ _).mono ?_; rintro e w' ⟨rfl, rfl⟩) | (go_at_call 31; refine (rbytes_any (n := 8) _ H.out hl).mono ?_; rintro e w' ⟨⟨a, k, rfl, h1, -⟩, h2, h3⟩) | (go_at_call 30; refine (get_any _ _ _ _ h1 got_len).mono ?_; rintro e w'' ⟨⟨n, rfl⟩, rfl⟩))
  go_ret
  exact ⟨rfl, h2, h3⟩
set_option maxRecDepth 100000 in
theorem blob_none {R A : Nat} {l : List Nat} {c : Nat} {st : Option Nat} (w : World) (h : Rd w R A l c st) (hl : l.length < 4611686018427387904) (ha : adv l st 2 = none) : Calls Try.prog 20 #[.pointer (some ⟨R, 0, none⟩)] w fun e w' => e = .returned (.slice none 0 0) ∧ Rd w' R A l c none ∧ w.grownBy w' (some R) := by
  have H := Lib.hid h
  have HA := Lib.hid ha
  clear h ha
  go_enter Try.func20, Try.ntmps20
  go_wp2_with (go_at_call 32; refine (next_no (n := 2) _ H.out HA.out hl).mono ?_; rintro e w' ⟨rfl, h2, h3⟩)
  go_ret
  exact ⟨rfl, h2, h3⟩
theorem bytes2 {W : World} {a : Option Addr} {k A x y : Nat} (h : BytesAt W (.slice a k k) [x, y]) (hA : ∀ b, a = some b → b.block = A) : ∃ off, a = some ⟨A, off, none⟩ ∧ k = 2 ∧ W.cell? ⟨A, off, none⟩ = some (.int .u8 x) ∧ W.cell? ⟨A, off + 1, none⟩ = some (.int .u8 y) := by
  obtain ⟨_, ⟨_, h0⟩ | ⟨b, off, c, h0, hc⟩⟩ := h
  · cases h0
  · cases h0
    obtain rfl : b = A := hA _ rfl
    exact ⟨off, rfl, rfl, hc 0 (by simp), hc 1 (by simp)⟩
set_option maxRecDepth 100000 in
theorem blob_some {R A : Nat} {l : List Nat} {c : Nat} {st : Option Nat} (w : World) (h : Rd w R A l c st) (hl : l.length < 4611686018427387904) {q : Nat} (ha : adv l st 2 = some q) : Calls Try.prog 20 #[.pointer (some ⟨R, 0, none⟩)] w fun e w' => (∃ a k, e = .returned (.slice a k k) ∧ BytesAt w' (.slice a k k) (got l (some q) (vl (got l st 2))) ∧ ∀ b, a = some b → b.block = A) ∧ Rd w' R A l c (adv l (some q) (vl (got l st 2))) ∧ w.grownBy w' (some R) := by
  obtain ⟨x, y, hxy⟩ : ∃ x y, got l st 2 = [x, y] := by
    have := got_len_some ha
    match got l st 2, this with
    | [x, y], _ => exact ⟨x, y, rfl⟩
  have hlt := got_lt (st := st) (n := 2) h.2.2.2.2.1
  rw [hxy] at hlt
  have hx : x < 256 := hlt x (by simp)
  have hy : y < 256 := hlt y (by simp)
  have hAR := h.2.1
  have H := Lib.hid h
  have HA := Lib.hid ha
  have HX := Lib.hid hxy
  rw [hxy, vl2]
  clear h ha hlt hxy
  go_enter Try.func20, Try.ntmps20
  go_wp2_with (go_at_call 32; refine (next_any (n := 2) _ H.out hl).mono ?_; rw [HA.out, HX.out]; rintro e w1 ⟨⟨a, k, rfl, h1, h4⟩, h2, h3⟩; obtain ⟨off, rfl, rfl, k0, k1⟩ := bytes2 h1 h4)
  have K0 := Lib.hid (And.intro k0 k1)
  have H2 := Lib.hid h2
  have H3 := Lib.hid h3
  clear h1 h4 h2 h3
  have hn : IntKind.i64.wrap (IntKind.i64.wrap (IntKind.i64.wrap (x : Int) * 256) + IntKind.i64.wrap (y : Int)) = ((x * 256 + y : Nat) : Int) := by
    rw [IntWalk.i64_in (x : Int) (by omega), IntWalk.i64_in ((x : Int) * 256) (by omega), IntWalk.i64_in (y : Int) (by omega), IntWalk.i64_in _ (by omega)]
    omega
  have HN := Lib.hid hn
  clear hn
  go_region_held3 (fun X => X.cell? ⟨A, off, none⟩ = some (.int .u8 x) ∧ X.cell? ⟨A, off + 1, none⟩ = some (.int .u8 y)) (first | exact K0.out | exact ⟨hg.cell K0.out.1 (fun e => hAR (Option.some.inj e)), hg.cell K0.out.2 (fun e => hAR (Option.some.inj e))⟩) (first | (go_at_call 31; rw [HN.out]; refine (rbytes_any (n := x * 256 + y) _ (show Rd w1.drew R A l c (some q) from H2.out) hl).mono ?_; rintro e w2 ⟨⟨a, k, rfl, g1, g2⟩, g3, hg⟩))
  go_wp2
  go_ret
  exact ⟨⟨_, _, rfl, g1, g2⟩, g3, gb_trans (gb_drew H3.out) hg⟩
/-- A blob's bytes, whatever the reader's state. -/
theorem blob_any {R A : Nat} {l : List Nat} {c : Nat} {st : Option Nat} (w : World) (h : Rd w R A l c st) (hl : l.length < 4611686018427387904) : Calls Try.prog 20 #[.pointer (some ⟨R, 0, none⟩)] w fun e w' => (∃ a k, e = .returned (.slice a k k) ∧ BytesAt w' (.slice a k k) (got l (adv l st 2) (vl (got l st 2))) ∧ ∀ b, a = some b → b.block = A) ∧ Rd w' R A l c (adv l (adv l st 2) (vl (got l st 2))) ∧ w.grownBy w' (some R) := by
  cases ha : adv l st 2 with
  | none =>
    refine (blob_none w h hl ha).mono ?_
    rintro e w' ⟨rfl, h1, h2⟩
    exact ⟨⟨none, 0, rfl, ⟨fun x hx => (by simp [got] at hx), .inl ⟨rfl, rfl⟩⟩, fun b hb => (by cases hb)⟩, h1, h2⟩
  | some q => exact blob_some w h hl ha
end Go.Proofs.Hb
namespace Go.Proofs.Hb
open Go Go.RowKit Go.Hb Go.Crc
theorem info5 : (Try.prog.info? 5).map (fun i => (i.zero, i.size, i.bytes)) = some (some (.int .u8 0), 1, 1) := by kernel_rfl
def u8s (l : List Nat) : List Value := l.map (fun x : Nat => Value.int .u8 (x : Int))
theorem u8s_one (l : List Nat) : ∀ u ∈ u8s l, u.oneCell' = true := by
  intro u hu
  obtain ⟨x, _, rfl⟩ := List.mem_map.1 hu
  rfl
theorem u8s_len (l : List Nat) : (u8s l).length = l.length := List.length_map ..
theorem u8s_get (l : List Nat) (j : Nat) (h : j < l.length) : (u8s l)[j]? = some (.int .u8 (l[j] : Nat)) := by
  unfold u8s
  rw [List.getElem?_map, List.getElem?_eq_getElem h]; rfl
theorem bytes_none {W : World} {A : Option Addr} {n c : Nat} {l : List Nat} (h : BytesAt W (.slice A n c) l) : A = none → n = 0 ∧ c = 0 := by
  obtain ⟨_, ⟨h0, _⟩ | ⟨b, off, k, h0, _⟩⟩ := h
  · cases h0; exact fun _ => ⟨rfl, rfl⟩
  · cases h0; intro e; cases e
theorem bytes_len {W : World} {A : Option Addr} {n c : Nat} {l : List Nat} (h : BytesAt W (.slice A n c) l) : n = l.length := by
  obtain ⟨_, ⟨h0, rfl⟩ | ⟨b, off, k, h0, _⟩⟩ := h
  · cases h0; rfl
  · cases h0; rfl
theorem bytes_cells {W : World} {A : Option Addr} {n c : Nat} {l : List Nat} (h : BytesAt W (.slice A n c) l) : ∀ ad, A = some ad → ∀ j u, (u8s l)[j]? = some u → W.cell? (ad.add j) = some u := by
  intro ad had j u hu
  obtain ⟨_, ⟨h0, _⟩ | ⟨b, off, k, h0, hc⟩⟩ := h
  · cases h0; cases had
  · cases h0; cases had
    have hj : j < l.length := by
      have := (List.getElem?_eq_some_iff.1 hu).1
      rwa [u8s_len] at this
    rw [u8s_get l j hj] at hu
    cases hu
    rw [Addr.add_lit]
    exact hc j hj
theorem below_alloc_cell {w : World} (o : Obj) {a : Addr} {v : Value} (h : w.cell? a = some v) : (w.alloc o).cell? a = some v := cell_below ((Below.refl _ w).alloc (Nat.le_refl _) o) rfl h
set_option maxRecDepth 100000 in
theorem read_any (l : List Nat) (A0 : Option Addr) (n c0 : Nat) (w : World) (h : BytesAt w (.slice A0 n c0) l) (hl : l.length < 140737488355327) : Calls Try.prog 18 #[.slice A0 n c0] w fun e w' => ∃ R A c, e = .returned (.pointer (some ⟨R, 0, none⟩)) ∧ w.heap.size ≤ R ∧ w.heap.size ≤ A ∧ A < w'.heap.size ∧ Rd w' R A l c (some 0) ∧ Below w.heap.size w w' := by
  obtain rfl := bytes_len h
  have H := Lib.hid h
  clear h
  obtain ⟨i0, hi, hz0, hz1, hz2⟩ := info_parts info5
  go_enter Try.func18, Try.ntmps18
  go_wp2_with (first
    | (at_make; refine wpList_make_own _ rfl _ _ 22 rfl w.heap.size 5 i0 (.int .u8 0) 1 Try.underlying22 hi hz0 hz1 .i64 .i64 _ (l.length + 1) rfl rfl (by omega) (by rw [hz2]; omega) (by unfold maxLen; omega) (Nat.le_refl _) ?_; intro w0 hown0 hgrow0; have hb0 := Lib.hid ((Below.refl w.heap.size w).grown hgrow0 (Nat.le_refl _) (by intro k hk; cases hk)); have hs0 := hgrow0.size; clear hgrow0)
    | (at_builtin; refine wpList_append_fits_any _ rfl _ _ 22 rfl w.heap.size 5 i0 1 Try.underlying22 hi hz1 w.heap.size 0 (l.length + 1) [] rfl hown0 A0 l.length c0 (u8s l) rfl (by rw [u8s_len, Nat.mul_one]) (bytes_none H.out) (bytes_cells (H.out.below hb0.out)) (u8s_one l) (by omega) ?_; intro w1 hown1 hgrow1))
  have hb1 := hb0.out.grown hgrow1 hs0 (fun k hk => by cases hk; exact Nat.le_refl _)
  have hA : ∀ j, (h : j < l.length) → w1.cell? ⟨w.heap.size, j, none⟩ = some (.int .u8 (l[j] : Nat)) := fun j hj => by
    have := hown1.cells (g := w.heap.size) rfl j _ (by rw [List.nil_append]; exact u8s_get l j hj)
    rwa [Addr.add_lit, Nat.zero_add] at this
  have hs1 : w.heap.size < w1.heap.size := by
    rcases hown1.2 with ⟨h0, _⟩ | ⟨g, cap, cur, h0, _, h1, _⟩
    · cases h0
    · cases h0; exact (Array.getElem?_eq_some_iff.1 h1).1
  go_ret
  exact ⟨w1.heap.size, w.heap.size, l.length + 1, rfl, hb1.size, Nat.le_refl _, by simp; omega, ⟨heap_alloc_new _ _, by omega, by omega, fun p hp => by cases hp; omega, H.out.1, fun j hj => below_alloc_cell _ (hA j hj)⟩, hb1.alloc hb1.size _⟩
set_option maxRecDepth 100000 in
theorem may_any (A1 A2 : Option Addr) (n1 c1 n2 c2 a b : Nat) (w : World) : Calls Try.prog 6 #[.agg #[.slice A1 n1 c1, .slice A2 n2 c2, .int .u64 a, .int .u64 b]] w fun e w' => e = .returned (.bool (may n1 n2 a b)) ∧ Below w.heap.size w w' := by
  go_enter Try.func6, Try.ntmps6
  go_wp2
  all_goals
    go_ret
    exact ⟨ret_bool (by unfold may; rw [Bool.eq_iff_iff]; simp; omega), (Below.refl _ _).alloc (Nat.le_refl _) _⟩
set_option maxRecDepth 100000 in
theorem refMay_any (A1 A2 : Option Addr) (n1 c1 n2 c2 a b : Nat) (w : World) : Calls Try.prog 7 #[.agg #[.slice A1 n1 c1, .slice A2 n2 c2, .int .u64 a, .int .u64 b]] w fun e w' => e = .returned (.bool (may n1 n2 a b)) ∧ Below w.heap.size w w' := by
  go_enter Try.func7, Try.ntmps7
  go_wp2
  all_goals
    go_ret
    exact ⟨ret_bool (by unfold may; rw [Bool.eq_iff_iff]; simp; omega), (Below.refl _ _).alloc (Nat.le_refl _) _⟩
end Go.Proofs.Hb
