import Derived.Test.YtddedbajcpefiaaGreatIeP
import Derived.Test.YtddedbajcpefiaaGreatProg
import Derived.WalkKit
import Derived.ProofKit
import Derived.KernelRfl
import Derived.IntWalk
import Derived.Lib.Hide
import Derived.Lib.Bytealg
import Derived.Laws.Externs
import Derived.StillTailTactics
import Derived.Deep.QuietTactic
namespace Go.Proofs.Ie
open Go Go.RowKit Go.Ie
theorem ret_bool {a b : Bool} (h : a = b) : Ending.returned (.bool a) = .returned (.bool b) := by rw [h]
theorem ret_i64 {a b : Int} (h : a = b) : Ending.returned (.int .i64 a) = .returned (.int .i64 b) := by rw [h]
theorem keyB_t {n : Nat} (h : keyB n = true) : 1 ≤ n ∧ n ≤ 32 := by
  unfold keyB at h
  simpa using h
theorem keyB_f {n : Nat} (h : keyB n = false) : ¬ (1 ≤ n ∧ n ≤ 32) := by
  unfold keyB at h
  intro h2
  rw [decide_eq_true h2.1, decide_eq_true h2.2] at h
  cases h
theorem mayKey_any (s : ByteArray) (w : World) : Calls Tryz.prog 22 #[.string s] w fun e w' => e = .returned (.bool (keyB s.size)) ∧ w = w' := by
  go_enter Tryz.func22, Tryz.ntmps22
  go_wp2
  all_goals
    go_ret
    exact ⟨ret_bool (by unfold keyB; rw [Bool.eq_iff_iff]; simp; omega), rfl⟩
theorem may_any (s : ByteArray) (p q : Int) (w : World) : Calls Tryz.prog 8 #[.agg #[.string s, .int .i64 p, .int .i64 q]] w fun e w' => e = .returned (.bool (mayB s.size p q)) ∧ Below w.heap.size w w' := by
  go_enter Tryz.func8, Tryz.ntmps8
  go_wp2_with (go_at_call 22; refine (mayKey_any _ _).mono ?_; rintro e w' ⟨rfl, rfl⟩)
  all_goals
    go_ret
    refine ⟨ret_bool ?_, (Below.refl _ _).alloc (Nat.le_refl _) _⟩
    first
      | (have h := keyB_t ‹keyB s.size = true›; unfold mayB; rw [Bool.eq_iff_iff]; simp; omega)
      | (have h := keyB_f (by simpa using ‹¬keyB s.size = true›); unfold mayB; rw [Bool.eq_iff_iff]; simp; omega)
theorem refMay_any (s : ByteArray) (p q : Int) (w : World) : Calls Tryz.prog 9 #[.agg #[.string s, .int .i64 p, .int .i64 q]] w fun e w' => e = .returned (.bool (mayB s.size p q)) ∧ Below w.heap.size w w' := by
  go_enter Tryz.func9, Tryz.ntmps9
  go_wp2
  all_goals
    go_ret
    exact ⟨ret_bool (by unfold mayB; rw [Bool.eq_iff_iff]; simp; omega), (Below.refl _ _).alloc (Nat.le_refl _) _⟩
theorem num_any (n : Int) (w : World) : Calls Tryz.prog 12 #[.int .i64 n] w fun e w' => e = .returned (.int .i64 n) ∧ w = w' := by
  go_enter Tryz.func12, Tryz.ntmps12
  go_wp2
  go_ret
  exact ⟨rfl, rfl⟩
theorem fn81 : ∃ fn : Func, Tryz.prog.funcs[81]? = some fn ∧ (fn.name == "runtime.NumGoroutine") = false ∧ fn.body.isNone = true ∧ Extern.findNext fn = none ∧ Extern.find fn = some Extern.BytealgCompare.compare := ⟨Tryz.prog.funcs[81]!, by kernel_rfl, by kernel_rfl, by kernel_rfl, by kernel_rfl, by kernel_rfl⟩
theorem run81 (a b : ByteArray) (w : World) : (callFunc 81 #[.string a, .string b]).run Tryz.prog w = .ok (.value (.int .i64 (Lib.compareBytes a.data.toList b.data.toList))) w := by
  obtain ⟨fn, h1, h2, h3, h4, h5⟩ := fn81
  rw [run_callFunc_extern h1 h2 h3 h4 h5, Lib.run_compareString]
  rfl
set_option maxRecDepth 100000 in
theorem cmpStr_any (a b : ByteArray) (w : World) : Calls Tryz.prog 66 #[.string a, .string b] w fun e w' => e = .returned (.int .i64 (Lib.compareBytes a.data.toList b.data.toList)) ∧ w = w' := by
  go_enter Tryz.func66, Tryz.ntmps66
  go_wp2
  rw [run81, Oper.upon_value]
  go_wp2
  go_ret
  exact ⟨rfl, rfl⟩
set_option maxRecDepth 100000 in
theorem strCmp_any (a b : ByteArray) (w : World) : Calls Tryz.prog 45 #[.string a, .string b] w fun e w' => e = .returned (.int .i64 (Lib.compareBytes a.data.toList b.data.toList)) ∧ w = w' := by
  go_enter Tryz.func45, Tryz.ntmps45
  go_wp2_with (go_at_call 66; refine (cmpStr_any _ _ _).mono ?_; rintro e w' ⟨rfl, rfl⟩)
  go_ret
  exact ⟨rfl, rfl⟩
theorem isNaN_any (x : Int) (w : World) : Calls Tryz.prog 67 #[.int .i64 x] w fun e w' => e = .returned (.bool false) ∧ w = w' := by
  go_enter Tryz.func67, Tryz.ntmps67
  go_wp2
  go_ret
  refine ⟨ret_bool ?_, rfl⟩
  simp
theorem cmpInt_any (x y : Int) (w : World) : Calls Tryz.prog 46 #[.int .i64 x, .int .i64 y] w fun e w' => e = .returned (.int .i64 (cmpI x y)) ∧ w = w' := by
  go_enter Tryz.func46, Tryz.ntmps46
  go_wp2_with (go_at_call 67; refine (isNaN_any _ _).mono ?_; rintro e w' ⟨rfl, rfl⟩)
  all_goals
    go_ret
    exact ⟨ret_i64 (by unfold cmpI; split <;> first | rfl | omega | (split <;> first | rfl | omega)), rfl⟩
set_option maxRecDepth 100000 in
theorem or_any (x y z : Int) (b : Nat) (w : World) (hc : ∀ i, i < 3 → w.cell? ⟨b, i, none⟩ = some (.int .i64 (pick3 x y z i))) :
    Calls Tryz.prog 44 #[.slice (some ⟨b, 0, none⟩) 3 3] w fun e w' => e = .returned (.int .i64 (or3 x y z)) ∧ w = w' := by
  have HC := Lib.hid hc
  clear hc
  go_enter Tryz.func44, Tryz.ntmps44
  go_wp2
  go_loop [8] (fun t8 => ∃ i : Nat, i ≤ 3 ∧ t8 = .int .i64 i ∧ ∀ j, j < i → pick3 x y z j = 0) (fun t8 => 3 - (intOf t8).toNat)
  case atStart => exact ⟨0, by omega, rfl, fun j hj => absurd hj (Nat.not_lt_zero j)⟩
  case round =>
    obtain ⟨i, hi, rfl, hz⟩ := hrel
    have HZ := Lib.hid hz
    clear hz
    by_cases hlt : i < 3
    · have hcell := HC.out i hlt
      by_cases h0 : pick3 x y z i = 0
      · rw [h0] at hcell
        have H0 := Lib.hid h0
        clear h0
        go_wp2
        go_round
        case rel =>
          refine ⟨i + 1, by omega, by go_num, fun j hj => ?_⟩
          by_cases e : j = i
          · subst e; exact H0.out
          · exact HZ.out j (by omega)
        case measure => simp [intOf]; omega
      · have hne : (pick3 x y z i != 0) = true := by simpa using h0
        have H0 := Lib.hid h0
        clear h0
        have hor : or3 x y z = pick3 x y z i := by
          unfold or3
          have h0 := H0.out
          have hz := HZ.out
          unfold pick3 at h0 hz ⊢
          match i, hlt with
          | 0, _ => simp at h0 ⊢; intro h; exact absurd h h0
          | 1, _ => have := hz 0 (by omega); simp at this h0 ⊢; simp [this, h0]
          | 2, _ => have h1 := hz 0 (by omega); have h2 := hz 1 (by omega); simp at h1 h2 ⊢; simp [h1, h2]
        have HOR := Lib.hid hor
        clear hor
        go_wp2
        go_ret
        exact ⟨ret_i64 HOR.out.symm, rfl⟩
    · have ei : i = 3 := by omega
      subst ei
      have hor : or3 x y z = 0 := by
        have h0 := HZ.out 0 (by omega)
        have h1 := HZ.out 1 (by omega)
        have h2 := HZ.out 2 (by omega)
        unfold pick3 at h0 h1 h2
        unfold or3
        simp at h0 h1 h2
        simp [h0, h1, h2]
      have HOR := Lib.hid hor
      clear hor
      go_wp2
      go_ret
      exact ⟨ret_i64 HOR.out.symm, rfl⟩
theorem stl {P : Program} {f : FuncId} {args : Array Value} {w : World} {v : Value} (h : Calls P f args w fun e w' => e = .returned v ∧ w = w') : Calls P f args w fun e w' => e = .returned v ∧ w' = w := h.mono fun _ _ ⟨h1, h2⟩ => ⟨h1, h2.symm⟩
theorem or_cells (x y z : Int) (W : World) (T : Nat) : ∀ i, i < 3 → (W.alloc (.cells #[.int .i64 x, .int .i64 y, .int .i64 z] T)).cell? ⟨W.heap.size, i, none⟩ = some (.int .i64 (pick3 x y z i)) := by
  intro i hi
  unfold World.cell?
  rw [heap_alloc_new]
  have : i = 0 ∨ i = 1 ∨ i = 2 := by omega
  rcases this with rfl | rfl | rfl <;> rfl
set_option maxRecDepth 100000 in
set_option maxHeartbeats 2000000 in
theorem compare_any (s s' : ByteArray) (p q p' q' : Int) (w : World) : Calls Tryz.prog 23 #[.agg #[.string s, .int .i64 p, .int .i64 q], .agg #[.string s', .int .i64 p', .int .i64 q']] w fun e w' => e = .returned (.int .i64 (cmpE s p q s' p' q')) ∧ Below w.heap.size w w' := by
  go_enter Tryz.func23, Tryz.ntmps23
  go_wp2
  have hb0 : Below w.heap.size w ((w.alloc (.cells #[.string s, .int .i64 p, .int .i64 q] 25)).alloc (.cells #[.string s', .int .i64 p', .int .i64 q'] 25)) := ((Below.refl _ _).alloc (Nat.le_refl _) _).alloc (by simp) _
  refine wp_region_still_tail 19 (by kernel_rfl) (by kernel_rfl) ?_
  simp only [List.take_succ_cons, List.take_zero, List.drop_succ_cons, List.drop_zero]
  change wpStill _ _ (World.drew ((w.alloc (.cells #[.string s, .int .i64 p, .int .i64 q] 25)).alloc (.cells #[.string s', .int .i64 p', .int .i64 q'] 25))) (fun a' => wpList _ _ _ _ a' (World.drew ((w.alloc (.cells #[.string s, .int .i64 p, .int .i64 q] 25)).alloc (.cells #[.string s', .int .i64 p', .int .i64 q'] 25)))) _ _
  have hb1 := hb0.drew
  have hW : ∀ N, N = w.heap.size → (World.drew ((w.alloc (.cells #[.string s, .int .i64 p, .int .i64 q] 25)).alloc (.cells #[.string s', .int .i64 p', .int .i64 q'] 25))).heap[N]? = some (.cells #[.string s, .int .i64 p, .int .i64 q] 25) ∧ (World.drew ((w.alloc (.cells #[.string s, .int .i64 p, .int .i64 q] 25)).alloc (.cells #[.string s', .int .i64 p', .int .i64 q'] 25))).heap[N + 1]? = some (.cells #[.string s', .int .i64 p', .int .i64 q'] 25) := by
    rintro N rfl
    exact ⟨heap_alloc2_old _ _ _, heap_alloc2_new _ _ _⟩
  generalize (World.drew ((w.alloc (.cells #[.string s, .int .i64 p, .int .i64 q] 25)).alloc (.cells #[.string s', .int .i64 p', .int .i64 q'] 25))) = W at *
  obtain ⟨k1, k2⟩ := hW _ rfl
  have c0 : W.cell? ⟨w.heap.size, 0, none⟩ = some (.string s) := by unfold World.cell?; rw [k1]; rfl
  have c1 : W.cell? ⟨w.heap.size, 1, none⟩ = some (.int .i64 p) := by unfold World.cell?; rw [k1]; rfl
  have c2 : W.cell? ⟨w.heap.size, 2, none⟩ = some (.int .i64 q) := by unfold World.cell?; rw [k1]; rfl
  have d0 : W.cell? ⟨w.heap.size + 1, 0, none⟩ = some (.string s') := by unfold World.cell?; rw [k2]; rfl
  have d1 : W.cell? ⟨w.heap.size + 1, 1, none⟩ = some (.int .i64 p') := by unfold World.cell?; rw [k2]; rfl
  have d2 : W.cell? ⟨w.heap.size + 1, 2, none⟩ = some (.int .i64 q') := by unfold World.cell?; rw [k2]; rfl
  clear k1 k2 hW hb0
  repeat still_step
  still_call (stl (strCmp_any _ _ _))
  repeat still_step
  still_call (stl (cmpInt_any _ _ _))
  repeat still_step
  still_call (stl (cmpInt_any _ _ _))
  refine wpStill_nil ?_
  have HC := Lib.hid (or_cells (Lib.compareBytes s.data.toList s'.data.toList) (cmpI p p') (cmpI q q') W 3)
  generalize hx : Lib.compareBytes s.data.toList s'.data.toList = x at *
  generalize hy : cmpI p p' = y at *
  generalize hz : cmpI q q' = z at *
  have HX := Lib.hid hx
  have HY := Lib.hid hy
  have HZ := Lib.hid hz
  clear hx hy hz
  go_wp2_with (go_at_call 44; (with_reducible refine (or_any _ _ _ _ _ HC.out).mono ?_); rintro e w' ⟨rfl, rfl⟩)
  go_ret
  exact ⟨ret_i64 (by unfold cmpE; rw [HX.out, HY.out, HZ.out]), hb1.trans ((Below.refl _ _).alloc hb1.size _)⟩
set_option maxRecDepth 100000 in
theorem less_any (s s' : ByteArray) (p q p' q' : Int) (w : World) : Calls Tryz.prog 10 #[.agg #[.string s, .int .i64 p, .int .i64 q], .agg #[.string s', .int .i64 p', .int .i64 q']] w fun e w' => e = .returned (.bool (lessB s p q s' p' q')) ∧ Below w.heap.size w w' := by
  go_enter Tryz.func10, Tryz.ntmps10
  go_wp2_with (go_at_call 23; refine (compare_any _ _ _ _ _ _ _).mono ?_; rintro e w' ⟨rfl, hb⟩)
  go_ret
  exact ⟨rfl, (((Below.refl _ _).alloc (Nat.le_refl _) _).alloc (by simp) _).trans (hb.mono (by simp; omega))⟩
set_option maxRecDepth 100000 in
theorem refLess_any (s s' : ByteArray) (p q p' q' : Int) (w : World) : Calls Tryz.prog 11 #[.agg #[.string s, .int .i64 p, .int .i64 q], .agg #[.string s', .int .i64 p', .int .i64 q']] w fun e w' => e = .returned (.bool (lessB s p q s' p' q')) ∧ Below w.heap.size w w' := by
  go_enter Tryz.func11, Tryz.ntmps11
  go_wp2
  all_goals
    go_ret
    refine ⟨ret_bool ?_, ((Below.refl _ _).alloc (Nat.le_refl _) _).alloc (by simp) _⟩
    first
      | (rw [less_ne ‹(!s.toList == s'.toList) = true›]; done)
      | (rw [less_eq ‹(!s.toList == s'.toList) = false›, Bool.eq_iff_iff]; simp; omega)
end Go.Proofs.Ie
