/- Equality is the model's; binary and unary operators; conversions of numbers; addresses; parts. -/
import Derived.Test.YtjjnffgpfiokiaaGreatDoorEvH
namespace Go.Ev
open Go.RowKit

theorem V_bool {E : Env} {b : Bool} {c : Value} (h : V E (.bool b) c) : c = .bool b := by injection h
theorem V_int {E : Env} {k : IntKind} {n : Int} {c : Value} (h : V E (.int k n) c) : c = .int k n := by injection h
theorem V_nilp {E : Env} {c : Value} (h : V E .nilp c) : c = .pointer none := by injection h
theorem V_nils {E : Env} {c : Value} (h : V E .nils c) : c = .slice none 0 0 := by injection h
theorem V_nilm {E : Env} {c : Value} (h : V E .nilm c) : c = .map none := by injection h
theorem V_nilf {E : Env} {c : Value} (h : V E .nilf c) : c = .nilFunc := by injection h
theorem V_nili {E : Env} {c : Value} (h : V E .nili c) : c = .nilIface := by injection h
theorem V_ptr {E : Env} {i o : Nat} {c : Value} (h : V E (.ptr i o) c) : ∃ b z, E i = some (b, z) ∧ c = .pointer (some ⟨b, o, none⟩) := by
  obtain ⟨b, z, h1, h2⟩ := h; injection h2 with h2; exact ⟨b, z, h1, h2⟩
theorem V_gptr {E : Env} {i o : Nat} {c : Value} (h : V E (.gptr i o) c) : c = .pointer (some ⟨i, o, none⟩) := by injection h
theorem V_slice {E : Env} {i o l k : Nat} {c : Value} (h : V E (.slice i o l k) c) : l ≤ k ∧ ∃ b z, E i = some (b, z) ∧ c = .slice (some ⟨b, o, none⟩) l k := by
  obtain ⟨h0, b, z, h1, h2⟩ := h; injection h2 with h2; exact ⟨h0, b, z, h1, h2⟩
theorem V_slx {E : Env} {i o l k : Nat} {c : Value} (h : V E (.slx i o l k) c) : ∃ b z o' cc, E i = some (b, z) ∧ c = .slice (some ⟨b, o', none⟩) l cc ∧ l ≤ cc ∧ ((o' = o ∧ o + cc * k ≤ z) ∨ (l = 0 ∧ cc = 0)) := by
  obtain ⟨b, z, o', cc, h1, h2, h3⟩ := h; injection h2 with h2; exact ⟨b, z, o', cc, h1, h2, h3⟩
theorem V_map {E : Env} {i : Nat} {c : Value} (h : V E (.map i) c) : ∃ b z, E i = some (b, z) ∧ c = .map (some b) := by
  obtain ⟨b, z, h1, h2⟩ := h; injection h2 with h2; exact ⟨b, z, h1, h2⟩
theorem V_func {E : Env} {f : Fn} {p q : AV} {c : Value} (h : V E (.func f p q) c) : (∀ l, f ≠ .yield l) ∧ ∃ ps qs, c = .func f ps qs ∧ R E p ps.toList ∧ R E q qs.toList := by
  obtain ⟨h0, b, z, h1, h2⟩ := h; injection h1 with h1; exact ⟨h0, b, z, h1, h2⟩
theorem V_iface {E : Env} {t : Nat} {v : AV} {c : Value} (h : V E (.iface t v) c) : ∃ x, c = .iface t x ∧ V E v x := by
  obtain ⟨x, h1, h2⟩ := h; injection h1 with h1; exact ⟨x, h1, h2⟩
theorem V_agg {E : Env} {r : AV} {c : Value} (h : V E (.agg r) c) : ∃ cs, c = .agg cs ∧ R E r cs.toList := by
  obtain ⟨x, h1, h2⟩ := h; injection h1 with h1; exact ⟨x, h1, h2⟩
theorem V_tup {E : Env} {r : AV} {c : Value} (h : V E (.tup r) c) : ∃ cs, c = .tuple cs ∧ R E r cs.toList := by
  obtain ⟨x, h1, h2⟩ := h; injection h1 with h1; exact ⟨x, h1, h2⟩
theorem V_str {E : Env} {n d : Nat} {c : Value} (h : V E (.str n d) c) : d < 2 ^ (8 * n) ∧ ∃ s : ByteArray, c = .string s ∧ s.data.toList = bytesOf n d := by
  obtain ⟨h0, s, h1, h2⟩ := h; injection h1 with h1; exact ⟨h0, s, h1, h2⟩

theorem pk_list {E : Env} {k : Bool} {n d : Nat} {l : List Value} (h : R E (.rpk k n d .rnil) l) : d < 2 ^ (wd k * n) ∧ l = (toL (wd k) n d).map (pv k) := by
  obtain ⟨h1, l', h2, h3⟩ := h
  injection h2 with h2
  have := R_nil h3
  subst this
  exact ⟨h1, by rw [h2, List.append_nil]⟩


section eqn
variable {P : Program} (w : World) (d : Nat) {t : TypeId}
theorem eqn_ptr_l {e : TypeId} (hu : P.underlying t = some (.pointer e)) (b : Option Addr) : (Op.equalIn (d + 1) t (.pointer none) (.pointer b)).run P w = .ok b.isNone w := by simp [Op.equalIn, run_underlying hu]
theorem eqn_ptr_r {e : TypeId} (hu : P.underlying t = some (.pointer e)) (a : Addr) : (Op.equalIn (d + 1) t (.pointer (some a)) (.pointer none)).run P w = .ok false w := by simp [Op.equalIn, run_underlying hu]
theorem eqn_ptr {e : TypeId} {n : Nat} (hu : P.underlying t = some (.pointer e)) (hn : szOf P e = some (n + 1)) (b o o' : Nat) :
    (Op.equalIn (d + 1) t (.pointer (some ⟨b, o, none⟩)) (.pointer (some ⟨b, o', none⟩))).run P w = .ok (Nat.beq o o') w := by
  simp only [Op.equalIn, Sem.run_bind, run_underlying hu, Result.andThen_ok, run_sizeOf' hn, ne_eq, Nat.succ_ne_zero, not_false_eq_true, if_true, sameAddr, beq_self_eq_true, Sem.run_pure]
  congr 1
  rw [Bool.eq_iff_iff, beq_iff_eq, Nat.beq_eq]
  exact ⟨fun h => by injection h, fun h => by rw [h]⟩
theorem eqn_if_nn {ms} (hu : P.underlying t = some (.interface ms)) : (Op.equalIn (d + 1) t .nilIface .nilIface).run P w = .ok true w := by simp [Op.equalIn, run_underlying hu]
theorem eqn_if_l {ms} (hu : P.underlying t = some (.interface ms)) (t1 : TypeId) (x : Value) : (Op.equalIn (d + 1) t .nilIface (.iface t1 x)).run P w = .ok false w := by simp [Op.equalIn, run_underlying hu]
theorem eqn_if_r {ms} (hu : P.underlying t = some (.interface ms)) (t1 : TypeId) (x : Value) : (Op.equalIn (d + 1) t (.iface t1 x) .nilIface).run P w = .ok false w := by simp [Op.equalIn, run_underlying hu]
theorem eqn_if_ne {ms} (hu : P.underlying t = some (.interface ms)) (t1 t2 : TypeId) (x y : Value) (h : t1 ≠ t2) : (Op.equalIn (d + 1) t (.iface t1 x) (.iface t2 y)).run P w = .ok false w := by simp [Op.equalIn, run_underlying hu, h]
theorem eqn_if {ms} (hu : P.underlying t = some (.interface ms)) (t1 : TypeId) (x y : Value) {i : TypeInfo} (hi : P.info? t1 = some i) (hc : i.comparable = true) : (Op.equalIn (d + 1) t (.iface t1 x) (.iface t1 y)).run P w = (Op.equalIn d t1 x y).run P w := by
  simp only [Op.equalIn, Sem.run_bind, run_underlying hu, Result.andThen_ok, ne_eq, not_true_eq_false, if_false, typeInfo, run_program, hi, Sem.run_pure, hc, Bool.not_true, Bool.false_eq_true]
theorem eqn_sl_l {e : TypeId} (hu : P.underlying t = some (.slice e)) (b : Option Addr) (l c m k : Nat) : (Op.equalIn (d + 1) t (.slice none l c) (.slice b m k)).run P w = .ok b.isNone w := by simp [Op.equalIn, run_underlying hu]
theorem eqn_sl_r {e : TypeId} (hu : P.underlying t = some (.slice e)) (a : Addr) (l c m k : Nat) : (Op.equalIn (d + 1) t (.slice (some a) l c) (.slice none m k)).run P w = .ok false w := by simp [Op.equalIn, run_underlying hu]
theorem eqn_m_l {k e : TypeId} (hu : P.underlying t = some (.map k e)) (b : Option Nat) : (Op.equalIn (d + 1) t (.map none) (.map b)).run P w = .ok b.isNone w := by simp [Op.equalIn, run_underlying hu]
theorem eqn_m_r {k e : TypeId} (hu : P.underlying t = some (.map k e)) (b : Nat) : (Op.equalIn (d + 1) t (.map (some b)) (.map none)).run P w = .ok false w := by simp [Op.equalIn, run_underlying hu]
theorem eqn_f_nn {a b v} (hu : P.underlying t = some (.func a b v)) : (Op.equalIn (d + 1) t .nilFunc .nilFunc).run P w = .ok true w := by simp [Op.equalIn, run_underlying hu]
theorem eqn_f_l {a b v} (hu : P.underlying t = some (.func a b v)) (f : Fn) (p q : Array Value) : (Op.equalIn (d + 1) t .nilFunc (.func f p q)).run P w = .ok false w := by simp [Op.equalIn, run_underlying hu]
theorem eqn_f_r {a b v} (hu : P.underlying t = some (.func a b v)) (f : Fn) (p q : Array Value) : (Op.equalIn (d + 1) t (.func f p q) .nilFunc).run P w = .ok false w := by simp [Op.equalIn, run_underlying hu]
end eqn
theorem pkEq_some {r s : AV} {b : Bool} (h : pkEq r s = some b) : ∃ k n d d', r = .rpk k n d .rnil ∧ s = .rpk k n d' .rnil ∧ b = Nat.beq d d' := by
  unfold pkEq at h
  split at h
  · rename_i k n d k' n' d'
    rw [cnd_eq] at h
    split at h
    · rename_i hk
      obtain rfl := beqB_eq hk
      rw [cnd_eq] at h
      split at h
      · rename_i hn
        obtain rfl : n = n' := by simpa using hn
        cases h
        exact ⟨_, _, _, _, rfl, rfl, rfl⟩
      · cases h
    · cases h
  · cases h

set_option maxHeartbeats 1000000 in
theorem aEq_run {P : Program} {E : Env} (w : World) : ∀ (d : Nat) (t : TypeId) (x y : AV) (b : Bool) (cx cy : Value), aEq P d t x y = some b → V E x cx → V E y cy → (Op.equalIn d t cx cy).run P w = .ok b w
  | 0, _, _, _, _, _, _, h, _, _ => by cases h
  | d + 1, t, x, y, b, cx, cy, h, hx, hy => by
    have ih := aEq_run (P := P) (E := E) w d
    have h' : aEqS P (aEq P d) t x y = some b := h
    unfold aEqS at h'
    obtain ⟨u, hu, h2⟩ := obind_some h'
    have ru := run_underlying hu w
    split at h2
    · rename_i a a'
      cases h2; rw [V_bool hx, V_bool hy]
      have : beqB a a' = (a == a') := by cases a <;> cases a' <;> rfl
      rw [this]; exact run_equalIn_bool' w d t a a' hu
    · rename_i k a k' a'
      rw [cnd_eq] at h2
      split at h2
      · rename_i hk
        cases h2
        obtain rfl := kEq_eq hk
        rw [V_int hx, V_int hy, eqZ_eq]
        exact run_equalIn_int w d t k _ a a' hu
      · cases h2
    · rename_i n1 d1 m1 e1
      cases h2
      obtain ⟨hd, s, rfl, hs⟩ := V_str hx
      obtain ⟨he, r, rfl, hr⟩ := V_str hy
      rw [run_equalIn_string w d t s r hu]
      congr 1
      rw [Bool.eq_iff_iff, beq_iff_eq, ByteArray.toList_eq, ByteArray.toList_eq, hs, hr, seq_iff]
      exact ⟨fun h => bytesOf_inj hd he h, fun h => by rw [h.1, h.2]⟩
    · cases h2; rw [V_nilp hx, V_nilp hy]; exact eqn_ptr_l w d hu _
    · cases h2; obtain ⟨b1, z1, _, rfl⟩ := V_ptr hy; rw [V_nilp hx]; exact eqn_ptr_l w d hu _
    · cases h2; obtain ⟨b1, z1, _, rfl⟩ := V_ptr hx; rw [V_nilp hy]; exact eqn_ptr_r w d hu _
    · rename_i e i o i' o'
      rw [cnd_eq] at h2
      split at h2
      · rename_i hi
        obtain rfl : i = i' := by simpa using hi
        obtain ⟨n, hn, h3⟩ := obind_some h2
        obtain ⟨b1, z1, g1, rfl⟩ := V_ptr hx
        obtain ⟨b2, z2, g2, rfl⟩ := V_ptr hy
        rw [g1] at g2; injection g2 with g2; injection g2 with g2 _; subst g2
        cases n with
        | zero => cases h3
        | succ n => cases h3; exact eqn_ptr w d hu hn _ _ _
      · cases h2
    · cases h2; rw [V_nili hx, V_nili hy]; exact eqn_if_nn w d hu
    · cases h2; obtain ⟨x1, rfl, _⟩ := V_iface hy; rw [V_nili hx]; exact eqn_if_l w d hu _ _
    · cases h2; obtain ⟨x1, rfl, _⟩ := V_iface hx; rw [V_nili hy]; exact eqn_if_r w d hu _ _
    · rename_i t1 v1 t2 v2
      obtain ⟨x1, rfl, g1⟩ := V_iface hx
      obtain ⟨x2, rfl, g2⟩ := V_iface hy
      rw [cnd_eq] at h2
      split at h2
      · rename_i ht
        obtain rfl : t1 = t2 := by simpa using ht
        obtain ⟨i, hi, h3⟩ := obind_some h2
        rw [cnd_eq] at h3
        split at h3
        · rename_i hc
          rw [eqn_if w d hu _ _ _ hi hc]
          exact ih _ _ _ _ _ _ h3 g1 g2
        · cases h3
      · rename_i ht
        have ht' : t1 ≠ t2 := by simpa using ht
        cases h2
        exact eqn_if_ne w d hu _ _ _ _ ht'
    · rename_i fs r s
      obtain ⟨xs, rfl, g1⟩ := V_agg hx
      obtain ⟨ys, rfl, g2⟩ := V_agg hy
      rw [cnd_eq] at h2
      split at h2
      · cases h2
      · rename_i hst
        have hfs : P.fieldsOf t = fs := by simp [Program.fieldsOf, hu]
        rw [run_equalIn_struct w d t xs ys (by rw [hfs]; exact hu) (by simpa using hst), hfs]
        exact eqFl_run w (fun t x y b cx cy => ih t x y b cx cy) g1 g2 h2
    · rename_i len e r s
      obtain ⟨xs, rfl, g1⟩ := V_agg hx
      obtain ⟨ys, rfl, g2⟩ := V_agg hy
      rw [cnd_eq] at h2
      split at h2
      · obtain ⟨i, hi, h3⟩ := obind_some h2
        rw [run_equalIn_array w d xs ys hu hi]
        have hc : P.cellsOf e = i.size := by simp [Program.cellsOf, hi]
        rw [hc]
        exact eqIt_run w (fun x y b cx cy => ih e x y b cx cy) g1 g2 h3
      · rw [cnd_eq] at h2
        split at h2
        · rename_i hty
          rw [cnd_eq] at hty
          split at hty
          · rename_i hty1
            obtain ⟨zz, hz, h2⟩ := obind_some h2
            rw [cnd_eq] at h2
            split at h2
            · rename_i hz1
              obtain rfl : zz = 1 := by simpa using hz1
              obtain ⟨b0, hd0, h2⟩ := obind_some h2
              obtain ⟨k, n, dd, dd', er, es, rfl⟩ := pkEq_some h2
              replace g1 := strip_rel g1
              replace g2 := strip_rel g2
              rw [← strip_N] at hty
              rw [← strip_K] at hty1
              rw [er] at g1 hty hty1
              rw [es] at g2
              have hlen : n = len := by simpa [pkN] using hty
              subst hlen
              obtain ⟨hd1, hl1⟩ := pk_list g1
              obtain ⟨hd2, hl2⟩ := pk_list g2
              have hk1 : pkTy P e k = true := hty1
              cases he : P.info? e with
              | none => simp [szOf, omap_eq, he] at hz
              | some ii =>
                have hc : P.cellsOf e = 1 := by
                  simp [szOf, omap_eq, he] at hz; simp [Program.cellsOf, he, hz]
                cases d with
                | zero => cases hd0
                | succ d =>
                  rw [run_equalIn_array w (d + 1) xs ys hu he, hc, List.range_eq_range']
                  rw [eqItems_packed w k hk1 n (toL (wd k) n dd) (toL (wd k) n dd') 0 xs ys (fun x hx => toL_lt _ _ _ x hx) (fun x hx => toL_lt _ _ _ x hx) (toL_length _ _ _) (toL_length _ _ _) (by simpa using hl1) (by simpa using hl2)]
                  congr 1
                  rw [Bool.eq_iff_iff, decide_eq_true_eq, Nat.beq_eq]
                  exact ⟨fun h => toL_inj _ _ _ _ hd1 hd2 h, fun h => by rw [h]⟩
            · cases h2
          · cases hty
        · cases h2
    · cases h2; rw [V_nils hx, V_nils hy]; exact eqn_sl_l w d hu _ _ _ _ _
    · cases h2; obtain ⟨_, b1, z1, _, rfl⟩ := V_slice hy; rw [V_nils hx]; exact eqn_sl_l w d hu _ _ _ _ _
    · cases h2; obtain ⟨b1, z1, o1, c1, _, rfl, _⟩ := V_slx hy; rw [V_nils hx]; exact eqn_sl_l w d hu _ _ _ _ _
    · cases h2; obtain ⟨_, b1, z1, _, rfl⟩ := V_slice hx; rw [V_nils hy]; exact eqn_sl_r w d hu _ _ _ _ _
    · cases h2; obtain ⟨b1, z1, o1, c1, _, rfl, _⟩ := V_slx hx; rw [V_nils hy]; exact eqn_sl_r w d hu _ _ _ _ _
    · cases h2; rw [V_nilm hx, V_nilm hy]; exact eqn_m_l w d hu _
    · cases h2; obtain ⟨b1, z1, _, rfl⟩ := V_map hy; rw [V_nilm hx]; exact eqn_m_l w d hu _
    · cases h2; obtain ⟨b1, z1, _, rfl⟩ := V_map hx; rw [V_nilm hy]; exact eqn_m_r w d hu _
    · cases h2; rw [V_nilf hx, V_nilf hy]; exact eqn_f_nn w d hu
    · cases h2; obtain ⟨_, b1, z1, rfl, _⟩ := V_func hy; rw [V_nilf hx]; exact eqn_f_l w d hu _ _ _
    · cases h2; obtain ⟨_, b1, z1, rfl, _⟩ := V_func hx; rw [V_nilf hy]; exact eqn_f_r w d hu _ _ _
    · cases h2

end Go.Ev
