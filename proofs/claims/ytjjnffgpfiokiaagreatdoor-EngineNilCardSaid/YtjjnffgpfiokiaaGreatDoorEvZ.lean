/- The run that gives the certificate. -/
import Derived.Test.YtjjnffgpfiokiaaGreatDoorEvY
namespace Go.Ev
open Go.RowKit Go.MapKept

/-! ### An operation's answer depends on its operands alone -/
theorem opd_congr {T T' : Fm} {o : Operand} (h : ∀ t, o = .tmp t → T.get t = T'.get t) : opd T o = opd T' o := by
  cases o with
  | tmp t => show some _ = some _; rw [h t rfl]
  | _ => rfl
theorem opL_congr {T T' : Fm} : ∀ {l : List Operand}, (∀ o ∈ l, opd T o = opd T' o) → opL T l = opL T' l
  | [], _ => rfl
  | o :: l, h => by
    show (obind (opd T o) fun v => omap (fun t => v :: t) (opL T l)) = (obind (opd T' o) fun v => omap (fun t => v :: t) (opL T' l))
    rw [h o (.head _), opL_congr fun x hx => h x (.tail _ hx)]
theorem opP_congr {T T' : Fm} : ∀ {l : List (Nat × Operand)}, (∀ o ∈ l, opd T o.2 = opd T' o.2) → opP T l = opP T' l
  | [], _ => rfl
  | o :: l, h => by
    show (obind (opd T o.2) fun v => omap (fun t => (o.1, v) :: t) (opP T l)) = (obind (opd T' o.2) fun v => omap (fun t => (o.1, v) :: t) (opP T' l))
    rw [h o (.head _), opP_congr fun x hx => h x (.tail _ hx)]
theorem opO_congr {T T' : Fm} {o : Option Operand} (h : ∀ x, o = some x → opd T x = opd T' x) : opO T o = opO T' o := by
  cases o with
  | none => rfl
  | some x => show omap some (opd T x) = omap some (opd T' x); rw [h x rfl]

theorem evB_congr {P : Program} {gl : Nat → Option AV} {T T' : Fm} {H : Hp} {op : Op} (h : ∀ o ∈ op.operands, opd T o = opd T' o) : evB P gl T H op = evB P gl T' H op := by
  cases op <;> simp only [Op.operands] at h <;> simp only [evB]
  case pick c a b => rw [h c (by simp), h a (by simp), h b (by simp)]
  case build t ps => rw [opP_congr (l := ps.toList) fun o ho => h o.2 (by simp; exact ⟨o.1, by simpa using ho⟩)]
  case buildSlice t n ps => rw [opP_congr (l := ps.toList) fun o ho => h o.2 (by simp; exact ⟨o.1, by simpa using ho⟩)]
  case store t a v => rw [h a (by simp), h v (by simp)]
  case binOp op t x y u => rw [h x (by simp), h y (by simp)]
  case makeFunc fn p q => rw [opL_congr (l := p.toList) fun o ho => h o (by simp; exact .inl (by simpa using ho)), opL_congr (l := q.toList) fun o ho => h o (by simp; exact .inr (by simpa using ho))]
  case makeMap t r => rw [opO_congr fun x hx => h x (by subst hx; simp)]
  case makeSlice t l c => rw [h l (by simp), h c (by simp)]
  case slice t x lo hi mx => rw [h x (by simp), opO_congr (o := lo) fun y hy => h y (by subst hy; simp), opO_congr (o := hi) fun y hy => h y (by subst hy; simp), opO_congr (o := mx) fun y hy => h y (by subst hy; simp)]
  case indexAddr t x i => rw [h x (by simp), h i (by simp)]
  case index t x i => rw [h x (by simp), h i (by simp)]
  case lookup t x k ok => rw [h x (by simp), h k (by simp)]
  case mapUpdate t m k v => rw [h m (by simp), h k (by simp), h v (by simp)]
  case insert t m k v => rw [h m (by simp), h k (by simp), h v (by simp)]
  case mapEntry t m k => rw [h m (by simp), h k (by simp)]
  case entryStore t m s v => rw [h m (by simp), h s (by simp), h v (by simp)]
  all_goals first | rfl | (rw [h _ (by simp)])

theorem evCall_congr {P : Program} {call rnd : Caller} {T T' : Fm} {H : Hp} {c : Call} (h : ∀ o ∈ c.operands, opd T o = opd T' o) : evCall P call rnd T H c = evCall P call rnd T' H c := by
  have ha : opL T c.args.toList = opL T' c.args.toList := opL_congr fun o ho => h o (by simp [Call.operands]; exact .inr (by simpa using ho))
  unfold evCall
  cases hc : c.callee with
  | builtin b => simp only [ha]
  | value f => simp only [ha, h f (by simp [Call.operands, hc])]
  | invoke r m => simp only [ha, h r (by simp [Call.operands, hc])]
theorem evOp_congr {P : Program} {gl : Nat → Option AV} {call rnd : Caller} {T T' : Fm} {H : Hp} {op : Op} (h : ∀ o ∈ op.operands, opd T o = opd T' o) : evOp P gl call rnd T H op = evOp P gl call rnd T' H op := by
  by_cases hc : ∃ c, op = .call c
  · obtain ⟨c, rfl⟩ := hc; exact evCall_congr h
  · unfold evOp
    split
    · rename_i c; exact absurd ⟨c, rfl⟩ hc
    · exact evB_congr h
theorem evN_congr {P : Program} {gl : Nat → Option AV} {T T' : Fm} {H : Hp} {op : Op} (h : ∀ o ∈ op.operands, opd T o = opd T' o) : evN P gl T H op = evN P gl T' H op := by
  by_cases hc : ∃ c, op = .call c
  · obtain ⟨c, rfl⟩ := hc
    have ha : opL T c.args.toList = opL T' c.args.toList := opL_congr fun o ho => h o (by simp [Op.operands, Call.operands]; exact .inr (by simpa using ho))
    unfold evN
    simp only [ha]
  · unfold evN
    split
    · rename_i c; exact absurd ⟨c, rfl⟩ hc
    · exact evB_congr h
theorem wantA_congr {ops : Array Oper} {T T' : Fm} {g : Option (Nat × Bool)} (h : ∀ j b t, g = some (j, b) → dstA ops j = some t → T.get t = T'.get t) : wantA ops T g = wantA ops T' g := by
  cases g with
  | none => rfl
  | some jb =>
    obtain ⟨j, b⟩ := jb
    have h' := h j b
    unfold dstA at h'
    unfold wantA
    simp only
    cases hd : (ops[j]?).bind (·.dst) with
    | none => rfl
    | some d => simp only; rw [h' d rfl hd]

/-! ### Operations that only read -/
noncomputable def isStrU (u : Option TypeDesc) : Bool := match u with | some .string => true | _ => false
noncomputable def roOp (P : Program) (op : Op) : Bool := match op with
  | .convert _ d _ => isStrU (P.underlying d)
  | .load _ _ => true
  | .lookup _ _ _ _ => true
  | .call c => (match c.callee with
    | .builtin .len => true
    | _ => false)
  | _ => false
theorem roOp_rel {P : Program} {gl : Nat → Option AV} {T : Fm} {H : Hp} {op : Op} {r : AV × Hp} (hr : roOp P op = true) (h : evN P gl T H op = some r) : r.2 = H := by
  unfold roOp at hr
  split at hr
  · rename_i sr d y
    have hd : P.underlying d = some .string := by
      unfold isStrU at hr
      split at hr
      · assumption
      · cases hr
    have h : (obind (opd T y) fun x => Option.rec (motive := fun _ => Option (AV × Hp)) (Option.rec (motive := fun _ => Option (AV × Hp)) (Option.rec (motive := fun _ => Option (AV × Hp)) (Option.rec (motive := fun _ => Option (AV × Hp)) (s2sA P H sr d x) (fun r => some r) (s2bA P H sr d x)) (fun v => some (v, H)) (upA P H sr d x)) (fun v => some (v, H)) (b2sA P H sr d x)) (fun v => some (v, H)) (cvA P sr d x)) = some r := h
    obtain ⟨x, _, h2⟩ := obind_some h
    have e1 : s2bA P H sr d x = none := by
      cases e : s2bA P H sr d x with
      | none => rfl
      | some q =>
        unfold s2bA at e
        obtain ⟨us, _, k1⟩ := obind_some e
        obtain ⟨ud, k2, k3⟩ := obind_some k1
        rw [hd] at k2
        cases k2
        split at k3 <;> first | (cases k3; done) | (exfalso; simp_all; done) | (exfalso; contradiction)
    have e2 : s2sA P H sr d x = none := by
      cases e : s2sA P H sr d x with
      | none => rfl
      | some q =>
        unfold s2sA at e
        obtain ⟨us, k1, k2⟩ := obind_some e
        split at k2
        · obtain ⟨ue, _, k3⟩ := obind_some k2
          split at k3
          · obtain ⟨_, k4⟩ := cnd_some k3
            obtain ⟨k5, _⟩ := cnd_some k4
            obtain rfl : sr = d := Nat.eq_of_beq_eq_true k5
            rw [hd] at k1
            cases k1
          · cases k3
        · cases k2
    rw [e1, e2] at h2
    cases h3 : cvA P sr d x with
    | some v => rw [h3] at h2; cases h2; rfl
    | none =>
      cases h4 : b2sA P H sr d x with
      | some v => rw [h3, h4] at h2; cases h2; rfl
      | none =>
        cases h5 : upA P H sr d x with
        | some v => rw [h3, h4, h5] at h2; cases h2; rfl
        | none => rw [h3, h4, h5] at h2; cases h2
  · unfold evN evB at h
    obtain ⟨x, _, h2⟩ := obind_some h
    rw [omap_eq, Option.map_eq_some_iff] at h2
    obtain ⟨v, _, rfl⟩ := h2
    rfl
  · unfold evN evB at h
    obtain ⟨x, _, h2⟩ := obind_some h
    obtain ⟨y, _, h3⟩ := obind_some h2
    rw [omap_eq, Option.map_eq_some_iff] at h3
    obtain ⟨v, _, rfl⟩ := h3
    rfl
  · rename_i c
    split at hr
    · rename_i hc
      unfold evN at h
      simp only [hc] at h
      obtain ⟨l, _, h2⟩ := obind_some h
      unfold bltA at h2
      split at h2 <;> first | (cases h2; done) | (rename_i e _ _; cases e) | skip
      all_goals (rw [omap_eq, Option.map_eq_some_iff] at h2; obtain ⟨v, _, rfl⟩ := h2; rfl)
    · cases hr
  · cases hr

/-! ### Are two values the same? -/
noncomputable def aveq (a : AV) : AV → Bool :=
  AV.rec (motive := fun _ => AV → Bool)
    (fun b x => match x with | .bool c => cnd b c (notB c) | _ => false)
    (fun k n x => match x with | .int j m => cnd (kEq k j) (eqZ n m) false | _ => false)
    (fun n d x => match x with | .str m e => seq n d m e | _ => false)
    (fun x => match x with | .nilp => true | _ => false)
    (fun i o x => match x with | .ptr j q => seq i o j q | _ => false)
    (fun i o x => match x with | .gptr j q => seq i o j q | _ => false)
    (fun x => match x with | .nils => true | _ => false)
    (fun a b c d x => match x with | .slice e f g h => cnd (seq a b e f) (seq c d g h) false | _ => false)
    (fun a b c d x => match x with | .slx e f g h => cnd (seq a b e f) (seq c d g h) false | _ => false)
    (fun x => match x with | .nilm => true | _ => false)
    (fun i x => match x with | .map j => Nat.beq i j | _ => false)
    (fun x => match x with | .nilf => true | _ => false)
    (fun f _p _q ihp ihq x => match x with | .func g r s => (match f, g with | .func i, .func j => cnd (Nat.beq i j) (cnd (ihp r) (ihq s) false) false | _, _ => false) | _ => false)
    (fun i x => match x with | .yld j => Nat.beq i j | _ => false)
    (fun x => match x with | .nili => true | _ => false)
    (fun t _ ih x => match x with | .iface u w => cnd (Nat.beq t u) (ih w) false | _ => false)
    (fun _ ih x => match x with | .agg s => ih s | _ => false)
    (fun _ ih x => match x with | .tup s => ih s | _ => false)
    (fun x => match x with | .rnil => true | _ => false)
    (fun _ _ ihv ihr x => match x with | .rone w s => cnd (ihv w) (ihr s) false | _ => false)
    (fun k n d _ ih x => match x with | .rpk j m e s => cnd (cnd k j (notB j)) (cnd (seq n d m e) (ih s) false) false | _ => false) a
theorem cnd_and {b c : Bool} (h : cnd b c false = true) : b = true ∧ c = true := by cases b <;> cases c <;> first | exact ⟨rfl, rfl⟩ | cases h
theorem cnd_beq {b c : Bool} (h : cnd b c (notB c) = true) : b = c := by cases b <;> cases c <;> first | rfl | cases h
theorem aveq_eq : ∀ {a b : AV}, aveq a b = true → a = b := by
  intro a
  induction a with
  | bool b => intro x h; cases x <;> first | (cases h; done) | (rw [cnd_beq h])
  | int k n => intro x h; cases x <;> first | (cases h; done) | (obtain ⟨h1, h2⟩ := cnd_and h; rw [kEq_eq h1]; rw [eqZ_eq] at h2; rw [eq_of_beq h2])
  | str n d => intro x h; cases x <;> first | (cases h; done) | (obtain ⟨h1, h2⟩ := seq_iff.1 h; rw [h1, h2])
  | nilp => intro x h; cases x <;> first | (cases h; done) | rfl
  | ptr n d => intro x h; cases x <;> first | (cases h; done) | (obtain ⟨h1, h2⟩ := seq_iff.1 h; rw [h1, h2])
  | gptr n d => intro x h; cases x <;> first | (cases h; done) | (obtain ⟨h1, h2⟩ := seq_iff.1 h; rw [h1, h2])
  | nils => intro x h; cases x <;> first | (cases h; done) | rfl
  | slice a b c d => intro x h; cases x <;> first | (cases h; done) | (obtain ⟨h1, h2⟩ := cnd_and h; obtain ⟨h3, h4⟩ := seq_iff.1 h1; obtain ⟨h5, h6⟩ := seq_iff.1 h2; rw [h3, h4, h5, h6])
  | slx a b c d => intro x h; cases x <;> first | (cases h; done) | (obtain ⟨h1, h2⟩ := cnd_and h; obtain ⟨h3, h4⟩ := seq_iff.1 h1; obtain ⟨h5, h6⟩ := seq_iff.1 h2; rw [h3, h4, h5, h6])
  | nilm => intro x h; cases x <;> first | (cases h; done) | rfl
  | map i => intro x h; cases x <;> first | (cases h; done) | (have h : Nat.beq _ _ = true := h; rw [Nat.eq_of_beq_eq_true h])
  | nilf => intro x h; cases x <;> first | (cases h; done) | rfl
  | func f p q ihp ihq =>
    intro x h
    cases x <;> try (cases h; done)
    rename_i g r s
    cases f <;> cases g <;> try (cases h; done)
    rename_i i j
    have h : cnd (Nat.beq i j) (cnd (aveq p r) (aveq q s) false) false = true := h
    obtain ⟨h1, h2⟩ := cnd_and h
    obtain ⟨h3, h4⟩ := cnd_and h2
    rw [Nat.eq_of_beq_eq_true h1, ihp h3, ihq h4]
  | yld i => intro x h; cases x <;> first | (cases h; done) | (have h : Nat.beq _ _ = true := h; rw [Nat.eq_of_beq_eq_true h])
  | nili => intro x h; cases x <;> first | (cases h; done) | rfl
  | iface t v ih =>
    intro x h
    cases x <;> try (cases h; done)
    rename_i u w
    have h : cnd (Nat.beq t u) (aveq v w) false = true := h
    obtain ⟨h1, h2⟩ := cnd_and h
    rw [Nat.eq_of_beq_eq_true h1, ih h2]
  | agg r ih => intro x h; cases x <;> first | (cases h; done) | (rw [ih h])
  | tup r ih => intro x h; cases x <;> first | (cases h; done) | (rw [ih h])
  | rnil => intro x h; cases x <;> first | (cases h; done) | rfl
  | rone v r ihv ihr =>
    intro x h
    cases x <;> try (cases h; done)
    rename_i w s
    have h : cnd (aveq v w) (aveq r s) false = true := h
    obtain ⟨h1, h2⟩ := cnd_and h
    rw [ihv h1, ihr h2]
  | rpk k n d r ih =>
    intro x h
    cases x <;> try (cases h; done)
    rename_i j m e s
    have h : cnd (cnd k j (notB j)) (cnd (seq n d m e) (aveq r s) false) false = true := h
    obtain ⟨h1, h2⟩ := cnd_and h
    obtain ⟨h3, h4⟩ := cnd_and h2
    obtain ⟨h5, h6⟩ := seq_iff.1 h3
    rw [cnd_beq h1, h5, h6, ih h4]
end Go.Ev
