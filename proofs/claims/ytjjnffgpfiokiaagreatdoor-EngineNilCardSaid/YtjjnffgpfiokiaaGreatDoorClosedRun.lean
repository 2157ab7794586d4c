/- The run of the law EngineNil: out of any world it answers true, and what lay there stands as it did. No conditions. -/
import Derived.Test.YtjjnffgpfiokiaaGreatDoorClosedCut
namespace Go.Proofs.YtjjnffgpfiokiaaGreatDoor.closed
open Go Go.Ev Go.RowKit
noncomputable def orS (a b : Option (AV × Hp)) : Option (AV × Hp) := Option.rec (motive := fun _ => Option (AV × Hp)) b (fun r => some r) a
theorem orS_some {a b : Option (AV × Hp)} {r : AV × Hp} (h : orS a b = some r) : a = some r ∨ b = some r := by
  cases a with
  | none => exact .inr h
  | some x => exact .inl h
noncomputable def hk2 (f : Nat) : HK := cnd (Nat.beq f 11) (.known (fun l H => (orS (cutA cl0 4 ck0 ct0 cq0 l H) (orS (cutA cl1 8 ck1 ct1 cq1 l H) (orS (cutA cl5 934 ck5 ct5 cq5 l H) (cutA cl6 5715 ck6 ct6 cq6 l H)))))) (cnd (Nat.beq f 19) (.known (fun l H => (orS (cutA cl2 10 ck2 ct2 cq2 l H) (cutA cl4 191 ck4 ct4 cq4 l H)))) (cnd (Nat.beq f 60) (.known (fun l H => (cutA cl3 10 ck3 ct3 cq3 l H))) (hk f)))
set_option maxRecDepth 100000 in
set_option maxHeartbeats 100000000 in
theorem run : allTr ((lvlM Tryz.prog (fun _ => none) (drawn Tryz.prog (fun _ => none)) (extT Tryz.prog tb0) 100000 hk2 24).1 3 [] H00) = true := by decide +kernel
theorem known2 (base : Nat) (w0 : World) : KnownOk Tryz.prog base w0 hk2 := by
  intro f s h
  unfold hk2 at h
  rw [cnd_eq] at h
  split at h
  · rename_i e
    obtain rfl := Nat.eq_of_beq_eq_true e
    cases h
    refine ⟨fnC11, fun l E H w args r hs hl hI => ?_⟩
    rcases orS_some hs with hs | hs
    · exact cut_known (fun g r h => by cases h) (drawn_ok fo (fun g r h => by cases h)) (extT_ok tbOk) (known base w0) noGo' fnC11 cut0 l E H w args r hs hl hI
    · skip
      rcases orS_some hs with hs | hs
      · exact cut_known (fun g r h => by cases h) (drawn_ok fo (fun g r h => by cases h)) (extT_ok tbOk) (known base w0) noGo' fnC11 cut1 l E H w args r hs hl hI
      · skip
        rcases orS_some hs with hs | hs
        · exact cut_known (fun g r h => by cases h) (drawn_ok fo (fun g r h => by cases h)) (extT_ok tbOk) (known base w0) noGo' fnC11 cut5 l E H w args r hs hl hI
        · skip
          exact cut_known (fun g r h => by cases h) (drawn_ok fo (fun g r h => by cases h)) (extT_ok tbOk) (known base w0) noGo' fnC11 cut6 l E H w args r hs hl hI
  · skip
    rw [cnd_eq] at h
    split at h
    · rename_i e
      obtain rfl := Nat.eq_of_beq_eq_true e
      cases h
      refine ⟨fnC19, fun l E H w args r hs hl hI => ?_⟩
      rcases orS_some hs with hs | hs
      · exact cut_known (fun g r h => by cases h) (drawn_ok fo (fun g r h => by cases h)) (extT_ok tbOk) (known base w0) noGo' fnC19 cut2 l E H w args r hs hl hI
      · skip
        exact cut_known (fun g r h => by cases h) (drawn_ok fo (fun g r h => by cases h)) (extT_ok tbOk) (known base w0) noGo' fnC19 cut4 l E H w args r hs hl hI
    · skip
      rw [cnd_eq] at h
      split at h
      · rename_i e
        obtain rfl := Nat.eq_of_beq_eq_true e
        cases h
        refine ⟨fnC60, fun l E H w args r hs hl hI => ?_⟩
        exact cut_known (fun g r h => by cases h) (drawn_ok fo (fun g r h => by cases h)) (extT_ok tbOk) (known base w0) noGo' fnC60 cut3 l E H w args r hs hl hI
      · skip
        exact known base w0 f s h
theorem walk (w : World) : Calls Tryz.prog 3 #[] w (fun e w' => e = .returned (.bool true) ∧ Below w.heap.size w w') :=
  ev_callsM noGo' run w (fun g r h => by cases h) (drawn_ok fo (fun g r h => by cases h)) (extT_ok tbOk) (known2 _ _) fnF
end Go.Proofs.YtjjnffgpfiokiaaGreatDoor.closed
