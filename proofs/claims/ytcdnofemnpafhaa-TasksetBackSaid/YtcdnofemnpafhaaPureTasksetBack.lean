/- The law TasksetBack, with no program in sight. Conditions: none. -/
import Derived.Test.YtcdnofemnpafhaaXH
import Derived.Test.YtcdnofemnpafhaaPureTasksetTells
namespace Go.Proofs.Ytcdnofemnpafhaa.Pure
open Go Go.Proofs.YtcdnofemnpafhaaM Go.Proofs.YtcdnofemnpafhaaX Go.Proofs.YtcdnofemnpafhaaL Go.Proofs.YtcdnofemnpafhaaC
set_option linter.unusedVariables false
set_option linter.unusedSimpArgs false
theorem back2 {N : Nat} {b : ByteArray} (hb : b.size ≤ 140737488351232) (hN : b.size + 200000 < N) :
    Ev ((Decode_12v1 N ((b, ()), ())).bind fun y17 =>
      byB (y17.1.2.1 != 0)
        (byB true
            (byB (y17.1.1.1 == 0)
                (some (((y17.2.1.length : Int) == 0, ()), ()))
                (some ((false, ()), ())))
            (some ((false, ()), ())))
        ((Encode_9 N (((y17.1.1.1, y17.1.1.2.1, y17.1.1.2.2.1, y17.1.1.2.2.2.1, y17.1.1.2.2.2.2.1, y17.1.1.2.2.2.2.2.1, y17.1.1.2.2.2.2.2.2.1, y17.1.1.2.2.2.2.2.2.2.1, y17.2.1, ()), ()), ())).bind fun y22 =>
          byB true
            (byB (y22.1.2.1 == 0)
                (some ((y22.1.1.toList == b.toList, ()), ()))
                (some ((false, ()), ())))
            (some ((false, ()), ())))) fun y => y = ((true, ()), ()) := by
  refine Ev.bind (decode_at (N := N) (b := b) (by omega) (by omega)) fun y hy => ?_
  have err : ∀ e : Int, e ≠ 0 → y = rs (z0, e) → Ev (byB (y.1.2.1 != 0)
        (byB true
            (byB (y.1.1.1 == 0)
                (some (((y.2.1.length : Int) == 0, ()), ()))
                (some ((false, ()), ())))
            (some ((false, ()), ())))
        ((Encode_9 N (((y.1.1.1, y.1.1.2.1, y.1.1.2.2.1, y.1.1.2.2.2.1, y.1.1.2.2.2.2.1, y.1.1.2.2.2.2.2.1, y.1.1.2.2.2.2.2.2.1, y.1.1.2.2.2.2.2.2.2.1, y.2.1, ()), ()), ())).bind fun y22 =>
          byB true
            (byB (y22.1.2.1 == 0)
                (some ((y22.1.1.toList == b.toList, ()), ()))
                (some ((false, ()), ())))
            (some ((false, ()), ())))) fun y => y = ((true, ()), ()) := by
    rintro e he rfl
    rw [byB_net (show (rs (z0, e)).1.2.1 ≠ 0 from he), byB_true, byB_eqt (show (rs (z0, e)).1.1.1 = 0 from rfl)]
    exact Ev.mk rfl
  rcases hy with ⟨e, he, hy, _⟩ | ⟨x, hx, rfl, hy⟩
  · exact err e he hy
  · by_cases h0 : (decB x).2 = 0
    · obtain ⟨h1, h2, h3⟩ := decB_inv h0
      subst hy
      rw [byB_nef (show (rs (decB x)).1.2.1 = 0 from h0)]
      refine Ev.bind (encode_at (N := N) (by omega) (s := (decB x).1) fun _ => okL_wf h2) fun a ha => ?_
      rcases ha with ⟨k1, _⟩ | ⟨_, k1, _⟩ | ⟨_, _, rfl⟩
      · exact absurd h1 k1
      · exact absurd h2 k1
      · rw [byB_true, byB_eqt rfl, str_eq]
        exact Ev.mk (by rw [decide_eq_true (by rw [← h3])])
    · refine err (decB x).2 h0 ?_
      rw [hy, ← decB_err h0]
theorem TasksetBack (y0 : Int × Int × Int × Int × Int × Int × Int × Int × (List (Int × Int × Int × (List (Int × Int × Int))))) (y1 : ByteArray) (gy0 : ((Lit.int .i64 y0.1).wf = true ∧ ((Lit.int .i64 y0.2.1).wf = true ∧ ((Lit.int .i64 y0.2.2.1).wf = true ∧ ((Lit.int .i64 y0.2.2.2.1).wf = true ∧ ((Lit.int .i64 y0.2.2.2.2.1).wf = true ∧ ((Lit.int .i64 y0.2.2.2.2.2.1).wf = true ∧ ((Lit.int .i64 y0.2.2.2.2.2.2.1).wf = true ∧ ((Lit.int .i64 y0.2.2.2.2.2.2.2.1).wf = true ∧ (y0.2.2.2.2.2.2.2.2.length * 48 ≤ 140737488351232 ∧ ∀ e0 ∈ y0.2.2.2.2.2.2.2.2, ((Lit.int .i64 e0.1).wf = true ∧ ((Lit.int .i64 e0.2.1).wf = true ∧ ((Lit.int .i64 e0.2.2.1).wf = true ∧ (e0.2.2.2.length * 24 ≤ 140737488351232 ∧ ∀ e1 ∈ e0.2.2.2, ((Lit.int .i64 e1.1).wf = true ∧ ((Lit.int .i64 e1.2.1).wf = true ∧ (Lit.int .i64 e1.2.2).wf = true)))))))))))))))) (gy1 : y1.size ≤ 140737488351232) : ∃ N, TasksetBack_5 N (((y0.1, y0.2.1, y0.2.2.1, y0.2.2.2.1, y0.2.2.2.2.1, y0.2.2.2.2.2.1, y0.2.2.2.2.2.2.1, y0.2.2.2.2.2.2.2.1, y0.2.2.2.2.2.2.2.2, ()), y1, ()), ()) = some ((true, ()), ()) := by
  have w0 := wfS_of (y0 := y0) gy0
  refine ⟨y1.size + 300000, Ev.eq (Q := fun r => r = ((true, ()), ())) ?_ fun _ h => h⟩
  have hb2 := back2 (N := y1.size + 300000) (b := y1) gy1 (by omega)
  unfold TasksetBack_5
  dsimp only
  rw [ex07 (by omega), bnd]
  refine Ev.bind (encode_at (N := y1.size + 300000) (by omega) (s := y0) w0) fun a ha => ?_
  dsimp only
  have bad : ∀ e : Int, a.1.2.1 = e → e ≠ 0 → a.1.2.1 ≠ 0 := fun e h h2 => by rw [h]; exact h2
  rcases ha with ⟨_, rfl⟩ | ⟨_, _, rfl⟩ | ⟨g, o, rfl⟩
  · rw [byB_eqf (by decide)]
    exact hb2
  · rw [byB_eqf (by decide)]
    exact hb2
  · rw [byB_eqt rfl]
    have hl := nums_len g
    refine Ev.bind (decode_sealed (by omega) o (by omega)) ?_
    rintro y rfl
    rw [dec_full g]
    refine Ev.bind (same_at (N := y1.size + 300000) (by omega) (s := y0) (t := y0) g g) ?_
    rintro y rfl
    dsimp only
    rw [decide_eq_true rfl, byB_not, byB_true, byB_nef (show (rs (y0, 0)).1.2.1 = 0 from rfl)]
    exact hb2
end Go.Proofs.Ytcdnofemnpafhaa.Pure
