/- The law BitsWalk, with no program in sight. Conditions: none. -/
import Derived.Test.YteohpijdidlaeaaDoorXBits3
namespace Go.Proofs.YteohpijdidlaeaaDoor
open Go Go.Proofs.YteohpijdidlaeaaDoorM Go.Proofs.YteohpijdidlaeaaDoorX Go.Proofs.YteohpijdidlaeaaDoorL
theorem Pure.BitsWalk (y0 : Int × Int × Int × Int) (gy0 : ((Lit.int .u64 y0.1).wf = true ∧ ((Lit.int .u64 y0.2.1).wf = true ∧ ((Lit.int .u64 y0.2.2.1).wf = true ∧ (Lit.int .u64 y0.2.2.2).wf = true)))) : ∃ N, BitsWalk_5 N (((y0.1, y0.2.1, y0.2.2.1, y0.2.2.2, ()), ()), ()) = some ((true, ()), ()) := by
  obtain ⟨s, hs, e⟩ := words_of y0 gy0
  rw [e]
  refine ⟨600, Ev.eq (Q := fun r => r = ((true, ()), ())) ?_ fun _ h => h⟩
  unfold BitsWalk_5
  dsimp only
  rw [ex_eq (by omega), bnd]
  refine Ev.bind (first_eq _ hs (by omega)) ?_
  rintro r ⟨m, rfl, hm⟩
  refine Ev.loop (fun n st => ∃ (a : Nat) (m : Int), st = ((true, (), (a : Int) - 1, (cnt (mem s) a : Int), m, ()), tw s, ()) ∧ n = 256 - a ∧ a ≤ 256 ∧ IsNext (mem s) a m) ?_ (k := 256) ⟨0, m, rfl, rfl, by omega, hm⟩ (by omega)
  rintro n st again ⟨a, m, rfl, rfl, ha, hm⟩ ih
  unfold BitsWalk_5_L6
  refine Ev.dec (fun h => ?_) fun h => ?_
  · rcases hm with ⟨rfl, _⟩ | ⟨k, rfl, hak, hk, hmk, hn⟩
    · omega
    · have hc := cnt_le (mem s) a
      rw [byB_f (by omega)]
      dsimp only
      rw [byB_f (by omega), has_in _ hs k hk, bnd]
      dsimp only
      rw [hmk, byB_not, byB_true, byB_f (by omega)]
      rw [w64 (show -9223372036854775808 ≤ (a : Int) - 1 + 1 by omega) (by omega)]
      refine Ev.loop (fun n st => ∃ (q : Nat) (t25 : Int) (t26 : Bool) (t27 t28 t29 t30 t31 : Int) (t32 t33 : Bool) (t34 : Int) (t35 : Bool), st = ((true, (), (cnt (mem s) a : Int), (k : Int), (q : Int), t25, t26, (t27, t28, t29, t30, ()), t31, t32, t33, t34, t35, ()), tw s, ()) ∧ n = k - q ∧ a ≤ q ∧ q ≤ k) ?_ (k := k - a)
        ⟨a, _, _, _, _, _, _, _, _, _, _, _, by rw [show (a : Int) - 1 + 1 = a by omega], rfl, Nat.le_refl _, hak⟩ (by omega)
      rintro n st again2 ⟨q, t25, t26, t27, t28, t29, t30, t31, t32, t33, t34, t35, rfl, rfl, hq, hqk⟩ ih2
      unfold BitsWalk_5_L11
      refine Ev.dec (fun h => ?_) fun h => ?_
      · rw [has_in _ hs q (by omega), bnd]
        dsimp only
        rw [hn q hq (by omega), byB_false]
        have e1 : IntKind.wrap .i64 ((q : Int) + 1) = ((q + 1 : Nat) : Int) := by rw [w64 (by omega) (by omega)]; omega
        rw [e1]
        exact ih2 (k - (q + 1)) _ (by omega) ⟨q + 1, _, _, _, _, _, _, _, _, _, _, _, rfl, rfl, by omega, by omega⟩
      · refine Ev.bind (next_eq _ hs (by omega) (i := (k : Int)) (by omega) (by omega)) ?_
        rintro r ⟨m, rfl, hm'⟩
        have e1 : IntKind.wrap .i64 ((cnt (mem s) a : Int) + 1) = ((cnt (mem s) (k + 1) : Nat) : Int) := by
          rw [w64 (by omega) (by omega)]
          have : cnt (mem s) (k + 1) = cnt (mem s) k + 1 := by
            show cnt (mem s) k + (mem s k).toNat = _
            rw [hmk]; rfl
          rw [this, cnt_none hak hn]
          omega
        rw [e1]
        refine ih (256 - (k + 1)) _ (by omega) ⟨k + 1, m, ?_, rfl, by omega, by rw [show ((k : Int) + 1).toNat = k + 1 by omega] at hm'; exact hm'⟩
        rw [show ((k + 1 : Nat) : Int) - 1 = k by omega]
  · rcases hm with ⟨rfl, hn⟩ | ⟨k, rfl, hak, hk, hmk, hn⟩
    · rw [byB_true]
      refine Ev.bind (count_eq _ hs (by omega)) ?_
      rintro r rfl
      rw [cnt_none ha hn]
      exact Ev.mk (by simp)
    · omega
end Go.Proofs.YteohpijdidlaeaaDoor
