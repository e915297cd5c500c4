/- The law BitsMakes, with no program in sight. Conditions: none. -/
import Derived.Test.YteohpijdidlaeaaDoorXBits3
namespace Go.Proofs.YteohpijdidlaeaaDoor
open Go Go.Proofs.YteohpijdidlaeaaDoorM Go.Proofs.YteohpijdidlaeaaDoorX Go.Proofs.YteohpijdidlaeaaDoorL
theorem Pure.BitsMakes (y0 : List Int) (gy0 : (y0.length * 8 ≤ 140737488351232 ∧ ∀ e0 ∈ y0, (Lit.int .i64 e0).wf = true)) : ∃ N, BitsMakes_3 N ((y0, ()), ()) = some ((true, ()), ()) := by
  refine ⟨y0.length + 300, Ev.eq (Q := fun r => r = ((true, ()), ())) ?_ fun _ h => h⟩
  unfold BitsMakes_3
  dsimp only
  rw [ex_eq (by omega), bnd]
  refine Ev.bind (of_eq _ y0 (by omega) (by omega)) fun r2 h2 => ?_
  refine Ev.bind (rof_eq _ y0 (by omega) (by omega)) fun r3 h3 => ?_
  rcases h2 with ⟨hin, s, hs, rfl, hm⟩ | ⟨hin, rfl⟩
  · rcases h3 with ⟨_, m, rfl, hml, hmm⟩ | ⟨h, _⟩
    · rw [byB_not, byB_true, byB_true]
      refine Ev.beq (fun _ => ?_) fun h => absurd rfl h
      refine Ev.bind (words_eq _ m hml (by omega)) ?_
      rintro r ⟨t, ht, rfl, htm⟩
      exact Ev.mk (by rw [eq_tw (ext4_tw hs ht fun i hi => by rw [hm i hi, htm i hi, hmm i hi])])
    · exact absurd hin h
  · rcases h3 with ⟨h, _⟩ | ⟨_, rfl⟩
    · exact absurd h hin
    · rw [byB_not, byB_false, byB_true]
      refine Ev.beq (fun _ => ?_) fun h => absurd rfl h
      exact Ev.mk rfl
end Go.Proofs.YteohpijdidlaeaaDoor
