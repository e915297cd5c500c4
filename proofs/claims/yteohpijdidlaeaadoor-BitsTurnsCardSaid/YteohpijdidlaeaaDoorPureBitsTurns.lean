/- The law BitsTurns, with no program in sight. Conditions: none. -/
import Derived.Test.YteohpijdidlaeaaDoorXBits3
namespace Go.Proofs.YteohpijdidlaeaaDoor
open Go Go.Proofs.YteohpijdidlaeaaDoorM Go.Proofs.YteohpijdidlaeaaDoorX Go.Proofs.YteohpijdidlaeaaDoorL
theorem Pure.BitsTurns (y0 : Int × Int × Int × Int) (y1 : Int) (gy0 : ((Lit.int .u64 y0.1).wf = true ∧ ((Lit.int .u64 y0.2.1).wf = true ∧ ((Lit.int .u64 y0.2.2.1).wf = true ∧ (Lit.int .u64 y0.2.2.2).wf = true)))) (gy1 : (Lit.int .i64 y1).wf = true) : ∃ N, BitsTurns_6 N (((y0.1, y0.2.1, y0.2.2.1, y0.2.2.2, ()), y1, ()), ()) = some ((true, ()), ()) := by
  obtain ⟨s, hs, e⟩ := words_of y0 gy0
  rw [e]
  have g1 := wf64 gy1
  refine ⟨600, Ev.eq (Q := fun r => r = ((true, ()), ())) ?_ fun _ h => h⟩
  unfold BitsTurns_6
  dsimp only
  rw [ex_eq (by omega), bnd]
  dsimp only
  by_cases hi : 0 ≤ y1 ∧ y1 < 256
  · obtain ⟨i, rfl⟩ : ∃ i : Nat, y1 = i := ⟨y1.toNat, by omega⟩
    have hi' : i < 256 := by omega
    rw [with_in _ hs i hi', bnd, without_in _ hs i hi', bnd, byB_f (by omega), byB_f (by omega)]
    refine Ev.bind (levels_eq _ hs (by omega)) ?_
    rintro r ⟨l, rfl, hl, hm⟩
    dsimp only
    rw [if_pos (by omega), Int.toNat_natCast]
    refine Ev.bind (words_eq _ (l.set i true) (by rw [List.length_set]; exact hl) (by omega)) ?_
    rintro r ⟨t, ht, rfl, htm⟩
    rw [if_pos (by rw [List.length_set]; omega)]
    refine Ev.bind (words_eq _ ((l.set i true).set i false) (by rw [List.length_set, List.length_set]; exact hl) (by omega)) ?_
    rintro r ⟨u, hu, rfl, hum⟩
    dsimp only
    rw [byB_true, eq_tw (s := withB s i) (t := t) (ext4_tw (withB_ok hs i) ht fun j hj => by
      rw [withB_mem, htm j hj, setD (by omega), ← hm j hj]
      by_cases e : j = i
      · subst e; simp
      · have : ¬ i = j := fun e' => e e'.symm
        simp [e, this]), byB_true]
    rw [eq_tw (s := without s i) (t := u) (ext4_tw (without_ok hs i) hu fun j hj => by
      rw [without_mem, hum j hj, setD (by rw [List.length_set]; omega), setD (by omega), ← hm j hj]
      by_cases e : j = i
      · subst e; simp
      · have : ¬ i = j := fun e' => e e'.symm
        simp [e, this]), byB_true]
    exact Ev.mk (by rw [eq_tw (s := s) (t := s) rfl])
  · rw [with_out _ s hi, bnd, without_out _ s hi, bnd]
    dsimp only
    have hx := eq_tw' (s := s) (t := s) rfl
    by_cases h0 : y1 < 0
    · rw [byB_t h0, byB_true, hx, byB_true]
      exact Ev.mk rfl
    · rw [byB_f h0, byB_t (by omega), byB_true, hx, byB_true]
      exact Ev.mk rfl
end Go.Proofs.YteohpijdidlaeaaDoor
