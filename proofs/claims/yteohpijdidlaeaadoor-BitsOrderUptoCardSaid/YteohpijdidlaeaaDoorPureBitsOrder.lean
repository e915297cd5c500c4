/- The law BitsOrder (second form), with no program in sight. Conditions: none. -/
import Derived.Test.YteohpijdidlaeaaDoorXBits3
namespace Go.Proofs.YteohpijdidlaeaaDoor
open Go Go.Proofs.YteohpijdidlaeaaDoorM Go.Proofs.YteohpijdidlaeaaDoorX Go.Proofs.YteohpijdidlaeaaDoorL
set_option linter.unusedVariables false
theorem Pure.BitsOrder (y0 : List Int) (gy0 : (y0.length * 8 ≤ 140737488351232 ∧ ∀ e0 ∈ y0, (Lit.int .i64 e0).wf = true)) (hb : ((y0.map (fun x => 1)).sum + 1) ≤ 1048576) : ∃ N, BitsOrder_4 N ((y0, ()), ()) = some ((true, ()), ()) := by
  have hlen : y0.length ≤ 1048576 := by
    have e : (y0.map (fun _ => 1)).sum = y0.length := by
      clear gy0 hb
      induction y0 with
      | nil => rfl
      | cons a l ih => rw [List.map_cons, List.sum_cons, ih, List.length_cons]; omega
    have e2 : (y0.map (fun x => 1)).sum = y0.length := e
    omega
  refine ⟨2 * y0.length + 300, Ev.eq (Q := fun r => r = ((true, ()), ())) ?_ fun _ h => h⟩
  unfold BitsOrder_4
  dsimp only
  rw [ex_eq (by omega), bnd]
  refine Ev.bind (of_eq _ y0 (by omega) (by omega)) fun r2 h2 => ?_
  obtain ⟨s, e, rfl, hr⟩ : ∃ (s : Nat → Nat) (e : Int), r2 = ((tw s, e, ()), ()) ∧ ((inL y0 ∧ e = 0 ∧ OK s ∧ ∀ i, i < 256 → mem s i = hasL y0 i) ∨ (¬ inL y0 ∧ e = 1 ∧ s = zeroW)) := by
    rcases h2 with ⟨hin, s, hs, rfl, hm⟩ | ⟨hin, rfl⟩
    · exact ⟨s, 0, rfl, .inl ⟨hin, rfl, hs, hm⟩⟩
    · exact ⟨zeroW, 1, rfl, .inr ⟨hin, rfl, rfl⟩⟩
  rw [w64 (by omega) (by omega)]
  refine Ev.loop (fun n st => ∃ i : Nat, st = ((y0, true, (), e, (), (i : Int) - 1, ()), tw s, (y0.drop i).reverse, ()) ∧ n = i ∧ i ≤ y0.length) ?_ (k := y0.length) ⟨y0.length, by rw [List.drop_length]; rfl, rfl, Nat.le_refl _⟩ (by omega)
  rintro n st again ⟨i, rfl, hn, hi⟩ ih
  unfold BitsOrder_4_L5
  refine Ev.dec (fun h => ?_) fun h => ?_
  · have hlt : (i : Int) - 1 < (y0.length : Int) := by omega
    rw [if_pos ⟨by omega, hlt⟩, if_pos (by rw [List.length_reverse, List.length_drop]; omega)]
    have e1 : IntKind.wrap .i64 ((i : Int) - 1 - 1) = ((i - 1 : Nat) : Int) - 1 := by rw [w64 (by omega) (by omega)]; omega
    rw [e1]
    refine ih (i - 1) _ (by omega) ⟨i - 1, ?_, rfl, by omega⟩
    have e2 : ((i : Int) - 1).toNat = i - 1 := by omega
    have e3 := drop_getD (l := y0) (i := i - 1) (d := 0) (by omega)
    rw [show i - 1 + 1 = i by omega] at e3
    rw [e2, e3, List.reverse_cons]
  · have hi0 : i = 0 := by omega
    subst hi0
    rw [List.drop_zero, if_pos (by rw [List.length_reverse]; omega)]
    refine Ev.bind (of_eq _ (y0.reverse ++ y0) (by rw [List.length_append, List.length_reverse]; omega) (by rw [List.length_append, List.length_reverse]; omega)) fun r3 h3 => ?_
    rw [byB_true]
    have hin : inL (y0.reverse ++ y0) ↔ inL y0 := by
      constructor
      · intro h x hx; exact h x (List.mem_append_right _ hx)
      · intro h x hx
        rcases List.mem_append.1 hx with hx | hx
        · exact h x (List.mem_reverse.1 hx)
        · exact h x hx
    have hh : ∀ i, hasL (y0.reverse ++ y0) i = hasL y0 i := fun i => by
      unfold hasL
      rw [Bool.eq_iff_iff]
      simp
    rcases h3 with ⟨h4, t, ht, rfl, htm⟩ | ⟨h4, rfl⟩
    · rcases hr with ⟨h5, rfl, hs, hm⟩ | ⟨h5, _⟩
      · have := eq_tw' (ext4_tw hs ht fun i hi => by rw [hm i hi, htm i hi, hh])
        dsimp only
        rw [this, byB_true]
        exact Ev.mk rfl
      · exact absurd (hin.1 h4) h5
    · rcases hr with ⟨h5, _⟩ | ⟨h5, rfl, rfl⟩
      · exact absurd (hin.2 h5) h4
      · exact Ev.mk rfl
end Go.Proofs.YteohpijdidlaeaaDoor
