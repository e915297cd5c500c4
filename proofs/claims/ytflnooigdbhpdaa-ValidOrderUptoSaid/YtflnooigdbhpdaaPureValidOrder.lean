/- The plain law ValidOrder. Conditions: its own. -/
import Derived.Test.YtflnooigdbhpdaaXRight8
namespace Go.Proofs.Ytflnooigdbhpdaa.Pure
open Go Go.Proofs.YtflnooigdbhpdaaM Go.Proofs.YtflnooigdbhpdaaX Go.Proofs.YtflnooigdbhpdaaL Go.Proofs.YtflnooigdbhpdaaC
set_option linter.unusedVariables false
set_option linter.unusedSimpArgs false

theorem ValidOrder (y0 : Int × Int × Int × Int × Int × Int × Int × Int × (List (Int × Int × Int × (List (Int × Int × Int))))) (gy0 : ((Lit.int .i64 y0.1).wf = true ∧ ((Lit.int .i64 y0.2.1).wf = true ∧ ((Lit.int .i64 y0.2.2.1).wf = true ∧ ((Lit.int .i64 y0.2.2.2.1).wf = true ∧ ((Lit.int .i64 y0.2.2.2.2.1).wf = true ∧ ((Lit.int .i64 y0.2.2.2.2.2.1).wf = true ∧ ((Lit.int .i64 y0.2.2.2.2.2.2.1).wf = true ∧ ((Lit.int .i64 y0.2.2.2.2.2.2.2.1).wf = true ∧ (y0.2.2.2.2.2.2.2.2.length * 48 ≤ 140737488351232 ∧ ∀ e0 ∈ y0.2.2.2.2.2.2.2.2, ((Lit.int .i64 e0.1).wf = true ∧ ((Lit.int .i64 e0.2.1).wf = true ∧ ((Lit.int .i64 e0.2.2.1).wf = true ∧ (e0.2.2.2.length * 24 ≤ 140737488351232 ∧ ∀ e1 ∈ e0.2.2.2, ((Lit.int .i64 e1.1).wf = true ∧ ((Lit.int .i64 e1.2.1).wf = true ∧ (Lit.int .i64 e1.2.2).wf = true)))))))))))))))) (hb : ((1 + (1 + (1 + (1 + (1 + (1 + (1 + (1 + ((y0.2.2.2.2.2.2.2.2.map (fun x => ((1 + (1 + (1 + ((x.2.2.2.map (fun x => ((1 + (1 + 1)) + 1))).sum + 1)))) + 1))).sum + 1))))))))) + 1) ≤ 1048576) : ∃ N, ValidOrder_6 N (((y0.1, y0.2.1, y0.2.2.1, y0.2.2.2.1, y0.2.2.2.2.1, y0.2.2.2.2.2.1, y0.2.2.2.2.2.2.1, y0.2.2.2.2.2.2.2.1, y0.2.2.2.2.2.2.2.2, ()), ()), ()) = some ((true, ()), ()) := by
  have hl : y0.2.2.2.2.2.2.2.2.length ≤ 1048576 := by
    have : y0.2.2.2.2.2.2.2.2.length ≤ (y0.2.2.2.2.2.2.2.2.map (fun x => ((1 + (1 + (1 + ((x.2.2.2.map (fun x => ((1 + (1 + 1)) + 1))).sum + 1)))) + 1))).sum := by
      generalize y0.2.2.2.2.2.2.2.2 = l
      induction l with
      | nil => simp
      | cons a r ih =>
        simp only [List.length_cons, List.map_cons, List.sum_cons]
        omega
    omega
  obtain ⟨s0, s1, s2, s3, s4, s5, s6, s7, l⟩ := y0
  dsimp only at hl ⊢
  obtain ⟨N, hN⟩ : ∃ N : Nat, l.length + 1000 ≤ N := ⟨_, Nat.le_refl _⟩
  refine ⟨N, ?_⟩
  unfold ValidOrder_6
  dsimp only
  have hex : examples_7 N ((), ()) = some ((true, ()), ()) := by unfold examples_7; rw [if_pos (by omega)]
  rw [hex, bnd, w64 (by omega) (by omega)]
  refine loopN_ind (fun k s => ∃ acc : List Tk, k ≤ l.length ∧ acc = (l.drop k).reverse ∧ s = (((), true, (), (k : Int) - 1, ()), (s0, s1, s2, s3, s4, s5, s6, s7, l, ()), acc, ())) (fun _ => some ((true, ()), ())) ?_ l.length _ N ⟨[], Nat.le_refl _, by simp, rfl⟩ (by omega)
  rintro k s again ⟨acc, hk, rfl, rfl⟩ ih
  unfold ValidOrder_6_L4
  dsimp only
  have hlen : (l.drop k).reverse.length = l.length - k := by simp
  cases k with
  | succ k =>
    have hkl : k < l.length := by omega
    rw [byB_not, byB_f (by omega), if_pos ⟨by omega, by omega⟩, if_pos (by omega), w64 (by omega) (by omega), show ((k + 1 : Nat) : Int) - 1 = (k : Int) by omega, Int.toNat_natCast]
    refine ih k _ (by omega) ⟨(l.drop k).reverse, by omega, rfl, ?_⟩
    rw [drop_getD (l := l) (i := k) (d := (0, 0, 0, [])) hkl, List.reverse_cons]
  | zero =>
    rw [byB_not, byB_t (by omega), List.drop_zero, if_pos (by simp; omega)]
    simp only [right_at (show 30 ≤ N by omega), bnd, byB_true]
    have h1 : rightB s0 s1 s2 s3 s4 s5 s6 s7 l.reverse = rightB s0 s1 s2 s3 s4 s5 s6 s7 l := by
      unfold rightB wholeB
      rw [List.all_reverse, List.length_reverse]
    rw [h1, show (rightB s0 s1 s2 s3 s4 s5 s6 s7 l == rightB s0 s1 s2 s3 s4 s5 s6 s7 l) = true by simp, byB_true, byB_not]
    by_cases hg : ((l.reverse ++ l).length : Int) ≤ 24
    · rw [byB_t hg]
      have h2 : rightB s0 s1 s2 s3 s4 s5 s6 s7 (l.reverse ++ l) = rightB s0 s1 s2 s3 s4 s5 s6 s7 l := by
        unfold rightB
        rw [List.all_append, List.all_reverse, Bool.and_self]
        congr 1
        unfold wholeB
        have e : ((l.reverse ++ l).length : Int) = 2 * (l.length : Int) := by simp; omega
        rw [e] at hg ⊢
        congr 1
        refine propext ⟨fun h => ⟨h.1, h.2.1, h.2.2.1, h.2.2.2.1, h.2.2.2.2.1, h.2.2.2.2.2.1, h.2.2.2.2.2.2.1, h.2.2.2.2.2.2.2.1, ?_⟩, fun h => ⟨h.1, h.2.1, h.2.2.1, h.2.2.2.1, h.2.2.2.2.1, h.2.2.2.2.2.1, h.2.2.2.2.2.2.1, h.2.2.2.2.2.2.2.1, ?_⟩⟩
        · have := h.2.2.2.2.2.2.2.2; omega
        · have := h.2.2.2.2.2.2.2.2; omega
      rw [h2]
      simp
    · rw [byB_f hg]
end Go.Proofs.Ytflnooigdbhpdaa.Pure
