/- The plain law DemandTops. Conditions: its own. -/
import Derived.Test.YtabdnglgdbjbiaaXDemand5
namespace Go.Proofs.Ytabdnglgdbjbiaa.Pure
open Go Go.Proofs.YtabdnglgdbjbiaaM Go.Proofs.YtabdnglgdbjbiaaX Go.Proofs.YtabdnglgdbjbiaaL Go.Proofs.YtabdnglgdbjbiaaC Go.Proofs.YtabdnglgdbjbiaaQ
set_option linter.unusedVariables false
set_option linter.unusedSimpArgs false

def top (x : Wk) : Wk := (x.1, x.2.1, x.2.2.1, true)
theorem set_at {α : Type} (A B : List α) (x v : α) : (A ++ x :: B).set A.length v = A ++ v :: B := by
  rw [List.set_append_right _ _ (by simp)]
  simp
theorem wok_top {x : Wk} : wok (top x) = wok x := by unfold wok top; rfl
theorem least_top : ∀ (l : List Wk) (m : Int), least (l.map top) m = m
  | [], m => by rw [List.map_nil, least_nil]
  | x :: l, m => by
    rw [List.map_cons, least_cons, if_neg (by simp [top])]
    exact least_top l m
theorem a1_top {t r : Int} {x : Wk} (ht : 1 ≤ t) (hx : wok x = true) : a1 t r x ≤ a1 t r (top x) := by
  have := own_le ht hx
  have e : own t (top x) = (cd t x.2.1 + 1) * x.1 := by
    unfold own top
    rw [if_pos rfl]
  unfold a1
  rw [e]
  by_cases c : cd t x.2.1 + 2 > 9223372036854775807
  · rw [if_pos c, if_pos (show cd t (top x).2.1 + 2 > 9223372036854775807 from c)]; omega
  · rw [if_neg c, if_neg (show ¬ cd t (top x).2.1 + 2 > 9223372036854775807 from c)]
    show _ ≤ _ + (cd t x.2.1 + 2) * r
    omega
theorem asum_top {t r : Int} (ht : 1 ≤ t) : ∀ {l : List Wk}, (∀ x ∈ l, wok x = true) → asum t r l ≤ asum t r (l.map top)
  | [], _ => by rw [List.map_nil]; omega
  | x :: l, h => by
    have h1 := a1_top (r := r) ht (h x (.head _))
    have h2 := asum_top ht (r := r) (fun y hy => h y (.tail _ hy))
    rw [List.map_cons, asum_cons, asum_cons]
    omega
theorem rt_top {l : List Wk} {b r : Int} : rt (l.map top) b r = rt l b r := by
  unfold rt
  rw [List.length_map, List.all_map]
  have : (wok ∘ top) = wok := by funext x; exact wok_top
  rw [this]
theorem tops_fin {N : Nat} {b r t : Int} {l : List Wk} (hl : l.length * 32 ≤ 140737488351232) (hN : 6000 + l.length ≤ N) (ht : t ≤ 9223372036854775807) :
    ((Test_16 N ((l.map top, b, r, ()), ())).bind fun y16 =>
        (Ask_11 N ((l, b, r, t, ()), ())).bind fun y17 =>
        (Ask_11 N ((l.map top, b, r, t, ()), ())).bind fun y18 =>
        byB (y16.1.1 == 1)
          (byB true
              (byB (y17.1.2.1 == 1)
                  (some ((y18.1.2.1 == 1, ()), ()))
                  (some ((false, ()), ())))
              (some ((false, ()), ())))
          (byB true
              (byB (y16.1.1 == 0)
                  (byB (y17.1.2.1 != 0)
                      (some ((true, ()), ()))
                      (byB (y18.1.2.1 != 0)
                          (some ((true, ()), ()))
                          (some ((decide (y18.1.1 ≥ y17.1.1), ()), ()))))
                  (some ((false, ()), ())))
              (some ((false, ()), ())))) = some (((true, ()), ()) : ((Bool × Unit) × Unit)) := by
  have hl2 : (l.map top).length = l.length := List.length_map ..
  rw [test_at _ (by omega) (by omega) (by omega), bnd, ask_at ht _ (by omega) (by omega) (by omega), bnd, ask_at ht _ (by omega) (by omega) (by omega), bnd, byB_true, byB_true]
  simp only [two]
  unfold testS
  rw [rt_top]
  by_cases c : rt l b r = true
  · obtain ⟨hw, hl, h6⟩ := rt_of c
    have e : testR (l.map top) b r = 0 := by
      unfold testR
      rw [least_top, if_pos (by omega)]
    rw [if_pos c, e, byB_eqf (by decide), byB_eqt rfl]
    by_cases c2 : 1 ≤ t
    · have e2 : rt (l.map top) b r = true := by rw [rt_top]; exact c
      have h7 := asum_top (t := t) (r := r) c2 hw
      rw [askS_ok c c2, askS_ok e2 c2]
      by_cases c3 : b + asum t r (l.map top) ≤ 9223372036854775807
      · rw [tot_ok c3, tot_ok (by omega)]
        simp only [byB_nef, decide_eq_true (show b + asum t r (l.map top) ≥ b + asum t r l by omega)]
      · rw [tot_no c3]
        simp only [byB_net (show ¬ (2 : Int) = 0 by decide)]
        exact byB_same
    · rw [askS_no (by omega)]
      simp only [byB_net (show ¬ (1 : Int) = 0 by decide)]
  · rw [if_neg c, byB_eqt rfl, askS_no (by simp [c]), askS_no (by rw [rt_top]; simp [c]), byB_eqt rfl]
    rfl
theorem tops_loop {N : Nat} {b r t : Int} {l : List Wk} (hl : l.length * 32 ≤ 140737488351232) (hN : 6000 + l.length ≤ N) (ht : t ≤ 9223372036854775807) : ∀ (d i k : Nat), i + d = l.length → d < k →
    loopN k (DemandTops_9_L4 N) ((l, b, r, t, true, (), (i : Int), ()), (l.take i).map top ++ l.drop i, ()) = some ((true, ()), ()) := by
  intro d
  induction d with
  | zero =>
    intro i k hd hk
    obtain ⟨k, rfl⟩ : ∃ j, k = j + 1 := ⟨k - 1, by omega⟩
    rw [List.take_of_length_le (by omega), List.drop_of_length_le (by omega), List.append_nil]
    have hl2 : (l.map top).length = l.length := List.length_map ..
    rw [loopN_succ, DemandTops_9_L4]
    try dsimp only
    rw [byB_f (by omega)]
    exact tops_fin hl hN ht
  | succ d ih =>
    intro i k hd hk
    obtain ⟨k, rfl⟩ : ∃ j, k = j + 1 := ⟨k - 1, by omega⟩
    have hi : i < l.length := by omega
    have hnx : IntKind.wrap .i64 ((i : Int) + 1) = ((i + 1 : Nat) : Int) := by rw [w64 (by omega) (by omega)]; omega
    have hlen : ((l.take i).map top).length = i := by simp; omega
    have hlen2 : ((l.take i).map top ++ l.drop i).length = l.length := by simp; omega
    have e : ((l.take i).map top ++ l.drop i).getD i (0, 0, 0, false) = l.getD i (0, 0, 0, false) := by
      rw [getD_app_r (by omega), hlen, Nat.sub_self, drop_getD (d := (0, 0, 0, false)) hi]
      rfl
    have e2 : ((l.take i).map top ++ l.drop i).set i (top (l.getD i (0, 0, 0, false))) = (l.take (i + 1)).map top ++ l.drop (i + 1) := by
      rw [take_succ_getD (d := (0, 0, 0, false)) hi, drop_getD (d := (0, 0, 0, false)) hi, List.map_append, List.append_assoc]
      have := set_at ((l.take i).map top) (l.drop (i + 1)) (l.getD i (0, 0, 0, false)) (top (l.getD i (0, 0, 0, false)))
      rw [hlen] at this
      rw [this]
      rfl
    have f := ih (i + 1) k (by omega) (by omega)
    rw [← e2] at f
    rw [loopN_succ, DemandTops_9_L4]
    try dsimp only
    rw [byB_t (by omega), if_pos (by omega), Int.toNat_natCast, hnx, e]
    exact f
theorem DemandTops (y0 : List (Int × Int × Int × Bool)) (y1 : Int) (y2 : Int) (y3 : Int) (gy0 : (y0.length * 32 ≤ 140737488351232 ∧ ∀ e0 ∈ y0, ((Lit.int .i64 e0.1).wf = true ∧ ((Lit.int .i64 e0.2.1).wf = true ∧ ((Lit.int .i64 e0.2.2.1).wf = true ∧ True))))) (gy1 : (Lit.int .i64 y1).wf = true) (gy2 : (Lit.int .i64 y2).wf = true) (gy3 : (Lit.int .i64 y3).wf = true) : ∃ N, DemandTops_9 N ((y0, y1, y2, y3, ()), ()) = some ((true, ()), ()) := by
  obtain ⟨M, hM⟩ : ∃ M : Nat, 6000 ≤ M := ⟨6000, Nat.le_refl _⟩
  refine ⟨M + y0.length, ?_⟩
  unfold DemandTops_9
  try dsimp only
  rw [examples_eq (by omega), bnd, if_pos (by omega)]
  have := tops_loop (N := M + y0.length) (b := y1) (r := y2) (t := y3) gy0.1 (by omega) (wf64 gy3).2 y0.length 0 (M + y0.length) (by omega) (by omega)
  exact this
end Go.Proofs.Ytabdnglgdbjbiaa.Pure
