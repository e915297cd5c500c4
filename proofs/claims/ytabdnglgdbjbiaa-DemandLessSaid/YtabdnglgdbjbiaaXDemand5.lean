/- Chapter 15: what is asked grows with the ticks and with the works; how the test ends. Conditions: as each theorem states them. -/
import Derived.Test.YtabdnglgdbjbiaaXDemand4
namespace Go.Proofs.YtabdnglgdbjbiaaC
open Go Go.Proofs.YtabdnglgdbjbiaaM Go.Proofs.YtabdnglgdbjbiaaX Go.Proofs.YtabdnglgdbjbiaaL Go.Proofs.YtabdnglgdbjbiaaQ
set_option linter.unusedVariables false
set_option linter.unusedSimpArgs false

theorem mul_mono {a b c d : Int} (ha : 0 ≤ a) (hab : a ≤ b) (hc : 0 ≤ c) (hcd : c ≤ d) : a * c ≤ b * d := (prod_le ha hab hc hcd).2
theorem own_mono {t u : Int} {x : Wk} (ht : 1 ≤ t) (h : t ≤ u) (hx : wok x = true) : own t x ≤ own u x := by
  obtain ⟨w0, w1, p0, p1, d0, d1⟩ := wok_of hx
  have h1 := cd_pos ht p0
  have h2 := cd_mono p0 h
  have h3 := own_nonneg (t := u) (by omega) hx
  unfold own at h3 ⊢
  by_cases c : x.2.2.2 = true
  · rw [if_pos c, if_pos c]
    exact mul_mono (by omega) (by omega) w0 (Int.le_refl _)
  · rw [if_neg c] at h3
    rw [if_neg c, if_neg c]
    by_cases c2 : t ≥ x.2.2.1
    · rw [if_pos c2, if_pos (by omega)]
      have h4 : 0 ≤ (t - x.2.2.1) / x.2.1 := Int.ediv_nonneg (by omega) (by omega)
      have h5 : (t - x.2.2.1) / x.2.1 ≤ (u - x.2.2.1) / x.2.1 := Int.ediv_le_ediv (by omega) (by omega)
      exact mul_mono (by omega) (by omega) w0 (Int.le_refl _)
    · rw [if_neg c2]
      exact h3
theorem own_le {t : Int} {x : Wk} (ht : 1 ≤ t) (hx : wok x = true) : own t x ≤ (cd t x.2.1 + 1) * x.1 := by
  obtain ⟨w0, w1, p0, p1, d0, d1⟩ := wok_of hx
  have h1 := cd_pos ht p0
  have hn0 : 0 ≤ (cd t x.2.1 + 1) * x.1 := Int.mul_nonneg (by omega) (by omega)
  unfold own
  split
  · omega
  · split
    · have h4 : 0 ≤ (t - x.2.2.1) / x.2.1 := Int.ediv_nonneg (by omega) (by omega)
      have h5 : (t - x.2.2.1) / x.2.1 ≤ cd t x.2.1 := Int.ediv_le_ediv (by omega) (by omega)
      exact mul_mono (by omega) (by omega) w0 (Int.le_refl _)
    · exact hn0
theorem a1_le_c1 {t r : Int} {x : Wk} (ht : 1 ≤ t) (hr : 0 ≤ r) (hx : wok x = true) : a1 t r x ≤ c1 t r x := by
  have := own_le ht hx
  unfold a1 c1
  split <;> omega
theorem asum_le_csum {t r : Int} (ht : 1 ≤ t) (hr : 0 ≤ r) : ∀ {l : List Wk}, (∀ x ∈ l, wok x = true) → asum t r l ≤ csum t r l
  | [], _ => by rw [asum_nil, csum_nil]; omega
  | x :: l, h => by
    have h1 := a1_le_c1 ht hr (h x (.head _))
    have h2 := asum_le_csum ht hr (fun y hy => h y (.tail _ hy))
    rw [asum_cons, csum_cons]
    omega
theorem a1_mono {t u r : Int} {x : Wk} (ht : 1 ≤ t) (h : t ≤ u) (hr : 0 ≤ r) (hx : wok x = true) (hM : a1 u r x ≤ 9223372036854775807) : a1 t r x ≤ a1 u r x := by
  have h0 := wok_of hx
  have h1 := cd_pos ht h0.2.2.1
  have h2 := cd_mono h0.2.2.1 h
  have h3 := own_mono ht h hx
  have h4 : (cd t x.2.1 + 2) * r ≤ (cd u x.2.1 + 2) * r := mul_mono (by omega) (by omega) hr (Int.le_refl _)
  unfold a1 at hM ⊢
  by_cases c : cd u x.2.1 + 2 > 9223372036854775807
  · rw [if_pos c] at hM; omega
  · rw [if_neg c, if_neg (by omega)]; omega
theorem asum_mono {t u r : Int} (ht : 1 ≤ t) (h : t ≤ u) (hr : 0 ≤ r) : ∀ {l : List Wk}, (∀ x ∈ l, wok x = true) → asum u r l ≤ 9223372036854775807 → asum t r l ≤ asum u r l
  | [], _, _ => by rw [asum_nil, asum_nil]; omega
  | x :: l, hw, hM => by
    have h0 := a1_nonneg (t := u) (by omega) hr (hw x (.head _))
    have h1 := asum_nonneg (t := u) (by omega) hr (fun y hy => hw y (.tail _ hy))
    rw [asum_cons] at hM
    have h2 := a1_mono ht h hr (hw x (.head _)) (by omega)
    have h3 := asum_mono ht h hr (fun y hy => hw y (.tail _ hy)) (by omega)
    rw [asum_cons, asum_cons]
    omega
theorem c1_mono {t u r : Int} {x : Wk} (ht : 1 ≤ t) (h : t ≤ u) (hr : 0 ≤ r) (hx : wok x = true) (hM : c1 u r x ≤ 9223372036854775807) : c1 t r x ≤ c1 u r x := by
  have h0 := wok_of hx
  have h1 := cd_pos ht h0.2.2.1
  have h2 := cd_mono h0.2.2.1 h
  have h3 : (cd t x.2.1 + 1) * x.1 ≤ (cd u x.2.1 + 1) * x.1 := mul_mono (by omega) (by omega) h0.1 (Int.le_refl _)
  have h4 : (cd t x.2.1 + 2) * r ≤ (cd u x.2.1 + 2) * r := mul_mono (by omega) (by omega) hr (Int.le_refl _)
  unfold c1 at hM ⊢
  by_cases c : cd u x.2.1 + 2 > 9223372036854775807
  · rw [if_pos c] at hM; omega
  · rw [if_neg c, if_neg (by omega)]; omega
theorem csum_mono {t u r : Int} (ht : 1 ≤ t) (h : t ≤ u) (hr : 0 ≤ r) : ∀ {l : List Wk}, (∀ x ∈ l, wok x = true) → csum u r l ≤ 9223372036854775807 → csum t r l ≤ csum u r l
  | [], _, _ => by rw [csum_nil, csum_nil]; omega
  | x :: l, hw, hM => by
    have h0 := c1_nonneg (t := u) (by omega) hr (hw x (.head _))
    have h1 := csum_nonneg (t := u) (by omega) hr (fun y hy => hw y (.tail _ hy))
    rw [csum_cons] at hM
    have h2 := c1_mono ht h hr (hw x (.head _)) (by omega)
    have h3 := csum_mono ht h hr (fun y hy => hw y (.tail _ hy)) (by omega)
    rw [csum_cons, csum_cons]
    omega
/-- What the busy ticks are. -/
theorem busyIt_fix {l : List Wk} {b r : Int} (h : rt l b r = true) : ∀ (m : Nat) (n : Int), 1 ≤ n → n ≤ 9223372036854775807 → (∀ j, 1 ≤ j → j < n → b + csum j r l > j) → (busyIt l b r m n).2 = 0 →
    b + csum (busyIt l b r m n).1 r l ≤ (busyIt l b r m n).1 ∧ ∀ j, 1 ≤ j → j < (busyIt l b r m n).1 → b + csum j r l > j
  | 0, n, _, _, _, h0 => by rw [busyIt_zero] at h0; simp at h0
  | m + 1, n, h1, h2, hj, h0 => by
    obtain ⟨hw, hl, h3⟩ := rt_of h
    rw [busyIt_succ] at h0 ⊢
    by_cases c : b + csum n r l > 9223372036854775807
    · rw [if_pos c] at h0; simp at h0
    · rw [if_neg c] at h0 ⊢
      by_cases c2 : b + csum n r l ≤ n
      · rw [if_pos c2]; exact ⟨c2, hj⟩
      · rw [if_neg c2] at h0 ⊢
        refine busyIt_fix h m _ (by omega) (by omega) ?_ h0
        intro j hj1 hj2
        by_cases c3 : j < n
        · exact hj j hj1 c3
        · by_cases c4 : csum j r l ≤ 9223372036854775807
          · have := csum_mono (t := n) (u := j) (r := r) h1 (by omega) (by omega) hw c4
            omega
          · omega
theorem busyS_fix {l : List Wk} {b r : Int} (h : (busyS l b r).2 = 0) : b + csum (busyS l b r).1 r l ≤ (busyS l b r).1 ∧ ∀ j, 1 ≤ j → j < (busyS l b r).1 → b + csum j r l > j := by
  obtain ⟨h1, h2, h3, h4⟩ := busyS_range h
  rw [h3] at h ⊢
  exact busyIt_fix h1 steps 1 (by omega) (by omega) (fun j hj hj2 => by omega) h
/-- Where the test ends well, no more is asked than there are ticks. -/
theorem testIt_meets {l : List Wk} {b r q : Int} (h : rt l b r = true) (hq : 1 ≤ q) : ∀ (m : Nat) (t : Int), testIt l b r q m t = 0 → ∀ u, q ≤ u → u ≤ t → b + asum u r l ≤ u
  | 0, t, h0, u, _, _ => by rw [testIt_zero] at h0; omega
  | m + 1, t, h0, u, hu, hut => by
    obtain ⟨hw, hl, h3⟩ := rt_of h
    rw [testIt_succ, if_neg (by omega)] at h0
    by_cases c2 : b + asum t r l > 9223372036854775807
    · rw [if_pos c2] at h0; omega
    rw [if_neg c2] at h0
    by_cases c3 : b + asum t r l > t
    · rw [if_pos c3] at h0; omega
    rw [if_neg c3] at h0
    have := asum_mono (t := u) (u := t) (r := r) (by omega) hut (by omega) hw (by omega)
    by_cases c4 : b + asum t r l = t
    · rw [if_pos c4] at h0
      by_cases c5 : u = t
      · subst c5; omega
      · exact testIt_meets h hq m _ h0 u hu (by omega)
    · rw [if_neg c4] at h0
      by_cases c5 : u ≤ b + asum t r l
      · exact testIt_meets h hq m _ h0 u hu c5
      · omega
theorem test_ok {l : List Wk} {b r : Int} (h : testS l b r = 0) : rt l b r = true ∧ (least l 1099511627777 > 1099511627776 ∨ least l 1099511627777 ≤ 1099511627776 ∧ (busyS l b r).2 = 0 ∧ ∀ u, least l 1099511627777 ≤ u → u ≤ (busyS l b r).1 → b + asum u r l ≤ u) := by
  unfold testS at h
  by_cases c : rt l b r = true
  · obtain ⟨hw, hl, h3⟩ := rt_of c
    have hq := least_pos hw (m := 1099511627777) (by omega)
    refine ⟨c, ?_⟩
    rw [if_pos c] at h
    unfold testR at h
    by_cases c1 : least l 1099511627777 > 1099511627776
    · exact .inl c1
    · rw [if_neg c1] at h
      by_cases c2 : (busyS l b r).2 ≠ 0
      · rw [if_pos c2] at h; omega
      · rw [if_neg c2] at h
        exact .inr ⟨by omega, by omega, testIt_meets c hq steps _ h⟩
  · rw [if_neg c] at h; omega
/-! with less of all -/
theorem busyIt_less {l l' : List Wk} {b b' r n : Int} (h : rt l b r = true) (h' : rt l' b' r = true) (hc : ∀ k, 1 ≤ k → b' + csum k r l' ≤ b + csum k r l) (hn : n ≤ 9223372036854775807) (hf : b + csum n r l ≤ n) : ∀ (m : Nat) (k : Int), 1 ≤ k → k ≤ n → busyIt l' b' r m k = (0, 11) ∨ (busyIt l' b' r m k).2 = 0 ∧ 1 ≤ (busyIt l' b' r m k).1 ∧ (busyIt l' b' r m k).1 ≤ n
  | 0, k, _, _ => .inl (busyIt_zero _ _ _ _)
  | m + 1, k, h1, h2 => by
    obtain ⟨hw, hl, h3⟩ := rt_of h
    have e1 := hc k h1
    have e2 := csum_mono (t := k) (u := n) (r := r) h1 h2 (by omega) hw (by omega)
    rw [busyIt_succ, if_neg (by omega)]
    by_cases c : b' + csum k r l' ≤ k
    · rw [if_pos c]
      exact .inr ⟨rfl, h1, h2⟩
    · rw [if_neg c]
      exact busyIt_less h h' hc hn hf m _ (by omega) (by omega)
theorem testIt_less {l l' : List Wk} {b b' r n q q' : Int} (h : rt l b r = true) (hq : 1 ≤ q) (hqq : q ≤ q') (hn : n ≤ 9223372036854775807) (hc : ∀ k, 1 ≤ k → b' + asum k r l' ≤ b + asum k r l) (hf : ∀ u, q ≤ u → u ≤ n → b + asum u r l ≤ u) : ∀ (m : Nat) (t : Int), t ≤ n → testIt l' b' r q' m t = 0 ∨ testIt l' b' r q' m t = 11
  | 0, t, _ => .inr (testIt_zero _ _ _ _ _)
  | m + 1, t, ht => by
    rw [testIt_succ]
    by_cases c : t < q'
    · rw [if_pos c]; exact .inl rfl
    · have e1 := hc t (by omega)
      have e2 := hf t (by omega) ht
      rw [if_neg c, if_neg (by omega), if_neg (by omega)]
      split
      · exact testIt_less h hq hqq hn hc hf m _ (by omega)
      · exact testIt_less h hq hqq hn hc hf m _ (by omega)
theorem test_less {l l' : List Wk} {b b' r : Int} (h0 : testS l b r = 0) (h' : rt l' b' r = true) (ha : ∀ k, 1 ≤ k → b' + asum k r l' ≤ b + asum k r l) (hc : ∀ k, 1 ≤ k → b' + csum k r l' ≤ b + csum k r l) (hl : lsum r l' ≤ lsum r l) (hq : least l 1099511627777 ≤ least l' 1099511627777) : testS l' b' r = 0 ∨ testS l' b' r = 11 := by
  obtain ⟨h, h1⟩ := test_ok h0
  obtain ⟨hw, hl2, h3⟩ := rt_of h
  have hq1 := least_pos hw (m := 1099511627777) (by omega)
  unfold testS testR
  rw [if_pos h']
  by_cases c : least l' 1099511627777 > 1099511627776
  · rw [if_pos c]; exact .inl rfl
  · rw [if_neg c]
    rcases h1 with h1 | ⟨_, hb, hm⟩
    · omega
    obtain ⟨_, b2, b3, b4⟩ := busyS_range hb
    have b5 := busyS_fix hb
    have hf : fullS l' r = false := by
      unfold fullS at b2 ⊢
      simp only [decide_eq_false_iff_not] at b2 ⊢
      omega
    have eb : busyS l' b' r = busyIt l' b' r steps 1 := by
      unfold busyS
      rw [if_pos h', hf, if_neg (by decide)]
    rcases busyIt_less h h' hc b4.2 b5.1 steps 1 (by omega) b4.1 with e | ⟨e1, e2, e3⟩
    · rw [eb, e]
      exact .inr rfl
    · rw [eb, if_neg (by omega)]
      exact testIt_less h hq1 hq b4.2 ha hm steps _ e3
end Go.Proofs.YtabdnglgdbjbiaaC
