/- Chapter 16: what is known of these numbers. Conditions: as each theorem states them. -/
import Derived.Test.YtmpccpcalijnpaaXResp2
namespace Go.Proofs.YtmpccpcalijnpaaC
open Go Go.Proofs.YtmpccpcalijnpaaM Go.Proofs.YtmpccpcalijnpaaX Go.Proofs.YtmpccpcalijnpaaL Go.Proofs.YtmpccpcalijnpaaQ
set_option linter.unusedVariables false
set_option linter.unusedSimpArgs false

theorem sg_mono {f g : Ld → Int} : ∀ {l : List Ld}, (∀ x ∈ l, f x ≤ g x) → sg f l ≤ sg g l
  | [], _ => Int.le_refl _
  | x :: l, h => by
    have h1 := h x (by simp)
    have h2 := sg_mono (l := l) fun y hy => h y (by simp [hy])
    simp only [sg]
    omega
theorem sg_append {f : Ld → Int} {l m : List Ld} : sg f (l ++ m) = sg f l + sg f m := by
  induction l with
  | nil => simp [sg]
  | cons x l ih => rw [List.cons_append, sg, sg, ih]; omega
theorem sg_zero {f : Ld → Int} : ∀ {l : List Ld}, (∀ x ∈ l, f x = 0) → sg f l = 0
  | [], _ => rfl
  | x :: l, h => by
    have h1 := h x (by simp)
    have h2 := sg_zero (l := l) fun y hy => h y (by simp [hy])
    simp only [sg]
    omega
theorem wA_mono {n m : Int} {x : Ld} (hx : lok x = true) (h : n ≤ m) : wA n x ≤ wA m x := Int.mul_le_mul_of_nonneg_right (cnt_mono hx h) (lok_of hx).1
theorem wL_mono {n m r : Int} {x : Ld} (hx : lok x = true) (hr : 0 ≤ r) (h : n ≤ m) : wL n r x ≤ wL m r x := Int.mul_le_mul_of_nonneg_right (by have := cnt_mono hx h; omega) hr
theorem tot_mono {o b r n m : Int} {A L : List Ld} (h : rt o b r A L = true) (hm : n ≤ m) : tot o b r A L n ≤ tot o b r A L m := by
  obtain ⟨t1, t2, t3⟩ := rt_of h
  have ht := tms_of t1
  have h1 := sg_mono (f := wA n) (g := wA m) (l := A) fun x hx => wA_mono ((lsok_of t2).2 x hx) hm
  have h2 := sg_mono (f := wL n r) (g := wL m r) (l := L) fun x hx => wL_mono ((lsok_of t3).2 x hx) ht.2.2.2.2.1 hm
  unfold tot
  omega
theorem tot_nonneg {o b r n : Int} {A L : List Ld} (h : rt o b r A L = true) (hn : 0 ≤ n) : 0 ≤ tot o b r A L n := by
  obtain ⟨t1, t2, t3⟩ := rt_of h
  have ht := tms_of t1
  have h1 := sg_nonneg (f := wA n) (l := A) fun x hx => wA_nonneg ((lsok_of t2).2 x hx) hn
  have h2 := sg_nonneg (f := wL n r) (l := L) fun x hx => wL_nonneg ((lsok_of t3).2 x hx) hn ht.2.2.2.2.1
  unfold tot
  omega
/-- Where there is no more to do than there are ticks, the bound is found, or there were too many steps. -/
theorem bl_below {o b r lim c : Int} {A L : List Ld} (h : rt o b r A L = true) (hl : lim ≤ 1099511627776) (hc : c ≤ lim) (hv : tot o b r A L c ≤ c) :
    ∀ (k : Nat) (n : Int), 1 ≤ n → n ≤ c → (bl (WS o b r A L) lim k n).2 = 11 ∨ ((bl (WS o b r A L) lim k n).2 = 0 ∧ n ≤ (bl (WS o b r A L) lim k n).1 ∧ (bl (WS o b r A L) lim k n).1 ≤ c)
  | 0, n, _, _ => .inl rfl
  | k + 1, n, hn, hnc => by
    have h1 := tot_mono h hnc
    have hW : WS o b r A L n = (tot o b r A L n, 0) := WS_ok ⟨h, by omega, by omega⟩ (by omega)
    rw [bl, hW]
    simp only [if_true]
    split
    · exact .inr ⟨rfl, by omega, hnc⟩
    · rw [if_neg (by omega)]
      rcases bl_below h hl hc hv k (tot o b r A L n) (by omega) (by omega) with h2 | ⟨h2, h3, h4⟩
      · exact .inl h2
      · exact .inr ⟨h2, by omega, h4⟩
/-- What is found is one. -/
theorem bl_ok {o b r lim : Int} {A L : List Ld} (h : rt o b r A L = true) (hl : lim ≤ 1099511627776) :
    ∀ (k : Nat) (n : Int), 1 ≤ n → n ≤ lim → (bl (WS o b r A L) lim k n).2 = 0 → n ≤ (bl (WS o b r A L) lim k n).1 ∧ (bl (WS o b r A L) lim k n).1 ≤ lim ∧ tot o b r A L (bl (WS o b r A L) lim k n).1 ≤ (bl (WS o b r A L) lim k n).1
  | 0, n, _, _, h0 => by cases h0
  | k + 1, n, hn, hnl, h0 => by
    rw [bl] at h0 ⊢
    have hg : rt o b r A L = true ∧ 0 ≤ n ∧ n ≤ 4611686018427387904 := ⟨h, by omega, by omega⟩
    by_cases h1 : tot o b r A L n ≤ 4611686018427387904
    · rw [WS_ok hg h1] at h0 ⊢
      simp only [if_true] at h0 ⊢
      by_cases h2 : tot o b r A L n ≤ n
      · rw [if_pos h2]; exact ⟨Int.le_refl _, hnl, h2⟩
      · rw [if_neg h2] at h0 ⊢
        by_cases h3 : tot o b r A L n > lim
        · rw [if_pos h3] at h0; cases h0
        · rw [if_neg h3] at h0 ⊢
          obtain ⟨k1, k2, k3⟩ := bl_ok h hl k _ (by omega) (by omega) h0
          exact ⟨by omega, k2, k3⟩
    · rw [WS_over hg h1] at h0
      cases h0
/-- Where there is an error, the number is nought. -/
theorem bl_err {W : Int → Int × Int} {lim : Int} : ∀ (k : Nat) (n : Int), ¬ (bl W lim k n).2 = 0 → (bl W lim k n).1 = 0
  | 0, n, _ => rfl
  | k + 1, n, h => by
    rw [bl] at h ⊢
    split at h
    · split at h
      · exact absurd rfl h
      · split at h
        · rename_i h1 h2 h3; rw [if_pos h1, if_neg h2, if_pos h3]
        · rename_i h1 h2 h3; rw [if_pos h1, if_neg h2, if_neg h3]; exact bl_err k _ h
    · rename_i h1; rw [if_neg h1]

theorem BS_cases {o b r lim : Int} {A L : List Ld} (h : (BS o b r A L lim).2 = 0) :
    rt o b r A L = true ∧ 1 ≤ lim ∧ lim ≤ 1099511627776 ∧ 1 ≤ (BS o b r A L lim).1 ∧ (BS o b r A L lim).1 ≤ lim ∧ tot o b r A L (BS o b r A L lim).1 ≤ (BS o b r A L lim).1 ∧
      ∀ c, 1 ≤ c → tot o b r A L c ≤ c → (BS o b r A L lim).1 ≤ c := by
  by_cases hg : rt o b r A L = true ∧ 1 ≤ lim ∧ lim ≤ 1099511627776
  · rw [BS_ok hg] at h ⊢
    obtain ⟨k1, k2, k3⟩ := bl_ok hg.1 hg.2.2 5000 1 (by omega) hg.2.1 h
    refine ⟨hg.1, hg.2.1, hg.2.2, k1, k2, k3, fun c hc hv => ?_⟩
    by_cases hcl : c ≤ lim
    · rcases bl_below hg.1 hg.2.2 hcl hv 5000 1 (by omega) hc with h1 | h1
      · rw [h1] at h; cases h
      · exact h1.2.2
    · omega
  · rw [BS_bad hg] at h; cases h
theorem BS_err {o b r lim : Int} {A L : List Ld} (h : ¬ (BS o b r A L lim).2 = 0) : (BS o b r A L lim).1 = 0 := by
  by_cases hg : rt o b r A L = true ∧ 1 ≤ lim ∧ lim ≤ 1099511627776
  · rw [BS_ok hg] at h ⊢; exact bl_err _ _ h
  · rw [BS_bad hg]
theorem BS_below {o b r lim c : Int} {A L : List Ld} (hg : rt o b r A L = true ∧ 1 ≤ lim ∧ lim ≤ 1099511627776) (h1 : 1 ≤ c) (hc : c ≤ lim) (hv : tot o b r A L c ≤ c) :
    (BS o b r A L lim).2 = 11 ∨ ((BS o b r A L lim).2 = 0 ∧ (BS o b r A L lim).1 ≤ c) := by
  rw [BS_ok hg]
  rcases bl_below hg.1 hg.2.2 hc hv 5000 1 (by omega) h1 with h2 | h2
  · exact .inl h2
  · exact .inr ⟨h2.1, h2.2.2⟩
theorem WS_err {o b r n : Int} {A L : List Ld} (h : ¬ (WS o b r A L n).2 = 0) : (WS o b r A L n).1 = 0 := by
  unfold WS at h ⊢
  split at h
  · split at h
    · exact absurd rfl h
    · rename_i h1 h2; rw [if_pos h1, if_neg h2]
  · rename_i h1; rw [if_neg h1]
theorem WS_0 {o b r n : Int} {A L : List Ld} (h : (WS o b r A L n).2 = 0) : rt o b r A L = true ∧ 0 ≤ n ∧ n ≤ 4611686018427387904 ∧ tot o b r A L n ≤ 4611686018427387904 ∧ (WS o b r A L n).1 = tot o b r A L n := by
  unfold WS at h ⊢
  split at h
  · rename_i h1
    split at h
    · rename_i h2; rw [if_pos h1, if_pos h2]; exact ⟨h1.1, h1.2.1, h1.2.2, h2, rfl⟩
    · cases h
  · cases h
end Go.Proofs.YtmpccpcalijnpaaC
