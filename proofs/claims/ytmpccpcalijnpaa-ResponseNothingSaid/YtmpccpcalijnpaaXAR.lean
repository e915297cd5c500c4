/- What the reference's sums and products tell. Conditions: numbers of 64 bits. -/
import Derived.Test.YtmpccpcalijnpaaXA
namespace Go.Proofs.YtmpccpcalijnpaaQ
open Go Go.Proofs.YtmpccpcalijnpaaM Go.Proofs.YtmpccpcalijnpaaX Go.Proofs.YtmpccpcalijnpaaL
set_option linter.unusedVariables false
set_option linter.unusedSimpArgs false

theorem rAdd_at {N : Nat} {a b : Int} (ha : (Lit.int .i64 a).wf = true) (hb : (Lit.int .i64 b).wf = true) : Add_30 N ((a, b, ()), ()) = some (two (AddS a b)) := by
  obtain ⟨ha0, ha1⟩ := wf64 ha
  obtain ⟨hb0, hb1⟩ := wf64 hb
  unfold Add_30 AddS
  try dsimp only
  rcases Int.lt_trichotomy b 0 with h | h | h
  · rw [byB_f (show ¬ b > 0 by omega), byB_t h, w64 (n := -9223372036854775808 - b) (by omega) (by omega)]
    by_cases c : a < -9223372036854775808 - b
    · rw [byB_t c, if_neg (by omega)]
    · rw [byB_f c, if_pos (by omega), w64 (by omega) (by omega)]
  · rw [byB_f (show ¬ b > 0 by omega), byB_f (show ¬ b < 0 by omega), if_pos (by omega), w64 (by omega) (by omega)]
  · rw [byB_t (show b > 0 by omega), byB_f (show ¬ b < 0 by omega), w64 (n := 9223372036854775807 - b) (by omega) (by omega)]
    by_cases c : a > 9223372036854775807 - b
    · rw [byB_t c, if_neg (by omega)]
    · rw [byB_f c, if_pos (by omega), w64 (by omega) (by omega)]
theorem rMul_at {N : Nat} {a b : Int} (ha : (Lit.int .i64 a).wf = true) (hb : (Lit.int .i64 b).wf = true) : Mul_29 N ((a, b, ()), ()) = some (two (MulS a b)) := by
  obtain ⟨ha0, ha1⟩ := wf64 ha
  obtain ⟨hb0, hb1⟩ := wf64 hb
  unfold Mul_29 MulS
  try dsimp only
  rw [join_eq]
  by_cases h1 : a = 0
  · subst h1
    rw [byB_eqt rfl, Mul_29_J2]
    simp [byB]
  rw [byB_eqf h1]
  by_cases h2 : b = 0
  · subst h2
    rw [Mul_29_J2]
    simp [byB]
  rw [Mul_29_J2]
  have h2' : (b == 0) = false := by simpa using h2
  rw [h2', byB_false, join_eq, join_eq]
  have over : Mul_29_J4 N (Mul_29_J5 N) ((a, b, true, ()), ()) = some ((0, 2, ()), ()) := by
    rw [Mul_29_J4]
    try dsimp only
    rw [byB_true]
  have main : ¬ (b = -1 ∧ a = -9223372036854775808) → ¬ (a = -1 ∧ b = -9223372036854775808) → Mul_29_J4 N (Mul_29_J5 N) ((a, b, false, ()), ()) = some (two (if -9223372036854775808 ≤ a * b ∧ a * b ≤ 9223372036854775807 then (a * b, 0) else (0, 2))) := by
    intro hx hy
    have e1 := quot_tells ha0 ha1 hb0 hb1 h2 hx
    have e2 := quot_tells hb0 hb1 ha0 ha1 h1 hy
    rw [Int.mul_comm b a] at e2
    rw [Mul_29_J4]
    try dsimp only
    rw [byB_false, Mul_29_J5]
    try dsimp only
    rw [if_neg h2]
    by_cases c : -9223372036854775808 ≤ a * b ∧ a * b ≤ 9223372036854775807
    · rw [byB_nef (e1.2 c), if_neg h1, byB_nef (e2.2 c), w64 c.1 c.2, if_pos c]
    · rw [byB_net (fun h => c (e1.1 h)), if_neg c]
  by_cases h3 : a = -1
  · rw [byB_eqt h3]
    have h5 : (a == -9223372036854775808) = false := by subst h3; rfl
    by_cases h4 : b = -9223372036854775808
    · rw [byB_eqt h4, over, if_neg (by subst h3; subst h4; decide)]
    · rw [byB_eqf h4, h5, byB_same]
      exact main (fun h => by omega) (fun h => h4 h.2)
  · rw [byB_eqf h3]
    by_cases h4 : b = -1
    · rw [byB_eqt h4]
      by_cases h5 : a = -9223372036854775808
      · have h6 : (a == -9223372036854775808) = true := by subst h5; rfl
        rw [h6, over, if_neg (by subst h5; subst h4; decide)]
      · have h6 : (a == -9223372036854775808) = false := by simpa using h5
        rw [h6]
        exact main (fun h => h5 h.2) (fun h => h3 h.1)
    · rw [byB_eqf h4]
      exact main (fun h => h4 h.1) (fun h => h3 h.1)
end Go.Proofs.YtmpccpcalijnpaaQ
