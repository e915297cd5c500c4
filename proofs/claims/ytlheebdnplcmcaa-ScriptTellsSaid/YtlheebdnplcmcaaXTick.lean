/- Chapter 20: what comes round about with the ticks: orders and latencies. Conditions: as each theorem states them. -/
import Derived.Test.YtlheebdnplcmcaaXScript
import Derived.Test.YtlheebdnplcmcaaXOrd2
namespace Go.Proofs.YtlheebdnplcmcaaC
open Go Go.Proofs.YtlheebdnplcmcaaM Go.Proofs.YtlheebdnplcmcaaX Go.Proofs.YtlheebdnplcmcaaL
set_option linter.unusedVariables false
set_option linter.unusedSimpArgs false

/-- The one that a tick takes. -/
def turn {α : Type} (l : List α) (d : α) (t : Int) : α := if l.length = 0 ∨ t < 0 then d else l.getD (t % l.length).toNat d
theorem turn_mem {α : Type} {l : List α} {d : α} {t : Int} : turn l d t = d ∨ turn l d t ∈ l := by
  unfold turn
  split
  · exact .inl rfl
  · refine .inr (getD_mem ?_)
    have h1 := Int.emod_nonneg t (show (l.length : Int) ≠ 0 by omega)
    have h2 := Int.emod_lt_of_pos t (show 0 < (l.length : Int) by omega)
    omega
theorem turn_round {α : Type} {l : List α} {d : α} {t : Int} (ht : 0 ≤ t) : turn l d (t + l.length) = turn l d t := by
  unfold turn
  by_cases h : l.length = 0
  · rw [if_pos (.inl h), if_pos (.inl h)]
  · rw [if_neg (by omega), if_neg (by omega), Int.add_emod_right]
theorem turnL_at {N : Nat} {l : List (List Int)} {t : Int} : ∃ b, turnint_21v1 N ((l, t, ()), ()) = some ((turn l [] t, b, ()), ()) := by
  unfold turnint_21v1 turn
  dsimp only
  by_cases h : l.length = 0
  · exact ⟨false, by rw [byB_eqt (by omega), if_pos (.inl h)]⟩
  · rw [byB_eqf (by omega)]
    by_cases h2 : t < 0
    · exact ⟨false, by rw [byB_t h2, if_pos (.inr h2)]⟩
    · have h3 := Int.emod_nonneg t (show (l.length : Int) ≠ 0 by omega)
      have h4 := Int.emod_lt_of_pos t (show 0 < (l.length : Int) by omega)
      refine ⟨true, ?_⟩
      rw [byB_f h2, if_neg (by omega), Int.tmod_eq_emod_of_nonneg (by omega), if_pos ⟨h3, h4⟩, if_neg (by omega)]
theorem turnI_at {N : Nat} {l : List Int} {t : Int} : ∃ b, turnint_26 N ((l, t, ()), ()) = some ((turn l 0 t, b, ()), ()) := by
  unfold turnint_26 turn
  dsimp only
  by_cases h : l.length = 0
  · exact ⟨false, by rw [byB_eqt (by omega), if_pos (.inl h)]⟩
  · rw [byB_eqf (by omega)]
    by_cases h2 : t < 0
    · exact ⟨false, by rw [byB_t h2, if_pos (.inr h2)]⟩
    · have h3 := Int.emod_nonneg t (show (l.length : Int) ≠ 0 by omega)
      have h4 := Int.emod_lt_of_pos t (show 0 < (l.length : Int) by omega)
      refine ⟨true, ?_⟩
      rw [byB_f h2, if_neg (by omega), Int.tmod_eq_emod_of_nonneg (by omega), if_pos ⟨h3, h4⟩, if_neg (by omega)]
def lat (l : List Int) (t : Int) : Int := if 50 < (if 1 > turn l 0 t then 1 else turn l 0 t) then 50 else (if 1 > turn l 0 t then 1 else turn l 0 t)
theorem lat_range (l : List Int) (t : Int) : 1 ≤ lat l t ∧ lat l t ≤ 50 := by
  unfold lat
  split <;> split <;> omega
theorem lat_at {N : Nat} {s0 s1 s2 s3 s4 s5 s6 s7 : Int} {s8 : List Tk} {x0 : Int} {x1 : List Rel} {x2 : List (List Int)} {x3 : List Int} {t : Int} :
    Latency_17 N (((s0, s1, s2, s3, s4, s5, s6, s7, s8, ()), (x0, x1, x2, x3, ()), t, ()), ()) = some ((lat x3 t, ()), ()) := by
  unfold Latency_17
  dsimp only
  obtain ⟨b, hb⟩ := turnI_at (N := N) (l := x3) (t := t)
  rw [hb, bnd]
  rfl
def cut8 (n : Int) (l : List Int) : List Int := if 1 ≤ n ∧ n ≤ 8 then ord n.toNat l else []
theorem order_at {N : Nat} {s0 s1 s2 s3 s4 s5 s6 s7 : Int} {s8 : List Tk} {x0 : Int} {x1 : List Rel} {x2 : List (List Int)} {x3 : List Int} {t : Int} (hN : 10 < N) (hl : ∀ l ∈ x2, l.length < N ∧ l.length * 8 ≤ 140737488351232) :
    Order_11 N (((s0, s1, s2, s3, s4, s5, s6, s7, s8, ()), (x0, x1, x2, x3, ()), t, ()), ()) = some (((), ()), cut8 s0 (turn x2 [] t), ()) := by
  unfold Order_11
  dsimp only
  obtain ⟨b, hb⟩ := turnL_at (N := N) (l := x2) (t := t)
  rw [hb, bnd]
  dsimp only
  have hlen : (turn x2 [] t).length < N ∧ (turn x2 [] t).length * 8 ≤ 140737488351232 := by
    rcases turn_mem (l := x2) (d := []) (t := t) with h | h
    · rw [h]; exact ⟨by simp; omega, by simp⟩
    · exact hl _ h
  unfold cut8
  by_cases h : 1 ≤ s0 ∧ s0 ≤ 8
  · rw [if_pos h]
    obtain ⟨n, rfl⟩ : ∃ n : Nat, s0 = n := ⟨s0.toNat, by omega⟩
    rw [order_ok (by omega) (by omega) hN hlen.1 (by omega), bnd, Int.toNat_natCast]
  · rw [if_neg h, order_no (by omega), bnd]
/-- All rows are shorter than this. -/
def big (xs : List (List Int)) : Nat := (xs.map List.length).sum
theorem big_le : ∀ {xs : List (List Int)} {l : List Int}, l ∈ xs → l.length ≤ big xs
  | x :: xs, l, h => by
    simp only [big, List.map_cons, List.sum_cons]
    rcases List.mem_cons.1 h with rfl | h
    · omega
    · have := big_le h
      unfold big at this
      omega
end Go.Proofs.YtlheebdnplcmcaaC
