/- What is known of the order of cores. Conditions: none. -/
import Derived.Test.YtlheebdnplcmcaaXOrd
namespace Go.Proofs.YtlheebdnplcmcaaC
open Go Go.Proofs.YtlheebdnplcmcaaM Go.Proofs.YtlheebdnplcmcaaX Go.Proofs.YtlheebdnplcmcaaL
set_option linter.unusedVariables false
set_option linter.unusedSimpArgs false

theorem see_mem {n : Int} {acc : List Int} {x y : Int} : y ∈ see n acc x ↔ y ∈ acc ∨ (y = x ∧ 0 ≤ x ∧ x < n) := by
  unfold see
  split
  · rename_i h
    simp only [List.mem_append, List.mem_singleton]
    constructor
    · rintro (h1 | h1)
      · exact .inl h1
      · exact .inr ⟨h1, h.1, h.2.1⟩
    · rintro (h1 | h1)
      · exact .inl h1
      · exact .inr h1.1
  · rename_i h
    constructor
    · exact .inl
    · rintro (h1 | ⟨rfl, h2, h3⟩)
      · exact h1
      · by_cases h4 : y ∈ acc
        · exact h4
        · exact absurd ⟨h2, h3, h4⟩ h
theorem sees_mem {n : Int} : ∀ {l acc : List Int} {y : Int}, y ∈ sees n acc l ↔ y ∈ acc ∨ (y ∈ l ∧ 0 ≤ y ∧ y < n)
  | [], acc, y => by simp [sees]
  | x :: l, acc, y => by
    rw [sees_cons, sees_mem, see_mem, List.mem_cons]
    constructor
    · rintro ((h | ⟨rfl, h⟩) | ⟨h, h2⟩)
      · exact .inl h
      · exact .inr ⟨.inl rfl, h⟩
      · exact .inr ⟨.inr h, h2⟩
    · rintro (h | ⟨rfl | h, h2⟩)
      · exact .inl (.inl h)
      · exact .inl (.inr ⟨rfl, h2⟩)
      · exact .inr ⟨h, h2⟩
theorem see_nodup {n : Int} {acc : List Int} {x : Int} (h : acc.Nodup) : (see n acc x).Nodup := by
  unfold see
  split
  · rename_i h1
    rw [List.nodup_append]
    refine ⟨h, by simp, ?_⟩
    intro a ha b hb e
    simp only [List.mem_singleton] at hb
    subst hb e
    exact h1.2.2 ha
  · exact h
theorem sees_nodup {n : Int} : ∀ {l acc : List Int}, acc.Nodup → (sees n acc l).Nodup
  | [], acc, h => h
  | x :: l, acc, h => sees_nodup (l := l) (see_nodup h)
theorem see_pre {n : Int} {acc : List Int} {x : Int} : ∃ t, see n acc x = acc ++ t := by
  unfold see
  split
  · exact ⟨_, rfl⟩
  · exact ⟨[], by simp⟩
theorem sees_pre {n : Int} : ∀ {l acc : List Int}, ∃ t, sees n acc l = acc ++ t
  | [], acc => ⟨[], by simp [sees]⟩
  | x :: l, acc => by
    obtain ⟨t, h⟩ := sees_pre (n := n) (l := l) (acc := see n acc x)
    obtain ⟨u, h2⟩ := see_pre (n := n) (acc := acc) (x := x)
    exact ⟨u ++ t, by rw [sees_cons, h, h2, List.append_assoc]⟩
theorem mem_upto {n i : Nat} {y : Int} : y ∈ upto n i ↔ (i : Int) ≤ y ∧ y < n := by
  unfold upto
  simp only [List.mem_map, List.mem_range'_1]
  constructor
  · rintro ⟨a, ⟨h1, h2⟩, rfl⟩
    simp only [Int.ofNat_eq_natCast]
    omega
  · rintro ⟨h1, h2⟩
    exact ⟨y.toNat, by omega, by simp only [Int.ofNat_eq_natCast]; omega⟩
theorem upto_nodup {n i : Nat} : (upto n i).Nodup := by
  unfold upto
  rw [List.Nodup, List.pairwise_map]
  have := List.nodup_range' (s := i) (n := n - i)
  exact List.Pairwise.imp (fun h e => h (Int.ofNat.inj e)) this
theorem ord_mem {n : Nat} {l : List Int} {y : Int} : y ∈ ord n l ↔ 0 ≤ y ∧ y < n := by
  unfold ord
  rw [sees_mem, sees_mem, mem_upto]
  simp only [List.not_mem_nil, false_or]
  constructor
  · rintro (⟨_, h⟩ | ⟨_, h⟩) <;> exact h
  · intro h
    exact .inr ⟨⟨by omega, h.2⟩, h⟩
theorem ord_nodup {n : Nat} {l : List Int} : (ord n l).Nodup := sees_nodup (sees_nodup List.nodup_nil)
theorem ord_len {n : Nat} {l : List Int} : (ord n l).length = n := by
  have h1 : (ord n l).length ≤ (upto n 0).length := List.Nodup.length_le_of_subset ord_nodup fun y hy => by
    rw [ord_mem] at hy; rw [mem_upto]; omega
  have h2 : (upto n 0).length ≤ (ord n l).length := List.Nodup.length_le_of_subset upto_nodup fun y hy => by
    rw [mem_upto] at hy; rw [ord_mem]; omega
  rw [upto_len] at h1 h2
  omega
end Go.Proofs.YtlheebdnplcmcaaC
