/- The pure statement of PackSums: sums of two texts of one length are the same, just if they are with more behind. Conditions: none beyond the given bounds. -/
import Derived.Test.YtecefkenfpbfkaaPAx6
import Derived.Test.YtecefkenfpbfkaaXPack
namespace Go.Proofs.Ytecefkenfpbfkaa.Pure
open Go.RowKit Go.Proofs.Ytecefkenfpbfkaa.PA Go.Proofs.YtecefkenfpbfkaaW.PrintWords Go.Proofs.YtecefkenfpbfkaaW.PrintLast Go.Proofs.YtecefkenfpbfkaaW.PrintMore Go.Proofs.YtecefkenfpbfkaaX

theorem PackSums : tourbillonlaw06_PackSums.Pure := by
  intro a b m ha hb hm
  refine ⟨100, ?_⟩
  obtain ⟨n, hn, hna, hnb⟩ : ∃ n : Nat, mn (a.size : Int) (b.size : Int) = (n : Int) ∧ n ≤ a.size ∧ n ≤ b.size := by
    unfold mn
    split
    · exact ⟨b.size, rfl, by omega, Nat.le_refl _⟩
    · exact ⟨a.size, rfl, Nat.le_refl _, by omega⟩
  have s1 : (a.extract 0 n).size = n := by rw [ByteArray.size_extract]; omega
  have s2 : (b.extract 0 n).size = n := by rw [ByteArray.size_extract]; omega
  have s3 : (a.extract 0 n ++ m).size = n + m.size := by rw [ByteArray.size_append, s1]
  have s4 : (b.extract 0 n ++ m).size = n + m.size := by rw [ByteArray.size_append, s2]
  unfold tourbillonlaw06_PackSums.f
  rw [ex_at (Nat.le_refl _), hn, Option.bind_some, Int.toNat_natCast, if_pos (by omega), if_pos (by omega), Sum_at (by omega), Option.bind_some, if_pos (by omega), Sum_at (by omega), Option.bind_some, if_pos (by omega), Sum_at (by omega), Option.bind_some, if_pos (by omega), Sum_at (by omega), Option.bind_some, if_pos rfl, bytes_append, bytes_append, cL_append, cL_append]
  generalize hx : cL (a.extract 0 n).data.toList 65535 = x
  generalize hy : cL (b.extract 0 n).data.toList 65535 = y
  have lx : x < 65536 := by rw [← hx]; exact cL_lt _ (by decide)
  have ly : y < 65536 := by rw [← hy]; exact cL_lt _ (by decide)
  congr 1
  by_cases c : x = y
  · subst c
    simp
  · have d : ¬ cL m.data.toList x = cL m.data.toList y := fun h => c (cL_inj _ lx ly h)
    have e1 : (((x : Nat) : Int) == ((y : Nat) : Int)) = false := by simp; omega
    have e2 : (((cL m.data.toList x : Nat) : Int) == ((cL m.data.toList y : Nat) : Int)) = false := by simp; omega
    rw [e1, e2]
    rfl

end Go.Proofs.Ytecefkenfpbfkaa.Pure
