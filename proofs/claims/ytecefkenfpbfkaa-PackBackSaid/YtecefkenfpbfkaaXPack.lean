/- The examples of chapter 6; sums and sealed texts as plain arithmetic. Conditions: bounds on lengths. -/
import Derived.Test.YtecefkenfpbfkaaPAx1
import Derived.Test.YtecefkenfpbfkaaXCrc
namespace Go.Proofs.YtecefkenfpbfkaaX
open Go.RowKit Go.Proofs.YtecefkenfpbfkaaW.PrintWords Go.Proofs.YtecefkenfpbfkaaW.PrintMore Go.Proofs.Ytecefkenfpbfkaa.PA

theorem ex_at {k : Nat} (hk : 100 ≤ k) : tourbillonlaw06_examples.f k = some true := at_rounds tourbillonlaw06_examples.mono hk (by decide +kernel)
theorem bytes_append (s t : ByteArray) : (s ++ t).data.toList = s.data.toList ++ t.data.toList := by simp
theorem bytes_take (s : ByteArray) (n : Nat) : (s.extract 0 n).data.toList = s.data.toList.take n := by simp
theorem size_list (s : ByteArray) : s.size = s.data.toList.length := by simp
end Go.Proofs.YtecefkenfpbfkaaX
