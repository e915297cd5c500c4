/- The pure statement of PackNumbers: numbers are written and read as the reference does it, whatever is done to what came. Conditions: none beyond the given bounds. -/
import Derived.Test.YtecefkenfpbfkaaPAx3
import Derived.Test.YtecefkenfpbfkaaXRefRead
namespace Go.Proofs.Ytecefkenfpbfkaa.Pure
open Go.RowKit Go.Proofs.Ytecefkenfpbfkaa.PA Go.Proofs.YtecefkenfpbfkaaW.PrintWords Go.Proofs.YtecefkenfpbfkaaW.PrintLast Go.Proofs.YtecefkenfpbfkaaW.PrintMore Go.Proofs.YtecefkenfpbfkaaX

theorem pn_l1 (s : ByteArray) (a : ByteArray) (e : Int) (b : ByteArray) (f : Int) (want : List Int) (g : Int) (turn : Int) (ht : 0 ≤ turn ∧ turn < 10) : ∀ (r i : Nat) (m : List Int) (k : Nat), r + i = m.length → m.length ≤ 2000 → tourbillonlaw06_PackNumbers.l1 (k + r + 1) s true a e b f want g turn m (i : Int) = tourbillonlaw06_PackNumbers.l0 k s true a e b f want g (turn + 1)
  | 0, i, m, k, hi, hm => by
    rw [tourbillonlaw06_PackNumbers.l1, if_neg (by omega), w64 (by omega) (by omega)]
  | r + 1, i, m, k, hi, hm => by
    rw [show k + (r + 1) + 1 = (k + r + 1) + 1 by omega, tourbillonlaw06_PackNumbers.l1, if_pos (by omega), if_pos (by omega), w64 (by omega) (by omega), show (i : Int) + 1 = ((i + 1 : Nat) : Int) by omega]
    exact pn_l1 s a e b f want g turn ht r (i + 1) _ k (by simp; omega) (by simp; omega)
theorem pn_turn (s : ByteArray) (hs : s.size ≤ 140737488351232) (a : ByteArray) (e : Int) (b : ByteArray) (f : Int) (turn : Int) (ht : 0 ≤ turn ∧ turn < 2) (k : Nat) (hk : 2100 ≤ k) : tourbillonlaw06_PackNumbers.l0 (k + (ReadS s.data.toList).1.length + 3) s true a e b f (ReadS s.data.toList).1 (ReadS s.data.toList).2 turn = tourbillonlaw06_PackNumbers.l0 k s true a e b f (ReadS s.data.toList).1 (ReadS s.data.toList).2 (turn + 1) := by
  have hl := ReadS_len s.data.toList
  rw [show k + (ReadS s.data.toList).1.length + 3 = (k + (ReadS s.data.toList).1.length + 2) + 1 by omega, tourbillonlaw06_PackNumbers.l0, if_pos (by omega), Read_at (by omega), Option.bind_some, numbers_same (by omega) (by omega), Option.bind_some, if_pos rfl, show k + (ReadS s.data.toList).1.length + 2 = (k + (ReadS s.data.toList).1.length + 1) + 1 by omega, tourbillonlaw06_PackNumbers.j1, if_neg (by simp)]
  exact pn_l1 s a e b f _ _ turn ⟨ht.1, by omega⟩ _ 0 _ k (by omega) hl

theorem PackNumbers : tourbillonlaw06_PackNumbers.Pure := by
  intro l s _ _ hw hs
  refine ⟨4 * s.size + 50000 + (ReadS s.data.toList).1.length + 3 + (ReadS s.data.toList).1.length + 3, ?_⟩
  have hl := ReadS_len s.data.toList
  unfold tourbillonlaw06_PackNumbers.f
  rw [ex_at (by omega), Option.bind_some, Write_at hw (by omega), Option.bind_some, rWrite_at hw (by omega), Option.bind_some, rRead_at (by omega) (by omega), Option.bind_some, pn_turn s hs _ _ _ _ 0 (by omega) _ (by omega), pn_turn s hs _ _ _ _ (0 + 1) (by omega) _ (by omega)]
  obtain ⟨k, hk⟩ : ∃ k, 4 * s.size + 50000 = k + 1 := ⟨4 * s.size + 49999, by omega⟩
  rw [hk, tourbillonlaw06_PackNumbers.l0, if_neg (by decide), if_pos rfl, if_pos rfl]
  simp
end Go.Proofs.Ytecefkenfpbfkaa.Pure
