/- What Seal and Open tell, and the reference's, as plain facts. Conditions: bounds on lengths. -/
import Derived.Test.YtecefkenfpbfkaaPAx6
import Derived.Test.YtecefkenfpbfkaaPAx7
import Derived.Test.YtecefkenfpbfkaaPAx1
import Derived.Test.YtecefkenfpbfkaaXRefSum
namespace Go.Proofs.YtecefkenfpbfkaaX
open Go.RowKit Go.Proofs.YtecefkenfpbfkaaW.PrintWords Go.Proofs.YtecefkenfpbfkaaW.PrintMore Go.Proofs.Ytecefkenfpbfkaa.PA

def sumN (s : ByteArray) : Nat := cL s.data.toList 65535
theorem sumN_lt (s : ByteArray) : sumN s < 65536 := cL_lt _ (by decide)
def hiB (n : Nat) : UInt8 := UInt8.ofNat (n / 256)
def loB (n : Nat) : UInt8 := UInt8.ofNat (n % 256)
def sealB (s : ByteArray) : ByteArray := s ++ ⟨#[hiB (sumN s), loB (sumN s)]⟩
/-- What Seal tells. -/
def SealS (s : ByteArray) : ByteArray × Int := if 100000 < s.size then (⟨#[]⟩, 7) else (sealB s, 0)
theorem two_bytes {n : Nat} (h : n < 65536) : strOfNums [(n : Int) / 256 % 256, (n : Int) % 256] = ⟨#[hiB n, loB n]⟩ := by
  have e1 : ((n : Int) / 256 % 256).toNat = n / 256 := by omega
  have e2 : ((n : Int) % 256).toNat = n % 256 := by omega
  simp only [strOfNums, List.map_cons, List.map_nil, e1, e2]
  rfl
theorem Seal_at {s : ByteArray} (h : s.size ≤ 140737488351234) : pack_Seal.f s = some (SealS s) := by
  have hl := sumN_lt s
  unfold pack_Seal.f SealS
  by_cases c : 100000 < s.size
  · rw [if_pos (by omega), if_pos c]
  · rw [if_neg (by omega), if_neg c, Sum_at (by omega), Option.bind_some, Option.bind_some, two_bytes (cL_lt s.data.toList (show 65535 < 65536 by decide)), if_pos (by show s.size + 2 ≤ _; omega)]
    rfl
theorem rSeal_at {s : ByteArray} (h : s.size ≤ 140737488351234) {k : Nat} (hk : 10 * s.size + 1 ≤ k) : tourbillonref06_Seal.f k s = some ((SealS s).1, (SealS s).2 == 0) := by
  have hl := sumN_lt s
  unfold tourbillonref06_Seal.f SealS
  by_cases c : 100000 < s.size
  · rw [if_pos (by omega), if_pos c]
    rfl
  · rw [if_neg (by omega), if_neg c, rSum_at (by omega) hk, Option.bind_some, Option.bind_some]
    rw [Int.tdiv_eq_ediv_of_nonneg (by omega), Int.tmod_eq_emod_of_nonneg (by omega)]
    have e : wrap64 ((cL s.data.toList 65535 : Nat) / 256 : Int) = ((cL s.data.toList 65535 : Nat) / 256 : Int) := w64 (by omega) (by unfold sumN at hl; omega)
    rw [e, show ((cL s.data.toList 65535 : Nat) : Int) % 256 % 256 = ((cL s.data.toList 65535 : Nat) : Int) % 256 by omega, two_bytes (cL_lt s.data.toList (show 65535 < 65536 by decide)), if_pos (by show s.size + 2 ≤ _; omega)]
    rfl
def OpenS (s : ByteArray) : ByteArray × Int := if s.size < 2 then (⟨#[]⟩, 6) else if 100002 < s.size then (⟨#[]⟩, 7) else if sumN s = 0 then (s.extract 0 (s.size - 2), 0) else (⟨#[]⟩, 9)
theorem Open_at {s : ByteArray} (h : s.size ≤ 140737488351234) : pack_Open.f s = some (OpenS s) := by
  unfold pack_Open.f OpenS
  rw [w64 (by omega) (by omega)]
  by_cases c : s.size < 2
  · rw [if_pos (by omega), if_pos c]
  by_cases d : 100002 < s.size
  · rw [if_neg (by omega), if_pos (by omega), if_neg c, if_pos d]
  rw [if_neg (by omega), if_neg (by omega), if_neg c, if_neg d, Sum_at (by omega), Option.bind_some]
  by_cases e : sumN s = 0
  · rw [if_pos (by unfold sumN at e; omega), if_pos e, if_pos (by omega), if_pos (by omega), show ((s.size : Int) - 2).toNat = s.size - 2 by omega]
  · rw [if_neg (by unfold sumN at e; omega), if_neg e]
theorem last_two {s : ByteArray} (h : 2 ≤ s.size) : s.data.toList = (s.extract 0 (s.size - 2)).data.toList ++ [s.data.toList.getD (s.size - 2) 0, s.data.toList.getD (s.size - 1) 0] := by
  have hl : s.data.toList.length = s.size := by simp
  rw [bytes_take]
  generalize s.data.toList = l at hl ⊢
  have h1 : s.size - 2 < l.length := by omega
  have h2 : s.size - 1 < l.length := by omega
  have e : l.drop (s.size - 2) = [l.getD (s.size - 2) 0, l.getD (s.size - 1) 0] := by
    rw [List.drop_eq_getElem_cons h1, show s.size - 2 + 1 = s.size - 1 by omega, List.drop_eq_getElem_cons h2, show s.size - 1 + 1 = s.size by omega, List.drop_eq_nil_of_le (by omega)]
    simp [List.getD_eq_getElem?_getD, h1, h2]
  rw [← e, List.take_append_drop]
theorem sum_two {s : ByteArray} (h : 2 ≤ s.size) : sumN s = 0 ↔ sumN (s.extract 0 (s.size - 2)) = (s.data.toList.getD (s.size - 2) 0).toNat * 256 + (s.data.toList.getD (s.size - 1) 0).toNat := by
  unfold sumN
  rw [last_two h, cL_append, cL_two (cL_lt _ (by decide)), ← last_two h]
theorem bt_list {s : ByteArray} {i : Nat} (h : i < s.size) : bt s (i : Int) = (((s.data.toList.getD i 0).toNat : Nat) : Int) := by
  unfold bt
  rw [Int.toNat_natCast, dif_pos h, List.getD_eq_getElem?_getD, List.getElem?_eq_getElem (by simpa using h)]
  rfl
theorem rOpen_at {s : ByteArray} (h : s.size ≤ 140737488351234) {k : Nat} (hk : 10 * s.size + 1 ≤ k) : tourbillonref06_Open.f k s = some (OpenS s) := by
  unfold tourbillonref06_Open.f OpenS
  rw [w64 (by omega) (by omega)]
  by_cases c : s.size < 2
  · rw [if_pos (by omega), if_pos c]
  by_cases d : 100002 < s.size
  · rw [if_neg (by omega), if_pos (by omega), if_neg c, if_pos d]
  have hx : (s.extract 0 (s.size - 2)).size = s.size - 2 := by rw [ByteArray.size_extract]; omega
  have b1 := bt_list (s := s) (i := s.size - 2) (by omega)
  have b2 := bt_list (s := s) (i := s.size - 1) (by omega)
  have l1 := byte_lt (s.data.toList.getD (s.size - 2) 0)
  have l2 := byte_lt (s.data.toList.getD (s.size - 1) 0)
  have hs := sum_two (s := s) (by omega)
  rw [show (((s.size - 2 : Nat) : Int)) = (s.size : Int) - 2 by omega] at b1
  rw [show (((s.size - 1 : Nat) : Int)) = (s.size : Int) - 2 + 1 by omega] at b2
  rw [if_neg (by omega), if_neg (by omega), if_neg c, if_neg d, if_pos (by omega), if_pos (by omega), w64 (n := (s.size : Int) - 2 + 1) (by omega) (by omega), if_pos (by omega), if_pos (by omega), if_pos (by omega), show ((s.size : Int) - 2).toNat = s.size - 2 by omega, rSum_at (by omega) (by omega), Option.bind_some, b1, b2]
  generalize (s.data.toList.getD (s.size - 2) 0).toNat = x at b1 l1 hs ⊢
  generalize (s.data.toList.getD (s.size - 1) 0).toNat = y at b2 l2 hs ⊢
  rw [w64 (n := (x : Int)) (by omega) (by omega), w64 (n := (y : Int)) (by omega) (by omega), w64 (n := (x : Int) * 256) (by omega) (by omega), w64 (n := (x : Int) * 256 + y) (by omega) (by omega)]
  unfold sumN at hs ⊢
  by_cases e : cL s.data.toList 65535 = 0
  · have := hs.1 e
    rw [if_pos e, if_pos (by omega)]
  · have : ¬ _ := fun x => e (hs.2 x)
    rw [if_neg e, if_neg (by omega)]
end Go.Proofs.YtecefkenfpbfkaaX
