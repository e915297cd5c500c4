/- What Read tells, and the reference's: a number at the head of a row of bytes, and all of them. Conditions: bounds on lengths. -/
import Derived.Test.YtecefkenfpbfkaaPAx1
import Derived.Test.YtecefkenfpbfkaaPAx3
import Derived.Test.YtecefkenfpbfkaaPAx2
import Derived.Test.YtecefkenfpbfkaaXWrite
namespace Go.Proofs.YtecefkenfpbfkaaX
open Go.RowKit Go.Proofs.YtecefkenfpbfkaaW.PrintWords Go.Proofs.YtecefkenfpbfkaaW.PrintMore Go.Proofs.Ytecefkenfpbfkaa.PA

/-- One number in plain arithmetic: its value, the error, how many bytes were looked at. -/
def o1 : List UInt8 → Nat → Nat → Nat × Nat × Nat
  | [], j, _ => (0, 6, j)
  | c :: t, j, u =>
    if c.toNat < 128 then (if c.toNat = 0 ∧ 0 < j then (0, 8, j + 1) else if 9 ≤ j ∨ 4611686018427387904 < u + c.toNat % 128 * 128 ^ j then (0, 7, j + 1) else (u + c.toNat % 128 * 128 ^ j, 0, j + 1))
    else o1 t (j + 1) (u + c.toNat % 128 * 128 ^ j)
def toR (r : Nat × Nat × Nat) : Int × Bool × Int × Nat := ((r.1 : Int), r.2.1 == 0, (r.2.1 : Int), r.2.2)
theorem and127b {x : Nat} (h : x < 256) : Go.bits .and .u8 (x : Int) 127 = ((x % 128 : Nat) : Int) := by
  have := bits_mask .u8 8 (by decide) wraps_u8 7 (by decide) (x : Int) (by omega) (by simp; omega)
  simp at this
  omega
theorem pow128 : ∀ j, j < 9 → (128 : Nat) ^ j = 2 ^ (7 * j) := fun j _ => by rw [Nat.pow_mul]
/-- The code's step is the plain one, as long as the number may still be one. -/
theorem step_or {j u c : Nat} (hj : j < 9) (hu : u < 128 ^ j) (hc : c < 256) : Go.bits .or .u64 (u : Int) (IntKind.u64.wrap ((IntKind.u64.wrap (Go.bits .and .u8 (c : Int) 127)) * 2 ^ (7 * j))) = ((u + c % 128 * 128 ^ j : Nat) : Int) := by
  have hp : 128 ^ j ≤ 128 ^ 8 := Nat.pow_le_pow_right (by decide) (by omega)
  have h8 : (128 : Nat) ^ 8 = 72057594037927936 := by decide
  have hm : c % 128 * 128 ^ j ≤ 127 * 128 ^ 8 := Nat.mul_le_mul (by omega) hp
  have e2 : ((2 : Int) ^ (7 * j)) = ((128 ^ j : Nat) : Int) := by
    rw [pow128 j hj]
    push_cast
    rfl
  rw [and127b hc, u64s (n := ((c % 128 : Nat) : Int)) (by omega) (by omega), e2]
  have e3 : ((c % 128 : Nat) : Int) * ((128 ^ j : Nat) : Int) = ((c % 128 * 128 ^ j : Nat) : Int) := by push_cast; rfl
  rw [e3, u64s (by omega) (by omega)]
  have hor : Go.bits .or .u64 (u : Int) ((c % 128 * 128 ^ j : Nat) : Int) = Go.bits .or .u64 ((c % 128 * 128 ^ j : Nat) : Int) (u : Int) := by
    simp only [Go.bits, BitVec.or_comm]
  rw [hor, or_at (7 * j) (by omega) (by omega) ?_ (by omega) ?_ (by omega)]
  · omega
  · rw [e2, ← Int.natCast_emod, Nat.mul_mod_left]
    rfl
  · rw [e2]
    omega
theorem rd1_o1 : ∀ (l : List UInt8) (j u : Nat) (v : Int), (j ≤ 9 → u < 128 ^ j ∧ v = (u : Int)) → rd1 l j v = toR (o1 l j u)
  | [], j, u, v, _ => by
    rw [rd1, o1]
    rfl
  | c :: t, j, u, v, h => by
    have hc := byte_lt c
    rw [rd1, o1]
    by_cases hj : j < 9
    · obtain ⟨hu, rfl⟩ := h (by omega)
      have hv : u + c.toNat % 128 * 128 ^ j < 128 ^ (j + 1) := by
        rw [Nat.pow_succ]
        have : c.toNat % 128 * 128 ^ j ≤ 127 * 128 ^ j := Nat.mul_le_mul_right _ (by omega)
        omega
      have hp : 128 ^ (j + 1) ≤ 128 ^ 9 := Nat.pow_le_pow_right (by decide) (by omega)
      have h9 : (128 : Nat) ^ 9 = 9223372036854775808 := by decide
      simp only [if_pos hj, step_or hj hu hc]
      generalize u + c.toNat % 128 * 128 ^ j = x at hv
      split
      · split
        · rfl
        · by_cases d : 4611686018427387904 < x
          · rw [if_pos (.inr (by omega)), if_pos (.inr d)]; rfl
          · rw [if_neg (by omega), if_neg (by omega), w64 (by omega) (by omega)]; rfl
      · exact rd1_o1 t (j + 1) x _ (fun _ => ⟨hv, rfl⟩)
    · simp only [if_neg hj]
      split
      · split
        · rfl
        · rw [if_pos (.inl (by omega)), if_pos (.inl (by omega))]; rfl
      · exact rd1_o1 t (j + 1) _ v (fun h => by omega)
/-- All numbers of a row of bytes. -/
def readS : Nat → List UInt8 → List Int → List Int × Int
  | 0, _, out => (out, 0)
  | k + 1, l, out =>
    if l.length = 0 then (out, 0) else
    let r := o1 l 0 0
    if r.2.1 ≠ 0 then ([], (r.2.1 : Int)) else if out.length = 2000 then ([], 7) else readS k (l.drop r.2.2) (out ++ [(r.1 : Int)])
theorem rdAll_readS : ∀ (k : Nat) (l : List UInt8) (out : List Int), rdAll k l out = readS k l out
  | 0, _, _ => rfl
  | k + 1, l, out => by
    rw [rdAll, readS]
    by_cases h0 : l.length = 0
    · simp [next1, h0]
    · have e : next1 l = toR (o1 l 0 0) := by
        unfold next1
        rw [if_neg h0, rd1_o1 l 0 0 0 (fun _ => ⟨by decide, rfl⟩)]
      simp only [e, toR, if_neg h0]
      by_cases h1 : (o1 l 0 0).2.1 = 0
      · by_cases h2 : out.length = 2000
        · simp [h1, h2]
        · simp [h1, h2, rdAll_readS k]
      · simp [h1]
def ReadS (l : List UInt8) : List Int × Int := readS (l.length + 1) l []
theorem Read_at {s : ByteArray} (h : s.size ≤ 1125899906842624) : pack_Read.f s = some (ReadS s.data.toList) := by
  unfold pack_Read.f ReadS
  rw [if_pos h, rdAll_readS, size_list]
end Go.Proofs.YtecefkenfpbfkaaX
