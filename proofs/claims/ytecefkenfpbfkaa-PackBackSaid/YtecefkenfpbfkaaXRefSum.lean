/- The reference's sum of a text is the code's. Conditions: bounds on lengths. -/
import Derived.Test.YtecefkenfpbfkaaPAx6
import Derived.Test.YtecefkenfpbfkaaXPack
namespace Go.Proofs.YtecefkenfpbfkaaX
open Go.RowKit Go.Proofs.YtecefkenfpbfkaaW.PrintWords Go.Proofs.YtecefkenfpbfkaaW.PrintMore Go.Proofs.Ytecefkenfpbfkaa.PA

/-- One turn, as the reference makes it. -/
def t1 (v : Nat) (b : Nat) : Nat := if b = v / 32768 then 2 * v % 65536 else (2 * v % 65536) ^^^ 4129
def tN (c : Nat) : Nat → Nat → Nat   -- the last n bits of c
  | 0, v => v
  | n + 1, v => tN c n (t1 v (c / 2 ^ n % 2))
theorem t1_lt (v b : Nat) : t1 v b < 65536 := by
  unfold t1
  split
  · omega
  · exact x16 (by omega) (by decide)
theorem tN_lt {c : Nat} : ∀ n {v : Nat}, v < 65536 → tN c n v < 65536
  | 0, _, h => h
  | n + 1, v, _ => tN_lt n (t1_lt v _)
theorem xor_i64 {a b : Nat} (ha : a < 65536) (hb : b < 65536) : Go.bits .xor .i64 (a : Int) (b : Int) = ((a ^^^ b : Nat) : Int) := by
  have ha' : a % 2 ^ IntKind.i64.bits = a := Nat.mod_eq_of_lt (Nat.lt_of_lt_of_le ha (by decide))
  have hb' : b % 2 ^ IntKind.i64.bits = b := Nat.mod_eq_of_lt (Nat.lt_of_lt_of_le hb (by decide))
  simp only [Go.bits, BitVec.ofInt_natCast, BitVec.toNat_xor, BitVec.toNat_ofNat, ha', hb']
  have := x16 ha hb
  rw [IntKind.wrap_i64]
  omega
/-- The reference's inner loop. -/
theorem rl1 (s : ByteArray) (hs : s.size ≤ 140737488351234) (i : Nat) (hi : i < s.size) : ∀ n : Nat, n ≤ 8 → ∀ (v k : Nat), v < 65536 → tourbillonref06_Sum.l1 (k + n + 1) s (v : Int) (i : Int) ((n : Int) - 1) = tourbillonref06_Sum.l0 k s ((tN (s.data.toList.getD i 0).toNat n v : Nat) : Int) ((i + 1 : Nat) : Int)
  | 0, _, v, k, hv => by
    rw [tourbillonref06_Sum.l1, if_neg (by omega), w64 (by omega) (by omega), tN]
    rfl
  | n + 1, hn, v, k, hv => by
    have hb : bt s (i : Int) = (((s.data.toList.getD i 0).toNat : Nat) : Int) := by
      unfold bt
      rw [Int.toNat_natCast, dif_pos hi, List.getD_eq_getElem?_getD, List.getElem?_eq_getElem (by simpa using hi)]
      rfl
    generalize hg : s.data.toList.getD i 0 = c at hb ⊢
    have hc := byte_lt c
    have e0 : ((n + 1 : Nat) : Int) - 1 = (n : Int) := by omega
    have hbit : Int.tmod (shr .i64 (wrap64 (bt s (i : Int))) ((n : Nat) : Int)) 2 = ((c.toNat / 2 ^ n % 2 : Nat) : Int) := by
      rw [hb, w64 (by omega) (by omega)]
      unfold shr
      rw [Int.toNat_natCast, Nat.min_eq_left (by simp [IntKind.bits]; omega)]
      norm_cast
    have ht : wrap64 (Int.tdiv (v : Int) 32768) = ((v / 32768 : Nat) : Int) := by
      rw [Int.tdiv_eq_ediv_of_nonneg (by omega), w64 (by omega) (by omega)]
      omega
    have h2 : Int.tmod (wrap64 (2 * (v : Int))) 65536 = ((2 * v % 65536 : Nat) : Int) := by
      rw [w64 (by omega) (by omega), Int.tmod_eq_emod_of_nonneg (by omega)]
      omega
    have hx : Go.bits .xor .i64 ((2 * v % 65536 : Nat) : Int) 4129 = (((2 * v % 65536) ^^^ 4129 : Nat) : Int) := xor_i64 (b := 4129) (by omega) (by decide)
    rw [show k + (n + 1) + 1 = (k + n + 1) + 1 by omega, tourbillonref06_Sum.l1, e0, if_pos (by omega), if_pos (by omega), if_pos (by omega), if_pos (by omega), hbit, ht, h2, hx, w64 (by omega) (by omega), tN, t1]
    by_cases c' : c.toNat / 2 ^ n % 2 = v / 32768
    · rw [if_pos (by omega), if_pos c']
      have := rl1 s hs i hi n (by omega) (2 * v % 65536) k (by omega)
      rw [hg] at this
      exact this
    · rw [if_neg (by omega), if_neg c']
      have := rl1 s hs i hi n (by omega) ((2 * v % 65536) ^^^ 4129) k (x16 (by omega) (by decide))
      rw [hg] at this
      exact this
/-! one byte by the reference is one byte by the code -/
theorem xor_high {i l : Nat} (hl : l < 2 ^ i) (h : Nat) : l ^^^ (2 ^ i * h) = 2 ^ i * h + l := by
  apply Nat.eq_of_testBit_eq
  intro j
  rw [Nat.testBit_xor, Nat.testBit_two_pow_mul, Nat.testBit_two_pow_mul_add _ hl]
  by_cases c : j < i
  · simp [c, show ¬ i ≤ j by omega]
  · have : l.testBit j = false := Nat.testBit_lt_two_pow (Nat.lt_of_lt_of_le hl (Nat.pow_le_pow_right (n := 2) (by decide) (show i ≤ j by omega)))
    simp [c, this, show i ≤ j by omega]
theorem xor_top {v : Nat} (hv : v < 65536) : v ^^^ 32768 = if v < 32768 then v + 32768 else v - 32768 := by
  have h := fun (u : Nat) (hu : u < 32768) => xor_high (i := 15) (l := u) (by simpa using hu) 1
  split
  · have := h v (by omega)
    simp at this
    omega
  · have e := h (v - 32768) (by omega)
    simp at e
    have e' : (v - 32768) ^^^ 32768 = v := by omega
    have e2 : ((v - 32768) ^^^ 32768) ^^^ 32768 = v ^^^ 32768 := by rw [e']
    rw [Nat.xor_assoc, Nat.xor_self, Nat.xor_zero] at e2
    exact e2.symm
theorem t1_c1 {v b : Nat} (hv : v < 65536) (hb : b < 2) : t1 v b = c1 (v ^^^ (b * 32768)) := by
  unfold t1 c1
  rcases (show b = 0 ∨ b = 1 by omega) with rfl | rfl
  · rw [Nat.zero_mul, Nat.xor_zero]
    by_cases c : v < 32768
    · rw [if_pos (by omega), if_pos c]
      omega
    · rw [if_neg (by omega), if_neg c, show 2 * v % 65536 = 2 * v - 65536 by omega]
  · rw [Nat.one_mul, xor_top hv]
    by_cases c : v < 32768
    · rw [if_neg (by omega), if_pos c, if_neg (by omega), show 2 * v % 65536 = 2 * (v + 32768) - 65536 by omega]
    · rw [if_pos (by omega), if_neg c, if_pos (by omega)]
      omega
theorem two_xor (a b : Nat) : 2 * (a ^^^ b) = (2 * a) ^^^ (2 * b) := by
  have := Nat.shiftLeft_xor_distrib (a := a) (b := b) (i := 1)
  simp only [Nat.shiftLeft_eq, Nat.pow_one] at this
  rw [Nat.mul_comm 2, Nat.mul_comm 2, Nat.mul_comm 2]
  exact this
theorem c1_lin {a y : Nat} (ha : a < 65536) (hy : y < 32768) : c1 (a ^^^ y) = c1 a ^^^ (2 * y) := by
  have low : ∀ u, u < 32768 → u ^^^ y < 32768 := fun u hu => Nat.xor_lt_two_pow (n := 15) (by simpa using hu) (by simpa using hy)
  by_cases c : a < 32768
  · have := low a c
    unfold c1
    rw [if_pos this, if_pos c, two_xor]
  · have hu : a - 32768 < 32768 := by omega
    have e1 : a = (a - 32768) ^^^ 32768 := by
      rw [xor_top (by omega), if_pos hu]
      omega
    have e2 : a ^^^ y = ((a - 32768) ^^^ y) + 32768 := by
      have h1 := low _ hu
      have h2 := xor_top (v := (a - 32768) ^^^ y) (by omega)
      rw [if_pos h1] at h2
      rw [← h2, Nat.xor_assoc, Nat.xor_comm y, ← Nat.xor_assoc, ← e1]
    have h1 := low _ hu
    unfold c1
    rw [e2, if_neg (by omega), if_neg c, show 2 * (((a - 32768) ^^^ y) + 32768) - 65536 = 2 * ((a - 32768) ^^^ y) by omega, two_xor, show 2 * (a - 32768) = 2 * a - 65536 by omega, Nat.xor_assoc, Nat.xor_comm (2 * y), ← Nat.xor_assoc]
theorem c8_succ : ∀ (n v : Nat), c8 (n + 1) v = c8 n (c1 v)
  | 0, v => rfl
  | n + 1, v => by
    show c1 (c8 (n + 1) v) = c1 (c8 n (c1 v))
    rw [c8_succ n v]
theorem tN_c8 (c : Nat) : ∀ (n : Nat), n ≤ 8 → ∀ v, v < 65536 → tN c n v = c8 n (v ^^^ ((c % 2 ^ n) * 2 ^ (16 - n)))
  | 0, _, v, _ => by simp [tN, c8, Nat.mod_one]
  | n + 1, hn, v, hv => by
    have hb : c / 2 ^ n % 2 < 2 := Nat.mod_lt _ (by decide)
    have hm : c % 2 ^ n < 2 ^ n := Nat.mod_lt _ (Nat.two_pow_pos n)
    have hpp : 2 ^ n * 2 ^ (15 - n) = 32768 := by rw [← Nat.pow_add, show n + (15 - n) = 15 by omega]
    have hy : c % 2 ^ n * 2 ^ (15 - n) < 32768 := by
      rw [← hpp]
      exact Nat.mul_lt_mul_of_pos_right hm (Nat.two_pow_pos _)
    have hsplit : c % 2 ^ (n + 1) * 2 ^ (16 - (n + 1)) = (c % 2 ^ n * 2 ^ (15 - n)) ^^^ (c / 2 ^ n % 2 * 32768) := by
      have h := xor_high (i := 15) (l := c % 2 ^ n * 2 ^ (15 - n)) (by simpa using hy) (c / 2 ^ n % 2)
      rw [show (2 : Nat) ^ 15 = 32768 from rfl, Nat.mul_comm 32768] at h
      rw [h, Nat.mod_pow_succ, show 16 - (n + 1) = 15 - n by omega, Nat.add_mul, ← hpp]
      grind
    rw [tN, tN_c8 c n (by omega) _ (t1_lt v _), t1_c1 hv hb, c8_succ, hsplit]
    have hbl : c / 2 ^ n % 2 * 32768 < 65536 := by omega
    rw [Nat.xor_comm (c % 2 ^ n * 2 ^ (15 - n)), ← Nat.xor_assoc, c1_lin (x16 hv hbl) hy]
    congr 2
    rw [show 16 - n = (15 - n) + 1 by omega, Nat.pow_succ]
    grind
theorem tN_cb {c : UInt8} {v : Nat} (hv : v < 65536) : tN c.toNat 8 v = cb v c := by
  rw [tN_c8 _ 8 (Nat.le_refl _) v hv, cb, Nat.mod_eq_of_lt (byte_lt c)]
theorem rl0 (s : ByteArray) (hs : s.size ≤ 140737488351234) : ∀ (n i v k : Nat), n + i = s.size → v < 65536 → tourbillonref06_Sum.l0 (k + 10 * n + 1) s (v : Int) (i : Int) = some ((cL (s.data.toList.drop i) v : Nat) : Int)
  | 0, i, v, k, hi, hv => by
    rw [tourbillonref06_Sum.l0, if_neg (by omega), List.drop_eq_nil_of_le (by simp; omega), cL_nil]
  | n + 1, i, v, k, hi, hv => by
    have hlt : i < s.data.toList.length := by simp; omega
    have hd : s.data.toList.drop i = s.data.toList.getD i 0 :: s.data.toList.drop (i + 1) := by
      rw [List.drop_eq_getElem_cons hlt, List.getD_eq_getElem?_getD, List.getElem?_eq_getElem hlt]
      rfl
    have h7 := rl1 s hs i (by omega) 8 (Nat.le_refl _) v (k + 10 * n + 1) hv
    rw [show k + 10 * (n + 1) + 1 = (k + 10 * n + 1 + 8 + 1) + 1 by omega, tourbillonref06_Sum.l0, if_pos (by omega)]
    rw [show (((8 : Nat) : Int) - 1) = 7 from rfl] at h7
    rw [h7, tN_cb hv, rl0 s hs n (i + 1) _ k (by omega) (cb_lt hv _), hd, cL_cons]
theorem rSum_at {s : ByteArray} (hs : s.size ≤ 140737488351234) {k : Nat} (hk : 10 * s.size + 1 ≤ k) : tourbillonref06_Sum.f k s = some ((cL s.data.toList 65535 : Nat) : Int) := by
  have h := rl0 s hs s.size 0 65535 (k - (10 * s.size + 1)) (by omega) (by decide)
  rw [show k - (10 * s.size + 1) + 10 * s.size + 1 = k by omega, List.drop_zero] at h
  exact h
end Go.Proofs.YtecefkenfpbfkaaX
