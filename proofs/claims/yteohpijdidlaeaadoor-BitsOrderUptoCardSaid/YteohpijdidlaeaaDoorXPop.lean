/- How many bits of a word are set, the fast way: lanes of eight bits. Conditions: none. -/
import Derived.Test.YteohpijdidlaeaaDoorXB
namespace Go.Proofs.YteohpijdidlaeaaDoorL
open Go Go.Proofs.YteohpijdidlaeaaDoorM
set_option linter.unusedVariables false
set_option linter.unusedSimpArgs false

/-- Words cut at a byte. -/
theorem and_cut (a b c d : Nat) (hb : b < 256) (hd : d < 256) : (256 * a + b) &&& (256 * c + d) = 256 * (a &&& c) + (b &&& d) := by
  have h1 : ((256 * a + b) &&& (256 * c + d)) / 2 ^ 8 = a &&& c := by
    rw [Nat.and_div_two_pow]
    congr 1 <;> omega
  have h2 : ((256 * a + b) &&& (256 * c + d)) % 2 ^ 8 = b &&& d := by
    rw [Nat.and_mod_two_pow]
    congr 1 <;> omega
  have := Nat.div_add_mod ((256 * a + b) &&& (256 * c + d)) (2 ^ 8)
  rw [h1, h2] at this
  omega

/-- Masks of n bytes. -/
def lanes (b : Nat) : Nat → Nat
  | 0 => 0
  | n + 1 => 256 * lanes b n + b
theorem lanes_succ (b n : Nat) : lanes b (n + 1) = 256 * lanes b n + b := rfl
/-- The first two steps. -/
def pop4 (n x : Nat) : Nat := ((x / 2) &&& lanes 85 n) + (x &&& lanes 85 n)
def pop8 (n x : Nat) : Nat := ((pop4 n x / 4) &&& lanes 51 n) + (pop4 n x &&& lanes 51 n)
def pop11 (n x : Nat) : Nat := (pop8 n x / 16 + pop8 n x) &&& lanes 15 n
def b4 (b : Nat) : Nat := ((b / 2) &&& 85) + (b &&& 85)
def b8 (b : Nat) : Nat := ((b4 b / 4) &&& 51) + (b4 b &&& 51)
def b11 (b : Nat) : Nat := (b8 b / 16 + b8 b) &&& 15

theorem k1 : ∀ b, b < 256 → ∀ e, e < 2 → (128 * e + b / 2) &&& 85 = (b / 2) &&& 85 := by decide +kernel
theorem k1b : ∀ b, b < 256 → b4 b < 256 := by decide +kernel
theorem k2 : ∀ b, b < 256 → ∀ e, e < 4 → (64 * e + b / 4) &&& 51 = (b / 4) &&& 51 := by decide +kernel
theorem k2b : ∀ b, b < 256 → b8 b ≤ 68 ∧ b8 b % 16 ≤ 4 := by decide +kernel
theorem k3 : ∀ b, b < 256 → ∀ e, e < 5 → 16 * e + b8 b / 16 + b8 b < 256 ∧ (16 * e + b8 b / 16 + b8 b) &&& 15 = b11 b := by decide +kernel
theorem k4 : ∀ b, b < 256 → b11 b = cnt b.testBit 8 := by decide +kernel

theorem pop4_cut (n y b : Nat) (hb : b < 256) : pop4 (n + 1) (256 * y + b) = 256 * pop4 n y + b4 b := by
  unfold pop4 b4
  rw [lanes_succ]
  have e : (256 * y + b) / 2 = 256 * (y / 2) + (128 * (y % 2) + b / 2) := by omega
  rw [e, and_cut _ _ _ _ (by omega) (by omega), and_cut _ _ _ _ hb (by omega), k1 b hb (y % 2) (by omega)]
  omega
theorem pop8_cut (n y b : Nat) (hb : b < 256) : pop8 (n + 1) (256 * y + b) = 256 * pop8 n y + b8 b := by
  unfold pop8
  rw [pop4_cut n y b hb]
  have h4 := k1b b hb
  unfold b8
  generalize pop4 n y = z
  generalize b4 b = c at h4
  rw [lanes_succ]
  have e : (256 * z + c) / 4 = 256 * (z / 4) + (64 * (z % 4) + c / 4) := by omega
  rw [e, and_cut _ _ _ _ (by omega) (by omega), and_cut _ _ _ _ h4 (by omega), k2 c h4 (z % 4) (by omega)]
  omega
theorem pop8_mod (n x : Nat) (hx : x < 256 ^ n) : pop8 n x % 16 ≤ 4 := by
  cases n with
  | zero =>
    have : x = 0 := by simpa using hx
    subst this
    decide
  | succ n =>
    have h := pop8_cut n (x / 256) (x % 256) (by omega)
    rw [show 256 * (x / 256) + x % 256 = x by omega] at h
    have := (k2b (x % 256) (by omega)).2
    omega
theorem pop11_cut (n y b : Nat) (hy : y < 256 ^ n) (hb : b < 256) : pop11 (n + 1) (256 * y + b) = 256 * pop11 n y + b11 b := by
  unfold pop11
  rw [pop8_cut n y b hb]
  have h8 := pop8_mod n y hy
  have h3 := k3 b hb (pop8 n y % 16) (by omega)
  generalize pop8 n y = z at h8 h3
  rw [lanes_succ]
  have e : (256 * z + b8 b) / 16 + (256 * z + b8 b) = 256 * (z / 16 + z) + (16 * (z % 16) + b8 b / 16 + b8 b) := by omega
  rw [e, and_cut _ _ _ _ h3.1 (by omega), h3.2]
theorem b11_le (b : Nat) (hb : b < 256) : b11 b ≤ 8 := by rw [k4 b hb]; exact cnt_le _ _

theorem cut8 {c x y : Nat} (h : c < 256) (e : y = c + 256 * x) : y / 256 = x := by omega
/-- All steps. -/
theorem pop_sum {t x1 x2 x3 x4 x5 x6 c0 c1 c2 c3 c4 c5 c6 c7 : Nat} (h0 : c0 ≤ 8) (h1 : c1 ≤ 8) (h2 : c2 ≤ 8) (h3 : c3 ≤ 8) (h4 : c4 ≤ 8) (h5 : c5 ≤ 8) (h6 : c6 ≤ 8) (h7 : c7 ≤ 8)
    (e0 : t = c0 + 256 * x1) (e1 : x1 = c1 + 256 * x2) (e2 : x2 = c2 + 256 * x3) (e3 : x3 = c3 + 256 * x4) (e4 : x4 = c4 + 256 * x5) (e5 : x5 = c5 + 256 * x6) (e6 : x6 = c6 + 256 * c7) :
    t / 256 = x1 ∧ (t + x1) / 65536 = x2 + x3 ∧ (t + x1 + (x2 + x3)) / 4294967296 = x4 + x5 + x6 + c7 ∧ t + x1 + (x2 + x3) + (x4 + x5 + x6 + c7) < 9223372036854775808 ∧ (t + x1 + (x2 + x3) + (x4 + x5 + x6 + c7)) % 128 = c0 + c1 + c2 + c3 + c4 + c5 + c6 + c7 := by
  have b6 : x6 ≤ 2056 := by omega
  have b5 : x5 ≤ 526344 := by omega
  have b4 : x4 ≤ 134744072 := by omega
  have b3 : x3 ≤ 34494482440 := by omega
  have b2 : x2 ≤ 8830587504648 := by omega
  have b1 : x1 ≤ 2260630401189896 := by omega
  have b0 : t ≤ 578721382704613384 := by omega
  have a1 : t + x1 = (c0 + c1) + 256 * (x1 + x2) := by omega
  have a2 : x1 + x2 = (c1 + c2) + 256 * (x2 + x3) := by omega
  have a3 : t + x1 + (x2 + x3) = (c0 + c1 + c2 + c3) + 256 * (x1 + x2 + x3 + x4) := by omega
  have a4 : x1 + x2 + x3 + x4 = (c1 + c2 + c3 + c4) + 256 * (x2 + x3 + x4 + x5) := by omega
  have a5 : x2 + x3 + x4 + x5 = (c2 + c3 + c4 + c5) + 256 * (x3 + x4 + x5 + x6) := by omega
  have a6 : x3 + x4 + x5 + x6 = (c3 + c4 + c5 + c6) + 256 * (x4 + x5 + x6 + c7) := by omega
  have m : t + x1 + (x2 + x3) + (x4 + x5 + x6 + c7) = (c0 + c1 + c2 + c3 + c4 + c5 + c6 + c7) + 128 * (2 * (x1 + x2 + x3 + x4 + x5 + x6 + c7)) := by omega
  refine ⟨cut8 (Nat.lt_of_le_of_lt h0 (by decide)) e0, ?_, ?_, ?_, ?_⟩
  · clear m a3 a4 a5 a6
    rw [show (65536 : Nat) = 256 * 256 from rfl, ← Nat.div_div_eq_div_mul, cut8 (by omega) a1, cut8 (by omega) a2]
  · clear m a1 a2
    rw [show (4294967296 : Nat) = 256 * 256 * 256 * 256 from rfl, ← Nat.div_div_eq_div_mul, ← Nat.div_div_eq_div_mul, ← Nat.div_div_eq_div_mul, cut8 (by omega) a3, cut8 (by omega) a4, cut8 (by omega) a5, cut8 (by omega) a6]
  · clear m a1 a2 a3 a4 a5 a6 e0 e1 e2 e3 e4 e5 e6
    omega
  · rw [m, Nat.add_mul_mod_self_left, Nat.mod_eq_of_lt (by clear m a1 a2 a3 a4 a5 a6 e0 e1 e2 e3 e4 e5 e6; omega)]
theorem cnt_bytes (y b : Nat) (hb : b < 256) (n : Nat) : cnt (256 * y + b).testBit (8 + n) = cnt b.testBit 8 + cnt y.testBit n := by
  rw [cnt_add]
  congr 1
  · exact cnt_congr fun i hi => by
      have := Nat.testBit_two_pow_mul_add (i := 8) y (b := b) (by simpa using hb) i
      rw [show (2 : Nat) ^ 8 = 256 from rfl] at this
      rw [this, if_pos hi]
  · exact cnt_congr fun i hi => by
      have := Nat.testBit_two_pow_mul_add (i := 8) y (b := b) (by simpa using hb) (8 + i)
      rw [show (2 : Nat) ^ 8 = 256 from rfl] at this
      rw [this, if_neg (by omega)]
      congr 1
      omega
theorem pop_step (n x : Nat) (hx : x < 256 ^ (n + 1)) : pop11 (n + 1) x = b11 (x % 256) + 256 * pop11 n (x / 256) ∧ x / 256 < 256 ^ n ∧ b11 (x % 256) ≤ 8 ∧ ∀ m, cnt x.testBit (8 + m) = b11 (x % 256) + cnt (x / 256).testBit m := by
  have e : 256 * (x / 256) + x % 256 = x := by omega
  have hy : x / 256 < 256 ^ n := by rw [Nat.pow_succ] at hx; omega
  refine ⟨?_, hy, b11_le _ (by omega), fun m => ?_⟩
  · have := pop11_cut n (x / 256) (x % 256) hy (by omega)
    rw [e] at this
    rw [this, Nat.add_comm]
  · have := cnt_bytes (x / 256) (x % 256) (by omega) m
    rw [e] at this
    rw [this, k4 _ (by omega)]
end Go.Proofs.YteohpijdidlaeaaDoorL
