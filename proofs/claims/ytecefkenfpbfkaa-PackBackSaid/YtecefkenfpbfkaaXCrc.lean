/- The sum of a text as plain arithmetic: one turn is one to one, so is a byte, so is a text behind; the sum of a text with its sum behind is nought. Conditions: numbers of 16 bits. -/
import Derived.Test.YtecefkenfpbfkaaPAx1
import Derived.Test.YtecefkenfpbfkaaXNum
namespace Go.Proofs.YtecefkenfpbfkaaX
open Go.RowKit Go.Proofs.YtecefkenfpbfkaaW.PrintWords Go.Proofs.YtecefkenfpbfkaaW.PrintMore Go.Proofs.Ytecefkenfpbfkaa.PA

theorem u16w (n : Int) : IntKind.u16.wrap n = n % 65536 := by simp [IntKind.wrap, IntKind.bits, IntKind.signed]
theorem wraps_u16 (n : Int) (h₀ : 0 ≤ n) (h₁ : n < 2 ^ 16) : IntKind.u16.wrap n = n := by
  rw [u16w]
  omega
theorem x16 {a b : Nat} (ha : a < 65536) (hb : b < 65536) : a ^^^ b < 65536 := Nat.xor_lt_two_pow (n := 16) (by simpa using ha) (by simpa using hb)
theorem xor16 {a b : Nat} (ha : a < 65536) (hb : b < 65536) : Go.bits .xor .u16 (a : Int) (b : Int) = ((a ^^^ b : Nat) : Int) := by
  have ha' : a % 2 ^ IntKind.u16.bits = a := Nat.mod_eq_of_lt ha
  have hb' : b % 2 ^ IntKind.u16.bits = b := Nat.mod_eq_of_lt hb
  simp only [Go.bits, BitVec.ofInt_natCast, BitVec.toNat_xor, BitVec.toNat_ofNat, ha', hb']
  exact wraps_u16 _ (Int.natCast_nonneg _) (by have := x16 ha hb; omega)
theorem and16 {a b : Nat} (ha : a < 65536) (hb : b < 65536) : Go.bits .and .u16 (a : Int) (b : Int) = ((a &&& b : Nat) : Int) :=
  (bits_nat .u16 16 (by decide) wraps_u16 a b (by simpa using ha) (by simpa using hb)).1
def c1 (v : Nat) : Nat := if v < 32768 then 2 * v else (2 * v - 65536) ^^^ 4129
theorem c1_lt {v : Nat} (h : v < 65536) : c1 v < 65536 := by
  unfold c1
  split
  · omega
  · exact Nat.xor_lt_two_pow (n := 16) (by simp; omega) (by decide)
theorem crc1_c1 {v : Nat} (h : v < 65536) : crc1 (v : Int) = (c1 v : Int) := by
  unfold crc1 c1
  rw [u16w, u16w]
  split
  · rename_i hv
    rw [show (-((v : Int) / 32768)) % 65536 = ((0 : Nat) : Int) by omega, show ((v : Int) * 2) % 65536 = ((2 * v : Nat) : Int) by omega, show (4129 : Int) = ((4129 : Nat) : Int) from rfl, and16 (by decide) (by decide), xor16 (by omega) (by decide)]
    simp
  · rename_i hv
    rw [show (-((v : Int) / 32768)) % 65536 = ((65535 : Nat) : Int) by omega, show ((v : Int) * 2) % 65536 = ((2 * v - 65536 : Nat) : Int) by omega, show (4129 : Int) = ((4129 : Nat) : Int) from rfl, and16 (by decide) (by decide), xor16 (by omega) (by decide)]
    rfl
theorem c1_inj {v w : Nat} (hv : v < 65536) (hw : w < 65536) (h : c1 v = c1 w) : v = w := by
  have key : ∀ u : Nat, u < 65536 → (if c1 u % 2 = 1 then (c1 u ^^^ 4129) / 2 + 32768 else c1 u / 2) = u := by
    intro u hu
    unfold c1
    split
    · rw [if_neg (by omega)]
      omega
    · rename_i h0
      have e : ((2 * u - 65536) ^^^ 4129) % 2 = 1 := by
        rw [Nat.xor_mod_two_eq_one]
        omega
      rw [if_pos e, Nat.xor_assoc, Nat.xor_self, Nat.xor_zero]
      omega
  rw [← key v hv, ← key w hw, h]
def c8 : Nat → Nat → Nat
  | 0, v => v
  | n + 1, v => c1 (c8 n v)
theorem c8_lt {v : Nat} (h : v < 65536) : ∀ n, c8 n v < 65536
  | 0 => h
  | n + 1 => c1_lt (c8_lt h n)
theorem crc8_c8 {v : Nat} (h : v < 65536) : ∀ n, crc8 n (v : Int) = (c8 n v : Int)
  | 0 => rfl
  | n + 1 => by
    show crc1 (crc8 n v) = _
    rw [crc8_c8 h n, crc1_c1 (c8_lt h n)]
    rfl
theorem c8_inj {v w : Nat} (hv : v < 65536) (hw : w < 65536) : ∀ n, c8 n v = c8 n w → v = w
  | 0, h => h
  | n + 1, h => c8_inj hv hw n (c1_inj (c8_lt hv n) (c8_lt hw n) h)
def cb (v : Nat) (c : UInt8) : Nat := c8 8 (v ^^^ (c.toNat * 256))
def cL (l : List UInt8) (v : Nat) : Nat := l.foldl cb v
theorem cL_nil (v : Nat) : cL [] v = v := rfl
theorem cL_cons (c : UInt8) (t : List UInt8) (v : Nat) : cL (c :: t) v = cL t (cb v c) := by rw [cL, List.foldl_cons, ← cL]
theorem crcL_nil (v : Int) : crcL [] v = v := rfl
theorem crcL_cons (c : UInt8) (t : List UInt8) (v : Int) : crcL (c :: t) v = crcL t (crc8 8 (Go.bits .xor .u16 v (IntKind.u16.wrap (IntKind.u16.wrap (c.toNat : Int) * 256)))) := by rw [crcL, List.foldl_cons, ← crcL]
theorem byte_lt (c : UInt8) : c.toNat < 256 := c.toNat_lt
theorem cb_lt {v : Nat} (h : v < 65536) (c : UInt8) : cb v c < 65536 := c8_lt (x16 h (by have := byte_lt c; omega)) 8
theorem cL_lt : ∀ (l : List UInt8) {v : Nat}, v < 65536 → cL l v < 65536
  | [], _, h => by rw [cL_nil]; exact h
  | c :: t, _, h => by rw [cL_cons]; exact cL_lt t (cb_lt h c)
theorem crcL_cL : ∀ (l : List UInt8) {v : Nat}, v < 65536 → crcL l (v : Int) = (cL l v : Int)
  | [], _, _ => by rw [cL_nil, crcL_nil]
  | c :: t, v, h => by
    have e : crc8 8 (Go.bits .xor .u16 (v : Int) (IntKind.u16.wrap (IntKind.u16.wrap (c.toNat : Int) * 256))) = ((cb v c : Nat) : Int) := by
      have hc := byte_lt c
      rw [u16w, u16w, show ((c.toNat : Int) % 65536 * 256) % 65536 = ((c.toNat * 256 : Nat) : Int) by omega, xor16 h (by omega), crc8_c8 (x16 h (by omega))]
      rfl
    rw [crcL_cons, cL_cons, e, crcL_cL t (cb_lt h c)]
theorem xor_cancel {a b c : Nat} (h : a ^^^ c = b ^^^ c) : a = b := by
  have e : (a ^^^ c) ^^^ c = (b ^^^ c) ^^^ c := by rw [h]
  rwa [Nat.xor_assoc, Nat.xor_assoc, Nat.xor_self, Nat.xor_zero, Nat.xor_zero] at e
theorem xor_cancel' {a b c : Nat} (h : c ^^^ a = c ^^^ b) : a = b := xor_cancel (c := c) (by rw [Nat.xor_comm a, Nat.xor_comm b, h])
theorem cb_inj {v w : Nat} (hv : v < 65536) (hw : w < 65536) (c : UInt8) (h : cb v c = cb w c) : v = w := by
  have hc := byte_lt c
  exact xor_cancel (c8_inj (x16 hv (by omega)) (x16 hw (by omega)) 8 h)
theorem cb_inj' {v : Nat} (hv : v < 65536) (c d : UInt8) (h : cb v c = cb v d) : c = d := by
  have hc := byte_lt c
  have hd := byte_lt d
  have e := xor_cancel' (c8_inj (x16 hv (by omega)) (x16 hv (by omega)) 8 h)
  exact UInt8.toNat_inj.1 (by omega)
theorem cL_inj : ∀ (l : List UInt8) {v w : Nat}, v < 65536 → w < 65536 → cL l v = cL l w → v = w
  | [], _, _, _, _, h => by rwa [cL_nil, cL_nil] at h
  | c :: t, _, _, hv, hw, h => by
    rw [cL_cons, cL_cons] at h
    exact cb_inj hv hw c (cL_inj t (cb_lt hv c) (cb_lt hw c) h)
theorem cL_append (l m : List UInt8) (v : Nat) : cL (l ++ m) v = cL m (cL l v) := List.foldl_append
/-- One byte that is another one makes another sum. -/
theorem cL_byte (l m : List UInt8) {v : Nat} (hv : v < 65536) (c d : UInt8) (h : cL (l ++ c :: m) v = cL (l ++ d :: m) v) : c = d := by
  rw [cL_append, cL_append, cL_cons, cL_cons] at h
  have hl := cL_lt l hv
  exact cb_inj' hl c d (cL_inj m (cb_lt hl c) (cb_lt hl d) h)
theorem c8_small {u : Nat} (h : u < 256) : ∀ n, n ≤ 8 → c8 n u = u * 2 ^ n
  | 0, _ => by simp [c8]
  | n + 1, hn => by
    show c1 (c8 n u) = _
    have hp : (2 : Nat) ^ n ≤ 2 ^ 7 := Nat.pow_le_pow_right (by decide) (by omega)
    have hm : u * 2 ^ n ≤ 255 * 2 ^ 7 := Nat.mul_le_mul (by omega) hp
    rw [c8_small h n (by omega)]
    unfold c1
    rw [if_pos (by omega), Nat.pow_succ]
    grind
/-- The sum with two bytes behind is nought just where these are the sum. -/
theorem cL_two {v : Nat} (hv : v < 65536) (h l : UInt8) : cL [h, l] v = 0 ↔ v = h.toNat * 256 + l.toNat := by
  have hh := byte_lt h
  have hl := byte_lt l
  have e0 : c8 8 0 = 0 := by decide +kernel
  have ed : cL [h, l] v = c8 8 (cb v h ^^^ (l.toNat * 256)) := by rw [cL_cons, cL_cons, cL_nil, cb]
  rw [ed]
  have el : c8 8 l.toNat = l.toNat * 256 := c8_small hl 8 (Nat.le_refl _)
  have ex : l.toNat ^^^ (h.toNat * 256) = h.toNat * 256 + l.toNat := by
    apply Nat.eq_of_testBit_eq
    intro j
    rw [Nat.testBit_xor, Nat.mul_comm, show (256 : Nat) = 2 ^ 8 from rfl, Nat.testBit_two_pow_mul, Nat.testBit_two_pow_mul_add _ hl]
    by_cases c : j < 8
    · simp [c, show ¬ 8 ≤ j by omega]
    · have : l.toNat.testBit j = false := Nat.testBit_lt_two_pow (Nat.lt_of_lt_of_le hl (Nat.pow_le_pow_right (n := 2) (by decide) (show 8 ≤ j by omega)))
      simp [c, this, show 8 ≤ j by omega]
  constructor
  · intro e
    have e' : c8 8 (cb v h ^^^ (l.toNat * 256)) = c8 8 0 := by rw [e0, e]
    have e1 := c8_inj (x16 (cb_lt hv h) (by omega)) (by decide) 8 e'
    have e2 : cb v h = l.toNat * 256 := xor_cancel (c := l.toNat * 256) (by rw [e1, Nat.xor_self])
    rw [← el, cb] at e2
    have e3 := c8_inj (x16 hv (by omega)) (by omega) 8 e2
    rw [← ex, ← e3, Nat.xor_assoc, Nat.xor_self, Nat.xor_zero]
  · rintro e
    have e3 : v ^^^ (h.toNat * 256) = l.toNat := by rw [e, ← ex, Nat.xor_assoc, Nat.xor_self, Nat.xor_zero]
    rw [cb, e3, el, Nat.xor_self, e0]
theorem Sum_at {s : ByteArray} (h : s.size ≤ 4611686018427387904) : pack_Sum.f s = some ((cL s.data.toList 65535 : Nat) : Int) := by
  unfold pack_Sum.f
  rw [if_pos h, ← crcL_cL _ (by decide)]
  rfl
end Go.Proofs.YtecefkenfpbfkaaX
