/- The sum of a text as plain arithmetic (the code's and the document's). Conditions: numbers of 16 bits. -/
import Derived.Test.YtcdnofemnpafhaaPL
namespace Go.Proofs.YtcdnofemnpafhaaC
open Go Go.Proofs.YtcdnofemnpafhaaM Go.Proofs.YtcdnofemnpafhaaL
set_option linter.unusedVariables false
set_option linter.unusedSimpArgs false
theorem byte_lt (b : UInt8) : b.toNat < 256 := b.toNat_lt
theorem x16 {a b : Nat} (ha : a < 65536) (hb : b < 65536) : a ^^^ b < 65536 := Nat.xor_lt_two_pow (n := 16) (by simpa using ha) (by simpa using hb)
def c1 (v : Nat) : Nat := if v < 32768 then 2 * v else (2 * v - 65536) ^^^ 4129
theorem c1_lt {v : Nat} (h : v < 65536) : c1 v < 65536 := by
  unfold c1
  split
  · omega
  · exact Nat.xor_lt_two_pow (n := 16) (by simp; omega) (by decide)
theorem c1_inj {v w : Nat} (hv : v < 65536) (hw : w < 65536) (h : c1 v = c1 w) : v = w := by
  have key : ∀ u : Nat, u < 65536 → (if c1 u % 2 = 1 then (c1 u ^^^ 4129) / 2 + 32768 else c1 u / 2) = u := by
    intro u hu
    unfold c1
    split
    · rw [if_neg (by omega)]
      omega
    · rename_i h0
      have e : ((2 * u - 65536) ^^^ 4129) % 2 = 1 := by
        rw [Nat.xor_mod_two_eq_one]
        omega
      rw [if_pos e, Nat.xor_assoc, Nat.xor_self, Nat.xor_zero]
      omega
  rw [← key v hv, ← key w hw, h]
def c8 : Nat → Nat → Nat
  | 0, v => v
  | n + 1, v => c1 (c8 n v)
theorem c8_lt {v : Nat} (h : v < 65536) : ∀ n, c8 n v < 65536
  | 0 => h
  | n + 1 => c1_lt (c8_lt h n)
theorem c8_inj {v w : Nat} (hv : v < 65536) (hw : w < 65536) : ∀ n, c8 n v = c8 n w → v = w
  | 0, h => h
  | n + 1, h => c8_inj hv hw n (c1_inj (c8_lt hv n) (c8_lt hw n) h)
def cb (v : Nat) (c : UInt8) : Nat := c8 8 (v ^^^ (c.toNat * 256))
def cL (l : List UInt8) (v : Nat) : Nat := l.foldl cb v
theorem cL_nil (v : Nat) : cL [] v = v := rfl
theorem cL_cons (c : UInt8) (t : List UInt8) (v : Nat) : cL (c :: t) v = cL t (cb v c) := by rw [cL, List.foldl_cons, ← cL]
theorem cb_lt {v : Nat} (h : v < 65536) (c : UInt8) : cb v c < 65536 := c8_lt (x16 h (by have := byte_lt c; omega)) 8
theorem cL_lt : ∀ (l : List UInt8) {v : Nat}, v < 65536 → cL l v < 65536
  | [], _, h => by rw [cL_nil]; exact h
  | c :: t, _, h => by rw [cL_cons]; exact cL_lt t (cb_lt h c)
theorem xor_cancel {a b c : Nat} (h : a ^^^ c = b ^^^ c) : a = b := by
  have e : (a ^^^ c) ^^^ c = (b ^^^ c) ^^^ c := by rw [h]
  rwa [Nat.xor_assoc, Nat.xor_assoc, Nat.xor_self, Nat.xor_zero, Nat.xor_zero] at e
theorem xor_cancel' {a b c : Nat} (h : c ^^^ a = c ^^^ b) : a = b := xor_cancel (c := c) (by rw [Nat.xor_comm a, Nat.xor_comm b, h])
theorem cb_inj {v w : Nat} (hv : v < 65536) (hw : w < 65536) (c : UInt8) (h : cb v c = cb w c) : v = w := by
  have hc := byte_lt c
  exact xor_cancel (c8_inj (x16 hv (by omega)) (x16 hw (by omega)) 8 h)
theorem cb_inj' {v : Nat} (hv : v < 65536) (c d : UInt8) (h : cb v c = cb v d) : c = d := by
  have hc := byte_lt c
  have hd := byte_lt d
  have e := xor_cancel' (c8_inj (x16 hv (by omega)) (x16 hv (by omega)) 8 h)
  exact UInt8.toNat_inj.1 (by omega)
theorem cL_inj : ∀ (l : List UInt8) {v w : Nat}, v < 65536 → w < 65536 → cL l v = cL l w → v = w
  | [], _, _, _, _, h => by rwa [cL_nil, cL_nil] at h
  | c :: t, _, _, hv, hw, h => by
    rw [cL_cons, cL_cons] at h
    exact cb_inj hv hw c (cL_inj t (cb_lt hv c) (cb_lt hw c) h)
theorem cL_append (l m : List UInt8) (v : Nat) : cL (l ++ m) v = cL m (cL l v) := List.foldl_append
theorem cL_byte (l m : List UInt8) {v : Nat} (hv : v < 65536) (c d : UInt8) (h : cL (l ++ c :: m) v = cL (l ++ d :: m) v) : c = d := by
  rw [cL_append, cL_append, cL_cons, cL_cons] at h
  have hl := cL_lt l hv
  exact cb_inj' hl c d (cL_inj m (cb_lt hl c) (cb_lt hl d) h)
theorem c8_small {u : Nat} (h : u < 256) : ∀ n, n ≤ 8 → c8 n u = u * 2 ^ n
  | 0, _ => by simp [c8]
  | n + 1, hn => by
    show c1 (c8 n u) = _
    have hp : (2 : Nat) ^ n ≤ 2 ^ 7 := Nat.pow_le_pow_right (by decide) (by omega)
    have hm : u * 2 ^ n ≤ 255 * 2 ^ 7 := Nat.mul_le_mul (by omega) hp
    rw [c8_small h n (by omega)]
    unfold c1
    rw [if_pos (by omega), Nat.pow_succ]
    grind
theorem cL_two {v : Nat} (hv : v < 65536) (h l : UInt8) : cL [h, l] v = 0 ↔ v = h.toNat * 256 + l.toNat := by
  have hh := byte_lt h
  have hl := byte_lt l
  have e0 : c8 8 0 = 0 := by decide +kernel
  have ed : cL [h, l] v = c8 8 (cb v h ^^^ (l.toNat * 256)) := by rw [cL_cons, cL_cons, cL_nil, cb]
  rw [ed]
  have el : c8 8 l.toNat = l.toNat * 256 := c8_small hl 8 (Nat.le_refl _)
  have ex : l.toNat ^^^ (h.toNat * 256) = h.toNat * 256 + l.toNat := by
    apply Nat.eq_of_testBit_eq
    intro j
    rw [Nat.testBit_xor, Nat.mul_comm, show (256 : Nat) = 2 ^ 8 from rfl, Nat.testBit_two_pow_mul, Nat.testBit_two_pow_mul_add _ hl]
    by_cases c : j < 8
    · simp [c, show ¬ 8 ≤ j by omega]
    · have : l.toNat.testBit j = false := Nat.testBit_lt_two_pow (Nat.lt_of_lt_of_le hl (Nat.pow_le_pow_right (n := 2) (by decide) (show 8 ≤ j by omega)))
      simp [c, this, show 8 ≤ j by omega]
  constructor
  · intro e
    have e' : c8 8 (cb v h ^^^ (l.toNat * 256)) = c8 8 0 := by rw [e0, e]
    have e1 := c8_inj (x16 (cb_lt hv h) (by omega)) (by decide) 8 e'
    have e2 : cb v h = l.toNat * 256 := xor_cancel (c := l.toNat * 256) (by rw [e1, Nat.xor_self])
    rw [← el, cb] at e2
    have e3 := c8_inj (x16 hv (by omega)) (by omega) 8 e2
    rw [← ex, ← e3, Nat.xor_assoc, Nat.xor_self, Nat.xor_zero]
  · rintro e
    have e3 : v ^^^ (h.toNat * 256) = l.toNat := by rw [e, ← ex, Nat.xor_assoc, Nat.xor_self, Nat.xor_zero]
    rw [cb, e3, el, Nat.xor_self, e0]
def t1 (v : Nat) (b : Nat) : Nat := if b = v / 32768 then 2 * v % 65536 else (2 * v % 65536) ^^^ 4129
def tN (c : Nat) : Nat → Nat → Nat   -- the last n bits of c
  | 0, v => v
  | n + 1, v => tN c n (t1 v (c / 2 ^ n % 2))
theorem t1_lt (v b : Nat) : t1 v b < 65536 := by
  unfold t1
  split
  · omega
  · exact x16 (by omega) (by decide)
theorem tN_lt {c : Nat} : ∀ n {v : Nat}, v < 65536 → tN c n v < 65536
  | 0, _, h => h
  | n + 1, v, _ => tN_lt n (t1_lt v _)
theorem xor_high {i l : Nat} (hl : l < 2 ^ i) (h : Nat) : l ^^^ (2 ^ i * h) = 2 ^ i * h + l := by
  apply Nat.eq_of_testBit_eq
  intro j
  rw [Nat.testBit_xor, Nat.testBit_two_pow_mul, Nat.testBit_two_pow_mul_add _ hl]
  by_cases c : j < i
  · simp [c, show ¬ i ≤ j by omega]
  · have : l.testBit j = false := Nat.testBit_lt_two_pow (Nat.lt_of_lt_of_le hl (Nat.pow_le_pow_right (n := 2) (by decide) (show i ≤ j by omega)))
    simp [c, this, show i ≤ j by omega]
theorem xor_top {v : Nat} (hv : v < 65536) : v ^^^ 32768 = if v < 32768 then v + 32768 else v - 32768 := by
  have h := fun (u : Nat) (hu : u < 32768) => xor_high (i := 15) (l := u) (by simpa using hu) 1
  split
  · have := h v (by omega)
    simp at this
    omega
  · have e := h (v - 32768) (by omega)
    simp at e
    have e' : (v - 32768) ^^^ 32768 = v := by omega
    have e2 : ((v - 32768) ^^^ 32768) ^^^ 32768 = v ^^^ 32768 := by rw [e']
    rw [Nat.xor_assoc, Nat.xor_self, Nat.xor_zero] at e2
    exact e2.symm
theorem t1_c1 {v b : Nat} (hv : v < 65536) (hb : b < 2) : t1 v b = c1 (v ^^^ (b * 32768)) := by
  unfold t1 c1
  rcases (show b = 0 ∨ b = 1 by omega) with rfl | rfl
  · rw [Nat.zero_mul, Nat.xor_zero]
    by_cases c : v < 32768
    · rw [if_pos (by omega), if_pos c]
      omega
    · rw [if_neg (by omega), if_neg c, show 2 * v % 65536 = 2 * v - 65536 by omega]
  · rw [Nat.one_mul, xor_top hv]
    by_cases c : v < 32768
    · rw [if_neg (by omega), if_pos c, if_neg (by omega), show 2 * v % 65536 = 2 * (v + 32768) - 65536 by omega]
    · rw [if_pos (by omega), if_neg c, if_pos (by omega)]
      omega
theorem two_xor (a b : Nat) : 2 * (a ^^^ b) = (2 * a) ^^^ (2 * b) := by
  have := Nat.shiftLeft_xor_distrib (a := a) (b := b) (i := 1)
  simp only [Nat.shiftLeft_eq, Nat.pow_one] at this
  rw [Nat.mul_comm 2, Nat.mul_comm 2, Nat.mul_comm 2]
  exact this
theorem c1_lin {a y : Nat} (ha : a < 65536) (hy : y < 32768) : c1 (a ^^^ y) = c1 a ^^^ (2 * y) := by
  have low : ∀ u, u < 32768 → u ^^^ y < 32768 := fun u hu => Nat.xor_lt_two_pow (n := 15) (by simpa using hu) (by simpa using hy)
  by_cases c : a < 32768
  · have := low a c
    unfold c1
    rw [if_pos this, if_pos c, two_xor]
  · have hu : a - 32768 < 32768 := by omega
    have e1 : a = (a - 32768) ^^^ 32768 := by
      rw [xor_top (by omega), if_pos hu]
      omega
    have e2 : a ^^^ y = ((a - 32768) ^^^ y) + 32768 := by
      have h1 := low _ hu
      have h2 := xor_top (v := (a - 32768) ^^^ y) (by omega)
      rw [if_pos h1] at h2
      rw [← h2, Nat.xor_assoc, Nat.xor_comm y, ← Nat.xor_assoc, ← e1]
    have h1 := low _ hu
    unfold c1
    rw [e2, if_neg (by omega), if_neg c, show 2 * (((a - 32768) ^^^ y) + 32768) - 65536 = 2 * ((a - 32768) ^^^ y) by omega, two_xor, show 2 * (a - 32768) = 2 * a - 65536 by omega, Nat.xor_assoc, Nat.xor_comm (2 * y), ← Nat.xor_assoc]
theorem c8_succ : ∀ (n v : Nat), c8 (n + 1) v = c8 n (c1 v)
  | 0, v => rfl
  | n + 1, v => by
    show c1 (c8 (n + 1) v) = c1 (c8 n (c1 v))
    rw [c8_succ n v]
theorem tN_c8 (c : Nat) : ∀ (n : Nat), n ≤ 8 → ∀ v, v < 65536 → tN c n v = c8 n (v ^^^ ((c % 2 ^ n) * 2 ^ (16 - n)))
  | 0, _, v, _ => by simp [tN, c8, Nat.mod_one]
  | n + 1, hn, v, hv => by
    have hb : c / 2 ^ n % 2 < 2 := Nat.mod_lt _ (by decide)
    have hm : c % 2 ^ n < 2 ^ n := Nat.mod_lt _ (Nat.two_pow_pos n)
    have hpp : 2 ^ n * 2 ^ (15 - n) = 32768 := by rw [← Nat.pow_add, show n + (15 - n) = 15 by omega]
    have hy : c % 2 ^ n * 2 ^ (15 - n) < 32768 := by
      rw [← hpp]
      exact Nat.mul_lt_mul_of_pos_right hm (Nat.two_pow_pos _)
    have hsplit : c % 2 ^ (n + 1) * 2 ^ (16 - (n + 1)) = (c % 2 ^ n * 2 ^ (15 - n)) ^^^ (c / 2 ^ n % 2 * 32768) := by
      have h := xor_high (i := 15) (l := c % 2 ^ n * 2 ^ (15 - n)) (by simpa using hy) (c / 2 ^ n % 2)
      rw [show (2 : Nat) ^ 15 = 32768 from rfl, Nat.mul_comm 32768] at h
      rw [h, Nat.mod_pow_succ, show 16 - (n + 1) = 15 - n by omega, Nat.add_mul, ← hpp]
      grind
    rw [tN, tN_c8 c n (by omega) _ (t1_lt v _), t1_c1 hv hb, c8_succ, hsplit]
    have hbl : c / 2 ^ n % 2 * 32768 < 65536 := by omega
    rw [Nat.xor_comm (c % 2 ^ n * 2 ^ (15 - n)), ← Nat.xor_assoc, c1_lin (x16 hv hbl) hy]
    congr 2
    rw [show 16 - n = (15 - n) + 1 by omega, Nat.pow_succ]
    grind
theorem tN_cb {c : UInt8} {v : Nat} (hv : v < 65536) : tN c.toNat 8 v = cb v c := by
  rw [tN_c8 _ 8 (Nat.le_refl _) v hv, cb, Nat.mod_eq_of_lt (byte_lt c)]
end Go.Proofs.YtcdnofemnpafhaaC
