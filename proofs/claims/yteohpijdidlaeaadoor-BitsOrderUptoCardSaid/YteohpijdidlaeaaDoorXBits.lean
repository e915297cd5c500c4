/- What the functions of package bits, and of the document's answer, tell. Conditions: as each theorem states them. -/
import Derived.Test.YteohpijdidlaeaaDoorXPop
import Derived.Test.YteohpijdidlaeaaDoorX1
namespace Go.Proofs.YteohpijdidlaeaaDoorL
open Go Go.Proofs.YteohpijdidlaeaaDoorM Go.Proofs.YteohpijdidlaeaaDoorX
set_option linter.unusedVariables false
set_option linter.unusedSimpArgs false

theorem level_eq (N : Nat) (i : Int) : level_23 N ((i, ()), ()) = some ((decide (0 ≤ i ∧ i < 256), ()), ()) := by
  unfold level_23
  dsimp only
  by_cases h : 0 ≤ i
  · rw [byB_t (show i ≥ 0 from h)]
    simp [h]
  · rw [byB_f (show ¬ i ≥ 0 from h)]
    simp [h]
theorem pow_mod (k : Nat) (h : k < 64) : (2 : Nat) ^ k < 18446744073709551616 := Nat.pow_lt_pow_right (n := 64) (by decide) h
theorem bit_eq' (N : Nat) (i : Nat) (h : i < 256) : bit_25 N (((i : Int), ()), ()) = some ((((2 ^ (i % 64) : Nat) : Int), ()), ()) := by
  have e : IntKind.wrap .u64 (BitVec.ofInt (IntKind.bits .u64) (IntKind.wrap .u64 (i : Int)) &&& BitVec.ofInt (IntKind.bits .u64) 63).toNat = ((i % 64 : Nat) : Int) := by
    have e0 : IntKind.wrap .u64 (i : Int) = i := wu64 (by omega) (by omega)
    have := bv_and (a := i) (b := 63) (by omega) (by omega)
    rw [show ((63 : Nat) : Int) = 63 from rfl] at this
    rw [e0, this, show (63 : Nat) = 2 ^ 6 - 1 from rfl, Nat.and_two_pow_sub_one_eq_mod, wu64 (by omega) (by omega)]
  have e2 : IntKind.wrap .u64 (1 * 2 ^ (min ((i % 64 : Nat) : Int).toNat (IntKind.bits .u64))) = ((2 ^ (i % 64) : Nat) : Int) := by
    rw [Int.toNat_natCast, show IntKind.bits .u64 = 64 from rfl, Nat.min_eq_left (by omega), Int.one_mul]
    have := pow_mod (i % 64) (by omega)
    rw [show (2 : Int) ^ (i % 64) = ((2 ^ (i % 64) : Nat) : Int) by simp]
    generalize 2 ^ (i % 64) = z at this
    exact wu64 (by omega) (by omega)
  unfold bit_25
  simp only [e]
  rw [if_neg (show ¬ ((i % 64 : Nat) : Int) < 0 from by omega), e2]
theorem fdiv64 (i : Nat) : Int.fdiv (i : Int) (2 ^ 6) = ((i / 64 : Nat) : Int) := shr_nat i 6

theorem with_in (N : Nat) {s : Nat → Nat} (hs : OK s) (i : Nat) (h : i < 256) : With_18 N ((tw s, (i : Int), ()), ()) = some ((tw (withB s i), ()), ()) := by
  unfold With_18
  simp only [level_eq, bnd, bit_eq' N i h, fdiv64]
  rw [byB_t (by omega), if_pos (by omega), if_pos (by omega)]
  have hb := pow_mod (i % 64) (by omega)
  have e : IntKind.wrap .u64 (BitVec.ofInt (IntKind.bits .u64) (([(s 0 : Int), (s 1 : Int), (s 2 : Int), (s 3 : Int)] : List Int).getD ((i / 64 : Nat) : Int).toNat 0) ||| BitVec.ofInt (IntKind.bits .u64) ((2 ^ (i % 64) : Nat) : Int)).toNat = ((s (i / 64) ||| 2 ^ (i % 64) : Nat) : Int) := by
    rw [Int.toNat_natCast, getD4 s (by omega), bv_or (hs _) hb]
    have := or_bit_lt (hs (i / 64)) (show i % 64 < 64 by omega)
    exact wu64 (by omega) (by omega)
  rw [e, Int.toNat_natCast]
  have := set4 s (s (i / 64) ||| 2 ^ (i % 64)) (show i / 64 < 4 by omega)
  rw [this]
  rfl
theorem with_out (N : Nat) (s : Nat → Nat) {i : Int} (h : ¬ (0 ≤ i ∧ i < 256)) : With_18 N ((tw s, i, ()), ()) = some ((tw s, ()), ()) := by
  unfold With_18
  simp only [level_eq, bnd]
  rw [byB_f h]
theorem without_in (N : Nat) {s : Nat → Nat} (hs : OK s) (i : Nat) (h : i < 256) : Without_19 N ((tw s, (i : Int), ()), ()) = some ((tw (without s i), ()), ()) := by
  unfold Without_19
  simp only [level_eq, bnd, bit_eq' N i h, fdiv64]
  rw [byB_t (by omega), if_pos (by omega), if_pos (by omega)]
  have e : IntKind.wrap .u64 (BitVec.ofInt (IntKind.bits .u64) (([(s 0 : Int), (s 1 : Int), (s 2 : Int), (s 3 : Int)] : List Int).getD ((i / 64 : Nat) : Int).toNat 0) &&& ~~~ BitVec.ofInt (IntKind.bits .u64) ((2 ^ (i % 64) : Nat) : Int)).toNat = ((clr (s (i / 64)) (i % 64) : Nat) : Int) := by
    rw [Int.toNat_natCast, getD4 s (by omega)]
    have h1 := clr_lt (s (i / 64)) (i % 64)
    have e2 : (BitVec.ofInt (IntKind.bits .u64) (s (i / 64) : Int) &&& ~~~ BitVec.ofInt (IntKind.bits .u64) ((2 ^ (i % 64) : Nat) : Int)).toNat = clr (s (i / 64)) (i % 64) := by
      unfold clr
      rw [BitVec.ofInt_natCast, BitVec.ofInt_natCast]
      rfl
    rw [e2]
    exact wu64 (by omega) (by omega)
  rw [e, Int.toNat_natCast]
  have := set4 s (clr (s (i / 64)) (i % 64)) (show i / 64 < 4 by omega)
  rw [this]
  rfl
theorem without_out (N : Nat) (s : Nat → Nat) {i : Int} (h : ¬ (0 ≤ i ∧ i < 256)) : Without_19 N ((tw s, i, ()), ()) = some ((tw s, ()), ()) := by
  unfold Without_19
  simp only [level_eq, bnd]
  rw [byB_f h]
theorem and_bit (x k : Nat) : ((x &&& 2 ^ k) = 0) = (x.testBit k = false) := by
  apply propext
  constructor
  · intro h
    have := Nat.testBit_and x (2 ^ k) k
    rw [h, Nat.zero_testBit, Nat.testBit_two_pow_self, Bool.and_true] at this
    exact this.symm
  · intro h
    apply Nat.eq_of_testBit_eq
    intro j
    rw [Nat.testBit_and, Nat.testBit_two_pow, Nat.zero_testBit]
    by_cases e : k = j
    · subst e; rw [h]; rfl
    · simp [e]
theorem has_in (N : Nat) {s : Nat → Nat} (hs : OK s) (i : Nat) (h : i < 256) : Has_16 N ((tw s, (i : Int), ()), ()) = some ((mem s i, ()), ()) := by
  unfold Has_16
  simp only [level_eq, bnd, bit_eq' N i h, fdiv64]
  rw [byB_t (by omega), if_pos (by omega)]
  have hb := pow_mod (i % 64) (by omega)
  have e : IntKind.wrap .u64 (BitVec.ofInt (IntKind.bits .u64) (([(s 0 : Int), (s 1 : Int), (s 2 : Int), (s 3 : Int)] : List Int).getD ((i / 64 : Nat) : Int).toNat 0) &&& BitVec.ofInt (IntKind.bits .u64) ((2 ^ (i % 64) : Nat) : Int)).toNat = ((s (i / 64) &&& 2 ^ (i % 64) : Nat) : Int) := by
    rw [Int.toNat_natCast, getD4 s (by omega), bv_and (hs _) hb]
    have : s (i / 64) &&& 2 ^ (i % 64) < 18446744073709551616 := Nat.lt_of_le_of_lt Nat.and_le_right hb
    exact wu64 (by omega) (by omega)
  rw [e]
  have e2 := and_bit (s (i / 64)) (i % 64)
  have e3 : (((s (i / 64) &&& 2 ^ (i % 64) : Nat) : Int) != 0) = mem s i := by
    unfold mem
    cases hb : (s (i / 64)).testBit (i % 64) with
    | false =>
      rw [hb] at e2
      have : s (i / 64) &&& 2 ^ (i % 64) = 0 := by rw [e2]
      rw [this]; rfl
    | true =>
      rw [hb] at e2
      have : ¬ s (i / 64) &&& 2 ^ (i % 64) = 0 := by rw [e2]; simp
      simpa using this
  rw [e3]
theorem has_out (N : Nat) (s : Nat → Nat) {i : Int} (h : ¬ (0 ≤ i ∧ i < 256)) : Has_16 N ((tw s, i, ()), ()) = some ((false, ()), ()) := by
  unfold Has_16
  simp only [level_eq, bnd]
  rw [byB_f h]

theorem tz_eq (N : Nat) (w : Nat) (h : w < 18446744073709551616) : TrailingZeros64_24 N (((w : Int), ()), ()) = some ((((Lib.ctz 64 w : Nat) : Int), ()), ()) := by
  show (if 0 ≤ (w : Int) ∧ (w : Int) < 18446744073709551616 then some ((((Lib.ctz 64 (w : Int).toNat : Nat) : Int), ()), ()) else none) = _
  rw [if_pos (by omega), Int.toNat_natCast]

/-- The least level above another one. -/
theorem next_loop (N : Nat) {s : Nat → Nat} (hs : OK s) (hN : 4 < N) (a k w : Nat) (hk : k < 4) (hw : w < 18446744073709551616) (ha : a ≤ 64 * k + 64)
    (hb : ∀ j, j < 64 → w.testBit j = ((s k).testBit j && decide (a ≤ 64 * k + j))) (hn : ∀ i, a ≤ i → i < 64 * k → mem s i = false) :
    Ev (loopN N (Next_15_L7 N) (((), (w : Int), (k : Int), ()), tw s, ())) fun r => ∃ m, r = ((m, ()), ()) ∧ IsNext (mem s) a m := by
  refine Ev.loop (fun n st => ∃ k w : Nat, st = (((), (w : Int), (k : Int), ()), tw s, ()) ∧ n = 4 - k ∧ k < 4 ∧ w < 18446744073709551616 ∧ a ≤ 64 * k + 64 ∧ (∀ j, j < 64 → w.testBit j = ((s k).testBit j && decide (a ≤ 64 * k + j))) ∧ ∀ i, a ≤ i → i < 64 * k → mem s i = false) ?_
    (k := 4 - k) ⟨k, w, rfl, rfl, hk, hw, ha, hb, hn⟩ (by omega)
  rintro n st again ⟨k, w, rfl, rfl, hk, hw, ha, hb, hn⟩ ih
  unfold Next_15_L7
  refine Ev.bne (fun h0 => ?_) fun h0 => ?_
  · simp only [tz_eq N w hw, bnd]
    obtain ⟨c1, c2, c3⟩ := ctz_bit (w := w) (by omega) hw
    generalize Lib.ctz 64 w = c at c1 c2 c3
    refine Ev.mk ⟨_, rfl, .inr ⟨64 * k + c, ?_, ?_, by omega, ?_, fun j hj hj' => ?_⟩⟩
    · have e9 : IntKind.wrap .i64 ((k : Int) * 2 ^ 6) = 64 * (k : Int) := by rw [show (2 : Int) ^ 6 = 64 from rfl, w64 (by omega) (by omega)]; omega
      rw [e9, w64 (by omega) (by omega)]; omega
    · have := hb c c1
      rw [c2] at this
      have := (Bool.and_eq_true _ _ ▸ this.symm : _ ∧ _).2
      simpa using this
    · have := hb c c1
      rw [c2] at this
      have := (Bool.and_eq_true _ _ ▸ this.symm : _ ∧ _).1
      unfold mem
      rw [show (64 * k + c) / 64 = k by omega, show (64 * k + c) % 64 = c by omega]
      exact this
    · by_cases hlt : j < 64 * k
      · exact hn j hj hlt
      · have h1 := hb (j - 64 * k) (by omega)
        rw [c3 (j - 64 * k) (by omega), decide_eq_true (by omega), Bool.and_true] at h1
        unfold mem
        rw [show j / 64 = k by omega, show j % 64 = j - 64 * k by omega]
        exact h1.symm
  · have hn' : ∀ i, a ≤ i → i < 64 * (k + 1) → mem s i = false := fun i h1 h2 => by
      by_cases hlt : i < 64 * k
      · exact hn i h1 hlt
      · have e0 : w = 0 := by omega
        have h3 := hb (i - 64 * k) (by omega)
        rw [e0, Nat.zero_testBit, decide_eq_true (by omega), Bool.and_true] at h3
        unfold mem
        rw [show i / 64 = k by omega, show i % 64 = i - 64 * k by omega]
        exact h3.symm
    have e1 : IntKind.wrap .i64 ((k : Int) + 1) = ((k + 1 : Nat) : Int) := by rw [w64 (by omega) (by omega)]; omega
    simp only [e1]
    refine Ev.beq (fun h4 => ?_) fun h4 => ?_
    · exact Ev.mk ⟨_, rfl, .inl ⟨rfl, fun i h1 h2 => hn' i h1 (by omega)⟩⟩
    · have hk4 : k + 1 < 4 := by omega
      rw [if_pos (by omega), Int.toNat_natCast, getD4 s hk4]
      refine ih (4 - (k + 1)) _ (by omega) ⟨k + 1, s (k + 1), rfl, rfl, hk4, hs _, by omega, fun j hj => ?_, hn'⟩
      rw [decide_eq_true (by omega), Bool.and_true]
theorem and63 (i : Nat) (h : i < 256) : IntKind.wrap .i64 (BitVec.ofInt (IntKind.bits .i64) (i : Int) &&& BitVec.ofInt (IntKind.bits .i64) 63).toNat = ((i % 64 : Nat) : Int) := by
  have := bv_and (a := i) (b := 63) (by omega) (by omega)
  rw [show ((63 : Nat) : Int) = 63 from rfl] at this
  rw [show IntKind.bits .i64 = IntKind.bits .u64 from rfl, this, show (63 : Nat) = 2 ^ 6 - 1 from rfl, Nat.and_two_pow_sub_one_eq_mod, w64 (by omega) (by omega)]
theorem next_eq (N : Nat) {s : Nat → Nat} (hs : OK s) (hN : 4 < N) {i : Int} (h0 : -9223372036854775808 ≤ i) (h1 : i ≤ 9223372036854775807) :
    Ev (Next_15 N ((tw s, i, ()), ())) fun r => ∃ m, r = ((m, ()), ()) ∧ IsNext (mem s) (i + 1).toNat m := by
  unfold Next_15
  refine Ev.dec (fun h => ?_) fun h => ?_
  · exact Ev.mk ⟨_, rfl, .inl ⟨rfl, fun k hk hk' => by omega⟩⟩
  · rw [w64 (show -9223372036854775808 ≤ i + 1 by omega) (by omega)]
    have e : (if 0 > i + 1 then 0 else i + 1) = (((i + 1).toNat : Nat) : Int) := by
      by_cases hh : 0 > i + 1
      · rw [if_pos hh]; omega
      · rw [if_neg hh]; omega
    have ha : (i + 1).toNat < 256 := by omega
    generalize (i + 1).toNat = a at e ha
    simp only [e, fdiv64]
    rw [if_pos (by omega)]
    simp only [and63 a ha]
    rw [if_neg (by omega), if_neg (by omega)]
    have e3 : Int.toNat ((a % 64 : Nat) : Int) = a % 64 := Int.toNat_natCast _
    have e4 : min (a % 64) (IntKind.bits .u64) = a % 64 := Nat.min_eq_left (by show a % 64 ≤ 64; omega)
    simp only [e3, e4, Int.toNat_natCast]
    rw [getD4 s (by omega), shr_nat, show (2 : Int) ^ (a % 64) = ((2 ^ (a % 64) : Nat) : Int) by simp, ← Int.natCast_mul]
    have hle : s (a / 64) / 2 ^ (a % 64) * 2 ^ (a % 64) ≤ s (a / 64) := Nat.div_mul_le_self _ _
    have hs1 := hs (a / 64)
    rw [wu64 (by omega) (by omega)]
    refine next_loop N hs hN a (a / 64) _ (by omega) (by omega) (by omega) (fun j hj => ?_) fun i h1 h2 => by omega
    rw [Nat.testBit_mul_two_pow, Nat.testBit_div_two_pow]
    by_cases hh : a % 64 ≤ j
    · have : a ≤ 64 * (a / 64) + j := by omega
      simp only [hh, this, decide_true, Bool.true_and, Bool.and_true]
      congr 1
      omega
    · have : ¬ a ≤ 64 * (a / 64) + j := by omega
      simp [hh, this]
theorem first_eq (N : Nat) {s : Nat → Nat} (hs : OK s) (hN : 4 < N) : Ev (First_14 N ((tw s, ()), ())) fun r => ∃ m, r = ((m, ()), ()) ∧ IsNext (mem s) 0 m := by
  unfold First_14
  refine Ev.bind (next_eq N hs hN (i := -1) (by omega) (by omega)) ?_
  rintro r ⟨m, rfl, h⟩
  exact Ev.mk ⟨m, rfl, h⟩

/-- How many bits of a word. -/
theorem lanes_85 : lanes 85 8 = 6148914691236517205 := by decide +kernel
theorem lanes_51 : lanes 51 8 = 3689348814741910323 := by decide +kernel
theorem lanes_15 : lanes 15 8 = 1085102592571150095 := by decide +kernel
theorem and_u {x : Int} {a b : Nat} {m : Int} (e : x = (a : Int)) (hm : m = (b : Int)) (ha : a < 18446744073709551616) (hb : b < 18446744073709551616) : IntKind.wrap .u64 (BitVec.ofInt (IntKind.bits .u64) x &&& BitVec.ofInt (IntKind.bits .u64) m).toNat = ((a &&& b : Nat) : Int) := by
  subst e; subst hm
  rw [bv_and ha hb]
  have : a &&& b < 18446744073709551616 := Nat.lt_of_le_of_lt Nat.and_le_right hb
  exact wu64 (by omega) (by omega)
theorem pop4_lt (x : Nat) : pop4 8 x < 18446744073709551616 := by
  unfold pop4
  have h1 : (x / 2) &&& lanes 85 8 ≤ lanes 85 8 := Nat.and_le_right
  have h2 : x &&& lanes 85 8 ≤ lanes 85 8 := Nat.and_le_right
  rw [lanes_85] at *
  omega
theorem pop8_lt (x : Nat) : pop8 8 x ≤ 7378697629483820646 := by
  unfold pop8
  have h1 : (pop4 8 x / 4) &&& lanes 51 8 ≤ lanes 51 8 := Nat.and_le_right
  have h2 : pop4 8 x &&& lanes 51 8 ≤ lanes 51 8 := Nat.and_le_right
  rw [lanes_51] at *
  omega
theorem fdiv_n (a k b : Nat) (hb : b = 2 ^ k) : Int.fdiv (a : Int) (2 ^ k) = ((a / b : Nat) : Int) := by
  rw [shr_nat, hb]
theorem ones_eq (N : Nat) (x : Nat) (hx : x < 18446744073709551616) : OnesCount64_26 N (((x : Int), ()), ()) = some ((((cnt x.testBit 64 : Nat) : Int), ()), ()) := by
  unfold OnesCount64_26
  dsimp only
  have p4 := pop4_lt x
  have p8 := pop8_lt x
  have a1 : IntKind.wrap .u64 ((IntKind.wrap .u64 (BitVec.ofInt (IntKind.bits .u64) (Int.fdiv (x : Int) (2 ^ 1)) &&& BitVec.ofInt (IntKind.bits .u64) 6148914691236517205).toNat) + (IntKind.wrap .u64 (BitVec.ofInt (IntKind.bits .u64) (x : Int) &&& BitVec.ofInt (IntKind.bits .u64) 6148914691236517205).toNat)) = ((pop4 8 x : Nat) : Int) := by
    rw [and_u (a := x / 2) (b := lanes 85 8) (fdiv_n x 1 2 rfl) (by rw [lanes_85]; rfl) (by omega) (by rw [lanes_85]; decide), and_u (a := x) (b := lanes 85 8) rfl (by rw [lanes_85]; rfl) hx (by rw [lanes_85]; decide)]
    rw [← Int.natCast_add]
    exact wu64 (by omega) (by unfold pop4 at p4; omega)
  rw [a1]
  have a2 : IntKind.wrap .u64 ((IntKind.wrap .u64 (BitVec.ofInt (IntKind.bits .u64) (Int.fdiv ((pop4 8 x : Nat) : Int) (2 ^ 2)) &&& BitVec.ofInt (IntKind.bits .u64) 3689348814741910323).toNat) + (IntKind.wrap .u64 (BitVec.ofInt (IntKind.bits .u64) ((pop4 8 x : Nat) : Int) &&& BitVec.ofInt (IntKind.bits .u64) 3689348814741910323).toNat)) = ((pop8 8 x : Nat) : Int) := by
    rw [and_u (a := pop4 8 x / 4) (b := lanes 51 8) (fdiv_n _ 2 4 rfl) (by rw [lanes_51]; rfl) (by omega) (by rw [lanes_51]; decide), and_u (a := pop4 8 x) (b := lanes 51 8) rfl (by rw [lanes_51]; rfl) p4 (by rw [lanes_51]; decide)]
    rw [← Int.natCast_add]
    exact wu64 (by omega) (by unfold pop8 at p8; omega)
  rw [a2]
  have a3 : IntKind.wrap .u64 (BitVec.ofInt (IntKind.bits .u64) (IntKind.wrap .u64 ((Int.fdiv ((pop8 8 x : Nat) : Int) (2 ^ 4)) + ((pop8 8 x : Nat) : Int))) &&& BitVec.ofInt (IntKind.bits .u64) 1085102592571150095).toNat = ((pop11 8 x : Nat) : Int) := by
    refine and_u (a := pop8 8 x / 16 + pop8 8 x) (b := lanes 15 8) ?_ (by rw [lanes_15]; rfl) (by omega) (by rw [lanes_15]; decide)
    rw [fdiv_n _ 4 16 rfl, ← Int.natCast_add]
    exact wu64 (by omega) (by omega)
  rw [a3]
  obtain ⟨t0, y0, l0, n0⟩ := pop_step 7 x hx
  obtain ⟨t1, y1, l1, n1⟩ := pop_step 6 _ y0
  obtain ⟨t2, y2, l2, n2⟩ := pop_step 5 _ y1
  obtain ⟨t3, y3, l3, n3⟩ := pop_step 4 _ y2
  obtain ⟨t4, y4, l4, n4⟩ := pop_step 3 _ y3
  obtain ⟨t5, y5, l5, n5⟩ := pop_step 2 _ y4
  obtain ⟨t6, y6, l6, n6⟩ := pop_step 1 _ y5
  obtain ⟨t7, y7, l7, n7⟩ := pop_step 0 _ y6
  have z : ∀ y, pop11 0 y = 0 := fun y => by
    show (_ &&& 0) = 0
    exact Nat.and_zero _
  rw [z, Nat.mul_zero, Nat.add_zero] at t7
  have hc : cnt x.testBit 64 = b11 (x % 256) + b11 (x / 256 % 256) + b11 (x / 256 / 256 % 256) + b11 (x / 256 / 256 / 256 % 256) + b11 (x / 256 / 256 / 256 / 256 % 256) + b11 (x / 256 / 256 / 256 / 256 / 256 % 256) + b11 (x / 256 / 256 / 256 / 256 / 256 / 256 % 256) + b11 (x / 256 / 256 / 256 / 256 / 256 / 256 / 256 % 256) := by
    have c0 := n0 56; have c1 := n1 48; have c2 := n2 40; have c3 := n3 32; have c4 := n4 24; have c5 := n5 16; have c6 := n6 8; have c7 := n7 0
    simp only [Nat.reduceAdd] at c0 c1 c2 c3 c4 c5 c6 c7
    rw [c0, c1, c2, c3, c4, c5, c6, c7]
    show _ + (_ + (_ + (_ + (_ + (_ + (_ + (_ + 0))))))) = _
    simp only [Nat.add_assoc, Nat.add_zero]
  rw [hc]
  clear hc n0 n1 n2 n3 n4 n5 n6 n7 a1 a2 a3 p4 p8 y0 y1 y2 y3 y4 y5 y6 y7 z
  have t0' : pop11 8 x = b11 (x % 256) + 256 * pop11 7 (x / 256) := t0
  clear t0
  have t7' : pop11 1 _ = _ := t7
  rw [show pop11 1 (x / 256 / 256 / 256 / 256 / 256 / 256 / 256) = b11 (x / 256 / 256 / 256 / 256 / 256 / 256 / 256 % 256) from t7'] at t6
  clear t7 t7'
  generalize pop11 8 x = t at t0' ⊢
  generalize b11 (x % 256) = c0 at *
  generalize b11 (x / 256 % 256) = c1 at *
  generalize b11 (x / 256 / 256 % 256) = c2 at *
  generalize b11 (x / 256 / 256 / 256 % 256) = c3 at *
  generalize b11 (x / 256 / 256 / 256 / 256 % 256) = c4 at *
  generalize b11 (x / 256 / 256 / 256 / 256 / 256 % 256) = c5 at *
  generalize b11 (x / 256 / 256 / 256 / 256 / 256 / 256 % 256) = c6 at *
  generalize b11 (x / 256 / 256 / 256 / 256 / 256 / 256 / 256 % 256) = c7 at *
  obtain ⟨d1, d2, d3, hlt, hm⟩ := pop_sum l0 l1 l2 l3 l4 l5 l6 l7 t0' t1 t2 t3 t4 t5 t6
  clear t1 t2 t3 t4 t5 t6 l0 l1 l2 l3 l4 l5 l6 l7 t0'
  generalize pop11 7 (x / 256) = x1 at *
  generalize pop11 6 (x / 256 / 256) = x2 at *
  generalize pop11 5 (x / 256 / 256 / 256) = x3 at *
  generalize pop11 4 (x / 256 / 256 / 256 / 256) = x4 at *
  generalize pop11 3 (x / 256 / 256 / 256 / 256 / 256) = x5 at *
  generalize pop11 2 (x / 256 / 256 / 256 / 256 / 256 / 256) = x6 at *
  generalize c0 + c1 + c2 + c3 + c4 + c5 + c6 + c7 = S at *
  have q1 : IntKind.wrap .u64 ((t : Int) + Int.fdiv (t : Int) (2 ^ 8)) = ((t + x1 : Nat) : Int) := by
    rw [fdiv_n t 8 256 rfl, d1, ← Int.natCast_add]
    exact wu64 (by omega) (by omega)
  have q2 : IntKind.wrap .u64 (((t + x1 : Nat) : Int) + Int.fdiv ((t + x1 : Nat) : Int) (2 ^ 16)) = ((t + x1 + (x2 + x3) : Nat) : Int) := by
    rw [fdiv_n _ 16 65536 rfl, d2, ← Int.natCast_add]
    exact wu64 (by omega) (by omega)
  have q3 : IntKind.wrap .u64 (((t + x1 + (x2 + x3) : Nat) : Int) + Int.fdiv ((t + x1 + (x2 + x3) : Nat) : Int) (2 ^ 32)) = ((t + x1 + (x2 + x3) + (x4 + x5 + x6 + c7) : Nat) : Int) := by
    rw [fdiv_n _ 32 4294967296 rfl, d3, ← Int.natCast_add]
    exact wu64 (by omega) (by omega)
  rw [q1, q2, q3]
  clear q1 q2 q3 d1 d2 d3
  generalize t + x1 + (x2 + x3) + (x4 + x5 + x6 + c7) = T at *
  have e1 : IntKind.wrap .i64 (T : Int) = (T : Int) := w64 (by omega) (by omega)
  have e2 := bv_and (a := T) (b := 127) (by omega) (by omega)
  rw [show ((127 : Nat) : Int) = 127 from rfl, show (127 : Nat) = 2 ^ 7 - 1 from rfl, Nat.and_two_pow_sub_one_eq_mod, show (2 : Nat) ^ 7 = 128 from rfl, hm] at e2
  have e3 : IntKind.wrap .i64 (S : Int) = (S : Int) := w64 (by omega) (by omega)
  rw [e1, show IntKind.bits .i64 = IntKind.bits .u64 from rfl, e2, e3]

/-- How many levels. -/
theorem count_eq (N : Nat) {s : Nat → Nat} (hs : OK s) (hN : 4 < N) : Ev (Count_17 N ((tw s, ()), ())) fun r => r = ((((cnt (mem s) 256 : Nat) : Int), ()), ()) := by
  have hc := cnt_256 s
  have l0 := cnt_le (s 0).testBit 64; have l1 := cnt_le (s 1).testBit 64; have l2 := cnt_le (s 2).testBit 64; have l3 := cnt_le (s 3).testBit 64
  unfold Count_17
  dsimp only
  by_cases hz : s 0 = 0 ∧ s 1 = 0 ∧ s 2 = 0 ∧ s 3 = 0
  · obtain ⟨z0, z1, z2, z3⟩ := hz
    have z : cnt (fun i => Nat.testBit 0 i) 64 = 0 := by decide +kernel
    have z' : cnt (Nat.testBit 0) 64 = 0 := z
    rw [z0, z1, z2, z3, z'] at hc
    rw [z0, z1, z2, z3, hc]
    exact ⟨_, rfl, rfl⟩
  · have e : (((s 0 : Int) == 0) && (((s 1 : Int) == 0) && (((s 2 : Int) == 0) && (((s 3 : Int) == 0) && true)))) = false := by
      rw [Bool.eq_false_iff]
      intro h
      simp only [Bool.and_eq_true, beq_iff_eq, and_true] at h
      exact hz ⟨by omega, by omega, by omega, by omega⟩
    rw [e, byB_false]
    refine Ev.loop (fun n st => ∃ k c : Nat, st = (((c : Int), tw s, (k : Int), ()), ()) ∧ n = 4 - k ∧ k ≤ 4 ∧ c = cnt (mem s) (64 * k)) ?_ (k := 4) ⟨0, 0, rfl, rfl, by omega, rfl⟩ hN
    rintro n st again ⟨k, c, rfl, rfl, hk, hcc⟩ ih
    unfold Count_17_L5
    refine Ev.dec (fun h => ?_) fun h => ?_
    · have hk4 : k < 4 := by omega
      rw [if_pos (by omega), Int.toNat_natCast, getD4 s hk4, ones_eq N (s k) (hs k), bnd]
      have e1 : IntKind.wrap .i64 ((k : Int) + 1) = ((k + 1 : Nat) : Int) := by rw [w64 (by omega) (by omega)]; omega
      have l := cnt_le (s k).testBit 64
      have l' := cnt_le (mem s) (64 * k)
      have e2 : IntKind.wrap .i64 ((c : Int) + ((cnt (s k).testBit 64 : Nat) : Int)) = ((c + cnt (s k).testBit 64 : Nat) : Int) := by rw [w64 (by omega) (by omega)]; omega
      simp only [e1, e2]
      refine ih (4 - (k + 1)) _ (by omega) ⟨k + 1, _, rfl, rfl, by omega, ?_⟩
      rw [hcc, show 64 * (k + 1) = 64 * k + 64 by omega, cnt_add]
      congr 1
      exact cnt_congr fun i hi => by
        show _ = (s ((64 * k + i) / 64)).testBit ((64 * k + i) % 64)
        rw [show (64 * k + i) / 64 = k by omega, show (64 * k + i) % 64 = i by omega]
    · have hk4 : k = 4 := by omega
      subst hk4
      exact Ev.mk (by rw [hcc])
end Go.Proofs.YteohpijdidlaeaaDoorL
