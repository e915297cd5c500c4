/- What qarith's MulDiv and Load and the reference's tell. Conditions: numbers of 64 bits. -/
import Derived.Test.YtabdnglgdbjbiaaXQR
namespace Go.Proofs.YtabdnglgdbjbiaaQ
open Go Go.Proofs.YtabdnglgdbjbiaaM Go.Proofs.YtabdnglgdbjbiaaX Go.Proofs.YtabdnglgdbjbiaaL
set_option linter.unusedVariables false
set_option linter.unusedSimpArgs false

/-- How much one work adds. -/
def part (w t : Int) : Int := (w * 4294967296 + (t - 1)) / t
theorem part_nonneg {w t : Int} (hw : 0 ≤ w) (ht : 0 < t) : 0 ≤ part w t := Int.ediv_nonneg (by omega) (by omega)
def partS (w t : Int) : Int × Int := if part w t ≤ 9223372036854775807 then (part w t, 0) else (0, 2)

theorem mulDiv_part {N : Nat} (hk : 67 ≤ N) {w t : Int} (hw : (Lit.int .i64 w).wf = true) (ht : (Lit.int .i64 t).wf = true) (hw0 : 0 ≤ w) (ht0 : 0 < t) : MulDiv_41 N ((w, 4294967296, t, true, ()), ()) = some (two (partS w t)) := by
  obtain ⟨_, hw1⟩ := wf64 hw
  obtain ⟨_, ht1⟩ := wf64 ht
  unfold MulDiv_41 partS part
  try dsimp only
  rw [join_eq, byB_f (by omega), byB_f (by omega), decide_eq_false (by omega), MulDiv_41_J2]
  try dsimp only
  rw [byB_false, wu64 (n := w) (by omega) (by omega), wu64 (n := 4294967296) (by omega) (by omega), wu64 (n := t) (by omega) (by omega), times_at (by omega) (by omega) (by omega) (by omega), bnd]
  try dsimp only
  generalize hpe : w * 4294967296 = p
  have hsum : p / 18446744073709551616 * 18446744073709551616 + p % 18446744073709551616 = p := by omega
  rw [up_div ht0]
  have h1 := Int.mul_ediv_add_emod p t
  have h2 := Int.emod_nonneg p (show t ≠ 0 by omega)
  have h3 := Int.emod_lt_of_pos p ht0
  have hq0 : 0 ≤ p / t := Int.ediv_nonneg (by omega) (by omega)
  by_cases h4 : p / 18446744073709551616 ≥ t
  · rw [byB_t h4]
    have hbig : 18446744073709551616 ≤ p / t := Int.le_ediv_of_mul_le (by omega) (by omega)
    rw [if_neg]
    split <;> omega
  · rw [byB_f h4, over_at (by omega) (by omega) (by omega) (by omega) (by omega) (by omega), hsum, bnd]
    have hq1 : p / t < 18446744073709551616 := Int.ediv_lt_of_lt_mul (by omega) (by
      have := Int.mul_le_mul_of_nonneg_left (show p / 18446744073709551616 + 1 ≤ t by omega) (show (0 : Int) ≤ 18446744073709551616 by omega)
      omega)
    simp only [two, byB_true]
    by_cases h6 : p % t = 0
    · rw [byB_f (by omega), if_pos h6]
      by_cases h5 : p / t > 9223372036854775807
      · rw [byB_t h5, if_neg (by omega)]
      · rw [byB_f h5, if_pos (by omega), w64 (by omega) (by omega)]
    · rw [byB_t (by omega), if_neg h6]
      by_cases h7 : p / t = 18446744073709551615
      · exfalso
        rw [h7] at h1
        omega
      · rw [wu64 (by omega) (by omega)]
        by_cases h5 : p / t + 1 > 9223372036854775807
        · rw [byB_t h5, if_neg (by omega)]
        · rw [byB_f h5, if_pos (by omega), w64 (by omega) (by omega)]

theorem plus_at {N : Nat} {r s c : Int} (hr0 : 0 ≤ r) (hr : r < c) (hs0 : 0 ≤ s) (hs : s < c) (hc : c ≤ 9223372036854775807) :
    ∃ r' one : Int, plus_42 N ((r, s, c, ()), ()) = some (two (r', one)) ∧ (one = 0 ∨ one = 1) ∧ 0 ≤ r' ∧ r' < c ∧ one * c + r' = r + s := by
  unfold plus_42
  try dsimp only
  rw [w64 (n := c - s) (by omega) (by omega)]
  by_cases h : r ≥ c - s
  · rw [byB_t h, w64 (by omega) (by omega)]
    exact ⟨_, 1, rfl, .inr rfl, by omega, by omega, by omega⟩
  · rw [byB_f h, w64 (by omega) (by omega)]
    exact ⟨_, 0, rfl, .inl rfl, by omega, by omega, by omega⟩

def endS (W c : Int) : Int × Int := if W / c > 9223372036854775807 then (0, 2) else if W % c > 0 then AddS (W / c) 1 else (W / c, 0)

theorem rMulDiv_loop {N : Nat} (a b c : Int) (ha0 : 0 ≤ a) (hb0 : 0 ≤ b) (hb : b ≤ 9223372036854775807) (hc0 : 0 < c) (hc : c ≤ 9223372036854775807) :
    ∀ (n k : Nat) (q r : Int), n ≤ 63 → n < k → 0 ≤ r → r < c → 0 ≤ q → q ≤ 9223372036854775807 →
      loopN k (MulDiv_40_L6 N) ((a, b, c, true, q, r, (n : Int) - 1, ()), ()) = some (two (endS ((q * c + r) * 2 ^ n + a % 2 ^ n * b) c)) := by
  intro n
  induction n with
  | zero =>
    intro k q r _ hk hr0 hr hq0 hq
    obtain ⟨k, rfl⟩ : ∃ m, k = m + 1 := ⟨k - 1, by omega⟩
    rw [loopN_succ, MulDiv_40_L6]
    try dsimp only
    rw [byB_f (by omega), byB_true]
    simp only [Int.pow_zero, Int.mul_one, Int.emod_one, Int.zero_mul, Int.add_zero]
    obtain ⟨e1, e2⟩ := div_of (W := q * c + r) hc0 rfl hr0 hr
    unfold endS
    rw [e1, e2, if_neg (show ¬ q > 9223372036854775807 by omega)]
    by_cases h : r > 0
    · rw [byB_t h, if_pos h, rAdd_at (wf64_mk (by omega) (by omega)) (wf64_mk (by omega) (by omega)), bnd]
    · rw [byB_f h, if_neg h]
  | succ m ih =>
    intro k q r hn hk hr0 hr hq0 hq
    obtain ⟨k, rfl⟩ : ∃ j, k = j + 1 := ⟨k - 1, by omega⟩
    have hm := two_pow_pos m
    have hpow : (2 : Int) ^ (m + 1) = 2 * 2 ^ m := by rw [Int.pow_succ, Int.mul_comm]
    have hi : ((m + 1 : Nat) : Int) - 1 = (m : Int) := by omega
    have hmin : min (m : Int).toNat (IntKind.bits .i64) = m := by rw [Int.toNat_natCast, Nat.min_eq_left (show m ≤ IntKind.i64.bits from (show m ≤ 64 by omega))]
    have hs0 : 0 ≤ a / 2 ^ m := Int.ediv_nonneg ha0 (by omega)
    have hl0 := Int.emod_nonneg a (show (2 : Int) ^ m ≠ 0 by omega)
    have hlb : 0 ≤ a % 2 ^ m * b := Int.mul_nonneg hl0 hb0
    have hw : a % 2 ^ (m + 1) = (a / 2 ^ m % 2) * 2 ^ m + a % 2 ^ m := by
      rw [hpow]
      have h1 := Int.mul_ediv_add_emod a (2 ^ m)
      have h2 := Int.mul_ediv_add_emod (a / 2 ^ m) 2
      have h3 : a = (2 * 2 ^ m) * (a / 2 ^ m / 2) + ((a / 2 ^ m % 2) * 2 ^ m + a % 2 ^ m) := by
        conv => lhs; rw [← h1]
        conv => lhs; lhs; rw [← h2]
        rw [Int.mul_add, Int.mul_comm (2 ^ m) (2 * _), Int.mul_assoc, Int.mul_comm (a / 2 ^ m / 2), ← Int.mul_assoc, Int.add_assoc, Int.mul_comm (2 ^ m) (a / 2 ^ m % 2)]
      have hb := Int.emod_nonneg (a / 2 ^ m) (show (2 : Int) ≠ 0 by decide)
      have hb2 := Int.emod_lt_of_pos (a / 2 ^ m) (show (0 : Int) < 2 by decide)
      have hl1 := Int.emod_lt_of_pos a hm
      have hbm : 0 ≤ (a / 2 ^ m % 2) * 2 ^ m ∧ (a / 2 ^ m % 2) * 2 ^ m ≤ 1 * 2 ^ m := prod_le hb (by omega) (by omega) (Int.le_refl _)
      conv => lhs; rw [h3]
      rw [Int.mul_add_emod_self_left]
      exact Int.emod_eq_of_lt (by omega) (by omega)
    have hW : (q * c + r) * 2 ^ (m + 1) + a % 2 ^ (m + 1) * b = (2 * (q * c + r) + a / 2 ^ m % 2 * b) * 2 ^ m + a % 2 ^ m * b := by
      rw [hw, hpow]
      generalize q * c + r = V
      generalize a / 2 ^ m % 2 = t
      generalize a % 2 ^ m = l
      generalize (2 : Int) ^ m = p
      grind
    rw [hW]
    have hbit := Int.emod_nonneg (a / 2 ^ m) (show (2 : Int) ≠ 0 by decide)
    have hbit2 := Int.emod_lt_of_pos (a / 2 ^ m) (show (0 : Int) < 2 by decide)
    have hqc : 0 ≤ q * c := Int.mul_nonneg hq0 (by omega)
    have grow : ∀ (V x : Int), 0 ≤ V → x * c ≤ V → x ≤ (V * 2 ^ m + a % 2 ^ m * b) / c := by
      intro V x hV hx
      refine Int.le_ediv_of_mul_le hc0 ?_
      have : V * 1 ≤ V * 2 ^ m := Int.mul_le_mul_of_nonneg_left (by omega) hV
      omega
    rw [hi, loopN_succ, MulDiv_40_L6]
    try dsimp only
    rw [byB_t (by omega)]
    by_cases h1 : q > 4611686018427387903
    · rw [byB_t h1]
      have hb' : 0 ≤ a / 2 ^ m % 2 * b := Int.mul_nonneg hbit hb0
      have h2 := grow (2 * (q * c + r) + a / 2 ^ m % 2 * b) (2 * q) (by omega) (by rw [Int.mul_assoc]; omega)
      unfold endS
      rw [if_pos (by omega)]
    · rw [byB_f h1]
      obtain ⟨r1, one, e1, ho, hr10, hr1, hv1⟩ := plus_at (N := N) hr0 hr hr0 hr hc
      rw [e1, bnd, w64 (n := q + q) (by omega) (by omega)]
      try simp only [two]
      rw [rAdd_at (wf64_mk (by omega) (by omega)) (wf64_mk (by omega) (by omega)), bnd, AddS_ok (by omega) (by omega)]
      try simp only [two]
      rw [byB_nef rfl, if_neg (by omega), hmin, fdiv_pow ha0, Int.tmod_eq_emod_of_nonneg hs0]
      have hwr : IntKind.wrap .i64 ((m : Int) - 1) = (m : Int) - 1 := w64 (by omega) (by omega)
      rw [hwr]
      have hV1 : (q + q + one) * c + r1 = 2 * (q * c + r) := by
        rw [Int.add_mul, Int.add_mul]
        omega
      by_cases h2 : a / 2 ^ m % 2 = 1
      · rw [byB_eqt h2, if_neg (by omega), h2, Int.one_mul, Int.tmod_eq_emod_of_nonneg hb0, Int.tdiv_eq_ediv_of_nonneg hb0]
        have hbm0 := Int.emod_nonneg b (show c ≠ 0 by omega)
        have hbm1 := Int.emod_lt_of_pos b hc0
        have hbq0 : 0 ≤ b / c := Int.ediv_nonneg hb0 (by omega)
        have hbq1 : b / c ≤ b := Int.ediv_le_self _ hb0
        have hbe := Int.mul_ediv_add_emod b c
        obtain ⟨r2, tw, e2, ht, hr20, hr2, hv2⟩ := plus_at (N := N) hr10 hr1 hbm0 hbm1 hc
        rw [e2, bnd, if_neg (by omega)]
        try simp only [two]
        have hV2 : (q + q + one + b / c + tw) * c + r2 = 2 * (q * c + r) + b := by
          rw [Int.add_mul, Int.add_mul, Int.mul_comm (b / c) c]
          omega
        have hbig : ∀ x : Int, x ≤ q + q + one + b / c + tw → x ≤ ((2 * (q * c + r) + b) * 2 ^ m + a % 2 ^ m * b) / c := by
          intro x hx
          refine grow _ x (by omega) ?_
          have : x * c ≤ (q + q + one + b / c + tw) * c := Int.mul_le_mul_of_nonneg_right hx (by omega)
          omega
        rw [w64 (n := b / c) (by omega) (by omega), rAdd_at (wf64_mk (by omega) (by omega)) (wf64_mk (by omega) (by omega)), bnd]
        by_cases h3 : q + q + one + b / c ≤ 9223372036854775807
        · rw [AddS_ok (by omega) h3]
          try simp only [two]
          rw [byB_eqt rfl, rAdd_at (wf64_mk (by omega) (by omega)) (wf64_mk (by omega) (by omega)), bnd]
          by_cases h4 : q + q + one + b / c + tw ≤ 9223372036854775807
          · rw [AddS_ok (by omega) h4]
            try simp only [two]
            rw [byB_nef rfl, ih k _ r2 (by omega) (by omega) hr20 hr2 (by omega) (by omega), hV2]
          · rw [AddS_over (by omega)]
            have h5 := hbig 9223372036854775808 (by omega)
            try simp only [two]
            unfold endS
            rw [byB_net (by decide), if_pos (by omega)]
        · rw [AddS_over (by omega)]
          have h5 := hbig 9223372036854775808 (by omega)
          try simp only [two]
          unfold endS
          rw [byB_eqf (by decide), byB_net (by decide), if_pos (by omega)]
      · have h3 : a / 2 ^ m % 2 = 0 := by omega
        rw [byB_eqf h2, h3, Int.zero_mul, Int.add_zero, ih k _ r1 (by omega) (by omega) hr10 hr1 (by omega) (by omega), hV1]

theorem rMulDiv_part {N : Nat} (hk : 67 ≤ N) {w t : Int} (hw : (Lit.int .i64 w).wf = true) (ht : (Lit.int .i64 t).wf = true) (hw0 : 0 ≤ w) (ht0 : 0 < t) : MulDiv_40 N ((w, 4294967296, t, true, ()), ()) = some (two (partS w t)) := by
  obtain ⟨_, hw1⟩ := wf64 hw
  obtain ⟨_, ht1⟩ := wf64 ht
  unfold MulDiv_40
  try dsimp only
  rw [byB_f (by omega), byB_f (by omega), byB_f (by omega)]
  have h := rMulDiv_loop (N := N) w 4294967296 t hw0 (by omega) (by omega) ht0 ht1 63 N 0 0 (by omega) (by omega) (by omega) ht0 (by omega) (by omega)
  have e : ((63 : Nat) : Int) - 1 = 62 := rfl
  have e2 : (2 : Int) ^ 63 = 9223372036854775808 := rfl
  rw [e, e2, Int.zero_mul, Int.zero_add, Int.zero_mul, Int.zero_add, Int.emod_eq_of_lt hw0 (by omega)] at h
  rw [h]
  unfold endS partS part
  rw [up_div ht0]
  have h2 := Int.emod_nonneg (w * 4294967296) (show t ≠ 0 by omega)
  have h0 : 0 ≤ w * 4294967296 / t := Int.ediv_nonneg (by omega) (by omega)
  by_cases h3 : w * 4294967296 % t = 0
  · rw [if_pos h3, if_neg (show ¬ w * 4294967296 % t > 0 by omega)]
    by_cases h4 : w * 4294967296 / t > 9223372036854775807
    · rw [if_pos h4, if_neg (by omega)]
    · rw [if_neg h4, if_pos (by omega)]
  · rw [if_neg h3, if_pos (show w * 4294967296 % t > 0 by omega)]
    by_cases h4 : w * 4294967296 / t > 9223372036854775807
    · rw [if_pos h4, if_neg (by omega)]
    · rw [if_neg h4]
      by_cases h5 : w * 4294967296 / t + 1 ≤ 9223372036854775807
      · rw [AddS_ok (by omega) h5, if_pos h5]
      · rw [AddS_over (by omega), if_neg h5]

/-- The whole load. -/
def total : List Int → List Int → Int
  | w :: ws, t :: ts => part w t + total ws ts
  | _, _ => 0
theorem total_cons (w t : Int) (ws ts : List Int) : total (w :: ws) (t :: ts) = part w t + total ws ts := by simp [total]
theorem total_nonneg : ∀ (ws ts : List Int), (∀ x ∈ ws, 0 ≤ x) → (∀ x ∈ ts, 0 < x) → 0 ≤ total ws ts
  | [], _, _, _ => by simp [total]
  | _ :: _, [], _, _ => by simp [total]
  | w :: ws, t :: ts, h1, h2 => by
    have := total_nonneg ws ts (fun x hx => h1 x (.tail _ hx)) (fun x hx => h2 x (.tail _ hx))
    have := part_nonneg (w := w) (t := t) (h1 w (.head _)) (h2 t (.head _))
    simp only [total]
    omega
def LoadS (ws ts : List Int) : Int × Int := if total ws ts ≤ 9223372036854775807 then (total ws ts, 0) else (0, 2)

theorem load_loop {N : Nat} (hN : 67 ≤ N) (work time : List Int) (hl : work.length = time.length) (hn : work.length ≤ 140737488351232) (hw : ∀ x ∈ work, 0 ≤ x ∧ x ≤ 9223372036854775807) (ht : ∀ x ∈ time, 0 < x ∧ x ≤ 9223372036854775807) :
    ∀ (d i k : Nat) (s e : Int), i + d = work.length → d < k → 0 ≤ s → s ≤ 9223372036854775807 → (e = 0 ∨ e = 2) →
      loopN k (Load_39_L5 N) ((time, s, e, work, (work.length : Int), (i : Int), ()), ()) = some (two (if e = 0 ∧ s + total (work.drop i) (time.drop i) ≤ 9223372036854775807 then (s + total (work.drop i) (time.drop i), 0) else (0, 2))) := by
  intro d
  induction d with
  | zero =>
    intro i k s e hd hk hs0 hs1 he
    obtain ⟨k, rfl⟩ : ∃ j, k = j + 1 := ⟨k - 1, by omega⟩
    rw [loopN_succ, Load_39_L5]
    try dsimp only
    rw [byB_f (by omega), List.drop_of_length_le (by omega), List.drop_of_length_le (by omega)]
    simp only [total, Int.add_zero]
    rcases he with rfl | rfl
    · rw [byB_nef rfl, if_pos ⟨rfl, hs1⟩]
    · rw [byB_net (by omega), if_neg (by omega)]
  | succ d ih =>
    intro i k s e hd hk hs0 hs1 he
    obtain ⟨k, rfl⟩ : ∃ j, k = j + 1 := ⟨k - 1, by omega⟩
    have hiw : i < work.length := by omega
    have hit : i < time.length := by omega
    have hwi := hw _ (getD_mem (d := 0) hiw)
    have hti := ht _ (getD_mem (d := 0) hit)
    have hnx : IntKind.wrap .i64 ((i : Int) + 1) = ((i + 1 : Nat) : Int) := by rw [w64 (by omega) (by omega)]; omega
    have tot : 0 ≤ total (work.drop (i + 1)) (time.drop (i + 1)) := total_nonneg _ _ (fun x hx => (hw x (List.mem_of_mem_drop hx)).1) (fun x hx => (ht x (List.mem_of_mem_drop hx)).1)
    rw [drop_getD (d := 0) hiw, drop_getD (d := 0) hit, total_cons]
    rw [loopN_succ, Load_39_L5]
    try dsimp only
    rw [byB_t (by omega), if_pos (by omega), if_pos (by omega), if_pos (by omega), Int.toNat_natCast]
    have ih2 := fun s' e' h0 h1 h2 => ih (i + 1) k s' e' (by omega) (by omega) h0 h1 h2
    rw [hnx]
    generalize work.getD i 0 = wi at *
    generalize time.getD i 0 = ti at *
    generalize total (work.drop (i + 1)) (time.drop (i + 1)) = T at *
    rw [byB_f (by omega), byB_f (by omega), mulDiv_part hN (wf64_mk (by omega) (by omega)) (wf64_mk (by omega) (by omega)) (by omega) (by omega), bnd]
    have hp := part_nonneg (w := wi) (t := ti) (by omega) (by omega)
    unfold partS
    by_cases h3 : part wi ti ≤ 9223372036854775807
    · rw [if_pos h3]
      try simp only [two]
      rw [byB_eqt rfl]
      rcases he with rfl | rfl
      · rw [byB_eqt rfl, add_at (wf64_mk (by omega) hs1) (wf64_mk (by omega) h3), bnd]
        by_cases h4 : s + part wi ti ≤ 9223372036854775807
        · rw [AddS_ok (by omega) h4]
          try simp only [two]
          rw [byB_nef rfl, ih2 _ _ (by omega) h4 (.inl rfl)]
          simp only [two, Int.add_assoc]
        · rw [AddS_over (by omega)]
          try simp only [two]
          rw [byB_net (by decide), ih2 _ _ (by omega) (by omega) (.inr rfl), if_neg (by omega), if_neg (by omega)]
      · rw [byB_eqf (by decide), byB_nef rfl, ih2 _ _ hs0 hs1 (.inr rfl), if_neg (by omega), if_neg (by omega)]
    · rw [if_neg h3]
      try simp only [two]
      rw [byB_eqf (by decide), byB_net (by decide), ih2 _ _ hs0 hs1 (.inr rfl), if_neg (by omega), if_neg (by omega)]
theorem load_at {N : Nat} {work time : List Int} (hk : work.length + 80 ≤ N) (hl : work.length = time.length) (hn : work.length ≤ 140737488351232) (hw : ∀ x ∈ work, 0 ≤ x ∧ x ≤ 9223372036854775807) (ht : ∀ x ∈ time, 0 < x ∧ x ≤ 9223372036854775807) : Load_39 N ((work, time, ()), ()) = some (two (LoadS work time)) := by
  unfold Load_39 LoadS
  try dsimp only
  have h := load_loop (N := N) (by omega) work time hl hn hw ht work.length 0 N 0 0 (by omega) (by omega) (by omega) (by omega) (.inl rfl)
  have e0 : ((0 : Nat) : Int) = 0 := rfl
  rw [e0] at h
  rw [byB_nef (by omega), h]
  simp

theorem rload_check {N : Nat} (work time : List Int) (hl : work.length = time.length) (hn : work.length ≤ 140737488351232) (hw : ∀ x ∈ work, 0 ≤ x ∧ x ≤ 9223372036854775807) (ht : ∀ x ∈ time, 0 < x ∧ x ≤ 9223372036854775807) :
    ∀ (d i k : Nat), i + d = work.length → d < k →
      loopN k (Load_32_L4 N) ((work, time, (i : Int), ()), ()) = loopN N (Load_32_L10 N) ((work, time, 0, 0, ()), ()) := by
  intro d
  induction d with
  | zero =>
    intro i k hd hk
    obtain ⟨k, rfl⟩ : ∃ j, k = j + 1 := ⟨k - 1, by omega⟩
    rw [loopN_succ, Load_32_L4]
    try dsimp only
    rw [byB_f (by omega)]
  | succ d ih =>
    intro i k hd hk
    obtain ⟨k, rfl⟩ : ∃ j, k = j + 1 := ⟨k - 1, by omega⟩
    have hiw : i < work.length := by omega
    have hit : i < time.length := by omega
    have hwi := hw _ (getD_mem (d := 0) hiw)
    have hti := ht _ (getD_mem (d := 0) hit)
    have hnx : IntKind.wrap .i64 ((i : Int) + 1) = ((i + 1 : Nat) : Int) := by rw [w64 (by omega) (by omega)]; omega
    rw [loopN_succ, Load_32_L4]
    try dsimp only
    rw [byB_t (by omega), if_pos (by omega), if_pos (by omega), Int.toNat_natCast, byB_f (by omega), byB_f (by omega), hnx, ih (i + 1) k (by omega) (by omega)]

theorem rload_sum {N : Nat} (hN : 67 ≤ N) (work time : List Int) (hl : work.length = time.length) (hn : work.length ≤ 140737488351232) (hw : ∀ x ∈ work, 0 ≤ x ∧ x ≤ 9223372036854775807) (ht : ∀ x ∈ time, 0 < x ∧ x ≤ 9223372036854775807) :
    ∀ (d i k : Nat) (s : Int), i + d = work.length → d < k → 0 ≤ s → s ≤ 9223372036854775807 →
      loopN k (Load_32_L10 N) ((work, time, s, (i : Int), ()), ()) = some (two (if s + total (work.drop i) (time.drop i) ≤ 9223372036854775807 then (s + total (work.drop i) (time.drop i), 0) else (0, 2))) := by
  intro d
  induction d with
  | zero =>
    intro i k s hd hk hs0 hs1
    obtain ⟨k, rfl⟩ : ∃ j, k = j + 1 := ⟨k - 1, by omega⟩
    rw [loopN_succ, Load_32_L10]
    try dsimp only
    rw [byB_f (by omega), List.drop_of_length_le (by omega), List.drop_of_length_le (by omega)]
    simp only [total, Int.add_zero]
    rw [if_pos hs1]
  | succ d ih =>
    intro i k s hd hk hs0 hs1
    obtain ⟨k, rfl⟩ : ∃ j, k = j + 1 := ⟨k - 1, by omega⟩
    have hiw : i < work.length := by omega
    have hit : i < time.length := by omega
    have hwi := hw _ (getD_mem (d := 0) hiw)
    have hti := ht _ (getD_mem (d := 0) hit)
    have hnx : IntKind.wrap .i64 ((i : Int) + 1) = ((i + 1 : Nat) : Int) := by rw [w64 (by omega) (by omega)]; omega
    have tot : 0 ≤ total (work.drop (i + 1)) (time.drop (i + 1)) := total_nonneg _ _ (fun x hx => (hw x (List.mem_of_mem_drop hx)).1) (fun x hx => (ht x (List.mem_of_mem_drop hx)).1)
    rw [drop_getD (d := 0) hiw, drop_getD (d := 0) hit, total_cons]
    rw [loopN_succ, Load_32_L10]
    try dsimp only
    rw [byB_t (by omega), if_pos (by omega), if_pos (by omega), Int.toNat_natCast, hnx]
    have ih2 := fun s' h0 h1 => ih (i + 1) k s' (by omega) (by omega) h0 h1
    generalize work.getD i 0 = wi at *
    generalize time.getD i 0 = ti at *
    generalize total (work.drop (i + 1)) (time.drop (i + 1)) = T at *
    rw [rMulDiv_part hN (wf64_mk (by omega) (by omega)) (wf64_mk (by omega) (by omega)) (by omega) (by omega), bnd]
    have hp := part_nonneg (w := wi) (t := ti) (by omega) (by omega)
    unfold partS
    by_cases h3 : part wi ti ≤ 9223372036854775807
    · rw [if_pos h3]
      try simp only [two]
      rw [byB_eqt rfl, rAdd_at (wf64_mk (by omega) hs1) (wf64_mk (by omega) h3), bnd]
      by_cases h4 : s + part wi ti ≤ 9223372036854775807
      · rw [AddS_ok (by omega) h4]
        try simp only [two]
        rw [byB_nef rfl, ih2 _ (by omega) h4]
        simp only [two, Int.add_assoc]
      · rw [AddS_over (by omega)]
        try simp only [two]
        rw [byB_net (by decide), if_neg (by omega)]
    · rw [if_neg h3]
      try simp only [two]
      rw [byB_eqf (by decide), byB_net (by decide), if_neg (by omega)]
theorem rLoad_at {N : Nat} {work time : List Int} (hk : work.length + 80 ≤ N) (hl : work.length = time.length) (hn : work.length ≤ 140737488351232) (hw : ∀ x ∈ work, 0 ≤ x ∧ x ≤ 9223372036854775807) (ht : ∀ x ∈ time, 0 < x ∧ x ≤ 9223372036854775807) : Load_32 N ((work, time, ()), ()) = some (two (LoadS work time)) := by
  unfold Load_32 LoadS
  try dsimp only
  have e0 : ((0 : Nat) : Int) = 0 := rfl
  have h := rload_check (N := N) work time hl hn hw ht work.length 0 N (by omega) (by omega)
  have h2 := rload_sum (N := N) (by omega) work time hl hn hw ht work.length 0 N 0 (by omega) (by omega) (by omega) (by omega)
  rw [e0] at h h2
  rw [byB_nef (by omega), h, h2]
  simp
end Go.Proofs.YtabdnglgdbjbiaaQ
