/- What qarith's Load and the reference's MulDiv and Load tell. Conditions: numbers of 64 bits. -/
import Derived.Test.YtmopmhhhpcfokaaPAx5
import Derived.Test.YtmopmhhhpcfokaaPAx6
import Derived.Test.YtmopmhhhpcfokaaXQmore
namespace Go.Proofs.YtmopmhhhpcfokaaX
open Go.RowKit Go.Proofs.YtmopmhhhpcfokaaW.PrintWords Go.Proofs.YtmopmhhhpcfokaaW.PrintMore Go.Proofs.Ytmopmhhhpcfokaa.PA

theorem plus_at {r s c : Int} (hr0 : 0 ≤ r) (hr : r < c) (hs0 : 0 ≤ s) (hs : s < c) (hc : c ≤ 9223372036854775807) :
    ∃ r' one : Int, tourbillonref01_plus.f r s c = some (r', one) ∧ (one = 0 ∨ one = 1) ∧ 0 ≤ r' ∧ r' < c ∧ one * c + r' = r + s := by
  unfold tourbillonref01_plus.f
  rw [w64 (n := c - s) (by omega) (by omega)]
  by_cases h : r ≥ c - s
  · rw [if_pos h, w64 (by omega) (by omega)]
    exact ⟨_, 1, rfl, .inr rfl, by omega, by omega, by omega⟩
  · rw [if_neg h, w64 (by omega) (by omega)]
    exact ⟨_, 0, rfl, .inl rfl, by omega, by omega, by omega⟩

theorem rAdd_one {q one : Int} (hq0 : 0 ≤ q) (hq : q + one ≤ 9223372036854775807) (ho : 0 ≤ one) : tourbillonref01_Add.f q one = some (q + one, 0) := by
  rw [rAdd_at (wf64_mk (by omega) (by omega)) (wf64_mk (by omega) (by omega))]
  unfold AddS
  rw [if_pos (by omega)]

theorem AddS_ok {a b : Int} (h0 : -9223372036854775808 ≤ a + b) (h1 : a + b ≤ 9223372036854775807) : AddS a b = (a + b, 0) := by
  unfold AddS
  rw [if_pos ⟨h0, h1⟩]
theorem AddS_over {a b : Int} (h : ¬ (-9223372036854775808 ≤ a + b ∧ a + b ≤ 9223372036854775807)) : AddS a b = (0, 2) := by
  unfold AddS
  rw [if_neg h]

def endS (W c : Int) (up : Bool) : Int × Int := if W / c > 9223372036854775807 then (0, 2) else if up = true ∧ W % c > 0 then AddS (W / c) 1 else (W / c, 0)

theorem div_of {W c q r : Int} (hc : 0 < c) (h : W = q * c + r) (h0 : 0 ≤ r) (h1 : r < c) : W / c = q ∧ W % c = r := by
  subst h
  rw [Int.add_comm, Int.add_mul_ediv_right _ _ (by omega), Int.ediv_eq_zero_of_lt h0 h1, Int.add_mul_emod_self_right, Int.emod_eq_of_lt h0 h1]
  omega

theorem rMulDiv_loop (a b c : Int) (up : Bool) (ha0 : 0 ≤ a) (hb0 : 0 ≤ b) (hb : b ≤ 9223372036854775807) (hc0 : 0 < c) (hc : c ≤ 9223372036854775807) :
    ∀ (n k : Nat) (q r : Int), n ≤ 63 → n < k → 0 ≤ r → r < c → 0 ≤ q → q ≤ 9223372036854775807 →
      tourbillonref01_MulDiv.l0 k a b c up q r ((n : Int) - 1) = some (endS ((q * c + r) * 2 ^ n + a % 2 ^ n * b) c up) := by
  intro n
  induction n with
  | zero =>
    intro k q r _ hk hr0 hr hq0 hq
    obtain ⟨k, rfl⟩ : ∃ m, k = m + 1 := ⟨k - 1, by omega⟩
    simp only [tourbillonref01_MulDiv.l0]
    rw [if_neg (by omega)]
    simp only [Int.pow_zero, Int.mul_one, Int.emod_one, Int.zero_mul, Int.add_zero]
    obtain ⟨e1, e2⟩ := div_of (W := q * c + r) hc0 rfl hr0 hr
    unfold endS
    rw [e1, e2, if_neg (show ¬ q > 9223372036854775807 by omega)]
    cases up with
    | false => simp
    | true =>
      simp only [if_true, true_and]
      by_cases h : r > 0
      · rw [if_pos h, if_pos h, rAdd_at (wf64_mk (by omega) (by omega)) (wf64_mk (by omega) (by omega))]
        rfl
      · rw [if_neg h, if_neg h]
  | succ m ih =>
    intro k q r hn hk hr0 hr hq0 hq
    obtain ⟨k, rfl⟩ : ∃ j, k = j + 1 := ⟨k - 1, by omega⟩
    have hm := two_pow_pos m
    have hpow : (2 : Int) ^ (m + 1) = 2 * 2 ^ m := by rw [Int.pow_succ, Int.mul_comm]
    have hi : ((m + 1 : Nat) : Int) - 1 = (m : Int) := by omega
    rw [hi]
    have hshr : shr .i64 a (m : Int) = a / 2 ^ m := by
      unfold shr
      rw [Int.toNat_natCast, Nat.min_eq_left (show m ≤ IntKind.i64.bits from (show m ≤ 64 by omega))]
    have hs0 : 0 ≤ a / 2 ^ m := Int.ediv_nonneg ha0 (by omega)
    have hl0 := Int.emod_nonneg a (show (2 : Int) ^ m ≠ 0 by omega)
    have hlb : 0 ≤ a % 2 ^ m * b := Int.mul_nonneg hl0 hb0
    have hw : a % 2 ^ (m + 1) = (a / 2 ^ m % 2) * 2 ^ m + a % 2 ^ m := by
      rw [hpow]
      have h1 := Int.mul_ediv_add_emod a (2 ^ m)
      have h2 := Int.mul_ediv_add_emod (a / 2 ^ m) 2
      have h3 : a = (2 * 2 ^ m) * (a / 2 ^ m / 2) + ((a / 2 ^ m % 2) * 2 ^ m + a % 2 ^ m) := by
        conv => lhs; rw [← h1]
        conv => lhs; lhs; rw [← h2]
        rw [Int.mul_add, Int.mul_comm (2 ^ m) (2 * _), Int.mul_assoc, Int.mul_comm (a / 2 ^ m / 2), ← Int.mul_assoc, Int.add_assoc, Int.mul_comm (2 ^ m) (a / 2 ^ m % 2)]
      have hb := Int.emod_nonneg (a / 2 ^ m) (show (2 : Int) ≠ 0 by decide)
      have hb2 := Int.emod_lt_of_pos (a / 2 ^ m) (show (0 : Int) < 2 by decide)
      have hl1 := Int.emod_lt_of_pos a hm
      have hbm : 0 ≤ (a / 2 ^ m % 2) * 2 ^ m ∧ (a / 2 ^ m % 2) * 2 ^ m ≤ 1 * 2 ^ m := prod_le hb (by omega) (by omega) (Int.le_refl _)
      conv => lhs; rw [h3]
      rw [Int.mul_add_emod_self_left]
      exact Int.emod_eq_of_lt (by omega) (by omega)
    have hW : (q * c + r) * 2 ^ (m + 1) + a % 2 ^ (m + 1) * b = (2 * (q * c + r) + a / 2 ^ m % 2 * b) * 2 ^ m + a % 2 ^ m * b := by
      rw [hw, hpow]
      generalize q * c + r = V
      generalize a / 2 ^ m % 2 = t
      generalize a % 2 ^ m = l
      generalize (2 : Int) ^ m = p
      grind
    rw [hW]
    have hbit := Int.emod_nonneg (a / 2 ^ m) (show (2 : Int) ≠ 0 by decide)
    have hbit2 := Int.emod_lt_of_pos (a / 2 ^ m) (show (0 : Int) < 2 by decide)
    have hqc : 0 ≤ q * c := Int.mul_nonneg hq0 (by omega)
    have grow : ∀ (V x : Int), 0 ≤ V → x * c ≤ V → x ≤ (V * 2 ^ m + a % 2 ^ m * b) / c := by
      intro V x hV hx
      refine Int.le_ediv_of_mul_le hc0 ?_
      have : V * 1 ≤ V * 2 ^ m := Int.mul_le_mul_of_nonneg_left (by omega) hV
      omega
    simp only [tourbillonref01_MulDiv.l0]
    rw [if_pos (by omega)]
    by_cases h1 : q > 4611686018427387903
    · rw [if_pos h1]
      have hb' : 0 ≤ a / 2 ^ m % 2 * b := Int.mul_nonneg hbit hb0
      have h2 := grow (2 * (q * c + r) + a / 2 ^ m % 2 * b) (2 * q) (by omega) (by rw [Int.mul_assoc]; omega)
      unfold endS
      rw [if_pos (by omega)]
    · rw [if_neg h1]
      obtain ⟨r1, one, e1, ho, hr10, hr1, hv1⟩ := plus_at hr0 hr hr0 hr hc
      rw [e1]
      simp only [Option.bind_some]
      rw [w64 (n := q + q) (by omega) (by omega), rAdd_one (by omega) (by omega) (by omega)]
      simp only [Option.bind_some, if_true]
      rw [if_pos (by omega), hshr, Int.tmod_eq_emod_of_nonneg hs0]
      have hwr : wrap64 ((m : Int) - 1) = (m : Int) - 1 := w64 (by omega) (by omega)
      rw [hwr]
      have hV1 : (q + q + one) * c + r1 = 2 * (q * c + r) := by
        rw [Int.add_mul, Int.add_mul]
        omega
      by_cases h2 : a / 2 ^ m % 2 = 1
      · rw [if_pos h2, if_neg (by omega), h2, Int.one_mul, Int.tmod_eq_emod_of_nonneg hb0, Int.tdiv_eq_ediv_of_nonneg hb0]
        have hbm0 := Int.emod_nonneg b (show c ≠ 0 by omega)
        have hbm1 := Int.emod_lt_of_pos b hc0
        have hbq0 : 0 ≤ b / c := Int.ediv_nonneg hb0 (by omega)
        have hbq1 : b / c ≤ b := Int.ediv_le_self _ hb0
        have hbe := Int.mul_ediv_add_emod b c
        obtain ⟨r2, two, e2, ht, hr20, hr2, hv2⟩ := plus_at hr10 hr1 hbm0 hbm1 hc
        rw [e2]
        simp only [Option.bind_some]
        have hV2 : (q + q + one + b / c + two) * c + r2 = 2 * (q * c + r) + b := by
          rw [Int.add_mul, Int.add_mul, Int.mul_comm (b / c) c]
          omega
        have hbig : ∀ x : Int, x ≤ q + q + one + b / c + two → x ≤ ((2 * (q * c + r) + b) * 2 ^ m + a % 2 ^ m * b) / c := by
          intro x hx
          refine grow _ x (by omega) ?_
          have : x * c ≤ (q + q + one + b / c + two) * c := Int.mul_le_mul_of_nonneg_right hx (by omega)
          omega
        rw [w64 (n := b / c) (by omega) (by omega), rAdd_at (wf64_mk (by omega) (by omega)) (wf64_mk (by omega) (by omega))]
        simp only [Option.bind_some]
        by_cases h3 : q + q + one + b / c ≤ 9223372036854775807
        · rw [AddS_ok (by omega) h3]
          simp only [if_true]
          rw [rAdd_at (wf64_mk (by omega) (by omega)) (wf64_mk (by omega) (by omega))]
          simp only [Option.bind_some]
          by_cases h4 : q + q + one + b / c + two ≤ 9223372036854775807
          · rw [AddS_ok (by omega) h4]
            simp only [if_true]
            rw [ih k _ r2 (by omega) (by omega) hr20 hr2 (by omega) (by omega), hV2]
          · rw [AddS_over (by omega)]
            have h5 := hbig 9223372036854775808 (by omega)
            unfold endS
            rw [if_neg (by decide), if_pos (by omega)]
        · rw [AddS_over (by omega)]
          have h5 := hbig 9223372036854775808 (by omega)
          unfold endS
          rw [if_neg (by decide), if_pos (by omega)]
      · have h3 : a / 2 ^ m % 2 = 0 := by omega
        rw [if_neg h2, h3, Int.zero_mul, Int.add_zero, ih k _ r1 (by omega) (by omega) hr10 hr1 (by omega) (by omega), hV1]

/-- How much one work adds. -/
def part (w t : Int) : Int := (w * 4294967296 + (t - 1)) / t
theorem part_nonneg {w t : Int} (hw : 0 ≤ w) (ht : 0 < t) : 0 ≤ part w t := Int.ediv_nonneg (by omega) (by omega)
def partS (w t : Int) : Int × Int := if part w t ≤ 9223372036854775807 then (part w t, 0) else (0, 2)
theorem MulDiv_part {k : Nat} (hk : 67 ≤ k) {w t : Int} (hw : (Lit.int .i64 w).wf = true) (ht : (Lit.int .i64 t).wf = true) (hw0 : 0 ≤ w) (ht0 : 0 < t) : qarith_MulDiv.f k w 4294967296 t true = some (partS w t) := by
  obtain ⟨_, hw1⟩ := wf64 hw
  obtain ⟨_, ht1⟩ := wf64 ht
  rw [MulDiv_at hk true hw (wf64_mk (by omega) (by omega)) ht]
  unfold MulDivS MulDivQ partS part
  rw [if_neg (by omega)]
  simp only [if_true, true_and]
  have h1 := Int.mul_ediv_add_emod (w * 4294967296) t
  have h2 := Int.emod_nonneg (w * 4294967296) (show t ≠ 0 by omega)
  have h3 := Int.emod_lt_of_pos (w * 4294967296) ht0
  rw [if_neg]
  rintro ⟨h4, h5⟩
  rw [h4] at h1
  omega
theorem rMulDiv_part {k : Nat} (hk : 67 ≤ k) {w t : Int} (hw : (Lit.int .i64 w).wf = true) (ht : (Lit.int .i64 t).wf = true) (hw0 : 0 ≤ w) (ht0 : 0 < t) : tourbillonref01_MulDiv.f k w 4294967296 t true = some (partS w t) := by
  obtain ⟨_, hw1⟩ := wf64 hw
  obtain ⟨_, ht1⟩ := wf64 ht
  obtain ⟨k, rfl⟩ : ∃ j, k = j + 1 := ⟨k - 1, by omega⟩
  unfold tourbillonref01_MulDiv.f
  rw [if_neg (by omega), if_neg (by omega), decide_eq_false (by omega)]
  simp only [tourbillonref01_MulDiv.j0, Bool.false_eq_true, if_false]
  have h := rMulDiv_loop w 4294967296 t true hw0 (by omega) (by omega) ht0 ht1 63 k 0 0 (by omega) (by omega) (by omega) ht0 (by omega) (by omega)
  have e : ((63 : Nat) : Int) - 1 = 62 := rfl
  have e2 : (2 : Int) ^ 63 = 9223372036854775808 := rfl
  rw [e, e2, Int.zero_mul, Int.zero_add, Int.zero_mul, Int.zero_add, Int.emod_eq_of_lt hw0 (by omega)] at h
  rw [h]
  unfold endS partS part
  rw [up_div ht0]
  simp only [true_and]
  have h2 := Int.emod_nonneg (w * 4294967296) (show t ≠ 0 by omega)
  have h0 : 0 ≤ w * 4294967296 / t := Int.ediv_nonneg (by omega) (by omega)
  by_cases h3 : w * 4294967296 % t = 0
  · rw [if_pos h3, if_neg (show ¬ w * 4294967296 % t > 0 by omega)]
    by_cases h4 : w * 4294967296 / t > 9223372036854775807
    · rw [if_pos h4, if_neg (by omega)]
    · rw [if_neg h4, if_pos (by omega)]
  · rw [if_neg h3, if_pos (show w * 4294967296 % t > 0 by omega)]
    by_cases h4 : w * 4294967296 / t > 9223372036854775807
    · rw [if_pos h4, if_neg (by omega)]
    · rw [if_neg h4]
      by_cases h5 : w * 4294967296 / t + 1 ≤ 9223372036854775807
      · rw [AddS_ok (by omega) h5, if_pos h5]
      · rw [AddS_over (by omega), if_neg h5]

/-- The whole load, and whether something of it may not be asked. -/
def total : List Int → List Int → Int
  | w :: ws, t :: ts => part w t + total ws ts
  | _, _ => 0
def bad : List Int → List Int → Bool
  | w :: ws, t :: ts => decide (w < 0 ∨ t ≤ 0) || bad ws ts
  | _, _ => false
def LoadS (ws ts : List Int) : Int × Int := if ws.length ≠ ts.length ∨ bad ws ts = true then (0, 1) else if total ws ts ≤ 9223372036854775807 then (total ws ts, 0) else (0, 2)
theorem bad_ok {w t : Int} (ws ts : List Int) (h : ¬ (w < 0 ∨ t ≤ 0)) : bad (w :: ws) (t :: ts) = bad ws ts := by simp [bad, h]
theorem bad_no {w t : Int} (ws ts : List Int) (h : w < 0 ∨ t ≤ 0) : bad (w :: ws) (t :: ts) = true := by simp [bad, h]
theorem total_cons (w t : Int) (ws ts : List Int) : total (w :: ws) (t :: ts) = part w t + total ws ts := rfl
theorem total_nonneg : ∀ (ws ts : List Int), bad ws ts = false → 0 ≤ total ws ts
  | [], _, _ => by simp [total]
  | _ :: _, [], _ => by simp [total]
  | w :: ws, t :: ts, h => by
    simp only [bad, Bool.or_eq_false_iff, decide_eq_false_iff_not] at h
    have := total_nonneg ws ts h.2
    have := part_nonneg (w := w) (t := t) (by omega) (by omega)
    simp only [total]
    omega
theorem drop_rd (l : List Int) (i : Nat) (h : i < l.length) : l.drop i = rd l (i : Int) :: l.drop (i + 1) := by
  rw [List.drop_eq_getElem_cons h]
  congr 1
  simp [rd, List.getD_eq_getElem?_getD, h]
theorem rd_mem (l : List Int) (i : Nat) (h : i < l.length) : rd l (i : Int) ∈ l := by
  have : rd l (i : Int) = l[i] := by simp [rd, List.getD_eq_getElem?_getD, h]
  rw [this]
  exact List.getElem_mem h

theorem load_loop (work time : List Int) (hl : work.length = time.length) (hn : work.length ≤ 140737488351232) (hw : ∀ x ∈ work, (Lit.int .i64 x).wf = true) (ht : ∀ x ∈ time, (Lit.int .i64 x).wf = true) :
    ∀ (d i k : Nat) (s e : Int), work.length - i = d → i ≤ work.length → 3 * d + 80 ≤ k → 0 ≤ s → s ≤ 9223372036854775807 → (e = 0 ∨ e = 2) →
      qarith_Load.l0 k time s e work (work.length : Int) (i : Int) = some (if bad (work.drop i) (time.drop i) = true then (0, 1) else if e = 0 ∧ s + total (work.drop i) (time.drop i) ≤ 9223372036854775807 then (s + total (work.drop i) (time.drop i), 0) else (0, 2)) := by
  intro d
  induction d with
  | zero =>
    intro i k s e hd hi hk hs0 hs1 he
    obtain ⟨k, rfl⟩ : ∃ j, k = j + 1 := ⟨k - 1, by omega⟩
    simp only [qarith_Load.l0]
    rw [if_neg (by omega), List.drop_of_length_le (by omega), List.drop_of_length_le (by omega)]
    simp only [bad, total, Bool.false_eq_true, if_false, Int.add_zero]
    rcases he with rfl | rfl
    · rw [if_pos rfl, if_pos ⟨rfl, hs1⟩]
    · rw [if_neg (by omega), if_neg (by omega)]
  | succ d ih =>
    intro i k s e hd hi hk hs0 hs1 he
    obtain ⟨k, rfl⟩ : ∃ j, k = j + 3 := ⟨k - 3, by omega⟩
    have hiw : i < work.length := by omega
    have hit : i < time.length := by omega
    have hwi := hw _ (rd_mem work i hiw)
    have hti := ht _ (rd_mem time i hit)
    have hnx : wrap64 ((i : Int) + 1) = ((i + 1 : Nat) : Int) := by rw [w64 (by omega) (by omega)]; omega
    rw [drop_rd work i hiw, drop_rd time i hit]
    simp only [qarith_Load.l0]
    rw [if_pos (by omega), if_pos (by omega), if_pos (by omega)]
    generalize rd work (i : Int) = wi at *
    generalize hte : rd time (i : Int) = ti at *
    rw [total_cons]
    by_cases b1 : wi < 0
    · rw [if_pos b1, bad_no _ _ (.inl b1)]
      simp [qarith_Load.j1]
    rw [if_neg b1, if_pos (by omega)]
    by_cases b2 : ti ≤ 0
    · rw [decide_eq_true b2, bad_no _ _ (.inr b2)]
      simp [qarith_Load.j1]
    rw [decide_eq_false b2, bad_ok _ _ (show ¬ (wi < 0 ∨ ti ≤ 0) by omega)]
    simp only [qarith_Load.j1, Bool.false_eq_true, if_false]
    rw [if_pos (by omega), if_pos (by omega), hte, MulDiv_part (by omega) hwi hti (by omega) (by omega)]
    simp only [Option.bind_some]
    have hp := part_nonneg (w := wi) (t := ti) (by omega) (by omega)
    have next : ∀ (s' e' : Int), 0 ≤ s' → s' ≤ 9223372036854775807 → (e' = 0 ∨ e' = 2) → qarith_Load.l0 k time s' e' work (work.length : Int) (wrap64 ((i : Int) + 1)) = some (if bad (work.drop (i + 1)) (time.drop (i + 1)) = true then (0, 1) else if e' = 0 ∧ s' + total (work.drop (i + 1)) (time.drop (i + 1)) ≤ 9223372036854775807 then (s' + total (work.drop (i + 1)) (time.drop (i + 1)), 0) else (0, 2)) := by
      intro s' e' h0 h1 h2
      rw [hnx]
      exact ih (i + 1) k s' e' (by omega) (by omega) (by omega) h0 h1 h2
    have tot : bad (work.drop (i + 1)) (time.drop (i + 1)) = false → 0 ≤ total (work.drop (i + 1)) (time.drop (i + 1)) := total_nonneg _ _
    generalize total (work.drop (i + 1)) (time.drop (i + 1)) = T at *
    generalize bad (work.drop (i + 1)) (time.drop (i + 1)) = B at *
    unfold partS
    by_cases h3 : part wi ti ≤ 9223372036854775807
    · rw [if_pos h3]
      simp only [if_true]
      rcases he with rfl | rfl
      · rw [beq_self_eq_true]
        simp only [qarith_Load.j2, if_true]
        rw [Add_at (wf64_mk (by omega) hs1) (wf64_mk (by omega) h3)]
        simp only [Option.bind_some]
        by_cases h4 : s + part wi ti ≤ 9223372036854775807
        · rw [AddS_ok (by omega) h4]
          simp only [if_true]
          rw [next _ _ (by omega) h4 (.inl rfl)]
          simp only [Int.add_assoc]
        · rw [AddS_over (by omega)]
          simp only [Int.reduceEq, if_false]
          rw [next _ _ (by omega) (by omega) (.inr rfl)]
          cases B with
          | true => rfl
          | false =>
            have := tot rfl
            simp only [Bool.false_eq_true, if_false]
            rw [if_neg (by omega), if_neg (by omega)]
      · rw [show ((2 : Int) == 0) = false from rfl]
        simp only [qarith_Load.j2, Bool.false_eq_true, if_false, if_true]
        rw [next _ _ hs0 hs1 (.inr rfl)]
        simp
    · rw [if_neg h3]
      simp only [Int.reduceEq, if_false]
      simp only [qarith_Load.j2, Bool.false_eq_true, if_false, Int.reduceEq]
      rw [next _ _ hs0 hs1 (.inr rfl)]
      cases B with
      | true => rfl
      | false =>
        have := tot rfl
        simp only [Bool.false_eq_true, if_false]
        rw [if_neg (by omega), if_neg (by omega)]

theorem Load_at {work time : List Int} {k : Nat} (hk : 3 * work.length + 80 ≤ k) (hn : work.length ≤ 140737488351232) (hw : ∀ x ∈ work, (Lit.int .i64 x).wf = true) (ht : ∀ x ∈ time, (Lit.int .i64 x).wf = true) : qarith_Load.f k work time = some (LoadS work time) := by
  unfold qarith_Load.f LoadS
  by_cases hl : work.length = time.length
  · have h := load_loop work time hl hn hw ht work.length 0 k 0 0 (by omega) (by omega) (by omega) (by omega) (by omega) (.inl rfl)
    rw [show ((0 : Nat) : Int) = 0 from rfl] at h
    rw [if_pos (by omega), h]
    simp [hl]
  · rw [if_neg (by omega), if_pos (.inl hl)]

theorem rload_check (work time : List Int) (hl : work.length = time.length) (hn : work.length ≤ 140737488351232) :
    ∀ (d i k : Nat), work.length - i = d → i ≤ work.length → d < k →
      tourbillonref01_Load.l0 k work time (i : Int) = if bad (work.drop i) (time.drop i) = true then some (0, 1) else tourbillonref01_Load.l1 (k - d - 1) work time 0 0 := by
  intro d
  induction d with
  | zero =>
    intro i k hd hi hk
    obtain ⟨k, rfl⟩ : ∃ j, k = j + 1 := ⟨k - 1, by omega⟩
    simp only [tourbillonref01_Load.l0]
    rw [if_neg (by omega), List.drop_of_length_le (by omega)]
    simp [bad]
  | succ d ih =>
    intro i k hd hi hk
    obtain ⟨k, rfl⟩ : ∃ j, k = j + 1 := ⟨k - 1, by omega⟩
    have hiw : i < work.length := by omega
    have hit : i < time.length := by omega
    have hnx : wrap64 ((i : Int) + 1) = ((i + 1 : Nat) : Int) := by rw [w64 (by omega) (by omega)]; omega
    rw [drop_rd work i hiw, drop_rd time i hit]
    simp only [tourbillonref01_Load.l0]
    rw [if_pos (by omega), if_pos (by omega)]
    by_cases b1 : rd work (i : Int) < 0
    · rw [if_pos b1, bad_no _ _ (.inl b1)]
      rfl
    rw [if_neg b1, if_pos (by omega)]
    by_cases b2 : rd time (i : Int) ≤ 0
    · rw [if_pos b2, bad_no _ _ (.inr b2)]
      rfl
    rw [if_neg b2, bad_ok _ _ (show ¬ (rd work (i : Int) < 0 ∨ rd time (i : Int) ≤ 0) by omega), hnx, ih (i + 1) k (by omega) (by omega) (by omega)]
    rw [show k + 1 - (d + 1) - 1 = k - d - 1 by omega]

theorem rload_sum (work time : List Int) (hl : work.length = time.length) (hn : work.length ≤ 140737488351232) (hw : ∀ x ∈ work, (Lit.int .i64 x).wf = true) (ht : ∀ x ∈ time, (Lit.int .i64 x).wf = true) :
    ∀ (d i k : Nat) (s : Int), work.length - i = d → i ≤ work.length → d + 80 ≤ k → 0 ≤ s → s ≤ 9223372036854775807 → bad (work.drop i) (time.drop i) = false →
      tourbillonref01_Load.l1 k work time s (i : Int) = some (if s + total (work.drop i) (time.drop i) ≤ 9223372036854775807 then (s + total (work.drop i) (time.drop i), 0) else (0, 2)) := by
  intro d
  induction d with
  | zero =>
    intro i k s hd hi hk hs0 hs1 hb
    obtain ⟨k, rfl⟩ : ∃ j, k = j + 1 := ⟨k - 1, by omega⟩
    simp only [tourbillonref01_Load.l1]
    rw [if_neg (by omega), List.drop_of_length_le (by omega), List.drop_of_length_le (by omega)]
    simp only [total, Int.add_zero]
    rw [if_pos hs1]
  | succ d ih =>
    intro i k s hd hi hk hs0 hs1 hb
    obtain ⟨k, rfl⟩ : ∃ j, k = j + 1 := ⟨k - 1, by omega⟩
    have hiw : i < work.length := by omega
    have hit : i < time.length := by omega
    have hwi := hw _ (rd_mem work i hiw)
    have hti := ht _ (rd_mem time i hit)
    have hnx : wrap64 ((i : Int) + 1) = ((i + 1 : Nat) : Int) := by rw [w64 (by omega) (by omega)]; omega
    rw [drop_rd work i hiw, drop_rd time i hit] at hb ⊢
    simp only [bad, Bool.or_eq_false_iff, decide_eq_false_iff_not] at hb
    have h0 := total_nonneg _ _ hb.2
    rw [total_cons]
    simp only [tourbillonref01_Load.l1]
    rw [if_pos (by omega), if_pos (by omega), if_pos (by omega), rMulDiv_part (by omega) hwi hti (by omega) (by omega)]
    simp only [Option.bind_some]
    have hp := part_nonneg (w := rd work (i : Int)) (t := rd time (i : Int)) (by omega) (by omega)
    unfold partS
    by_cases h3 : part (rd work (i : Int)) (rd time (i : Int)) ≤ 9223372036854775807
    · rw [if_pos h3]
      simp only [if_true]
      rw [rAdd_at (wf64_mk (by omega) hs1) (wf64_mk (by omega) h3)]
      simp only [Option.bind_some]
      by_cases h4 : s + part (rd work (i : Int)) (rd time (i : Int)) ≤ 9223372036854775807
      · rw [AddS_ok (by omega) h4]
        simp only [if_true]
        rw [hnx, ih (i + 1) k _ (by omega) (by omega) (by omega) (by omega) h4 hb.2]
        simp only [Int.add_assoc]
      · rw [AddS_over (by omega)]
        simp only [Int.reduceEq, if_false]
        rw [if_neg (by omega)]
    · rw [if_neg h3]
      simp only [Int.reduceEq, if_false]
      rw [if_neg (by omega)]

theorem rLoad_at {work time : List Int} {k : Nat} (hk : 3 * work.length + 90 ≤ k) (hn : work.length ≤ 140737488351232) (hw : ∀ x ∈ work, (Lit.int .i64 x).wf = true) (ht : ∀ x ∈ time, (Lit.int .i64 x).wf = true) : tourbillonref01_Load.f k work time = some (LoadS work time) := by
  unfold tourbillonref01_Load.f LoadS
  by_cases hl : work.length = time.length
  · rw [if_pos (by omega), show (0 : Int) = ((0 : Nat) : Int) from rfl, rload_check work time hl hn work.length 0 k (by omega) (by omega) (by omega)]
    cases hb : bad work time with
    | true => simp [hb]
    | false =>
      simp only [List.drop_zero, hb, Bool.false_eq_true, if_false, hl, ne_eq, not_true_eq_false, or_self]
      have h := rload_sum work time hl hn hw ht work.length 0 (k - time.length - 1) 0 (by omega) (by omega) (by omega) (by omega) (by omega) (by simpa using hb)
      rw [show ((0 : Nat) : Int) = 0 from rfl] at h
      rw [show ((0 : Nat) : Int) = 0 from rfl, h]
      simp
  · rw [if_neg (by omega), if_pos (.inl hl)]
end Go.Proofs.YtmopmhhhpcfokaaX
