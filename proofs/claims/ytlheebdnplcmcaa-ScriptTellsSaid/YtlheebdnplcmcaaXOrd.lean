/- Chapter 9: the order of cores, by the program and by the document. Conditions: as each theorem states them. -/
import Derived.Test.YtlheebdnplcmcaaX1
import Derived.Test.YtlheebdnplcmcaaPL
namespace Go.Proofs.YtlheebdnplcmcaaC
open Go Go.Proofs.YtlheebdnplcmcaaM Go.Proofs.YtlheebdnplcmcaaX Go.Proofs.YtlheebdnplcmcaaL
set_option linter.unusedVariables false
set_option linter.unusedSimpArgs false

/-- One more core, if it is one, and new. -/
def see (n : Int) (acc : List Int) (x : Int) : List Int := if 0 ≤ x ∧ x < n ∧ x ∉ acc then acc ++ [x] else acc
def sees (n : Int) (acc l : List Int) : List Int := l.foldl (see n) acc
theorem sees_cons {n : Int} {acc l : List Int} {x : Int} : sees n acc (x :: l) = sees n (see n acc x) l := rfl
theorem sees_app {n : Int} {acc l m : List Int} : sees n acc (l ++ m) = sees n (sees n acc l) m := by simp [sees]
theorem see_no {n : Int} {acc : List Int} {x : Int} (h : x < 0 ∨ n ≤ x) : see n acc x = acc := if_neg (by omega)
theorem see_len {n : Int} {acc : List Int} {x : Int} : (see n acc x).length ≤ acc.length + 1 := by
  unfold see
  split <;> simp
theorem sees_len {n : Int} : ∀ {l acc : List Int}, (sees n acc l).length ≤ acc.length + l.length
  | [], acc => by simp [sees]
  | x :: l, acc => by
    rw [sees_cons]
    have h1 := sees_len (n := n) (l := l) (acc := see n acc x)
    have h2 := see_len (n := n) (acc := acc) (x := x)
    simp only [List.length_cons]
    omega
/-- All cores from one on. -/
def upto (n i : Nat) : List Int := (List.range' i (n - i)).map Int.ofNat
theorem upto_succ {n i : Nat} (h : i < n) : upto n i = (i : Int) :: upto n (i + 1) := by
  unfold upto
  obtain ⟨m, hm⟩ : ∃ m, n - i = m + 1 := ⟨n - i - 1, by omega⟩
  rw [hm, List.range'_succ, List.map_cons, show n - (i + 1) = m by omega]
  rfl
theorem upto_end {n : Nat} : upto n n = [] := by simp [upto]
theorem upto_len {n i : Nat} : (upto n i).length = n - i := by simp [upto]
def ord (n : Nat) (l : List Int) : List Int := sees n (sees n [] l) (upto n 0)

/-- The bits are those that were seen. -/
def Bits (m : Nat) (acc : List Int) : Prop := m < 256 ∧ ∀ x, x < 8 → (m.testBit x = true ↔ (x : Int) ∈ acc)
theorem or_bit {m x : Nat} (hm : m < 256) (hx : x < 8) : m ||| 2 ^ x < 256 := Nat.or_lt_two_pow (n := 8) hm (by
  have := Nat.pow_lt_pow_right (a := 2) (by omega) hx
  simpa using this)
theorem w_pow {k : Nat} (hk : k < 8) : IntKind.wrap .u64 (1 * 2 ^ k) = ((2 ^ k : Nat) : Int) := by
  obtain rfl | rfl | rfl | rfl | rfl | rfl | rfl | rfl : k = 0 ∨ k = 1 ∨ k = 2 ∨ k = 3 ∨ k = 4 ∨ k = 5 ∨ k = 6 ∨ k = 7 := by omega
  all_goals decide
theorem see_step {N : Nat} {n : Nat} (hn : n ≤ 8) {x : Int} {m : Nat} {acc : List Int} (hb : Bits m acc) (hl : (acc.length + 1) * 8 ≤ 140737488355328) :
    ∃ m', Bits m' (see n acc x) ∧ Order1_27 N ((x, (), (), (), ()), ((n : Int), ()), ((m : Int), ()), ((), ()), acc, ()) = some ((), ((n : Int), ()), ((m' : Int), ()), ((), ()), (), see n acc x, ()) := by
  unfold Order1_27
  dsimp only
  by_cases h0 : x < 0
  · exact ⟨m, by rw [see_no (.inl h0)]; exact hb, by rw [see_no (.inl h0)]; simp (disch := omega) only [byB_f]⟩
  · obtain ⟨k, rfl⟩ : ∃ k : Nat, x = k := ⟨x.toNat, by omega⟩
    by_cases h1 : (k : Int) < n
    · have hk : k < 8 := by omega
      have hm := hb.1
      have e1 : min ((k : Int)).toNat (IntKind.bits .u64) = k := by simp only [Int.toNat_natCast, IntKind.bits]; omega
      have hp : 2 ^ k < 256 := by have := Nat.pow_lt_pow_right (a := 2) (by omega) hk; simpa using this
      have e2 := w_pow hk
      have hd : m / 2 ^ k < 18446744073709551616 := Nat.lt_of_le_of_lt (Nat.div_le_self _ _) (by omega)
      have e3 : (BitVec.ofInt (IntKind.bits .u64) (Int.fdiv (m : Int) (2 ^ k)) &&& BitVec.ofInt (IntKind.bits .u64) 1).toNat = m / 2 ^ k % 2 := by
        rw [shr_nat]
        have := bv_and (b := 1) hd (by omega)
        rw [Nat.and_one_is_mod] at this
        exact this
      have ht : m.testBit k = decide (m / 2 ^ k % 2 = 1) := Nat.testBit_eq_decide_div_mod_eq
      have hmem := hb.2 k hk
      rw [ht, decide_eq_true_iff] at hmem
      rw [e1, e2, e3, bv_or (by omega) (by omega)]
      by_cases h2 : (k : Int) ∈ acc
      · have e4 := hmem.2 h2
        have es : see n acc k = acc := if_neg (by simp [h2])
        refine ⟨m, by rw [es]; exact hb, ?_⟩
        rw [es, e4]
        simp (disch := omega) only [byB_t, if_neg, wu64, byB_eqf]
      · have e4 : m / 2 ^ k % 2 = 0 := by
          have : ¬ m / 2 ^ k % 2 = 1 := fun e => h2 (hmem.1 e)
          omega
        have hor := or_bit hm hk
        have es : see n acc k = acc ++ [(k : Int)] := if_pos ⟨by omega, h1, h2⟩
        refine ⟨m ||| 2 ^ k, ?_, ?_⟩
        · rw [es]
          refine ⟨hor, fun y hy => ?_⟩
          rw [Nat.testBit_or, Bool.or_eq_true, hb.2 y hy, Nat.testBit_two_pow, decide_eq_true_iff, List.mem_append, List.mem_singleton]
          constructor
          · rintro (h | h)
            · exact .inl h
            · exact .inr (by omega)
          · rintro (h | h)
            · exact .inl h
            · exact .inr (by omega)
        · rw [es, e4]
          simp (disch := omega) only [byB_t, if_neg, wu64, byB_eqt, if_pos]
    · exact ⟨m, by rw [see_no (.inr (by omega))]; exact hb, by rw [see_no (.inr (by omega))]; simp (disch := omega) only [byB_t, byB_f]⟩

theorem order_loop2 {N : Nat} {n : Nat} (hn : n ≤ 8) : ∀ (d i : Nat) (m : Nat) (acc : List Int) (k : Nat), i + d = n → d < k → Bits m acc → (acc.length + d + 1) * 8 ≤ 140737488355328 →
    loopN k (Order_22_L12 N) (((), (), (n : Int), (i : Int), ()), ((), ()), ((), (), (), (), ()), acc, ((n : Int), ()), ((m : Int), ()), ()) = some (((), ()), sees n acc (upto n i), ()) := by
  intro d
  induction d with
  | zero =>
    intro i m acc k hi hk hb hl
    obtain ⟨k, rfl⟩ : ∃ k', k = k' + 1 := ⟨k - 1, by omega⟩
    obtain rfl : i = n := by omega
    rw [loopN_succ, Order_22_L12]
    simp (disch := omega) only [byB_f, upto_end, sees, List.foldl_nil]
  | succ d ih =>
    intro i m acc k hi hk hb hl
    obtain ⟨k, rfl⟩ : ∃ k', k = k' + 1 := ⟨k - 1, by omega⟩
    rw [loopN_succ, Order_22_L12]
    obtain ⟨m', hb', e⟩ := see_step (N := N) (n := n) hn (x := (i : Int)) hb (by omega)
    simp (disch := omega) only [byB_t, e, bnd, w64]
    have hs := see_len (n := n) (acc := acc) (x := (i : Int))
    have := ih (i + 1) m' (see n acc i) k (by omega) (by omega) hb' (by omega)
    rw [upto_succ (by omega), sees_cons]
    exact this
theorem order_loop1 {N : Nat} {n : Nat} (hn : n ≤ 8) (hN : 10 < N) {l : List Int} (hll : (l.length + 20) * 8 ≤ 140737488355328) : ∀ (d i : Nat) (m : Nat) (acc : List Int) (k : Nat), i + d = l.length → d < k → Bits m acc → acc.length ≤ i →
    loopN k (Order_22_L7 N) (((), (), (), l, (l.length : Int), (i : Int), ()), ((n : Int), ()), ((), ()), ((), (), (), (), ()), acc, ((m : Int), ()), ()) = some (((), ()), sees n (sees n acc (l.drop i)) (upto n 0), ()) := by
  intro d
  induction d with
  | zero =>
    intro i m acc k hi hk hb hl
    obtain ⟨k, rfl⟩ : ∃ k', k = k' + 1 := ⟨k - 1, by omega⟩
    obtain rfl : i = l.length := by omega
    rw [loopN_succ, Order_22_L7]
    simp (disch := omega) only [byB_f]
    have := order_loop2 (N := N) hn n 0 m acc N (by omega) (by omega) hb (by omega)
    simp only [List.drop_length]
    exact this
  | succ d ih =>
    intro i m acc k hi hk hb hl
    obtain ⟨k, rfl⟩ : ∃ k', k = k' + 1 := ⟨k - 1, by omega⟩
    rw [loopN_succ, Order_22_L7]
    obtain ⟨m', hb', e⟩ := see_step (N := N) (n := n) hn (x := l.getD i 0) hb (by omega)
    simp (disch := omega) only [byB_t, if_pos, Int.toNat_natCast, e, bnd, w64]
    have hs := see_len (n := n) (acc := acc) (x := l.getD i 0)
    have := ih (i + 1) m' (see n acc (l.getD i 0)) k (by omega) (by omega) hb' (by omega)
    rw [drop_getD (d := 0) (show i < l.length by omega), sees_cons]
    exact this
theorem order_ok {N : Nat} {n : Nat} (h1 : 1 ≤ n) (hn : n ≤ 8) {l : List Int} (hN : 10 < N) (hN2 : l.length < N) (hll : (l.length + 20) * 8 ≤ 140737488355328) :
    Order_22 N (((n : Int), l, ()), ()) = some (((), ()), ord n l, ()) := by
  unfold Order_22
  simp (disch := omega) only [byB_f, if_pos]
  have := order_loop1 (N := N) hn hN hll l.length 0 0 [] N (by omega) hN2 ⟨by omega, fun x hx => by simp⟩ (by simp)
  exact this
theorem order_no {N : Nat} {n : Int} {l : List Int} (h : n < 1 ∨ 8 < n) : Order_22 N ((n, l, ()), ()) = some (((), ()), [], ()) := by
  unfold Order_22
  by_cases h0 : n < 1
  · simp (disch := omega) only [byB_t]
  · simp (disch := omega) only [byB_f, byB_t]

/-- The document's way: a list of answers. -/
def Told (n : Nat) (seen : List Bool) (acc : List Int) : Prop := seen.length = n ∧ ∀ x, x < n → (seen.getD x false = true ↔ (x : Int) ∈ acc)
theorem ref_inner {R : Type} {n : Nat} {x : Int} {acc : List Int} {seen : List Bool} (h : Told n seen acc) (hl : (acc.length + 1) * 8 ≤ 140737488355328) :
    ∃ seen', Told n seen' (see n acc x) ∧ ∀ A : List Int → List Bool → Option R, byB (decide (x ≥ 0))
              (byB (decide (x < (n : Int)))
                  (if (0 ≤ x) ∧ (x < (seen.length : Int)) then
                    byB (!(seen.getD x.toNat false))
                      (if (0 ≤ x) ∧ (x < (seen.length : Int)) then
                        (if (acc.length + 1) * 8 ≤ 140737488355328 then
                        A (acc ++ [x]) (seen.set x.toNat true)
                        else none)
                        else none)
                      (A acc seen)
                    else none)
                  (A acc seen))
              (A acc seen) = A (see n acc x) seen' := by
  obtain ⟨h1, h2⟩ := h
  by_cases h0 : x < 0
  · exact ⟨seen, by rw [see_no (.inl h0)]; exact ⟨h1, h2⟩, fun A => by rw [see_no (.inl h0)]; simp (disch := omega) only [byB_f]⟩
  · obtain ⟨k, rfl⟩ : ∃ k : Nat, x = k := ⟨x.toNat, by omega⟩
    by_cases h3 : (k : Int) < n
    · have hk : k < n := by omega
      have hmem := h2 k hk
      by_cases h4 : (k : Int) ∈ acc
      · have es : see n acc k = acc := if_neg (by simp [h4])
        refine ⟨seen, by rw [es]; exact ⟨h1, h2⟩, fun A => ?_⟩
        rw [es]
        simp (disch := omega) only [byB_t, if_pos, Int.toNat_natCast, hmem.2 h4, byB_not, byB_true]
      · have es : see n acc k = acc ++ [(k : Int)] := if_pos ⟨by omega, h3, h4⟩
        have e4 : seen.getD k false = false := by
          cases e : seen.getD k false
          · rfl
          · exact absurd (hmem.1 e) h4
        refine ⟨seen.set k true, ?_, fun A => ?_⟩
        · rw [es]
          refine ⟨by simpa using h1, fun y hy => ?_⟩
          rw [getD_set (by omega), List.mem_append, List.mem_singleton, ← h2 y hy]
          by_cases e : k = y
          · subst e; simp
          · rw [if_neg e]
            constructor
            · exact .inl
            · rintro (h | h)
              · exact h
              · omega
        · rw [es]
          simp (disch := omega) only [byB_t, if_pos, Int.toNat_natCast, e4, byB_not, byB_false]
    · exact ⟨seen, by rw [see_no (.inr (by omega))]; exact ⟨h1, h2⟩, fun A => by rw [see_no (.inr (by omega))]; simp (disch := omega) only [byB_t, byB_f]⟩

theorem ref_loop {N : Nat} {n : Nat} (hn : n ≤ 8) {l : List Int} (hll : (l.length + 20) * 8 ≤ 140737488355328) : ∀ (d i : Nat) (acc : List Int) (seen : List Bool) (k : Nat), i + d = l.length + n → d < k → Told n seen acc → acc.length ≤ i →
    loopN k (Order_20_L6 N) (((n : Int), l, (), (), (i : Int), ()), acc, seen, ()) = some (((), ()), if i ≤ l.length then sees n (sees n acc (l.drop i)) (upto n 0) else sees n acc (upto n (i - l.length)), ()) := by
  intro d
  induction d with
  | zero =>
    intro i acc seen k hi hk hb hl
    obtain ⟨k, rfl⟩ : ∃ k', k = k' + 1 := ⟨k - 1, by omega⟩
    rw [loopN_succ, Order_20_L6]
    simp (disch := omega) only [w64, byB_f]
    by_cases hle : i ≤ l.length
    · obtain rfl : i = l.length := by omega
      obtain rfl : n = 0 := by omega
      simp [upto_end, sees]
    · rw [if_neg hle, show i - l.length = n by omega, upto_end]
      rfl
  | succ d ih =>
    intro i acc seen k hi hk hb hl
    obtain ⟨k, rfl⟩ : ∃ k', k = k' + 1 := ⟨k - 1, by omega⟩
    rw [loopN_succ, Order_20_L6]
    simp (disch := omega) only [w64]
    rw [byB_t (by omega)]
    by_cases hle : i < l.length
    · obtain ⟨seen', h1, h2⟩ := ref_inner (R := ((Unit × Unit) × (List Int × Unit))) (x := l.getD i 0) hb (by omega)
      have h3 := h2 fun acc seen => loopN k (Order_20_L6 N) (((n : Int), l, (), (), (i : Int) + 1, ()), acc, seen, ())
      simp (disch := omega) only [if_pos] at h3
      simp (disch := omega) only [byB_t, if_pos, Int.toNat_natCast]
      refine h3.trans ?_
      have hs := see_len (n := n) (acc := acc) (x := l.getD i 0)
      have := ih (i + 1) (see n acc (l.getD i 0)) seen' k (by omega) (by omega) h1 (by omega)
      rw [if_pos (by omega)] at this
      rw [drop_getD (d := 0) hle, sees_cons]
      exact this
    · obtain ⟨seen', h1, h2⟩ := ref_inner (R := ((Unit × Unit) × (List Int × Unit))) (x := (i : Int) - l.length) hb (by omega)
      have h3 := h2 fun acc seen => loopN k (Order_20_L6 N) (((n : Int), l, (), (), (i : Int) + 1, ()), acc, seen, ())
      simp (disch := omega) only [if_pos] at h3
      simp (disch := omega) only [byB_f, if_pos]
      refine h3.trans ?_
      have hs := see_len (n := n) (acc := acc) (x := (i : Int) - l.length)
      have := ih (i + 1) (see n acc ((i : Int) - l.length)) seen' k (by omega) (by omega) h1 (by omega)
      rw [if_neg (by omega), show i + 1 - l.length = i - l.length + 1 by omega] at this
      have e : (i : Int) - l.length = ((i - l.length : Nat) : Int) := by omega
      refine this.trans ?_
      congr 2
      by_cases h5 : i ≤ l.length
      · obtain rfl : i = l.length := by omega
        rw [if_pos h5, List.drop_length, Nat.sub_self, upto_succ (i := 0) (by omega), sees_cons]
        simp [sees]
      · rw [if_neg h5, upto_succ (i := i - l.length) (by omega), sees_cons, e]
theorem ref_ok {N : Nat} {n : Nat} (h1 : 1 ≤ n) (hn : n ≤ 8) {l : List Int} (hN2 : l.length + n < N) (hll : (l.length + 20) * 8 ≤ 140737488355328) :
    Order_20 N (((n : Int), l, ()), ()) = some (((), ()), ord n l, ()) := by
  unfold Order_20
  simp (disch := omega) only [byB_f, if_pos, Int.toNat_natCast]
  have := ref_loop (N := N) hn hll (l.length + n) 0 [] (List.replicate n false) N (by omega) hN2 ⟨by simp, fun x hx => by rw [getD_rep hx]; simp⟩ (by simp)
  simp only [Nat.zero_le, if_true, List.drop_zero] at this
  exact this
theorem ref_no {N : Nat} {n : Int} {l : List Int} (h : n < 1 ∨ 8 < n) : Order_20 N ((n, l, ()), ()) = some (((), ()), [], ()) := by
  unfold Order_20
  by_cases h0 : n < 1
  · simp (disch := omega) only [byB_t]
  · simp (disch := omega) only [byB_f, byB_t]
end Go.Proofs.YtlheebdnplcmcaaC
