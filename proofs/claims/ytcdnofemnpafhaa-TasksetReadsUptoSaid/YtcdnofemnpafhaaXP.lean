/- Numbers as sevens of bits, and back: plain lists. Conditions: none. -/
import Derived.Test.YtcdnofemnpafhaaX1
import Derived.Test.YtcdnofemnpafhaaXN
import Derived.Test.YtcdnofemnpafhaaXC
namespace Go.Proofs.YtcdnofemnpafhaaC
open Go Go.Proofs.YtcdnofemnpafhaaM Go.Proofs.YtcdnofemnpafhaaX Go.Proofs.YtcdnofemnpafhaaL
set_option linter.unusedVariables false
set_option linter.unusedSimpArgs false

def enc1 (n : Nat) : List Nat := if h : n < 128 then [n] else (n % 128 + 128) :: enc1 (n / 128)
termination_by n
decreasing_by omega
theorem enc1_small {n : Nat} (h : n < 128) : enc1 n = [n] := by rw [enc1, dif_pos h]
theorem enc1_big {n : Nat} (h : ¬ n < 128) : enc1 n = (n % 128 + 128) :: enc1 (n / 128) := by rw [enc1, dif_neg h]
theorem enc1_len : ∀ (m n : Nat), n < 128 ^ (m + 1) → (enc1 n).length ≤ m + 1
  | 0, n, h => by
    rw [enc1_small (by simpa using h)]
    simp
  | m + 1, n, h => by
    by_cases c : n < 128
    · rw [enc1_small c]
      simp
    · rw [enc1_big c, List.length_cons]
      have : n / 128 < 128 ^ (m + 1) := by
        apply Nat.div_lt_of_lt_mul
        rw [Nat.pow_succ] at h
        omega
      have := enc1_len m (n / 128) this
      omega
def o1 : List UInt8 → Nat → Nat → Nat × Nat × Nat
  | [], j, _ => (0, 6, j)
  | c :: t, j, u =>
    if c.toNat < 128 then (if c.toNat = 0 ∧ 0 < j then (0, 8, j + 1) else if 9 ≤ j ∨ 4611686018427387904 < u + c.toNat % 128 * 128 ^ j then (0, 7, j + 1) else (u + c.toNat % 128 * 128 ^ j, 0, j + 1))
    else o1 t (j + 1) (u + c.toNat % 128 * 128 ^ j)
/-- All numbers of a row of bytes. -/
def readS : Nat → List UInt8 → List Int → List Int × Int
  | 0, _, out => (out, 0)
  | k + 1, l, out =>
    if l.length = 0 then (out, 0) else
    let r := o1 l 0 0
    if r.2.1 ≠ 0 then ([], (r.2.1 : Int)) else if out.length = 2000 then ([], 7) else readS k (l.drop r.2.2) (out ++ [(r.1 : Int)])
def ReadS (l : List UInt8) : List Int × Int := readS (l.length + 1) l []
def encB (n : Nat) : List UInt8 := (enc1 n).map UInt8.ofNat
def encL (l : List Int) : List UInt8 := l.flatMap (fun x => encB x.toNat)
def okL (l : List Int) : Prop := ∀ x ∈ l, 0 ≤ x ∧ x ≤ 4611686018427387904
theorem encB_small {n : Nat} (h : n < 128) : encB n = [UInt8.ofNat n] := by
  unfold encB
  rw [enc1_small h]
  rfl
theorem encB_big {n : Nat} (h : ¬ n < 128) : encB n = UInt8.ofNat (n % 128 + 128) :: encB (n / 128) := by
  unfold encB
  rw [enc1_big h]
  rfl
theorem byte_of {n : Nat} (h : n < 256) : (UInt8.ofNat n).toNat = n := by
  simp
  omega
theorem o1_enc : ∀ (m n : Nat), (enc1 n).length = m + 1 → ∀ (rest : List UInt8) (j u : Nat), (0 < n ∨ j = 0) → u + n * 128 ^ j ≤ 4611686018427387904 → o1 (encB n ++ rest) j u = (u + n * 128 ^ j, 0, j + m + 1)
  | m, n, hm, rest, j, u, hn, hb => by
    by_cases c : n < 128
    · rw [enc1_small c] at hm
      obtain rfl : m = 0 := by simpa using hm
      have hj : ¬ 9 ≤ j := by
        intro h9
        have hp : (128 : Nat) ^ 9 ≤ 128 ^ j := Nat.pow_le_pow_right (by decide) h9
        have h9' : (128 : Nat) ^ 9 = 9223372036854775808 := by decide
        have : 128 ^ j ≤ n * 128 ^ j := Nat.le_mul_of_pos_left _ (by omega)
        omega
      rw [encB_small c, List.singleton_append, o1, byte_of (by omega), if_pos c, if_neg (by omega), Nat.mod_eq_of_lt c, if_neg (by omega)]
    · rw [enc1_big c, List.length_cons] at hm
      obtain ⟨m, rfl⟩ : ∃ m', m = m' + 1 := ⟨m - 1, by
        have : 0 < (enc1 (n / 128)).length := by
          by_cases d : n / 128 < 128
          · rw [enc1_small d]; simp
          · rw [enc1_big d]; simp
        omega⟩
      have e : u + (n % 128 + 128) % 128 * 128 ^ j + n / 128 * 128 ^ (j + 1) = u + n * 128 ^ j := by
        rw [show (n % 128 + 128) % 128 = n % 128 by omega, Nat.pow_succ]
        have := Nat.div_add_mod n 128
        grind
      rw [encB_big c, List.cons_append, o1, byte_of (by omega), if_neg (by omega), o1_enc m (n / 128) (by omega) rest (j + 1) _ (.inl (by omega)) (by omega), e]
      congr 2
      omega
theorem encB_len (n : Nat) : (encB n).length = (enc1 n).length := by
  unfold encB
  simp
theorem enc1_pos (n : Nat) : 0 < (enc1 n).length := by
  by_cases d : n < 128
  · rw [enc1_small d]; simp
  · rw [enc1_big d]; simp
theorem readS_enc : ∀ (l : List Int) (k : Nat) (out : List Int), okL l → out.length + l.length ≤ 2000 → (encL l).length < k → readS k (encL l) out = (out ++ l, 0)
  | [], k, out, _, _, hk => by
    obtain ⟨k, rfl⟩ : ∃ k', k = k' + 1 := ⟨k - 1, by omega⟩
    rw [readS]
    simp [encL]
  | x :: t, k, out, h, ho, hk => by
    obtain ⟨k, rfl⟩ : ∃ k', k = k' + 1 := ⟨k - 1, by omega⟩
    have hx := h x List.mem_cons_self
    have hpos := enc1_pos x.toNat
    have hlen := encB_len x.toNat
    have e : encL (x :: t) = encB x.toNat ++ encL t := by rw [encL, List.flatMap_cons, ← encL]
    rw [e, List.length_append] at hk
    obtain ⟨m, hm⟩ : ∃ m, (enc1 x.toNat).length = m + 1 := ⟨(enc1 x.toNat).length - 1, by omega⟩
    have ho1 := o1_enc m x.toNat hm (encL t) 0 0 (.inr rfl) (by simp; omega)
    rw [readS, e, if_neg (by rw [List.length_append]; omega), ho1]
    rw [List.length_cons] at ho
    simp only [ne_eq, not_true_eq_false, if_false, Nat.zero_add, Nat.pow_zero, Nat.mul_one]
    rw [if_neg (by omega), List.drop_left' (by omega), readS_enc t k _ (fun y hy => h y (List.mem_cons_of_mem _ hy)) (by simp; omega) (by omega)]
    simp
    omega
theorem o1_dec : ∀ (l : List UInt8) (j u v c : Nat), o1 l j u = (v, 0, c) → ∃ n, l.take (c - j) = encB n ∧ v = u + n * 128 ^ j ∧ (0 < n ∨ j = 0) ∧ v ≤ 4611686018427387904
  | [], j, u, v, c, h => by simp [o1] at h
  | b :: t, j, u, v, c, h => by
    rw [o1] at h
    have hb := byte_lt b
    have hbb : UInt8.ofNat b.toNat = b := by simp
    by_cases hc : b.toNat < 128
    · rw [if_pos hc] at h
      by_cases d : b.toNat = 0 ∧ 0 < j
      · rw [if_pos d] at h; simp at h
      · rw [if_neg d] at h
        by_cases e : 9 ≤ j ∨ 4611686018427387904 < u + b.toNat % 128 * 128 ^ j
        · rw [if_pos e] at h; simp at h
        · rw [if_neg e] at h
          simp only [Prod.mk.injEq, true_and] at h
          obtain ⟨rfl, rfl⟩ := h
          rw [Nat.mod_eq_of_lt hc] at e ⊢
          refine ⟨b.toNat, ?_, rfl, by omega, by omega⟩
          rw [show j + 1 - j = 1 by omega, encB_small hc, hbb]
          rfl
    · rw [if_neg hc] at h
      have hcount := o1_count' t (j + 1) (u + b.toNat % 128 * 128 ^ j) (by rw [h])
      rw [h] at hcount
      obtain ⟨n, h1, h2, h3, h4⟩ := o1_dec t (j + 1) _ v c h
      refine ⟨b.toNat % 128 + 128 * n, ?_, ?_, by omega, h4⟩
      · rw [encB_big (by omega), show (b.toNat % 128 + 128 * n) % 128 + 128 = b.toNat by omega, show (b.toNat % 128 + 128 * n) / 128 = n by omega, hbb, ← h1]
        dsimp only at hcount
        rw [show c - j = (c - (j + 1)) + 1 by omega, List.take_succ_cons]
      · rw [h2, Nat.pow_succ]
        grind
where
  o1_count' : ∀ (l : List UInt8) (j u : Nat), (o1 l j u).2.1 = 0 → j < (o1 l j u).2.2
  | [], j, u, h => by simp [o1] at h
  | c :: t, j, u, h => by
    rw [o1] at h ⊢
    split at h
    · rw [if_pos (by assumption)]
      have : ∀ r : Nat × Nat × Nat, r.2.2 = j + 1 → j < r.2.2 := fun r e => by rw [e]; omega
      apply this
      split
      · rfl
      · split <;> rfl
    · rw [if_neg (by assumption)]
      have := o1_count' t (j + 1) _ h
      omega
theorem readS_dec : ∀ (k : Nat) (l : List UInt8) (out r : List Int), l.length < k → out.length ≤ 2000 → readS k l out = (r, 0) → ∃ t, r = out ++ t ∧ l = encL t ∧ okL t ∧ r.length ≤ 2000
  | 0, l, out, r, hk, _, _ => by omega
  | k + 1, l, out, r, hk, ho, h => by
    rw [readS] at h
    by_cases h0 : l.length = 0
    · rw [if_pos h0] at h
      simp only [Prod.mk.injEq, and_true] at h
      subst h
      refine ⟨[], by simp, by rw [List.length_eq_zero_iff.1 h0]; rfl, fun x hx => by simp at hx, ho⟩
    · rw [if_neg h0] at h
      generalize hR : o1 l 0 0 = R at h
      obtain ⟨v, e, c⟩ := R
      dsimp only at h
      by_cases he : e = 0
      · subst he
        rw [if_neg (by simp)] at h
        by_cases h2 : out.length = 2000
        · rw [if_pos h2] at h; simp at h
        · rw [if_neg h2] at h
          obtain ⟨n, h1, h3, _, h4⟩ := o1_dec l 0 0 v c hR
          have hc := o1_dec.o1_count' l 0 0 (by rw [hR])
          rw [hR] at hc
          dsimp only at hc
          obtain ⟨t, e1, e2, e3, e4⟩ := readS_dec k (l.drop c) _ r (by rw [List.length_drop]; omega) (by simp; omega) h
          have hv : v = n := by rw [h3]; simp
          subst hv
          refine ⟨(v : Int) :: t, by rw [e1, List.append_assoc]; rfl, ?_, ?_, e4⟩
          · rw [encL, List.flatMap_cons, ← encL, ← e2, Int.toNat_natCast, ← h1, Nat.sub_zero, List.take_append_drop]
          · intro x hx
            rcases List.mem_cons.1 hx with rfl | hx
            · omega
            · exact e3 x hx
      · rw [if_pos he] at h
        simp at h
        omega
end Go.Proofs.YtcdnofemnpafhaaC
