/- The reference reads as the code does. Conditions: bounds on lengths. -/
import Derived.Test.YtecefkenfpbfkaaPAx3
import Derived.Test.YtecefkenfpbfkaaPAx2
import Derived.Test.YtecefkenfpbfkaaXRead
import Derived.Laws.Strings
namespace Go.Proofs.YtecefkenfpbfkaaX
open Go.RowKit Go.Proofs.YtecefkenfpbfkaaW.PrintWords Go.Proofs.YtecefkenfpbfkaaW.PrintMore Go.Proofs.Ytecefkenfpbfkaa.PA

def V (l : List UInt8) : Nat → Nat
  | 0 => 0
  | n + 1 => V l n + (l.getD n 0).toNat % 128 * 128 ^ n
theorem V_lt (l : List UInt8) : ∀ n, V l n < 128 ^ n
  | 0 => by simp [V]
  | n + 1 => by
    have := V_lt l n
    have h : (l.getD n 0).toNat % 128 * 128 ^ n ≤ 127 * 128 ^ n := Nat.mul_le_mul_right _ (by omega)
    rw [V, Nat.pow_succ]
    omega
def toO (r : Nat × Nat × Nat) : Int × Int × Int := if r.2.1 = 0 then ((r.1 : Int), (r.2.2 : Int), 0) else (0, 0, (r.2.1 : Int))
theorem bt_list' {s : ByteArray} {i : Nat} (h : i < s.size) : bt s (i : Int) = (((s.data.toList.getD i 0).toNat : Nat) : Int) := by
  unfold bt
  rw [Int.toNat_natCast, dif_pos h, List.getD_eq_getElem?_getD, List.getElem?_eq_getElem (by simpa using h)]
  rfl
theorem one_l1 (s : ByteArray) (z : Int) : ∀ (n acc k : Nat), n ≤ s.size → n ≤ 9 → acc * 128 ^ n + V s.data.toList n < 9223372036854775808 → tourbillonref06_one.l1 (k + n + 1) s z (acc : Int) ((n : Int) - 1) = if 4611686018427387904 < acc * 128 ^ n + V s.data.toList n then some (0, 0, 7) else some (((acc * 128 ^ n + V s.data.toList n : Nat) : Int), z, 0)
  | 0, acc, k, hn, h9, hb => by
    simp only [V, Nat.pow_zero, Nat.mul_one, Nat.add_zero] at hb ⊢
    rw [tourbillonref06_one.l1, if_neg (by omega)]
    by_cases c : 4611686018427387904 < acc
    · rw [if_pos (by omega), if_pos c]
    · rw [if_neg (by omega), if_neg c]
  | n + 1, acc, k, hn, h9, hb => by
    have hv := bt_list' (s := s) (i := n) (by omega)
    have e : acc * 128 ^ (n + 1) + V s.data.toList (n + 1) = (128 * acc + (s.data.toList.getD n 0).toNat % 128) * 128 ^ n + V s.data.toList n := by
      rw [V, Nat.pow_succ]
      grind
    rw [e] at hb ⊢
    generalize (s.data.toList.getD n 0).toNat = c at hv hb ⊢
    have hp : 0 < 128 ^ n := Nat.pow_pos (by decide)
    have hle : 128 * acc + c % 128 ≤ (128 * acc + c % 128) * 128 ^ n := Nat.le_mul_of_pos_right _ hp
    rw [show k + (n + 1) + 1 = (k + n + 1) + 1 by omega, tourbillonref06_one.l1, show ((n + 1 : Nat) : Int) - 1 = (n : Int) by omega, if_pos (by omega), if_pos (by omega), if_pos (by omega), hv, Int.tmod_eq_emod_of_nonneg (by omega), w64 (n := 128 * (acc : Int)) (by omega) (by omega), w64 (n := (c : Int) % 128) (by omega) (by omega), w64 (n := 128 * (acc : Int) + (c : Int) % 128) (by omega) (by omega), w64 (n := (n : Int) - 1) (by omega) (by omega), show 128 * (acc : Int) + (c : Int) % 128 = ((128 * acc + c % 128 : Nat) : Int) by omega]
    exact one_l1 s z n (128 * acc + c % 128) k (by omega) (by omega) hb
theorem one_l0 (s : ByteArray) (hs : s.size ≤ 140737488351234) : ∀ (r i k : Nat), r + i = s.size → r + 14 ≤ k → tourbillonref06_one.l0 k s (i : Int) = some (toO (o1 (s.data.toList.drop i) i (V s.data.toList i)))
  | 0, i, k, hi, hk => by
    obtain ⟨k, rfl⟩ : ∃ k', k = k' + 2 := ⟨k - 2, by omega⟩
    rw [tourbillonref06_one.l0, if_neg (by omega), tourbillonref06_one.j1, if_pos (by omega), List.drop_eq_nil_of_le (by simp; omega), o1]
    rfl
  | r + 1, i, k, hi, hk => by
    obtain ⟨k, rfl⟩ : ∃ k', k = k' + 3 := ⟨k - 3, by omega⟩
    have hv := bt_list' (s := s) (i := i) (by omega)
    have hd : s.data.toList.drop i = s.data.toList.getD i 0 :: s.data.toList.drop (i + 1) := by
      have hlt : i < s.data.toList.length := by simp; omega
      rw [List.drop_eq_getElem_cons hlt, List.getD_eq_getElem?_getD, List.getElem?_eq_getElem hlt]
      rfl
    have hV : V s.data.toList (i + 1) = V s.data.toList i + (s.data.toList.getD i 0).toNat % 128 * 128 ^ i := rfl
    have hc := byte_lt (s.data.toList.getD i 0)
    rw [tourbillonref06_one.l0, if_pos (by omega), if_pos (by omega), hv, hd, o1, ← hV]
    by_cases c : (s.data.toList.getD i 0).toNat < 128
    · rw [if_neg (by omega), if_pos c, tourbillonref06_one.j1, if_neg (by omega), w64 (n := (i : Int) + 1) (by omega) (by omega), w64 (n := (i : Int) + 1 - 1) (by omega) (by omega), show (i : Int) + 1 - 1 = (i : Int) by omega, hv]
      have h2 : ∀ b : Bool, b = (decide ((s.data.toList.getD i 0).toNat = 0 ∧ 0 < i)) → tourbillonref06_one.j2 (k + 1) s ((i : Int) + 1) b = some (toO (if (s.data.toList.getD i 0).toNat = 0 ∧ 0 < i then (0, 8, i + 1) else if 9 ≤ i ∨ 4611686018427387904 < V s.data.toList (i + 1) then (0, 7, i + 1) else (V s.data.toList (i + 1), 0, i + 1))) := by
        intro b hb
        rw [tourbillonref06_one.j2, hb]
        by_cases d : (s.data.toList.getD i 0).toNat = 0 ∧ 0 < i
        · rw [if_pos d, if_pos (decide_eq_true d)]
          rfl
        · rw [if_neg d, if_neg (by simpa using d)]
          by_cases e : 9 ≤ i
          · rw [if_pos (by omega), if_pos (.inl e)]
            rfl
          · rw [if_neg (by omega), w64 (by omega) (by omega), show (i : Int) + 1 - 1 = ((i + 1 : Nat) : Int) - 1 by omega]
            obtain ⟨k', rfl⟩ : ∃ k', k = k' + (i + 1) + 1 := ⟨k - (i + 1) - 1, by omega⟩
            have hp : (128 : Nat) ^ (i + 1) ≤ 128 ^ 9 := Nat.pow_le_pow_right (by decide) (by omega)
            have h9 : (128 : Nat) ^ 9 = 9223372036854775808 := by decide
            have hl := V_lt s.data.toList (i + 1)
            have h1 := one_l1 s ((i : Int) + 1) (i + 1) 0 k' (by omega) (by omega) (by omega)
            rw [Nat.zero_mul, Nat.zero_add] at h1
            rw [show ((0 : Nat) : Int) = 0 from rfl] at h1
            rw [h1]
            by_cases f : 4611686018427387904 < V s.data.toList (i + 1)
            · rw [if_pos f, if_pos (.inr f)]; rfl
            · rw [if_neg f, if_neg (by omega)]
              simp [toO]
      by_cases g : (0 : Int) < i
      · rw [if_pos (by omega), if_pos (by omega), if_pos (by omega)]
        apply h2
        by_cases z : (s.data.toList.getD i 0).toNat = 0
        · rw [z, decide_eq_true ⟨rfl, by omega⟩]; rfl
        · rw [decide_eq_false (fun x => z x.1)]
          exact beq_eq_false_iff_ne.2 (by omega)
      · rw [if_neg (by omega)]
        apply h2
        rw [decide_eq_false (fun x => g (by omega))]
    · rw [if_pos (by omega), if_neg c, w64 (by omega) (by omega), show ((i : Int) + 1) = ((i + 1 : Nat) : Int) by omega]
      exact one_l0 s hs r (i + 1) (k + 2) (by omega) (by omega)
theorem one_at {s : ByteArray} (hs : s.size ≤ 140737488351234) {k : Nat} (hk : s.size + 14 ≤ k) : tourbillonref06_one.f k s = some (toO (o1 s.data.toList 0 0)) :=
  one_l0 s hs s.size 0 k (by omega) hk
theorem o1_count : ∀ (l : List UInt8) (j u : Nat), (o1 l j u).2.1 = 0 → j < (o1 l j u).2.2 ∧ (o1 l j u).2.2 ≤ j + l.length
  | [], j, u, h => by simp [o1] at h
  | c :: t, j, u, h => by
    rw [o1] at h ⊢
    split at h
    · rw [if_pos (by assumption)]
      have : ∀ r : Nat × Nat × Nat, r.2.2 = j + 1 → j < r.2.2 ∧ r.2.2 ≤ j + (c :: t).length := fun r e => by rw [e, List.length_cons]; omega
      apply this
      split
      · rfl
      · split <;> rfl
    · rw [if_neg (by assumption)]
      have := o1_count t (j + 1) _ h
      rw [List.length_cons]
      omega
theorem toList_data (s : ByteArray) : s.toList = s.data.toList := by
  rw [ByteArray.toList, ByteArray.toList_loop_eq s s.size 0 [] (by omega) (by omega)]
  rfl
theorem rRead_l0 : ∀ (n : Nat) (s : ByteArray) (out : List Int) (k : Nat), s.size < n → s.size ≤ 140737488351234 → out.length ≤ 2000 → 4 * n + 20 ≤ k → tourbillonref06_Read.l0 k s out = some (readS n s.data.toList out)
  | 0, s, out, k, h, _, _, _ => by omega
  | n + 1, s, out, k, h, hs, ho, hk => by
    obtain ⟨k, rfl⟩ : ∃ k', k = k' + 3 := ⟨k - 3, by omega⟩
    rw [tourbillonref06_Read.l0, readS]
    by_cases h0 : s.data.toList.length = 0
    · rw [if_pos (by rw [toList_data]; exact List.length_eq_zero_iff.1 h0), if_pos h0]
    · rw [if_neg (by rw [toList_data]; exact fun e => h0 (by rw [e]; rfl)), if_neg h0, one_at hs (by omega), Option.bind_some]
      have hcnt := o1_count s.data.toList 0 0
      generalize o1 s.data.toList 0 0 = r at hcnt
      obtain ⟨v, e, c⟩ := r
      by_cases he : e = 0
      · subst he
        have hc := hcnt rfl
        rw [← size_list] at hc
        dsimp only at hc
        simp only [toO, if_pos, ne_eq, not_true_eq_false, if_false]
        by_cases h2 : out.length = 2000
        · rw [tourbillonref06_Read.j1, if_pos (by simp [h2]), tourbillonref06_Read.j2, if_neg (by decide), if_pos h2]
        · rw [tourbillonref06_Read.j1, if_neg (by simp; omega), tourbillonref06_Read.j2, if_pos rfl, if_pos (by omega), if_pos (by omega), if_pos (by omega), if_neg h2, Int.toNat_natCast]
          have hx : (s.extract c s.size).data.toList = s.data.toList.drop c := by
            rw [show s.size = s.data.size from rfl]
            simp
            exact List.take_of_length_le (by simp)
          rw [← hx]
          have hz : (s.extract c s.size).size = s.size - c := by rw [ByteArray.size_extract]; omega
          exact rRead_l0 n _ _ k (by omega) (by omega) (by simp; omega) (by omega)
      · simp only [toO, ne_eq, he, not_false_eq_true, if_true, if_false]
        rw [if_neg (show ¬ ((e : Nat) : Int) = 0 by omega), tourbillonref06_Read.j1, if_neg (by decide), tourbillonref06_Read.j2, if_neg (show ¬ ((e : Nat) : Int) = 0 by omega)]
theorem rRead_at {s : ByteArray} (hs : s.size ≤ 140737488351234) {k : Nat} (hk : 4 * s.size + 24 ≤ k) : tourbillonref06_Read.f k s = some (ReadS s.data.toList) := by
  unfold tourbillonref06_Read.f ReadS
  rw [← size_list]
  exact rRead_l0 (s.size + 1) s [] k (by omega) hs (by simp) (by omega)
theorem numbers_l0 (a b : List Int) (hl : a.length = b.length) (ha : a.length ≤ 9223372036854775000) : ∀ (r i k : Nat), r + i = a.length → r + 1 ≤ k → a.drop i = b.drop i → tourbillonlaw06_numbers.l0 k a b (i : Int) = some true
  | 0, i, k, hi, hk, _ => by
    obtain ⟨k, rfl⟩ : ∃ k', k = k' + 1 := ⟨k - 1, by omega⟩
    rw [tourbillonlaw06_numbers.l0, if_neg (by omega)]
  | r + 1, i, k, hi, hk, hd => by
    obtain ⟨k, rfl⟩ : ∃ k', k = k' + 1 := ⟨k - 1, by omega⟩
    rw [rd_drop (l := a) (by omega), rd_drop (l := b) (by omega)] at hd
    have h1 := (List.cons.inj hd).1
    have h2 := (List.cons.inj hd).2
    rw [tourbillonlaw06_numbers.l0, if_pos (by omega), if_pos (by omega), if_pos (by omega), if_pos h1, w64 (by omega) (by omega), show (i : Int) + 1 = ((i + 1 : Nat) : Int) by omega]
    exact numbers_l0 a b hl ha r (i + 1) k (by omega) (by omega) h2
theorem numbers_same {a : List Int} (ha : a.length ≤ 9223372036854775000) {k : Nat} (hk : a.length + 1 ≤ k) : tourbillonlaw06_numbers.f k a a = some true := by
  unfold tourbillonlaw06_numbers.f
  rw [if_pos rfl]
  exact numbers_l0 a a rfl ha a.length 0 k (by omega) hk rfl
theorem readS_len : ∀ (n : Nat) (l : List UInt8) (out : List Int), out.length ≤ 2000 → (readS n l out).1.length ≤ 2000
  | 0, l, out, h => by rw [readS]; exact h
  | n + 1, l, out, h => by
    rw [readS]
    split
    · exact h
    · dsimp only
      split
      · simp
      · split
        · simp
        · exact readS_len n _ _ (by simp; omega)
theorem ReadS_len (l : List UInt8) : (ReadS l).1.length ≤ 2000 := readS_len _ _ _ (by simp)
end Go.Proofs.YtecefkenfpbfkaaX
