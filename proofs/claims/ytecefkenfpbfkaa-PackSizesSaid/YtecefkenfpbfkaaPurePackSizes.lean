/- The pure statement of PackSizes: a number's bytes are as many as its sevens of bits. Conditions: a number of 64 bits. -/
import Derived.Test.YtecefkenfpbfkaaPAx5
import Derived.Test.YtecefkenfpbfkaaXWrite
namespace Go.Proofs.Ytecefkenfpbfkaa.Pure
open Go.RowKit Go.Proofs.Ytecefkenfpbfkaa.PA Go.Proofs.YtecefkenfpbfkaaW.PrintWords Go.Proofs.YtecefkenfpbfkaaW.PrintLast Go.Proofs.YtecefkenfpbfkaaW.PrintMore Go.Proofs.YtecefkenfpbfkaaX

theorem sz0 (x3 : Bool) (t : ByteArray) (e : Int) : ∀ (m n s : Nat), (enc1 n).length = m + 1 → n < 9223372036854775808 → s + m ≤ 100 → ∀ k, m + 1 ≤ k → tourbillonlaw06_PackSizes.l0 k x3 t e (s : Int) ((n / 128 : Nat) : Int) = if (t.size : Int) = (s + m : Nat) then tourbillonlaw06_PackSizes.j2 (k - (m + 1)) x3 t ((s + m : Nat) : Int) (e != 0) else tourbillonlaw06_PackSizes.j2 (k - (m + 1)) x3 t ((s + m : Nat) : Int) true
  | 0, n, s, hm, hn, hs, k, hk => by
    obtain ⟨k, rfl⟩ : ∃ k', k = k' + 1 := ⟨k - 1, by omega⟩
    have hn1 : n < 128 := by
      by_cases c : n < 128
      · exact c
      · rw [enc1_big c, List.length_cons] at hm
        by_cases d : n / 128 < 128
        · rw [enc1_small d] at hm; simp at hm
        · rw [enc1_big d] at hm; simp at hm
    rw [tourbillonlaw06_PackSizes.l0, if_neg (by omega)]
    rfl
  | m + 1, n, s, hm, hn, hs, k, hk => by
    obtain ⟨k, rfl⟩ : ∃ k', k = k' + 1 := ⟨k - 1, by omega⟩
    have hn1 : ¬ n < 128 := fun c => by
      rw [enc1_small c] at hm
      simp at hm
    rw [enc1_big hn1, List.length_cons] at hm
    rw [tourbillonlaw06_PackSizes.l0, if_pos (by omega), Int.tdiv_eq_ediv_of_nonneg (by omega), w64 (by omega) (by omega), w64 (by omega) (by omega)]
    rw [show ((s : Int) + 1) = ((s + 1 : Nat) : Int) by omega, show ((n / 128 : Nat) : Int) / 128 = ((n / 128 / 128 : Nat) : Int) by omega, sz0 x3 t e m (n / 128) (s + 1) (by omega) (by omega) (by omega) k (by omega), show s + 1 + m = s + (m + 1) by omega, show k + 1 - (m + 1 + 1) = k - (m + 1) by omega]
theorem enc1_ends : ∀ (m n : Nat), (enc1 n).length = m + 1 → ∀ i, i < m + 1 → (enc1 n).getD i 0 < 256 ∧ (128 ≤ (enc1 n).getD i 0 ↔ i < m)
  | m, n, hm, i, hi => by
    by_cases c : n < 128
    · rw [enc1_small c] at hm ⊢
      simp at hm
      subst hm
      obtain rfl : i = 0 := by omega
      simp
      omega
    · rw [enc1_big c] at hm ⊢
      rw [List.length_cons] at hm
      have hp : 0 < (enc1 (n / 128)).length := by
        by_cases d : n / 128 < 128
        · rw [enc1_small d]; simp
        · rw [enc1_big d]; simp
      obtain ⟨m, rfl⟩ : ∃ m', m = m' + 1 := ⟨m - 1, by omega⟩
      cases i with
      | zero => simp; omega
      | succ i =>
        have := enc1_ends m (n / 128) (by omega) i (by omega)
        simp only [List.getD_cons_succ]
        omega
theorem bytes_nums (l : List Nat) : (strOfNums (l.map Int.ofNat)).data.toList = l.map (fun x => UInt8.ofNat x) := by
  simp [strOfNums]
theorem sz1 (t : ByteArray) (z : Nat) (hz : t.size = z) (hz1 : z < 1000) (hb : ∀ i, i < z → (128 ≤ bt t (i : Int) ↔ i + 1 < z)) : ∀ (r i k : Nat), r + i = z → r + 1 ≤ k → tourbillonlaw06_PackSizes.l1 k true t (z : Int) (i : Int) = some true
  | 0, i, k, hi, hk => by
    obtain ⟨k, rfl⟩ : ∃ k', k = k' + 1 := ⟨k - 1, by omega⟩
    rw [tourbillonlaw06_PackSizes.l1, if_neg (by omega)]
  | r + 1, i, k, hi, hk => by
    obtain ⟨k, rfl⟩ : ∃ k', k = k' + 1 := ⟨k - 1, by omega⟩
    have h := hb i (by omega)
    have e : ((decide ((bt t (i : Int)) ≥ 128)) != (decide ((i : Int) < (wrap64 ((z : Int) - 1))))) = false := by
      rw [w64 (by omega) (by omega)]
      by_cases c : i + 1 < z
      · rw [decide_eq_true (h.2 c), decide_eq_true (by omega)]; rfl
      · rw [decide_eq_false (fun x => c (h.1 x)), decide_eq_false (by omega)]; rfl
    rw [tourbillonlaw06_PackSizes.l1, if_pos (by omega), if_pos (by omega), if_pos (by omega), e, if_neg (by decide), w64 (by omega) (by omega), show ((i : Int) + 1) = ((i + 1 : Nat) : Int) by omega]
    exact sz1 t z hz hz1 hb r (i + 1) k (by omega) (by omega)

theorem PackSizes : tourbillonlaw06_PackSizes.Pure := by
  intro n hn
  refine ⟨30000, ?_⟩
  obtain ⟨h0, h1⟩ := wf64 hn
  unfold tourbillonlaw06_PackSizes.f
  rw [ex_at (by omega), Option.bind_some, Write_at (by intro x hx; rw [List.mem_singleton] at hx; rw [hx]; exact hn) (by omega), Option.bind_some]
  have hW : WriteS [n] = if n < 0 ∨ 4611686018427387904 < n then (⟨#[]⟩, 1) else (strOfNums (encI n.toNat), 0) := by
    unfold WriteS
    rw [if_neg (by simp), wS, wS]
    rfl
  rw [hW]
  by_cases c : n < 0
  · rw [if_pos c, if_pos (.inl c), tourbillonlaw06_PackSizes.j0, if_pos rfl, if_pos rfl]
    rfl
  rw [if_neg c]
  by_cases d : 4611686018427387904 < n
  · rw [if_pos (.inr d), tourbillonlaw06_PackSizes.j0, if_pos (by simpa using d), if_pos rfl]
    rfl
  rw [if_neg (by omega), tourbillonlaw06_PackSizes.j0, if_neg (by simpa using d), Int.tdiv_eq_ediv_of_nonneg (by omega), w64 (by omega) (by omega)]
  obtain ⟨u, rfl⟩ : ∃ u : Nat, n = (u : Int) := ⟨n.toNat, by omega⟩
  rw [Int.toNat_natCast, show (u : Int) / 128 = ((u / 128 : Nat) : Int) by omega]
  have hlen := encI_len (n := u) (by omega)
  have hpos : 0 < (enc1 u).length := by
    by_cases d : u < 128
    · rw [enc1_small d]; simp
    · rw [enc1_big d]; simp
  have hl : (encI u).length = (enc1 u).length := by unfold encI; simp
  obtain ⟨m, hm⟩ : ∃ m, (enc1 u).length = m + 1 := ⟨(enc1 u).length - 1, by omega⟩
  have hsize : (strOfNums (encI u)).size = m + 1 := by
    rw [size_list]
    unfold encI
    rw [bytes_nums, List.length_map, hm]
  have h := sz0 true (strOfNums (encI u)) 0 m u 1 hm (by omega) (by omega) 29999 (by omega)
  rw [show ((1 : Nat) : Int) = 1 from rfl] at h
  rw [h, if_pos (by omega)]
  obtain ⟨k, hk⟩ : ∃ k, 29999 - (m + 1) = k + 1 := ⟨29998 - (m + 1), by omega⟩
  rw [hk, tourbillonlaw06_PackSizes.j2, if_neg (by decide)]
  apply sz1 _ (1 + m) (by omega) (by omega) ?_ (1 + m) 0 k (by omega) (by omega)
  intro i hi
  have he := enc1_ends m u hm i (by omega)
  have hbt : bt (strOfNums (encI u)) (i : Int) = (((enc1 u).getD i 0 : Nat) : Int) := by
    unfold bt
    rw [Int.toNat_natCast, dif_pos (by omega)]
    have e : ((strOfNums (encI u)).data.toList.getD i 0).toNat = (enc1 u).getD i 0 := by
      unfold encI
      rw [bytes_nums]
      have hi' : i < (enc1 u).length := by omega
      simp only [List.getD_eq_getElem?_getD, List.getElem?_map, List.getElem?_eq_getElem hi', Option.map_some, Option.getD_some] at he ⊢
      simp
      omega
    rw [← e, List.getD_eq_getElem?_getD, List.getElem?_eq_getElem (by simpa using (show i < (strOfNums (encI u)).size by omega))]
    rfl
  rw [hbt]
  omega
end Go.Proofs.Ytecefkenfpbfkaa.Pure
