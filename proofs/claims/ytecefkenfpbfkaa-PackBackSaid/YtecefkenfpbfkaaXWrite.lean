/- What Write tells, and the reference's: sevens of bits, the lowest first. Conditions: numbers of 64 bits, at most 2000 of them. -/
import Derived.Test.YtecefkenfpbfkaaPAx1
import Derived.Test.YtecefkenfpbfkaaPAx2
import Derived.Test.YtecefkenfpbfkaaXPack
namespace Go.Proofs.YtecefkenfpbfkaaX
open Go.RowKit Go.Proofs.YtecefkenfpbfkaaW.PrintWords Go.Proofs.YtecefkenfpbfkaaW.PrintMore Go.Proofs.Ytecefkenfpbfkaa.PA

/-- A number's bytes. -/
def enc1 (n : Nat) : List Nat := if h : n < 128 then [n] else (n % 128 + 128) :: enc1 (n / 128)
termination_by n
decreasing_by omega
def encI (n : Nat) : List Int := (enc1 n).map Int.ofNat
theorem enc1_small {n : Nat} (h : n < 128) : enc1 n = [n] := by rw [enc1, dif_pos h]
theorem enc1_big {n : Nat} (h : ¬ n < 128) : enc1 n = (n % 128 + 128) :: enc1 (n / 128) := by rw [enc1, dif_neg h]
theorem encI_small {n : Nat} (h : n < 128) : encI n = [(n : Int)] := by
  unfold encI
  rw [enc1_small h]
  rfl
theorem encI_big {n : Nat} (h : ¬ n < 128) : encI n = ((n % 128 + 128 : Nat) : Int) :: encI (n / 128) := by
  unfold encI
  rw [enc1_big h]
  rfl
theorem enc1_len : ∀ (m n : Nat), n < 128 ^ (m + 1) → (enc1 n).length ≤ m + 1
  | 0, n, h => by
    rw [enc1_small (by simpa using h)]
    simp
  | m + 1, n, h => by
    by_cases c : n < 128
    · rw [enc1_small c]
      simp
    · rw [enc1_big c, List.length_cons]
      have : n / 128 < 128 ^ (m + 1) := by
        apply Nat.div_lt_of_lt_mul
        rw [Nat.pow_succ] at h
        omega
      have := enc1_len m (n / 128) this
      omega
theorem encI_len {n : Nat} (h : n < 18446744073709551616) : (encI n).length ≤ 10 := by
  unfold encI
  rw [List.length_map]
  exact enc1_len 9 n (by omega)
/-- What Write tells of the rest of a list, behind what is written. -/
def wS : List Int → List Int → ByteArray × Int
  | [], out => (strOfNums out, 0)
  | x :: t, out => if x < 0 ∨ 4611686018427387904 < x then (⟨#[]⟩, 1) else wS t (out ++ encI x.toNat)
def WriteS (l : List Int) : ByteArray × Int := if 2000 < l.length then (⟨#[]⟩, 7) else wS l []
theorem and127 {x : Int} (h0 : 0 ≤ x) (h1 : x < 18446744073709551616) : Go.bits .and .u64 x 127 = x % 128 := by
  have := bits_mask .u64 64 (by decide) wraps_u64 7 (by decide) x h0 (by simpa using h1)
  simpa using this
theorem or128 {y : Int} (h0 : 0 ≤ y) (h1 : y < 128) : Go.bits .or .u8 y 128 = y + 128 := by
  have e : Go.bits .or .u8 y 128 = Go.bits .or .u8 128 y := by
    simp only [Go.bits, BitVec.or_comm]
  rw [e, bits_join .u8 8 (by decide) wraps_u8 7 128 y (by decide) (by decide) (by decide) h0 (by simpa using h1) (by simp; omega)]
  omega
theorem rd_drop {l : List Int} {i : Nat} (h : i < l.length) : l.drop i = rd l (i : Int) :: l.drop (i + 1) := by
  unfold rd
  rw [List.drop_eq_getElem_cons h, Int.toNat_natCast, List.getD_eq_getElem?_getD, List.getElem?_eq_getElem h]
  rfl
theorem wl1 (l : List Int) (n i : Int) : ∀ (m u : Nat), (encI u).length = m → u < 18446744073709551616 → ∀ (out : List Int) (k : Nat), out.length + m ≤ 140737488355328 → pack_Write.l1 (k + m) out (u : Int) l n i = pack_Write.l0 k (out ++ encI u) l n (wrap64 (i + 1))
  | 0, u, hm, hu, out, k, ho => by
    by_cases c : u < 128
    · rw [encI_small c] at hm; simp at hm
    · rw [encI_big c] at hm; simp at hm
  | m + 1, u, hm, hu, out, k, ho => by
    have ha := and127 (x := (u : Int)) (by omega) (by omega)
    rw [show k + (m + 1) = (k + m) + 1 by omega, pack_Write.l1, ha]
    by_cases c : u < 128
    · rw [encI_small c] at hm ⊢
      simp at hm
      subst hm
      rw [if_pos (by omega), if_pos (by omega), show (u : Int) % 128 % 256 = (u : Int) by omega]
      rfl
    · rw [encI_big c] at hm ⊢
      simp only [List.length_cons, Nat.add_right_cancel_iff] at hm
      rw [if_neg (by omega), if_pos (by omega), or128 (by omega) (by omega), show (u : Int) % 128 % 256 + 128 = ((u % 128 + 128 : Nat) : Int) by omega, show (u : Int) / 128 = ((u / 128 : Nat) : Int) by omega]
      rw [wl1 l n i m (u / 128) hm (by omega) (out ++ [((u % 128 + 128 : Nat) : Int)]) k (by simp; omega), List.append_assoc]
      rfl
theorem wl0 (l : List Int) (hw : ∀ x ∈ l, -9223372036854775808 ≤ x ∧ x ≤ 9223372036854775807) (hl : l.length ≤ 2000) : ∀ (r i : Nat), r + i = l.length → ∀ (out : List Int) (k : Nat), out.length ≤ 10 * i → 12 * r + 1 ≤ k → pack_Write.l0 k out l (l.length : Int) (i : Int) = some (wS (l.drop i) out)
  | 0, i, hi, out, k, ho, hk => by
    obtain ⟨k, rfl⟩ : ∃ k', k = k' + 1 := ⟨k - 1, by omega⟩
    rw [pack_Write.l0, if_neg (by omega), List.drop_eq_nil_of_le (by omega), wS]
  | r + 1, i, hi, out, k, ho, hk => by
    obtain ⟨k, rfl⟩ : ∃ k', k = k' + 2 := ⟨k - 2, by omega⟩
    have hx := rd_drop (l := l) (i := i) (by omega)
    obtain ⟨hx0, hx1⟩ := hw (rd l (i : Int)) (by apply List.mem_of_mem_drop (i := i); rw [hx]; exact List.mem_cons_self)
    rw [pack_Write.l0, if_pos (by omega), if_pos (by omega), if_pos (by omega), hx, wS]
    generalize rd l (i : Int) = x at hx0 hx1
    by_cases c : x < 0
    · rw [if_pos c, pack_Write.j1, if_pos rfl, if_pos (.inl c)]
    · rw [if_neg c, pack_Write.j1]
      by_cases d : 4611686018427387904 < x
      · rw [if_pos (by simpa using d), if_pos (.inr d)]
      · rw [if_neg (by simpa using d), if_neg (by omega), u64s (by omega) (by omega)]
        have hm := encI_len (n := x.toNat) (by omega)
        obtain ⟨k', rfl⟩ : ∃ k', k = k' + (encI x.toNat).length := ⟨k - (encI x.toNat).length, by omega⟩
        have h1 := wl1 l (l.length : Int) (i : Int) _ x.toNat rfl (by omega) out k' (by omega)
        rw [show ((x.toNat : Nat) : Int) = x by omega, w64 (by omega) (by omega)] at h1
        rw [h1, show ((i : Int) + 1) = ((i + 1 : Nat) : Int) by omega]
        exact wl0 l hw hl r (i + 1) (by omega) _ k' (by simp; omega) (by omega)
theorem Write_at {l : List Int} (hw : ∀ x ∈ l, (Lit.int .i64 x).wf = true) {k : Nat} (hk : 24001 ≤ k) : pack_Write.f k l = some (WriteS l) := by
  unfold pack_Write.f WriteS
  by_cases c : 2000 < l.length
  · rw [if_pos (by omega), if_pos c]
  · rw [if_neg (by omega), if_neg c]
    exact wl0 l (fun x hx => wf64 (hw x hx)) (by omega) l.length 0 (by omega) [] k (by simp) (by omega)

theorem rwl1 (l : List Int) (i : Int) : ∀ (m u : Nat), (encI u).length = m → u < 4611686018427387905 → ∀ (out : List Int) (k : Nat), out.length + m ≤ 140737488355328 → tourbillonref06_Write.l1 (k + m) l out i (u : Int) = tourbillonref06_Write.l0 k l (out ++ encI u) (wrap64 (i + 1))
  | 0, u, hm, hu, out, k, ho => by
    by_cases c : u < 128
    · rw [encI_small c] at hm; simp at hm
    · rw [encI_big c] at hm; simp at hm
  | m + 1, u, hm, hu, out, k, ho => by
    rw [show k + (m + 1) = (k + m) + 1 by omega, tourbillonref06_Write.l1, Int.tmod_eq_emod_of_nonneg (by omega), Int.tdiv_eq_ediv_of_nonneg (by omega), w64 (by omega) (by omega), w64 (by omega) (by omega)]
    by_cases c : u < 128
    · rw [encI_small c] at hm ⊢
      simp at hm
      subst hm
      rw [if_neg (by omega), if_pos (by omega), show (u : Int) % 256 = (u : Int) by omega]
      rfl
    · rw [encI_big c] at hm ⊢
      simp only [List.length_cons, Nat.add_right_cancel_iff] at hm
      rw [if_pos (by omega), if_pos (by omega), show (128 + (u : Int) % 128) % 256 = ((u % 128 + 128 : Nat) : Int) by omega, show (u : Int) / 128 = ((u / 128 : Nat) : Int) by omega]
      rw [rwl1 l i m (u / 128) hm (by omega) (out ++ [((u % 128 + 128 : Nat) : Int)]) k (by simp; omega), List.append_assoc]
      rfl
theorem rwl0 (l : List Int) (hw : ∀ x ∈ l, -9223372036854775808 ≤ x ∧ x ≤ 9223372036854775807) (hl : l.length ≤ 2000) : ∀ (r i : Nat), r + i = l.length → ∀ (out : List Int) (k : Nat), out.length ≤ 10 * i → 12 * r + 1 ≤ k → tourbillonref06_Write.l0 k l out (i : Int) = some (wS (l.drop i) out)
  | 0, i, hi, out, k, ho, hk => by
    obtain ⟨k, rfl⟩ : ∃ k', k = k' + 1 := ⟨k - 1, by omega⟩
    rw [tourbillonref06_Write.l0, if_neg (by omega), List.drop_eq_nil_of_le (by omega), wS]
  | r + 1, i, hi, out, k, ho, hk => by
    obtain ⟨k, rfl⟩ : ∃ k', k = k' + 2 := ⟨k - 2, by omega⟩
    have hx := rd_drop (l := l) (i := i) (by omega)
    obtain ⟨hx0, hx1⟩ := hw (rd l (i : Int)) (by apply List.mem_of_mem_drop (i := i); rw [hx]; exact List.mem_cons_self)
    rw [tourbillonref06_Write.l0, if_pos (by omega), if_pos (by omega), hx, wS]
    generalize rd l (i : Int) = x at hx0 hx1
    by_cases c : x < 0
    · rw [if_pos c, tourbillonref06_Write.j1, if_pos rfl, if_pos (.inl c)]
    · rw [if_neg c, tourbillonref06_Write.j1]
      by_cases d : 4611686018427387904 < x
      · rw [if_pos (by simpa using d), if_pos (.inr d)]
      · rw [if_neg (by simpa using d), if_neg (by omega)]
        have hm := encI_len (n := x.toNat) (by omega)
        obtain ⟨k', rfl⟩ : ∃ k', k = k' + (encI x.toNat).length := ⟨k - (encI x.toNat).length, by omega⟩
        have h1 := rwl1 l (i : Int) _ x.toNat rfl (by omega) out k' (by omega)
        rw [show ((x.toNat : Nat) : Int) = x by omega, w64 (by omega) (by omega)] at h1
        rw [h1, show ((i : Int) + 1) = ((i + 1 : Nat) : Int) by omega]
        exact rwl0 l hw hl r (i + 1) (by omega) _ k' (by simp; omega) (by omega)
theorem rWrite_at {l : List Int} (hw : ∀ x ∈ l, (Lit.int .i64 x).wf = true) {k : Nat} (hk : 24001 ≤ k) : tourbillonref06_Write.f k l = some (WriteS l) := by
  unfold tourbillonref06_Write.f WriteS
  by_cases c : 2000 < l.length
  · rw [if_pos (by omega), if_pos c]
  · rw [if_neg (by omega), if_neg c]
    exact rwl0 l (fun x hx => wf64 (hw x hx)) (by omega) l.length 0 (by omega) [] k (by simp) (by omega)
end Go.Proofs.YtecefkenfpbfkaaX
