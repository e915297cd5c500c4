/- The law PackBit, with no program in sight. Conditions: none. -/
import Derived.Test.YtecefkenfpbfkaaXS
namespace Go.Proofs.Ytecefkenfpbfkaa.Pure
open Go Go.Proofs.YtecefkenfpbfkaaM Go.Proofs.YtecefkenfpbfkaaX Go.Proofs.YtecefkenfpbfkaaL Go.Proofs.YtecefkenfpbfkaaC
set_option linter.unusedVariables false
set_option linter.unusedSimpArgs false
theorem bit_end {x : ByteArray} (hx : x.size ≤ 4000) (n : Int) (h0 : 0 ≤ n) (h1 : n ≤ 9223372036854775807) :
    Ev (let t34 := IntKind.wrap .i64 (8 * (((sealB x).size) : Int));
            if t34 = 0 then
              none
            else
            let t35 := Int.tmod n t34;
            if (sealB x).size ≤ 4611686018427387904 then
            let t36 := IntKind.wrap .i64 (Int.tdiv t35 8);
            let t37 := IntKind.wrap .i64 (Int.tdiv t35 8);
            if (0 ≤ t37) ∧ (t37 < ((ofBytes (sealB x)).length : Int)) then
            let t39 := Int.tmod t35 8;
            if t39 < 0 then
              none
            else
            if (0 ≤ t36) ∧ (t36 < ((ofBytes (sealB x)).length : Int)) then
            (Open_19 300000 ((bytesOf ((ofBytes (sealB x)).set t36.toNat (IntKind.wrap .u8 (BitVec.ofInt (IntKind.bits .u8) ((ofBytes (sealB x)).getD t37.toNat 0) ^^^ BitVec.ofInt (IntKind.bits .u8) (IntKind.wrap .u8 (1 * 2 ^ (min t39.toNat (IntKind.bits .u8))))).toNat)), ()), ())).bind fun y44 =>
            byB true
              (byB (y44.1.1.toList == ((⟨#[]⟩ : ByteArray)).toList)
                  (some ((y44.1.2.1 == 9, ()), ()))
                  (some ((false, ()), ())))
              (some ((false, ()), ()))
            else none
            else none
            else none) fun y => y = ((true, ()), ()) := by
  have hsz := sealB_size x
  have hw : IntKind.wrap .i64 (8 * (((sealB x).size) : Int)) = ((8 * (sealB x).size : Nat) : Int) := by rw [w64 (by omega) (by omega)]; omega
  dsimp only
  rw [hw, if_neg (by omega), if_pos (by omega), ofB_len]
  have ht := Int.tmod_eq_emod_of_nonneg (b := ((8 * (sealB x).size : Nat) : Int)) h0
  have ht0 := Int.emod_nonneg n (b := ((8 * (sealB x).size : Nat) : Int)) (by omega)
  have ht1 := Int.emod_lt_of_pos n (b := ((8 * (sealB x).size : Nat) : Int)) (by omega)
  obtain ⟨m, hm⟩ : ∃ m : Nat, n % ((8 * (sealB x).size : Nat) : Int) = m := ⟨(n % ((8 * (sealB x).size : Nat) : Int)).toNat, by omega⟩
  rw [hm] at ht0 ht1 ht
  have e1 : IntKind.wrap .i64 (Int.tdiv (m : Int) 8) = ((m / 8 : Nat) : Int) := by rw [Int.tdiv_eq_ediv_of_nonneg (by omega), w64 (by omega) (by omega)]; omega
  have e2 : Int.tmod (m : Int) 8 = ((m % 8 : Nat) : Int) := by rw [Int.tmod_eq_emod_of_nonneg (by omega)]; omega
  rw [ht, e1, e2, if_pos (by omega), if_neg (by omega), if_pos (by omega)]
  simp only [Int.toNat_natCast]
  have hi : m / 8 < (sealB x).size := by omega
  have hp : (2 : Nat) ^ (m % 8) < 2 ^ 8 := Nat.pow_lt_pow_right (by decide) (by omega)
  have e3 : IntKind.wrap .u8 (1 * 2 ^ (min (m % 8) (IntKind.bits .u8))) = ((2 ^ (m % 8) : Nat) : Int) := by
    rw [show min (m % 8) (IntKind.bits .u8) = m % 8 from Nat.min_eq_left (by show m % 8 ≤ 8; omega), Int.one_mul, show (2 : Int) ^ (m % 8) = ((2 ^ (m % 8) : Nat) : Int) by simp]
    exact wu8 hp
  have hb := byte_lt ((sealB x).data.toList.getD (m / 8) 0)
  rw [e3, ofB_at hi, xor8 hb hp]
  have hs := turned_sum (x := x) hi (show m % 8 < 8 by omega)
  have hlen : (bytesOf ((ofBytes (sealB x)).set (m / 8) ((((sealB x).data.toList.getD (m / 8) 0).toNat ^^^ 2 ^ (m % 8) : Nat) : Int))).size = (sealB x).size := by
    rw [size_len]
    show (((ofBytes (sealB x)).set (m / 8) _).map _).length = _
    rw [List.length_map, List.length_set, ofB_len]
  refine Ev.bind (open_sum (N := 300000) (by omega) (by omega) (by omega) hs) ?_
  rintro y rfl
  rw [byB_true, show ((⟨#[]⟩ : ByteArray).toList == ((⟨#[]⟩ : ByteArray)).toList) = true by simp, byB_true]
  exact Ev.mk rfl
theorem PackBit (y0 : ByteArray) (y1 : Int) (gy0 : y0.size ≤ 140737488351232) (gy1 : (Lit.int .i64 y1).wf = true) : ∃ N, PackBit_9 N ((y0, y1, ()), ()) = some ((true, ()), ()) := by
  have g1 := wf64 gy1
  refine ⟨300000, Ev.eq (Q := fun r => r = ((true, ()), ())) ?_ fun _ h => h⟩
  unfold PackBit_9
  dsimp only
  rw [show examples_10 300000 ((), ()) = some ((true, ()), ()) from by unfold examples_10; rw [if_pos (by omega)], bnd]
  obtain ⟨c, hc, hc1, hc2⟩ : ∃ c : Nat, (if 4000 < ((y0.size) : Int) then 4000 else ((y0.size) : Int)) = c ∧ c ≤ 4000 ∧ c ≤ y0.size := by
    by_cases h : 4000 < ((y0.size) : Int)
    · exact ⟨4000, by rw [if_pos h]; rfl, by omega, by omega⟩
    · exact ⟨y0.size, by rw [if_neg h], by omega, by omega⟩
  rw [hc, if_pos ⟨by omega, by omega, by omega⟩, Int.toNat_natCast]
  have hx : (y0.extract 0 c).size ≤ 4000 := by
    have : (y0.extract 0 c).size = c := by
      rw [ByteArray.size_extract]
      omega
    omega
  generalize y0.extract 0 c = x at *
  refine Ev.bind (seal_at (N := 300000) (s := x) (by omega) (by omega)) ?_
  rintro y rfl
  have hsz := sealB_size x
  dsimp only
  rw [join_eq, byB_nef rfl, w64 (by omega) (by omega)]
  have hne : ((((sealB x).size) : Int) != ((x.size) : Int) + 2) = false := by
    rw [hsz]
    simp
  rw [hne]
  unfold PackBit_9_J5
  dsimp only
  rw [byB_false]
  refine Ev.dec (fun h => ?_) fun h => ?_
  · rw [w64 (show -9223372036854775808 ≤ y1 + 1 by omega) (by omega), w64 (show -9223372036854775808 ≤ 0 - (y1 + 1) by omega) (by omega)]
    exact bit_end hx _ (by omega) (by omega)
  · exact bit_end hx _ (by omega) (by omega)
end Go.Proofs.Ytecefkenfpbfkaa.Pure
