/- What Write tells, by its text. Conditions: at most 2000 numbers of 64 bits. -/
import Derived.Test.YtcdnofemnpafhaaXP
namespace Go.Proofs.YtcdnofemnpafhaaC
open Go Go.Proofs.YtcdnofemnpafhaaM Go.Proofs.YtcdnofemnpafhaaX Go.Proofs.YtcdnofemnpafhaaL
set_option linter.unusedVariables false
set_option linter.unusedSimpArgs false

def encN (n : Nat) : List Int := (enc1 n).map Int.ofNat
theorem encN_small {n : Nat} (h : n < 128) : encN n = [(n : Int)] := by unfold encN; rw [enc1_small h]; rfl
theorem encN_big {n : Nat} (h : ¬ n < 128) : encN n = ((n % 128 + 128 : Nat) : Int) :: encN (n / 128) := by unfold encN; rw [enc1_big h]; rfl
theorem and_127 {n : Nat} (h : n < 18446744073709551616) : IntKind.wrap .u64 (BitVec.ofInt (IntKind.bits .u64) (n : Int) &&& BitVec.ofInt (IntKind.bits .u64) 127).toNat = ((n % 128 : Nat) : Int) := by
  have := bv_and (b := 127) h (by omega)
  rw [show ((127 : Nat) : Int) = 127 from rfl] at this
  rw [this, show (127 : Nat) = 2 ^ 7 - 1 from rfl, Nat.and_two_pow_sub_one_eq_mod, wu64 (by omega) (by omega)]
theorem or_128 : ∀ x : Fin 128, IntKind.wrap .u8 (BitVec.ofInt (IntKind.bits .u8) ((x.1 : Nat) : Int) ||| BitVec.ofInt (IntKind.bits .u8) 128).toNat = ((x.1 + 128 : Nat) : Int) := by decide
theorem wu8 {n : Nat} (h : n < 256) : IntKind.wrap .u8 (n : Int) = (n : Int) := by
  simp [IntKind.wrap, IntKind.bits, IntKind.signed]
  omega
theorem w10 {N n : Nat} {i e : Int} {t : Bool} {l out : List Int} {again5 : _ → _} {Q : _ → Prop} (hn : n < 18446744073709551616) (hN : (enc1 n).length < N) (ho : out.length + (enc1 n).length ≤ 140737488355328)
    (h : Ev (again5 (((), l, (l.length : Int), IntKind.wrap .i64 (i + 1), ()), out ++ encN n, ())) Q) :
    Ev (loopN N (Write_17_L10 N again5) (((), (n : Int), l, (l.length : Int), i, e, t, ()), out, ())) Q := by
  refine Ev.loop (k := (enc1 n).length) (fun k st => ∃ (u : Nat) (o : List Int), st = (((), (u : Int), l, (l.length : Int), i, e, t, ()), o, ()) ∧ u < 18446744073709551616 ∧ k = (enc1 u).length ∧ o ++ encN u = out ++ encN n ∧ o.length + (enc1 u).length ≤ 140737488355328) ?_ ⟨n, out, rfl, hn, rfl, rfl, ho⟩ hN
  rintro k st again ⟨u, o, rfl, hu, rfl, hc, hol⟩ ih
  unfold Write_17_L10
  dsimp only
  rw [and_127 hu, shr_nat, wu8 (by omega)]
  by_cases c : u < 128
  · have e0 : u / 2 ^ 7 = 0 := Nat.div_eq_of_lt c
    rw [byB_eqt (by rw [e0]; rfl), if_pos (by rw [enc1_small c] at hol; simp at hol; omega), Nat.mod_eq_of_lt c]
    rw [encN_small c] at hc
    rw [hc]
    exact h
  · have e0 : u / 2 ^ 7 = u / 128 := rfl
    rw [enc1_big c] at hol ih
    simp only [List.length_cons] at hol ih
    rw [byB_eqf (by omega), if_pos (by omega), or_128 ⟨u % 128, by omega⟩, e0]
    refine ih _ _ (Nat.lt_succ_self _) ⟨u / 128, _, rfl, by omega, rfl, ?_, ?_⟩
    · rw [← hc, encN_big c, List.append_assoc]; rfl
    · rw [List.length_append, List.length_singleton]; omega
theorem enc_len {n : Nat} (h : n < 18446744073709551616) : (enc1 n).length ≤ 10 := enc1_len 9 n (by omega)
theorem bytes_enc (l : List Int) : (bytesOf (l.flatMap fun x => encN x.toNat)).data.toList = encL l := by
  unfold bytesOf encL
  show ((l.flatMap fun x => encN x.toNat).map fun n => UInt8.ofNat n.toNat) = _
  rw [List.map_flatMap]
  have e : (fun a : Int => (encN a.toNat).map fun n => UInt8.ofNat n.toNat) = fun x => encB x.toNat := by
    funext x
    unfold encN encB
    rw [List.map_map]
    rfl
  rw [e]
theorem write_at {N : Nat} {l : List Int} (hl : l.length ≤ 2000) (hN : 3000 < N) (hw : ∀ x ∈ l, (Lit.int .i64 x).wf = true) :
    Ev (Write_17 N ((l, ()), ())) fun y => (okL l ∧ y.1.2.1 = 0 ∧ y.1.1.data.toList = encL l) ∨ (¬ okL l ∧ y.1.2.1 = 1 ∧ y.1.1 = ⟨#[]⟩) := by
  unfold Write_17
  dsimp only
  rw [byB_not, byB_t (by omega)]
  refine Ev.loop (k := l.length) (fun k st => ∃ i : Nat, st = (((), l, (l.length : Int), (i : Int), ()), (l.take i).flatMap (fun x => encN x.toNat), ()) ∧ i + k = l.length ∧ ((l.take i).flatMap fun x => encN x.toNat).length ≤ 10 * i ∧ ∀ x ∈ l.take i, 0 ≤ x ∧ x ≤ 4611686018427387904) ?_ ⟨0, by simp, by omega, by simp, by simp⟩ (by omega)
  rintro k st again ⟨i, rfl, hk, hlen, hi⟩ ih
  unfold Write_17_L5
  dsimp only
  by_cases h : (i : Int) < l.length
  · have hin : i < l.length := by omega
    have hm := getD_mem (d := (0 : Int)) hin
    have hts := take_succ_getD (d := (0 : Int)) hin
    have hwf := wf64 (hw _ hm)
    rw [byB_t h, if_pos ⟨by omega, h⟩, Int.toNat_natCast]
    generalize l.getD i 0 = x at *
    refine Ev.dec (fun h1 => Ev.mk (.inr ⟨fun hk => ?_, rfl, rfl⟩)) fun h1 => ?_
    · have := hk x hm; omega
    by_cases h2 : ¬ x ≤ 4611686018427387904
    · rw [decide_eq_false h2, byB_not, byB_false]
      refine Ev.mk (.inr ⟨fun hk => ?_, rfl, rfl⟩)
      have := hk x hm; omega
    · rw [decide_eq_true (show x ≤ 4611686018427387904 by omega), byB_not, byB_true, wu64 (by omega) (by omega)]
      obtain ⟨n, rfl⟩ : ∃ n : Nat, x = n := ⟨x.toNat, by omega⟩
      have hen := enc_len (n := n) (by omega)
      refine w10 (by omega) (by omega) (by omega) ?_
      rw [w64 (by omega) (by omega)]
      refine ih (k - 1) _ (by omega) ⟨i + 1, ?_, by omega, ?_, fun y hy => ?_⟩
      · rw [hts, List.flatMap_append]; simp
      · rw [hts, List.flatMap_append, List.length_append]
        simp only [List.flatMap_cons, List.flatMap_nil, List.append_nil, Int.toNat_natCast]
        have : (encN n).length = (enc1 n).length := by unfold encN; rw [List.length_map]
        omega
      · rw [hts, List.mem_append, List.mem_singleton] at hy
        rcases hy with hy | rfl
        · exact hi y hy
        · omega
  · rw [byB_f h]
    rw [List.take_of_length_le (by omega)] at hi ⊢
    exact Ev.mk (.inl ⟨hi, rfl, bytes_enc l⟩)
end Go.Proofs.YtcdnofemnpafhaaC
