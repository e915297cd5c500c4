/- What Read tells, by its text; written numbers cut at a byte. Conditions: as each theorem states them. -/
import Derived.Test.YtcdnofemnpafhaaXW
namespace Go.Proofs.YtcdnofemnpafhaaC
open Go Go.Proofs.YtcdnofemnpafhaaM Go.Proofs.YtcdnofemnpafhaaX Go.Proofs.YtcdnofemnpafhaaL
set_option linter.unusedVariables false
set_option linter.unusedSimpArgs false

theorem o1_far : ∀ (l : List UInt8) (j u v : Nat), 9 ≤ j → o1 l j u = o1 l j v
  | [], j, u, v, _ => rfl
  | c :: t, j, u, v, h => by
    rw [o1, o1]
    by_cases hc : c.toNat < 128
    · rw [if_pos hc, if_pos hc]
      by_cases hz : c.toNat = 0 ∧ 0 < j
      · rw [if_pos hz, if_pos hz]
      · rw [if_neg hz, if_neg hz, if_pos (.inl h), if_pos (.inl h)]
    · rw [if_neg hc, if_neg hc]
      exact o1_far t (j + 1) _ _ (by omega)
theorem and_127u8 : ∀ b : Fin 256, IntKind.wrap .u8 (BitVec.ofInt (IntKind.bits .u8) ((b.1 : Nat) : Int) &&& BitVec.ofInt (IntKind.bits .u8) 127).toNat = ((b.1 % 128 : Nat) : Int) := by decide +kernel
theorem or_shift {u b j : Nat} (hj : j < 9) (hu : u < 128 ^ j) (hb : b < 128) :
    IntKind.wrap .u64 (BitVec.ofInt (IntKind.bits .u64) (u : Int) ||| BitVec.ofInt (IntKind.bits .u64) (IntKind.wrap .u64 ((IntKind.wrap .u64 (b : Int)) * 2 ^ (min ((7 * j : Nat) : Int).toNat (IntKind.bits .u64))))).toNat = ((u + b * 128 ^ j : Nat) : Int) := by
  have e1 : IntKind.wrap .u64 (b : Int) = (b : Int) := wu64 (by omega) (by omega)
  have hp : (128 : Nat) ^ j ≤ 128 ^ 8 := Nat.pow_le_pow_right (by decide) (by omega)
  have h8 : (128 : Nat) ^ 8 = 72057594037927936 := by decide
  have e2 : (128 : Nat) ^ j = 2 ^ (7 * j) := by rw [Nat.pow_mul]
  have hlt : b * 128 ^ j ≤ 127 * 72057594037927936 := Nat.mul_le_mul (by omega) (by omega)
  have e3 : IntKind.wrap .u64 ((b : Int) * 2 ^ (min ((7 * j : Nat) : Int).toNat (IntKind.bits .u64))) = ((b * 128 ^ j : Nat) : Int) := by
    rw [Int.toNat_natCast, show min (7 * j) (IntKind.bits .u64) = 7 * j from Nat.min_eq_left (by show 7 * j ≤ 64; omega), e2]
    rw [show (2 : Int) ^ (7 * j) = ((2 ^ (7 * j) : Nat) : Int) by simp, ← Int.natCast_mul, ← e2]
    exact wu64 (by omega) (by omega)
  rw [e1, e3, BitVec.or_comm]
  have := or_at (x := ((b * 128 ^ j : Nat) : Int)) (y := (u : Int)) (7 * j) (by omega) (by omega) (by
    rw [e2, show (2 : Int) ^ (7 * j) = ((2 ^ (7 * j) : Nat) : Int) by simp, ← Int.natCast_emod, Nat.mul_mod_left]; rfl) (by omega) (by
    rw [show (2 : Int) ^ (7 * j) = ((2 ^ (7 * j) : Nat) : Int) by simp, ← e2]; exact Int.ofNat_lt.2 hu) (by omega)
  rw [this]
  omega
theorem byte_at {s : ByteArray} {c : Nat} (h : c < s.data.toList.length) : ∃ b : UInt8, s.data.toList.drop c = b :: s.data.toList.drop (c + 1) ∧ ∀ (q : 0 ≤ (c : Int) ∧ ((c : Int)).toNat < s.size), s[((c : Int)).toNat]'q.2 = b := by
  refine ⟨s.data.toList[c], List.drop_eq_getElem_cons h, fun q => ?_⟩
  rfl
theorem size_len (s : ByteArray) : s.size = s.data.toList.length := rfl

/-- One number. -/
theorem read1 {s : ByteArray} {N at' : Nat} (hs : s.size < 140737488355328) (hN : s.size < N) (hat : at' < s.size) {R : Nat × Nat × Nat} (hR : o1 (s.data.toList.drop at') 0 0 = R) :
    Ev (reader1_37 N (((), (), ()), ((at' : Int), ()), (s, ()), ())) fun y => (R.2.1 = 0 ∧ y = (((R.1 : Int), true, 0, ()), (((at' + R.2.2 : Nat) : Int), ()), (s, ()), ())) ∨ (R.2.1 ≠ 0 ∧ ∃ c, y = ((0, false, (R.2.1 : Int), ()), (c, ()), (s, ()), ())) := by
  have hsl := size_len s
  unfold reader1_37
  dsimp only
  rw [byB_eqf (by omega)]
  refine Ev.loop (k := s.size - at') (fun k st => ∃ (j : Nat) (u U : Nat), st = (((), (), (u : Int), ((7 * j : Nat) : Int), (at' : Int), ()), (((at' + j : Nat) : Int), ()), (s, ()), ()) ∧ k = s.size - (at' + j) ∧ at' + j ≤ s.size ∧ u < 18446744073709551616 ∧ o1 (s.data.toList.drop (at' + j)) j U = (R.1, R.2.1, R.2.2) ∧ (j ≤ 9 → u = U ∧ U < 128 ^ j)) ?_
    ⟨0, 0, 0, rfl, rfl, by omega, by omega, hR, fun _ => ⟨rfl, by decide⟩⟩ (by omega)
  rintro k st again ⟨j, u, U, rfl, rfl, hj, hu, ho, hU⟩ ih
  obtain ⟨r1, r2, r3⟩ := R
  dsimp only at ho ⊢
  unfold reader1_37_L6
  dsimp only
  refine Ev.beq (fun h => ?_) fun h => ?_
  · rw [List.drop_of_length_le (by omega)] at ho
    simp only [o1, Prod.mk.injEq] at ho
    obtain ⟨rfl, rfl, rfl⟩ := ho
    exact Ev.mk (.inr ⟨by decide, _, rfl⟩)
  · have hlt : at' + j < s.data.toList.length := by omega
    obtain ⟨b, hb1, hb2⟩ := byte_at hlt
    have q : 0 ≤ ((at' + j : Nat) : Int) ∧ (((at' + j : Nat) : Int)).toNat < s.size := ⟨by omega, by rw [Int.toNat_natCast]; omega⟩
    rw [dif_pos q]
    simp only [hb2 q]
    rw [hb1, o1] at ho
    have hbl := byte_lt b
    have e1 : IntKind.wrap .i64 (((at' + j : Nat) : Int) + 1) = ((at' + (j + 1) : Nat) : Int) := by rw [w64 (by omega) (by omega)]; omega
    have e2 : IntKind.wrap .u64 (((7 * j : Nat) : Int) + 7) = ((7 * (j + 1) : Nat) : Int) := by rw [wu64 (by omega) (by omega)]; omega
    have e3 : IntKind.wrap .i64 (((at' + (j + 1) : Nat) : Int) - (at' : Int)) = ((j + 1 : Nat) : Int) := by rw [w64 (by omega) (by omega)]; omega
    have e4 := and_127u8 ⟨b.toNat, hbl⟩
    dsimp only at e4
    simp only [e1, e2, e3, e4]
    -- what is made of the byte
    have fin : ∀ (v : Nat), v < 18446744073709551616 → (j ≤ 8 → v = U + b.toNat % 128 * 128 ^ j) →
        Ev (byB (decide ((b.toNat : Int) < 128))
          (byB ((b.toNat : Int) == 0)
            (byB (!decide (((j + 1 : Nat) : Int) ≤ 1))
              (some ((0, false, 8, ()), (((at' + (j + 1) : Nat) : Int), ()), (s, ()), ()))
              (byB (!decide (((7 * j : Nat) : Int) < 63))
                (some ((0, false, 7, ()), (((at' + (j + 1) : Nat) : Int), ()), (s, ()), ()))
                (byB (!decide ((v : Int) ≤ 4611686018427387904))
                  (some ((0, false, 7, ()), (((at' + (j + 1) : Nat) : Int), ()), (s, ()), ()))
                  (some ((IntKind.wrap .i64 (v : Int), true, 0, ()), (((at' + (j + 1) : Nat) : Int), ()), (s, ()), ())))))
            (byB (!decide (((7 * j : Nat) : Int) < 63))
              (some ((0, false, 7, ()), (((at' + (j + 1) : Nat) : Int), ()), (s, ()), ()))
              (byB (!decide ((v : Int) ≤ 4611686018427387904))
                (some ((0, false, 7, ()), (((at' + (j + 1) : Nat) : Int), ()), (s, ()), ()))
                (some ((IntKind.wrap .i64 (v : Int), true, 0, ()), (((at' + (j + 1) : Nat) : Int), ()), (s, ()), ())))))
          (again (((), (), (v : Int), ((7 * (j + 1) : Nat) : Int), (at' : Int), ()), (((at' + (j + 1) : Nat) : Int), ()), (s, ()), ())))
          fun y => (r2 = 0 ∧ y = (((r1 : Int), true, 0, ()), (((at' + r3 : Nat) : Int), ()), (s, ()), ())) ∨ (r2 ≠ 0 ∧ ∃ c, y = ((0, false, (r2 : Int), ()), (c, ()), (s, ()), ())) := by
      intro v hv hvU
      have tail : (¬ (b.toNat = 0 ∧ 0 < j)) → b.toNat < 128 → Ev (byB (!decide (((7 * j : Nat) : Int) < 63))
              (some ((0, false, 7, ()), (((at' + (j + 1) : Nat) : Int), ()), (s, ()), ()))
              (byB (!decide ((v : Int) ≤ 4611686018427387904))
                (some ((0, false, 7, ()), (((at' + (j + 1) : Nat) : Int), ()), (s, ()), ()))
                (some ((IntKind.wrap .i64 (v : Int), true, 0, ()), (((at' + (j + 1) : Nat) : Int), ()), (s, ()), ()))))
          fun y => (r2 = 0 ∧ y = (((r1 : Int), true, 0, ()), (((at' + r3 : Nat) : Int), ()), (s, ()), ())) ∨ (r2 ≠ 0 ∧ ∃ c, y = ((0, false, (r2 : Int), ()), (c, ()), (s, ()), ())) := by
        intro hz hc
        rw [if_pos hc, if_neg hz] at ho
        rw [byB_not]
        by_cases h9 : 9 ≤ j
        · rw [if_pos (.inl h9)] at ho
          simp only [Prod.mk.injEq] at ho
          obtain ⟨rfl, rfl, rfl⟩ := ho
          rw [byB_f (by omega)]
          exact Ev.mk (.inr ⟨by decide, _, rfl⟩)
        · rw [byB_t (by omega), byB_not]
          rw [← hvU (by omega)] at ho
          by_cases hbig : 4611686018427387904 < v
          · rw [if_pos (.inr hbig)] at ho
            simp only [Prod.mk.injEq] at ho
            obtain ⟨rfl, rfl, rfl⟩ := ho
            rw [byB_f (by omega)]
            exact Ev.mk (.inr ⟨by decide, _, rfl⟩)
          · rw [if_neg (by omega)] at ho
            simp only [Prod.mk.injEq] at ho
            obtain ⟨rfl, rfl, rfl⟩ := ho
            rw [byB_t (by omega), w64 (by omega) (by omega)]
            exact Ev.mk (.inl ⟨rfl, rfl⟩)
      by_cases hc : b.toNat < 128
      · rw [byB_t (by omega)]
        by_cases hz0 : b.toNat = 0
        · rw [byB_eqt (by omega), byB_not]
          by_cases hj0 : 0 < j
          · rw [byB_f (by omega)]
            rw [if_pos hc, if_pos ⟨hz0, hj0⟩] at ho
            simp only [Prod.mk.injEq] at ho
            obtain ⟨rfl, rfl, rfl⟩ := ho
            exact Ev.mk (.inr ⟨by decide, _, rfl⟩)
          · rw [byB_t (by omega)]
            exact tail (by omega) hc
        · rw [byB_eqf (by omega)]
          exact tail (by omega) hc
      · rw [byB_f (by omega)]
        rw [if_neg hc] at ho
        refine ih (s.size - (at' + (j + 1))) _ (by omega) ⟨j + 1, v, if j ≤ 8 then v else U + b.toNat % 128 * 128 ^ j, rfl, rfl, by omega, hv, ?_, fun hj9 => ?_⟩
        · by_cases h8 : j ≤ 8
          · rw [if_pos h8, hvU h8, show at' + (j + 1) = at' + j + 1 by omega]; exact ho
          · rw [if_neg h8, show at' + (j + 1) = at' + j + 1 by omega]; exact ho
        · rw [if_pos (by omega)]
          refine ⟨rfl, ?_⟩
          rw [hvU (by omega), Nat.pow_succ]
          have hU1 := (hU (by omega)).2
          have : b.toNat % 128 * 128 ^ j ≤ 127 * 128 ^ j := Nat.mul_le_mul_right _ (by omega)
          omega
    by_cases h9 : j < 9
    · rw [byB_t (by omega), if_neg (by omega)]
      obtain ⟨rfl, hU2⟩ := hU (by omega)
      rw [or_shift h9 hU2 (by omega)]
      refine fin _ ?_ fun _ => rfl
      have hp : (128 : Nat) ^ j ≤ 128 ^ 8 := Nat.pow_le_pow_right (by decide) (by omega)
      have h8 : (128 : Nat) ^ 8 = 72057594037927936 := by decide
      have : b.toNat % 128 * 128 ^ j ≤ 127 * 72057594037927936 := Nat.mul_le_mul (by omega) (by omega)
      omega
    · rw [byB_f (by omega)]
      exact fin u hu fun h => by omega

/-- All numbers. -/
theorem read_at {s : ByteArray} {N : Nat} (hs : s.size < 140737488355328) (hN : s.size + 1 < N) : Ev (Read_16v1 N ((s, ()), ())) fun y => y = (((ReadS s.data.toList).1, (ReadS s.data.toList).2, ()), ()) := by
  have hsl := size_len s
  unfold Read_16v1
  dsimp only
  unfold reader_33
  dsimp only
  rw [bnd]
  refine Ev.loop (k := s.size) (fun k st => ∃ (at' : Nat) (out : List Int) (m : Nat), st = (((), (), ()), ((), (), (), ()), out, ((at' : Int), ()), (s, ()), ()) ∧ k = s.size - at' ∧ at' ≤ s.size ∧ out.length ≤ 2000 ∧ s.size - at' < m ∧ readS m (s.data.toList.drop at') out = ReadS s.data.toList) ?_
    ⟨0, [], s.data.toList.length + 1, rfl, rfl, by omega, by simp, by omega, rfl⟩ (by omega)
  rintro k st again ⟨at', out, m, rfl, rfl, hat, hout, hm, hr⟩ ih
  obtain ⟨m, rfl⟩ : ∃ m', m = m' + 1 := ⟨m - 1, by omega⟩
  rw [readS] at hr
  unfold Read_16v1_L3
  dsimp only
  by_cases h0 : at' = s.size
  · rw [if_pos (by rw [List.length_drop]; omega)] at hr
    have e : reader1_37 N (((), (), ()), ((at' : Int), ()), (s, ()), ()) = some ((0, false, 0, ()), ((at' : Int), ()), (s, ()), ()) := by
      unfold reader1_37
      dsimp only
      rw [byB_eqt (by omega)]
    rw [e, bnd, ← hr]
    exact Ev.mk rfl
  · rw [if_neg (by rw [List.length_drop]; omega)] at hr
    refine Ev.bind (read1 hs (by omega) (show at' < s.size by omega) rfl) fun y hy => ?_
    have hcnt := o1_dec.o1_count' (s.data.toList.drop at') 0 0
    have hlen := o1_le (s.data.toList.drop at') 0 0
    rw [List.length_drop] at hlen
    generalize o1 (s.data.toList.drop at') 0 0 = R at hr hy hcnt hlen
    rcases hy with ⟨h1, rfl⟩ | ⟨h1, c, rfl⟩
    · dsimp only at hr ⊢
      have h2 := hcnt h1
      rw [if_neg (by omega)] at hr
      rw [byB_eqt rfl, byB_true]
      by_cases h3 : out.length = 2000
      · rw [if_pos h3] at hr
        rw [byB_eqt (by omega), ← hr]
        exact Ev.mk rfl
      · rw [if_neg h3] at hr
        rw [byB_eqf (by omega), byB_nef rfl, byB_not, byB_true, if_pos (by omega)]
        refine ih (s.size - (at' + R.2.2)) _ (by omega) ⟨at' + R.2.2, out ++ [(R.1 : Int)], m, rfl, rfl, by omega, by simp; omega, by omega, ?_⟩
        rw [← List.drop_drop]
        exact hr
    · dsimp only at hr ⊢
      rw [if_pos h1] at hr
      rw [byB_eqf (by omega), byB_net (by omega), ← hr]
      exact Ev.mk rfl
where
  o1_le : ∀ (l : List UInt8) (j u : Nat), (o1 l j u).2.2 ≤ j + l.length
  | [], j, u => by simp [o1]
  | c :: t, j, u => by
    rw [o1]
    have := o1_le t (j + 1) (u + c.toNat % 128 * 128 ^ j)
    rw [List.length_cons]
    split
    · split
      · dsimp only; omega
      · split <;> (dsimp only; omega)
    · omega

/-! Written numbers, cut at a byte -/
theorem encB_cut (n : Nat) : ∀ (c j u : Nat), 0 < c → c < (encB n).length → (o1 ((encB n).take c) j u).2.1 = 6 ∧ 128 ≤ ((encB n).getD (c - 1) 0).toNat := by
  induction n using Nat.strongRecOn with
  | ind n ih =>
    intro c j u h0 hc
    by_cases hn : n < 128
    · rw [encB_small hn] at hc
      simp at hc
      omega
    · rw [encB_big hn] at hc ⊢
      obtain ⟨c, rfl⟩ : ∃ c', c = c' + 1 := ⟨c - 1, by omega⟩
      rw [List.take_succ_cons, o1, byte_of (by omega), if_neg (by omega)]
      by_cases hc0 : c = 0
      · subst hc0
        refine ⟨rfl, ?_⟩
        show 128 ≤ (UInt8.ofNat (n % 128 + 128)).toNat
        rw [byte_of (by omega)]
        omega
      · rw [List.length_cons] at hc
        obtain ⟨h1, h2⟩ := ih (n / 128) (by omega) c (j + 1) (u + (n % 128 + 128) % 128 * 128 ^ j) (by omega) (by omega)
        refine ⟨h1, ?_⟩
        obtain ⟨d, rfl⟩ : ∃ d, c = d + 1 := ⟨c - 1, by omega⟩
        exact h2
theorem encB_last (n : Nat) : ((encB n).getD ((encB n).length - 1) 0).toNat < 128 := by
  induction n using Nat.strongRecOn with
  | ind n ih =>
    by_cases hn : n < 128
    · rw [encB_small hn]
      show (UInt8.ofNat n).toNat < 128
      rw [byte_of (by omega)]
      exact hn
    · have h := ih (n / 128) (by omega)
      rw [encB_big hn, List.length_cons]
      have hp : 0 < (encB (n / 128)).length := by rw [encB_len]; exact enc1_pos _
      obtain ⟨d, hd⟩ : ∃ d, (encB (n / 128)).length = d + 1 := ⟨(encB (n / 128)).length - 1, by omega⟩
      rw [hd] at h ⊢
      exact h
theorem cut_read : ∀ (a : List Int) (c k : Nat) (out : List Int), okL a → out.length + a.length ≤ 2000 → c ≤ (encL a).length → c < k →
    (∃ r, readS k ((encL a).take c) out = (r, 0) ∧ r.length ≤ out.length + a.length ∧ (0 < c → ((encL a).getD (c - 1) 0).toNat < 128)) ∨ (readS k ((encL a).take c) out = ([], 6) ∧ 0 < c ∧ 128 ≤ ((encL a).getD (c - 1) 0).toNat)
  | a, 0, k, out, _, ho, _, hk => by
    obtain ⟨k, rfl⟩ : ∃ k', k = k' + 1 := ⟨k - 1, by omega⟩
    refine .inl ⟨out, ?_, by omega, fun h => by omega⟩
    rw [readS]
    simp
  | [], c + 1, k, out, _, _, hc, _ => by simp [encL] at hc
  | x :: t, c + 1, k, out, h, ho, hc, hk => by
    obtain ⟨k, rfl⟩ : ∃ k', k = k' + 1 := ⟨k - 1, by omega⟩
    have hx := h x List.mem_cons_self
    have hpos := enc1_pos x.toNat
    have hlen := encB_len x.toNat
    have e : encL (x :: t) = encB x.toNat ++ encL t := by rw [encL, List.flatMap_cons, ← encL]
    rw [List.length_cons] at ho
    rw [e] at hc ⊢
    rw [List.length_append] at hc
    rw [readS, if_neg (by rw [List.length_take, List.length_append]; omega)]
    by_cases hcx : c + 1 < (encB x.toNat).length
    · obtain ⟨h1, h2⟩ := encB_cut x.toNat (c + 1) 0 0 (by omega) hcx
      rw [List.take_append_of_le_length (by omega)]
      refine .inr ⟨?_, by omega, ?_⟩
      · dsimp only
        rw [h1, if_pos (by decide)]
        rfl
      · rw [getD_app_l (by omega)]
        exact h2
    · obtain ⟨m, hm⟩ : ∃ m, (enc1 x.toNat).length = m + 1 := ⟨(enc1 x.toNat).length - 1, by omega⟩
      rw [List.take_append, List.take_of_length_le (by omega)]
      have ho1 := o1_enc m x.toNat hm ((encL t).take (c + 1 - (encB x.toNat).length)) 0 0 (.inr rfl) (by simp; omega)
      rw [ho1]
      simp only [ne_eq, not_true_eq_false, if_false, Nat.zero_add, Nat.pow_zero, Nat.mul_one]
      rw [if_neg (by omega), List.drop_left' (by omega)]
      have hz : ((x.toNat : Nat) : Int) = x := by omega
      rw [hz]
      have ih := cut_read t (c + 1 - (encB x.toNat).length) k (out ++ [x]) (fun y hy => h y (List.mem_cons_of_mem _ hy)) (by simp; omega) (by omega) (by omega)
      rw [List.length_append, List.length_singleton] at ih
      by_cases hc0 : c + 1 = (encB x.toNat).length
      · have hl := encB_last x.toNat
        rcases ih with ⟨r, h1, h2, _⟩ | ⟨_, h2, _⟩
        · refine .inl ⟨r, h1, by rw [List.length_cons]; omega, fun _ => ?_⟩
          rw [getD_app_l (by omega), show c + 1 - 1 = (encB x.toNat).length - 1 by omega]
          exact hl
        · omega
      · have eg : (encB x.toNat ++ encL t).getD (c + 1 - 1) 0 = (encL t).getD (c + 1 - (encB x.toNat).length - 1) 0 := by
          rw [getD_app_r (by omega)]
          congr 1
          omega
        rw [eg]
        rcases ih with ⟨r, h1, h2, h3⟩ | ⟨h1, h2, h3⟩
        · exact .inl ⟨r, h1, by rw [List.length_cons]; omega, fun _ => h3 (by omega)⟩
        · exact .inr ⟨h1, by omega, h3⟩
end Go.Proofs.YtcdnofemnpafhaaC
