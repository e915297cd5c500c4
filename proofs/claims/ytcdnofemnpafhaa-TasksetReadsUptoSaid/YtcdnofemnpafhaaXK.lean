/- What the document's Read tells: the same as the program's. Conditions: as each theorem states them. -/
import Derived.Test.YtcdnofemnpafhaaXF
namespace Go.Proofs.YtcdnofemnpafhaaC
open Go Go.Proofs.YtcdnofemnpafhaaM Go.Proofs.YtcdnofemnpafhaaX Go.Proofs.YtcdnofemnpafhaaL
set_option linter.unusedVariables false
set_option linter.unusedSimpArgs false

/-- What sevens of bits come to. -/
def val : List UInt8 → Nat
  | [] => 0
  | c :: t => c.toNat % 128 + 128 * val t
theorem val_app : ∀ (l : List UInt8) (c : UInt8), val (l ++ [c]) = val l + c.toNat % 128 * 128 ^ l.length
  | [], c => by simp [val]
  | a :: l, c => by
    have h := val_app l c
    rw [List.cons_append, val, val, h, List.length_cons, Nat.pow_succ, Nat.mul_add, Nat.add_assoc, ← Nat.mul_assoc, Nat.mul_comm 128 (c.toNat % 128), Nat.mul_comm (128 ^ l.length), Nat.mul_assoc]
theorem val_lt : ∀ l : List UInt8, val l < 128 ^ l.length
  | [] => by simp [val]
  | a :: l => by
    have h := val_lt l
    rw [val, List.length_cons, Nat.pow_succ]
    omega
theorem val9 {l : List UInt8} (h : l.length ≤ 9) : val l < 9223372036854775808 := by
  have h1 := val_lt l
  have h2 : (128 : Nat) ^ l.length ≤ 128 ^ 9 := Nat.pow_le_pow_right (by decide) h
  have h3 : (128 : Nat) ^ 9 = 9223372036854775808 := by decide
  omega
theorem one13 {s : ByteArray} {N m : Nat} (hm : m ≤ s.size) (h9 : m ≤ 9) (hN : m < N) {Q : _ → Prop}
    (h1 : val (s.data.toList.take m) ≤ 4611686018427387904 → Q ((((val (s.data.toList.take m) : Nat) : Int), (m : Int), 0, ()), ())) (h2 : 4611686018427387904 < val (s.data.toList.take m) → Q ((0, 0, 7, ()), ())) :
    Ev (loopN N (one_36_L13 N) ((s, (m : Int), 0, (m : Int) - 1, ()), ())) Q := by
  have hsl := size_len s
  have hlt : (s.data.toList.take m).length = m := by rw [List.length_take]; omega
  refine Ev.loop (k := m) (fun k st => ∃ q : Nat, st = ((s, (m : Int), ((val ((s.data.toList.take m).drop q) : Nat) : Int), (q : Int) - 1, ()), ()) ∧ k = q ∧ q ≤ m) ?_ ⟨m, by rw [List.drop_of_length_le (by omega)]; rfl, rfl, by omega⟩ hN
  rintro k st again ⟨q, rfl, hk, hq⟩ ih
  unfold one_36_L13
  dsimp only
  rw [byB_not]
  refine Ev.dec (fun hc => ?_) fun hc => ?_
  · have : q = 0 := by omega
    subst this
    rw [List.drop_zero, byB_not]
    refine Ev.dec (fun h3 => Ev.mk (h1 (by omega))) fun h3 => Ev.mk (h2 (by omega))
  · obtain ⟨p, rfl⟩ : ∃ p, q = p + 1 := ⟨q - 1, by omega⟩
    have em : ((p + 1 : Nat) : Int) - 1 = (p : Int) := by omega
    simp only [em]
    have qq : 0 ≤ (p : Int) ∧ ((p : Int)).toNat < s.size := ⟨by omega, by rw [Int.toNat_natCast]; omega⟩
    obtain ⟨b, hb1, hb2⟩ := byte_at (s := s) (c := p) (by omega)
    rw [dif_pos qq]
    simp only [hb2 qq]
    have hb := byte_lt b
    have hd : (s.data.toList.take m).drop p = b :: (s.data.toList.take m).drop (p + 1) := by
      rw [List.drop_take, hb1, show m - p = (m - (p + 1)) + 1 by omega, List.take_succ_cons, List.drop_take]
    have hv := val9 (l := (s.data.toList.take m).drop p) (by rw [List.length_drop]; omega)
    have hn := ih p ((s, (m : Int), ((val ((s.data.toList.take m).drop p) : Nat) : Int), (p : Int) - 1, ()), ()) (by omega) ⟨p, rfl, rfl, by omega⟩
    rw [hd, val] at hv hn
    generalize val ((s.data.toList.take m).drop (p + 1)) = v at hv hn ⊢
    have e1 : IntKind.wrap .i64 (128 * (v : Int)) = ((128 * v : Nat) : Int) := by rw [w64 (by omega) (by omega)]; omega
    have e2 : IntKind.wrap .i64 (Int.tmod ((b.toNat : Nat) : Int) 128) = ((b.toNat % 128 : Nat) : Int) := by rw [Int.tmod_eq_emod_of_nonneg (by omega), w64 (by omega) (by omega)]; rfl
    have e3 : IntKind.wrap .i64 (((128 * v : Nat) : Int) + ((b.toNat % 128 : Nat) : Int)) = ((b.toNat % 128 + 128 * v : Nat) : Int) := by rw [w64 (by omega) (by omega)]; omega
    have e4 : IntKind.wrap .i64 ((p : Int) - 1) = (p : Int) - 1 := w64 (by omega) (by omega)
    rw [e1, e2, e3, e4]
    exact hn
/-- One number, the document's way. -/
theorem one_at {s : ByteArray} {N : Nat} (hs : s.size < 140737488355328) (hN : s.size + 20 < N) {R : Nat × Nat × Nat} (hR : o1 s.data.toList 0 0 = R) :
    Ev (one_36 N ((s, ()), ())) fun y => (R.2.1 = 0 ∧ y = (((R.1 : Int), (R.2.2 : Int), 0, ()), ())) ∨ (R.2.1 ≠ 0 ∧ y = ((0, 0, (R.2.1 : Int), ()), ())) := by
  have hsl := size_len s
  unfold one_36
  dsimp only
  refine Ev.loop (k := s.size) (fun k st => ∃ j : Nat, st = ((s, (j : Int), ()), ()) ∧ k = s.size - j ∧ j ≤ s.size ∧ o1 (s.data.toList.drop j) j (val (s.data.toList.take j)) = (R.1, R.2.1, R.2.2)) ?_ ⟨0, rfl, rfl, by omega, hR⟩ (by omega)
  rintro k st again ⟨j, rfl, rfl, hj, ho⟩ ih
  obtain ⟨r1, r2, r3⟩ := R
  dsimp only at ho ⊢
  unfold one_36_L2
  dsimp only
  refine Ev.dec (fun h => ?_) fun h => ?_
  · have hlt : j < s.data.toList.length := by omega
    obtain ⟨b, hb1, hb2⟩ := byte_at hlt
    have q : 0 ≤ (j : Int) ∧ ((j : Int)).toNat < s.size := ⟨by omega, by rw [Int.toNat_natCast]; omega⟩
    rw [dif_pos q]
    simp only [hb2 q]
    rw [hb1, o1] at ho
    have hbl := byte_lt b
    have e1 : IntKind.wrap .i64 ((j : Int) + 1) = ((j + 1 : Nat) : Int) := by rw [w64 (by omega) (by omega)]; omega
    have e2 : IntKind.wrap .i64 (((j + 1 : Nat) : Int) - 1) = (j : Int) := by rw [w64 (by omega) (by omega)]; omega
    have ht : s.data.toList.take (j + 1) = s.data.toList.take j ++ [b] := by
      have h1 := List.drop_eq_getElem_cons hlt
      rw [hb1] at h1
      rw [List.take_succ_eq_append_getElem hlt, (List.cons.inj h1).1]
    have hv : val (s.data.toList.take (j + 1)) = val (s.data.toList.take j) + b.toNat % 128 * 128 ^ j := by
      rw [ht, val_app, List.length_take, Nat.min_eq_left (by omega)]
    simp only [e1, e2]
    rw [← hv] at ho
    rw [byB_not]
    refine Ev.dec (fun hc => ?_) fun hc => ?_
    · rw [if_pos (by omega)] at ho
      rw [byB_eqf (by omega), byB_not]
      have fin : ¬ (b.toNat = 0 ∧ 0 < j) → Ev (byB (!decide (((j + 1 : Nat) : Int) ≤ 9)) (some ((0, 0, 7, ()), ())) (loopN N (one_36_L13 N) ((s, ((j + 1 : Nat) : Int), 0, (j : Int), ()), ()))) fun y => (r2 = 0 ∧ y = (((r1 : Int), (r3 : Int), 0, ()), ())) ∨ (r2 ≠ 0 ∧ y = ((0, 0, (r2 : Int), ()), ())) := by
        intro hz
        rw [if_neg hz] at ho
        rw [byB_not]
        refine Ev.dec (fun h9 => ?_) fun h9 => ?_
        · have := one13 (s := s) (N := N) (m := j + 1) (by omega) (by omega) (by omega) (Q := fun y => (r2 = 0 ∧ y = (((r1 : Int), (r3 : Int), 0, ()), ())) ∨ (r2 ≠ 0 ∧ y = ((0, 0, (r2 : Int), ()), ()))) (fun h1 => ?_) (fun h1 => ?_)
          · rw [show ((j + 1 : Nat) : Int) - 1 = (j : Int) by omega] at this
            exact this
          · rw [if_neg (by omega)] at ho
            simp only [Prod.mk.injEq] at ho
            obtain ⟨rfl, rfl, rfl⟩ := ho
            exact .inl ⟨rfl, rfl⟩
          · rw [if_pos (.inr h1)] at ho
            simp only [Prod.mk.injEq] at ho
            obtain ⟨rfl, rfl, rfl⟩ := ho
            exact .inr ⟨by decide, rfl⟩
        · rw [if_pos (.inl (by omega))] at ho
          simp only [Prod.mk.injEq] at ho
          obtain ⟨rfl, rfl, rfl⟩ := ho
          exact Ev.mk (.inr ⟨by decide, rfl⟩)
      refine Ev.dec (fun h1 => fin (by omega)) fun h1 => ?_
      rw [dif_pos q]
      simp only [hb2 q]
      refine Ev.beq (fun h2 => ?_) fun h2 => fin (by omega)
      rw [if_pos (by omega)] at ho
      simp only [Prod.mk.injEq] at ho
      obtain ⟨rfl, rfl, rfl⟩ := ho
      exact Ev.mk (.inr ⟨by decide, rfl⟩)
    · rw [if_neg (by omega)] at ho
      exact ih (s.size - (j + 1)) _ (by omega) ⟨j + 1, rfl, rfl, by omega, ho⟩
  · rw [byB_eqt (by omega)]
    rw [List.drop_of_length_le (by omega)] at ho
    simp only [o1, Prod.mk.injEq] at ho
    obtain ⟨rfl, rfl, rfl⟩ := ho
    exact Ev.mk (.inr ⟨by decide, rfl⟩)
theorem o1_le : ∀ (l : List UInt8) (j u : Nat), (o1 l j u).2.2 ≤ j + l.length
  | [], j, u => by simp [o1]
  | c :: t, j, u => by
    rw [o1]
    have := o1_le t (j + 1) (u + c.toNat % 128 * 128 ^ j)
    rw [List.length_cons]
    split
    · split
      · dsimp only; omega
      · split <;> (dsimp only; omega)
    · omega
theorem rread_at {s : ByteArray} {N : Nat} (hs : s.size < 140737488355328) (hN : s.size + 20 < N) : Ev (Read_26v1 N ((s, ()), ())) fun y => y = (((ReadS s.data.toList).1, (ReadS s.data.toList).2, ()), ()) := by
  have hsl := size_len s
  unfold Read_26v1
  dsimp only
  refine Ev.loop (k := s.size) (fun k st => ∃ (t : ByteArray) (out : List Int) (m : Nat), st = ((t, (), ()), out, ()) ∧ k = t.size ∧ t.size ≤ s.size ∧ out.length ≤ 2000 ∧ t.size < m ∧ readS m t.data.toList out = ReadS s.data.toList) ?_
    ⟨s, [], s.data.toList.length + 1, rfl, rfl, by omega, by simp, by omega, rfl⟩ (by omega)
  rintro k st again ⟨t, out, m, rfl, rfl, hat, hout, hm, hr⟩ ih
  obtain ⟨m, rfl⟩ : ∃ m', m = m' + 1 := ⟨m - 1, by omega⟩
  have htl := size_len t
  rw [readS] at hr
  unfold Read_26v1_L2
  dsimp only
  rw [byB_not, str_eq]
  refine Ev.dec (fun h => ?_) fun h => ?_
  · rw [h] at hr
    rw [← hr]
    exact Ev.mk rfl
  · have h0 : t.data.toList.length ≠ 0 := fun h0 => h (ext_list (List.eq_nil_of_length_eq_zero h0))
    rw [if_neg h0] at hr
    refine Ev.bind (one_at (s := t) (by omega) (by omega) rfl) fun y hy => ?_
    have hcnt := o1_dec.o1_count' t.data.toList 0 0
    have hlen := o1_le t.data.toList 0 0
    generalize o1 t.data.toList 0 0 = R at hr hy hcnt hlen
    rcases hy with ⟨h1, rfl⟩ | ⟨h1, rfl⟩
    · dsimp only at hr ⊢
      have h2 := hcnt h1
      rw [if_neg (by omega)] at hr
      rw [byB_eqt rfl]
      by_cases h3 : out.length = 2000
      · rw [if_pos h3] at hr
        rw [byB_eqt (by omega), ← hr]
        exact Ev.mk rfl
      · rw [if_neg h3] at hr
        rw [byB_eqf (by omega), byB_nef rfl, if_pos (by omega), if_pos ⟨by omega, by omega, by omega⟩, Int.toNat_natCast]
        have hx : (t.extract R.2.2 t.size).data.toList = t.data.toList.drop R.2.2 := by
          rw [ByteArray.data_extract]
          simp [List.extract, List.take_of_length_le]
        have hxl : (t.extract R.2.2 t.size).size = t.size - R.2.2 := by rw [size_len, hx, List.length_drop, ← htl]
        refine ih (t.size - R.2.2) _ (by omega) ⟨t.extract R.2.2 t.size, out ++ [(R.1 : Int)], m, rfl, by omega, by omega, by simp; omega, by omega, ?_⟩
        rw [hx]
        exact hr
    · dsimp only at hr ⊢
      rw [if_pos h1] at hr
      rw [byB_eqf (by omega), byB_net (by omega), ← hr]
      exact Ev.mk rfl
end Go.Proofs.YtcdnofemnpafhaaC
