/- The law BitsCounts, with no program in sight. Conditions: none. -/
import Derived.Test.YteohpijdidlaeaaDoorXBits3
namespace Go.Proofs.YteohpijdidlaeaaDoor
open Go Go.Proofs.YteohpijdidlaeaaDoorM Go.Proofs.YteohpijdidlaeaaDoorX Go.Proofs.YteohpijdidlaeaaDoorL
theorem counts_end (N : Nat) (hN : N = 600) {s : Nat → Nat} (hs : OK s) (i : Nat) (hi : i < 256) (t27 : Bool) (n : Int) (hn : n = ((cnt (mem s) 256 + (!(mem s i)).toNat : Nat) : Int)) :
    Ev (BitsCounts_7_J9 N (((i : Int), t27, true, (), (), n, ()), tw s, tw (withB s i), ())) fun r => r = ((true, ()), ()) := by
  subst hN
  unfold BitsCounts_7_J9
  dsimp only
  rw [byB_true]
  refine Ev.bind (count_eq _ (withB_ok hs i) (by omega)) ?_
  rintro r rfl
  have hc := cnt_set (f := mem s) (g := mem (withB s i)) hi fun j _ => withB_mem s i j
  have hd := cnt_drop (f := mem s) (g := mem (without s i)) hi fun j _ => without_mem s i j
  have hl := cnt_le (mem s) 256
  rw [hc, ← hn, byB_eqt rfl, has_in _ (withB_ok hs i) i hi, bnd, withB_mem, decide_eq_true rfl, Bool.or_true, byB_true]
  refine Ev.bind (first_eq _ (withB_ok hs i) (by omega)) ?_
  rintro r ⟨m, rfl, hm⟩
  dsimp only
  have hmi : m ≤ i := by
    rcases hm with ⟨rfl, _⟩ | ⟨k, rfl, _, hk, hmk, hn'⟩
    · omega
    · by_cases h : k ≤ i
      · omega
      · have := hn' i (by omega) (by omega)
        rw [withB_mem] at this
        simp at this
  rw [byB_t hmi]
  have last : ∀ (m' : Int), Ev ((Without_19 600 ((tw s, (i : Int), ()), ())).bind fun y52 =>
      (Count_17 600 (((y52.1.1.1, y52.1.1.2.1, y52.1.1.2.2.1, y52.1.1.2.2.2.1, ()), ()), ())).bind fun y53 =>
        some ((y53.1.1 == (IntKind.wrap .i64 (n - 1)), ()), ())) fun r => r = ((true, ()), ()) := by
    intro m'
    rw [without_in _ hs i hi, bnd]
    refine Ev.bind (count_eq _ (without_ok hs i) (by omega)) ?_
    rintro r rfl
    have e : IntKind.wrap .i64 (n - 1) = ((cnt (mem (without s i)) 256 : Nat) : Int) := by
      cases hmi2 : mem s i with
      | true =>
        rw [hmi2] at hn hd
        simp only [Bool.not_true, Bool.toNat_false, Bool.toNat_true, Nat.add_zero] at hn hd
        rw [w64 (by omega) (by omega)]; omega
      | false =>
        rw [hmi2] at hn hd
        simp only [Bool.not_false, Bool.toNat_false, Bool.toNat_true, Nat.add_zero] at hn hd
        rw [w64 (by omega) (by omega)]; omega
    rw [e]
    exact Ev.mk (by simp)
  refine Ev.bind (first_eq _ hs (by omega)) ?_
  rintro r ⟨m', rfl, hm'⟩
  dsimp only
  refine Ev.beq (fun _ => last 0) fun hne => ?_
  refine Ev.bind (first_eq _ (withB_ok hs i) (by omega)) ?_
  rintro r ⟨m2, rfl, hm2⟩
  refine Ev.bind (first_eq _ hs (by omega)) ?_
  rintro r ⟨m3, rfl, hm3⟩
  dsimp only
  have h23 : m2 ≤ m3 := by
    rw [← hm3.uniq hm'] at hne
    rcases hm3 with ⟨rfl, _⟩ | ⟨k, rfl, _, hk, hmk, hn3⟩
    · exact absurd rfl hne
    · rcases hm2 with ⟨rfl, _⟩ | ⟨k2, rfl, _, hk2, hmk2, hn2⟩
      · omega
      · by_cases h : k2 ≤ k
        · omega
        · have := hn2 k (by omega) (by omega)
          rw [withB_mem, hmk] at this
          simp at this
  rw [byB_t h23]
  exact last 0
theorem Pure.BitsCounts (y0 : Int × Int × Int × Int) (y1 : Int) (gy0 : ((Lit.int .u64 y0.1).wf = true ∧ ((Lit.int .u64 y0.2.1).wf = true ∧ ((Lit.int .u64 y0.2.2.1).wf = true ∧ (Lit.int .u64 y0.2.2.2).wf = true)))) (gy1 : (Lit.int .i64 y1).wf = true) : ∃ N, BitsCounts_7 N (((y0.1, y0.2.1, y0.2.2.1, y0.2.2.2, ()), y1, ()), ()) = some ((true, ()), ()) := by
  obtain ⟨s, hs, e⟩ := words_of y0 gy0
  rw [e]
  have g1 := wf64 gy1
  refine ⟨600, Ev.eq (Q := fun r => r = ((true, ()), ())) ?_ fun _ h => h⟩
  unfold BitsCounts_7
  dsimp only
  rw [ex_eq (by omega), bnd]
  dsimp only
  by_cases hi : 0 ≤ y1 ∧ y1 < 256
  · obtain ⟨i, rfl⟩ : ∃ i : Nat, y1 = i := ⟨y1.toNat, by omega⟩
    have hi' : i < 256 := by omega
    rw [with_in _ hs i hi', bnd, join_eq, byB_f (by omega), decide_eq_false (show ¬ (i : Int) > 255 by omega)]
    unfold BitsCounts_7_J5
    dsimp only
    rw [byB_false]
    refine Ev.bind (count_eq _ hs (by omega)) ?_
    rintro r rfl
    rw [join_eq, has_in _ hs i hi', bnd]
    dsimp only
    have hl := cnt_le (mem s) 256
    cases hmi : mem s i with
    | false =>
      rw [byB_not, byB_false]
      refine counts_end 600 rfl hs i hi' _ _ ?_
      rw [hmi, w64 (by omega) (by omega)]
      simp
    | true =>
      rw [byB_not, byB_true]
      refine counts_end 600 rfl hs i hi' _ _ ?_
      rw [hmi]
      simp
  · rw [with_out _ s hi, bnd, join_eq]
    dsimp only
    have hx := eq_tw' (s := s) (t := s) rfl
    by_cases h0 : y1 < 0
    · rw [byB_t h0]
      unfold BitsCounts_7_J5
      dsimp only
      rw [byB_true, byB_true, hx]
      exact Ev.mk rfl
    · rw [byB_f h0, decide_eq_true (show y1 > 255 by omega)]
      unfold BitsCounts_7_J5
      dsimp only
      rw [byB_true, byB_true, hx]
      exact Ev.mk rfl
end Go.Proofs.YteohpijdidlaeaaDoor
