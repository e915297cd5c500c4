/- The law BitsTells, with no program in sight. Conditions: none. -/
import Derived.Test.YteohpijdidlaeaaDoorXBits3
namespace Go.Proofs.YteohpijdidlaeaaDoor
open Go Go.Proofs.YteohpijdidlaeaaDoorM Go.Proofs.YteohpijdidlaeaaDoorX Go.Proofs.YteohpijdidlaeaaDoorL
theorem tells_end {s : Nat → Nat} (hs : OK s) (l : List Bool) (hl : l.length = 256) (hm : ∀ i, i < 256 → l.getD i false = mem s i) (i : Int) (h0 : -9223372036854775808 ≤ i) (h1 : i ≤ 9223372036854775807) (b : Bool) (hb : Has_16 600 ((tw s, i, ()), ()) = some ((b, ()), ())) :
    Ev (BitsTells_8_J16 600 ((i, true, (), (), ((cnt (mem s) 256 : Nat) : Int), (), b, ()), tw s, l, mlist (mem s) 256, ())) fun r => r = ((true, ()), ()) := by
  unfold BitsTells_8_J16
  dsimp only
  rw [byB_true, hb, bnd]
  dsimp only
  rw [show (b == b) = true by cases b <;> rfl, byB_true]
  refine Ev.bind (first_eq _ hs (by omega)) ?_
  rintro r ⟨m, rfl, hm1⟩
  refine Ev.bind (rnext_eq _ l hl (by omega) (i := -1) (by omega) (by omega)) ?_
  rintro r ⟨m2, rfl, hm2⟩
  dsimp only
  rw [byB_eqt (hm1.uniq (hm2.congr hm))]
  refine Ev.bind (next_eq _ hs (by omega) h0 h1) ?_
  rintro r ⟨m3, rfl, hm3⟩
  refine Ev.bind (rnext_eq _ l hl (by omega) h0 h1) ?_
  rintro r ⟨m4, rfl, hm4⟩
  dsimp only
  rw [byB_eqt (hm3.uniq (hm4.congr hm))]
  refine Ev.bind (count_eq _ hs (by omega)) ?_
  rintro r rfl
  dsimp only
  rw [byB_eqt rfl, mlist_len]
  exact Ev.mk (by simp)
theorem Pure.BitsTells (y0 : Int × Int × Int × Int) (y1 : Int) (gy0 : ((Lit.int .u64 y0.1).wf = true ∧ ((Lit.int .u64 y0.2.1).wf = true ∧ ((Lit.int .u64 y0.2.2.1).wf = true ∧ (Lit.int .u64 y0.2.2.2).wf = true)))) (gy1 : (Lit.int .i64 y1).wf = true) : ∃ N, BitsTells_8 N (((y0.1, y0.2.1, y0.2.2.1, y0.2.2.2, ()), y1, ()), ()) = some ((true, ()), ()) := by
  obtain ⟨s, hs, e⟩ := words_of y0 gy0
  rw [e]
  have g1 := wf64 gy1
  refine ⟨600, Ev.eq (Q := fun r => r = ((true, ()), ())) ?_ fun _ h => h⟩
  unfold BitsTells_8
  dsimp only
  rw [ex_eq (by omega), bnd]
  refine Ev.bind (levels_eq _ hs (by omega)) ?_
  rintro r ⟨l, rfl, hl, hm⟩
  refine Ev.bind (list_eq _ hs (by omega)) ?_
  rintro r rfl
  dsimp only
  refine Ev.loop (fun n st => ∃ k : Nat, st = ((y1, true, (), (), ((cnt (mem s) k : Nat) : Int), (), (k : Int), ()), tw s, l, mlist (mem s) 256, ()) ∧ n = 256 - k ∧ k ≤ 256) ?_ (k := 256) ⟨0, rfl, rfl, by omega⟩ (by omega)
  rintro n st again ⟨k, rfl, hn, hk⟩ ih
  unfold BitsTells_8_L7
  refine Ev.dec (fun h => ?_) fun h => ?_
  · have hk' : k < 256 := by omega
    rw [has_in _ hs k hk', bnd, if_pos (by omega), Int.toNat_natCast, hm k hk']
    dsimp only
    rw [show (!(mem s k == mem s k)) = false by cases mem s k <;> rfl, byB_false, if_pos (by omega)]
    have hc := cnt_le (mem s) k
    have e1 : IntKind.wrap .i64 ((k : Int) + 1) = ((k + 1 : Nat) : Int) := by rw [w64 (by omega) (by omega)]; omega
    have hs1 : cnt (mem s) (k + 1) = cnt (mem s) k + (mem s k).toNat := rfl
    cases hmk : mem s k with
    | true =>
      rw [hmk] at hs1
      have hs1' : cnt (mem s) (k + 1) = cnt (mem s) k + 1 := hs1
      have hmono := cnt_mono (mem s) (show k + 1 ≤ 256 by omega)
      have hlen : (mlist (mem s) 256).length = cnt (mem s) 256 := mlist_len _ _
      rw [byB_true, byB_f (by omega), if_pos (by omega), Int.toNat_natCast, mlist_at hk' hmk, byB_nef rfl, e1]
      have e2 : IntKind.wrap .i64 (((cnt (mem s) k : Nat) : Int) + 1) = ((cnt (mem s) (k + 1) : Nat) : Int) := by rw [w64 (by omega) (by omega)]; omega
      rw [e2]
      exact ih (256 - (k + 1)) _ (by omega) ⟨k + 1, rfl, rfl, by omega⟩
    | false =>
      rw [hmk] at hs1
      have hs1' : cnt (mem s) (k + 1) = cnt (mem s) k := hs1
      rw [byB_false, e1, ← hs1']
      exact ih (256 - (k + 1)) _ (by omega) ⟨k + 1, rfl, rfl, by omega⟩
  · have : k = 256 := by omega
    subst this
    rw [join_eq]
    by_cases hi : 0 ≤ y1 ∧ y1 < 256
    · obtain ⟨i, rfl⟩ : ∃ i : Nat, y1 = i := ⟨y1.toNat, by omega⟩
      have hi' : i < 256 := by omega
      have e : (if 0 > (if 255 < (i : Int) then 255 else (i : Int)) then 0 else (if 255 < (i : Int) then 255 else (i : Int))) = (i : Int) := by
        have a : (if 255 < (i : Int) then 255 else (i : Int)) = (i : Int) := by rw [if_neg (by omega)]
        rw [a, if_neg (by omega)]
      rw [byB_t (by omega), byB_t (by omega)]
      simp only [e]
      rw [if_pos (by omega), Int.toNat_natCast, hm i hi']
      exact tells_end hs l hl hm _ (by omega) (by omega) _ (has_in _ hs i hi')
    · have hf := tells_end hs l hl hm y1 g1.1 g1.2 false (has_out _ s hi)
      refine Ev.dec (fun h => ?_) fun _ => hf
      rw [byB_f (by omega)]
      exact hf
end Go.Proofs.YteohpijdidlaeaaDoor
