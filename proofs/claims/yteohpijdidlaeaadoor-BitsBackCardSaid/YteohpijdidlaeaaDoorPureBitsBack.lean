/- The law BitsBack, with no program in sight. Conditions: none. -/
import Derived.Test.YteohpijdidlaeaaDoorXBits3
namespace Go.Proofs.YteohpijdidlaeaaDoor
open Go Go.Proofs.YteohpijdidlaeaaDoorM Go.Proofs.YteohpijdidlaeaaDoorX Go.Proofs.YteohpijdidlaeaaDoorL
theorem Pure.BitsBack (y0 : Int × Int × Int × Int) (y1 : Int) (gy0 : ((Lit.int .u64 y0.1).wf = true ∧ ((Lit.int .u64 y0.2.1).wf = true ∧ ((Lit.int .u64 y0.2.2.1).wf = true ∧ (Lit.int .u64 y0.2.2.2).wf = true)))) (gy1 : (Lit.int .i64 y1).wf = true) : ∃ N, BitsBack_9 N (((y0.1, y0.2.1, y0.2.2.1, y0.2.2.2, ()), y1, ()), ()) = some ((true, ()), ()) := by
  obtain ⟨s, hs, e⟩ := words_of y0 gy0
  rw [e]
  have g1 := wf64 gy1
  refine ⟨600, Ev.eq (Q := fun r => r = ((true, ()), ())) ?_ fun _ h => h⟩
  unfold BitsBack_9
  dsimp only
  rw [ex_eq (by omega), bnd]
  refine Ev.bind (list_eq _ hs (by omega)) ?_
  rintro r rfl
  have hlen : (mlist (mem s) 256).length ≤ 256 := by rw [mlist_len]; exact cnt_le _ _
  refine Ev.bind (of_eq _ (mlist (mem s) 256) (by omega) (by omega)) fun r2 h2 => ?_
  dsimp only
  rcases h2 with ⟨_, t, ht, rfl, htm⟩ | ⟨h, _⟩
  · have hts : tw t = tw s := ext4_tw ht hs fun i hi => by
      rw [htm i hi, Bool.eq_iff_iff]
      unfold hasL
      rw [List.contains_iff_mem, mlist_mem]
      exact ⟨fun h => h.2, fun h => ⟨hi, h⟩⟩
    have e1 := eq_tw' hts
    by_cases hi : 0 ≤ y1 ∧ y1 < 256
    · obtain ⟨i, rfl⟩ : ∃ i : Nat, y1 = i := ⟨y1.toNat, by omega⟩
      have hi' : i < 256 := by omega
      rw [with_in _ hs i hi', bnd, without_in _ (withB_ok hs i) i hi', bnd, without_in _ hs i hi', bnd, with_in _ (without_ok hs i) i hi', bnd]
      dsimp only
      rw [byB_true, e1, byB_true, byB_eqt rfl, bnd]
      dsimp only
      rw [eq_tw' (s := without (withB s i) i) (t := without s i) (ext4_tw (without_ok (withB_ok hs i) i) (without_ok hs i) fun j _ => by
        rw [without_mem, withB_mem, without_mem]
        cases mem s j <;> by_cases e : j = i <;> simp [e]), byB_true, bnd]
      dsimp only
      rw [eq_tw' (s := withB (without s i) i) (t := withB s i) (ext4_tw (withB_ok (without_ok hs i) i) (withB_ok hs i) fun j _ => by
        rw [withB_mem, without_mem, withB_mem]
        cases mem s j <;> by_cases e : j = i <;> simp [e]), byB_true, bnd]
      dsimp only
      rw [with_in _ (withB_ok hs i) i hi', bnd, bnd]
      dsimp only
      rw [eq_tw' (s := withB (withB s i) i) (t := withB s i) (ext4_tw (withB_ok (withB_ok hs i) i) (withB_ok hs i) fun j _ => by
        rw [withB_mem, withB_mem]
        cases mem s j <;> by_cases e : j = i <;> simp [e])]
      exact Ev.mk rfl
    · have ss := eq_tw' (s := s) (t := s) rfl
      have w1 := with_out 600 s hi
      have w2 := without_out 600 s hi
      simp only [w1, w2, bnd, byB_true, e1, ss]
      rw [byB_eqt rfl]
      exact Ev.mk rfl
  · exact absurd (fun x hx => by have := mlist_range hx; omega) h
end Go.Proofs.YteohpijdidlaeaaDoor
