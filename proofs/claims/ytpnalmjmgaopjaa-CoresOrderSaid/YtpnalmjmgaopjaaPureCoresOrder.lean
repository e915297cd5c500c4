/- The plain law CoresOrder. Conditions: its own. -/
import Derived.Test.YtpnalmjmgaopjaaXOrder
namespace Go.Proofs.Ytpnalmjmgaopjaa.Pure
open Go Go.Proofs.YtpnalmjmgaopjaaM Go.Proofs.YtpnalmjmgaopjaaX Go.Proofs.YtpnalmjmgaopjaaL Go.Proofs.YtpnalmjmgaopjaaC
set_option linter.unusedVariables false
set_option linter.unusedSimpArgs false

theorem order_same {N : Nat} {a : List Int} (hll : a.length ≤ 281474976710656) : ∀ (d i : Nat) (k : Nat), i + d = a.length → d < k →
    loopN k (CoresOrder_3_L7 N) ((true, (), (), (i : Int), ()), a, a, ()) = some ((true, ()), ()) := by
  intro d
  induction d with
  | zero =>
    intro i k hi hk
    obtain ⟨k, rfl⟩ : ∃ k', k = k' + 1 := ⟨k - 1, by omega⟩
    rw [loopN_succ, CoresOrder_3_L7]
    simp (disch := omega) only [byB_f]
  | succ d ih =>
    intro i k hi hk
    obtain ⟨k, rfl⟩ : ∃ k', k = k' + 1 := ⟨k - 1, by omega⟩
    rw [loopN_succ, CoresOrder_3_L7]
    simp (disch := omega) only [byB_t, if_pos, byB_nef, w64]
    exact ih (i + 1) k (by omega) (by omega)

theorem CoresOrder (y0 : Int) (y1 : List Int) (gy0 : (Lit.int .i64 y0).wf = true) (gy1 : (y1.length * 8 ≤ 140737488351232 ∧ ∀ e0 ∈ y1, (Lit.int .i64 e0).wf = true)) : ∃ N, CoresOrder_3 N ((y0, y1, ()), ()) = some ((true, ()), ()) := by
  refine ⟨y1.length + 1000, ?_⟩
  unfold CoresOrder_3
  have key : ∀ a : List Int, a.length ≤ y1.length + 20 → byB ((a.length : Int) != (a.length : Int)) (some ((false, ()), ())) (loopN (y1.length + 1000) (CoresOrder_3_L7 (y1.length + 1000)) ((true, (), (), 0, ()), a, a, ())) = some ((true, ()), ()) := by
    intro a ha
    rw [byB_nef rfl]
    exact order_same (by omega) a.length 0 _ (by omega) (by omega)
  by_cases h : 1 ≤ y0 ∧ y0 ≤ 8
  · obtain ⟨n, rfl⟩ : ∃ n : Nat, y0 = n := ⟨y0.toNat, by omega⟩
    simp only [examples_eq (N := y1.length + 1000) (by omega), order_ok (N := y1.length + 1000) (n := n) (l := y1) (by omega) (by omega) (by omega) (by omega) (by omega), ref_ok (N := y1.length + 1000) (n := n) (l := y1) (by omega) (by omega) (by omega) (by omega), Option.bind_some]
    refine key _ ?_
    unfold ord
    have h1 := sees_len (n := n) (l := y1) (acc := [])
    have h2 := sees_len (n := n) (l := upto n 0) (acc := sees n [] y1)
    rw [upto_len] at h2
    simp only [List.length_nil] at h1
    omega
  · simp only [examples_eq (N := y1.length + 1000) (by omega), order_no (N := y1.length + 1000) (n := y0) (l := y1) (by omega), ref_no (N := y1.length + 1000) (n := y0) (l := y1) (by omega), Option.bind_some]
    exact key [] (by simp)
end Go.Proofs.Ytpnalmjmgaopjaa.Pure
