/- Chapter 9: what the functions of the cores come to. Conditions: as each theorem states them. -/
import Derived.Test.YtpnalmjmgaopjaaX1
import Derived.Test.YtpnalmjmgaopjaaPL
namespace Go.Proofs.YtpnalmjmgaopjaaC
open Go Go.Proofs.YtpnalmjmgaopjaaM Go.Proofs.YtpnalmjmgaopjaaX Go.Proofs.YtpnalmjmgaopjaaL
set_option linter.unusedVariables false
set_option linter.unusedSimpArgs false

/-- pick, of some things. -/
def pk (c n : Int) : Int := (if c < 0 then -(c + 1) else c) % n
theorem pk_range {c n : Int} (hn : 0 < n) : 0 ≤ pk c n ∧ pk c n < n := by
  unfold pk
  exact ⟨Int.emod_nonneg _ (by omega), Int.emod_lt_of_pos _ hn⟩
theorem pick_eq {N : Nat} {c n : Int} (hc : (Lit.int .i64 c).wf = true) (hn : 0 < n) : pick_11 N ((c, n, ()), ()) = some ((pk c n, ()), ()) := by
  have := wf64 hc
  unfold pick_11 pk
  by_cases h : c < 0
  · simp (disch := omega) only [byB_t, if_neg, if_pos, w64]
    rw [Int.tmod_eq_emod_of_nonneg (by omega), show 0 - (c + 1) = -(c + 1) by omega]
  · simp (disch := omega) only [byB_f, if_neg, w64]
    rw [Int.tmod_eq_emod_of_nonneg (by omega)]

/-- A core's data. -/
abbrev Core := Int × Int × Int

theorem at_ok {N : Nat} {i c1 c2 c3 c4 : Int} {l : List Core} (h0 : 0 ≤ i) (h1 : i < l.length) :
    at_21 N (((), i, ()), (c1, c2, c3, c4, (), ()), l, ()) = some (.inr ((i.toNat, true, ()), (c1, c2, c3, c4, (), ()), l, ())) := by
  unfold at_21
  simp (disch := omega) only [byB_f, if_pos]
theorem at_no {N : Nat} {i c1 c2 c3 c4 : Int} {l : List Core} (h : i < 0 ∨ (l.length : Int) ≤ i) :
    at_21 N (((), i, ()), (c1, c2, c3, c4, (), ()), l, ()) = some (.inl (((), false, ()), (c1, c2, c3, c4, (), ()), l, (0, -1, 0, ()), ())) := by
  unfold at_21
  by_cases h0 : i < 0
  · simp (disch := omega) only [byB_t]
  · simp (disch := omega) only [byB_t, byB_f]

theorem set_mid {α : Type} (i m : Nat) (a b c : α) : (List.replicate i a ++ List.replicate (m + 1) b).set i c = List.replicate i a ++ c :: List.replicate m b := by
  rw [List.set_append_right _ _ (by simp)]
  simp [List.replicate_succ]
theorem new_loop1 {N : Nat} {c1 c2 c3 c4 : Int} (n : Nat) (hn : n ≤ 8) : ∀ (m i : Nat) (k : Nat), i + m = n → m < k →
    loopN k (New_12_L12 N) (((), (n : Int), (i : Int), ()), (c1, c2, c3, c4, (), ()), List.replicate i ((0, -1, 0) : Core) ++ List.replicate m (0, 0, 0), ()) = some (.inr (((), 0, ()), (c1, c2, c3, c4, (), ()), List.replicate n (0, -1, 0), ())) := by
  intro m
  induction m with
  | zero =>
    intro i k h hk
    obtain ⟨k, rfl⟩ : ∃ k', k = k' + 1 := ⟨k - 1, by omega⟩
    obtain rfl : i = n := by omega
    rw [loopN_succ, New_12_L12]
    simp (disch := omega) only [byB_f, List.replicate_zero, List.append_nil]
  | succ m ih =>
    intro i k h hk
    obtain ⟨k, rfl⟩ : ∃ k', k = k' + 1 := ⟨k - 1, by omega⟩
    rw [loopN_succ, New_12_L12]
    have e : (List.replicate i ((0, -1, 0) : Core) ++ List.replicate (m + 1) (0, 0, 0)).getD i (0, 0, 0) = (0, 0, 0) := by
      rw [getD_app_r (by simp)]
      simp [List.replicate_succ]
    have e2 := ih (i + 1) k (by omega) (by omega)
    simp (disch := omega) only [byB_t, List.length_append, List.length_replicate, if_pos, Int.toNat_natCast, e, set_mid, w64]
    rw [List.replicate_succ', List.append_assoc] at e2
    exact e2
theorem new_loop2 {N : Nat} (n : Nat) (hn : n ≤ 8) (hN : 20 < N) {a b c : Int} (ha : 0 ≤ a ∧ a ≤ 50) (hb : 0 ≤ b ∧ b ≤ 50) (hc : 0 ≤ c ∧ c ≤ 50) :
    loopN N (New_12_L5 N) (((), (a, b, c, ()), 0, ()), (0, 0, 0, 0, (), ()), List.replicate n ((0, 0, 0) : Core), ()) = some (.inr (((), 0, ()), (0, a, b, c, (), ()), List.replicate n (0, -1, 0), ())) := by
  obtain ⟨N', rfl⟩ : ∃ k', N = k' + 4 := ⟨N - 4, by omega⟩
  have e := new_loop1 (N := N' + 4) (c1 := 0) (c2 := a) (c3 := b) (c4 := c) n hn n 0 (N' + 4) (by omega) (by omega)
  simp only [List.replicate_zero, List.nil_append] at e
  rw [loopN_succ, New_12_L5]
  simp (disch := omega) only [byB_t, byB_f, if_pos, w64, List.getD_cons_zero, List.getD_cons_succ, Int.toNat_zero, List.set_cons_zero, List.set_cons_succ, Int.reduceAdd, Int.reduceToNat, Nat.reduceAdd]
  rw [loopN_succ, New_12_L5]
  simp (disch := omega) only [byB_t, byB_f, if_pos, w64, List.getD_cons_zero, List.getD_cons_succ, Int.toNat_zero, List.set_cons_zero, List.set_cons_succ, Int.reduceAdd, Int.reduceToNat, Nat.reduceAdd]
  rw [loopN_succ, New_12_L5]
  simp (disch := omega) only [byB_t, byB_f, if_pos, w64, List.getD_cons_zero, List.getD_cons_succ, Int.toNat_zero, List.set_cons_zero, List.set_cons_succ, Int.reduceAdd, Int.reduceToNat, Nat.reduceAdd]
  rw [loopN_succ, New_12_L5]
  simp (disch := omega) only [byB_f, List.length_replicate]
  exact e
/-- Some cores, new. -/
abbrev cores0 (n : Nat) : List Core := List.replicate n (0, -1, 0)
theorem new_ok {N : Nat} {n : Nat} (h1 : 1 ≤ n) (h8 : n ≤ 8) (hN : 20 < N) {a b c : Int} (ha : 0 ≤ a ∧ a ≤ 50) (hb : 0 ≤ b ∧ b ≤ 50) (hc : 0 ≤ c ∧ c ≤ 50) :
    New_12 N (((n : Int), (a, b, c, ()), ()), ()) = some (.inr (((), 0, ()), (0, a, b, c, (), ()), cores0 n, ())) := by
  unfold New_12
  simp (disch := omega) only [byB_f, if_pos, Int.toNat_natCast]
  exact new_loop2 n h8 hN ha hb hc
theorem step_ok {N : Nat} {i c1 c2 c3 c4 : Int} {l : List Core} (h0 : 0 ≤ i) (h1 : i < l.length) (hs : -9223372036854775808 ≤ (l.getD i.toNat (0, 0, 0)).2.2 ∧ (l.getD i.toNat (0, 0, 0)).2.2 < 9223372036854775807) :
    Step_18 N (((), i, ()), (c1, c2, c3, c4, (), ()), l, ()) = some (((l.getD i.toNat (0, 0, 0)).2.2 + 1, ()), (c1, c2, c3, c4, (), ()), l.set i.toNat ((l.getD i.toNat (0, 0, 0)).1, (l.getD i.toNat (0, 0, 0)).2.1, (l.getD i.toNat (0, 0, 0)).2.2 + 1), ()) := by
  unfold Step_18
  simp (disch := omega) only [at_ok h0 h1, bnd, byB_true, w64, getD_set_eq]
theorem step_no {N : Nat} {i c1 c2 c3 c4 : Int} {l : List Core} (h : i < 0 ∨ (l.length : Int) ≤ i) :
    Step_18 N (((), i, ()), (c1, c2, c3, c4, (), ()), l, ()) = some ((0, ()), (c1, c2, c3, c4, (), ()), l, ()) := by
  unfold Step_18
  simp (disch := omega) only [at_no h, bnd, byB_false]
theorem owes_ok {N : Nat} {i c1 c2 c3 c4 : Int} {l : List Core} (h0 : 0 ≤ i) (h1 : i < l.length) :
    Owes_16 N (((), i, ()), (c1, c2, c3, c4, (), ()), l, ()) = some (((l.getD i.toNat (0, 0, 0)).1, ()), (c1, c2, c3, c4, (), ()), l, ()) := by
  unfold Owes_16
  simp (disch := omega) only [at_ok h0 h1, bnd]
theorem owes_no {N : Nat} {i c1 c2 c3 c4 : Int} {l : List Core} (h : i < 0 ∨ (l.length : Int) ≤ i) :
    Owes_16 N (((), i, ()), (c1, c2, c3, c4, (), ()), l, ()) = some ((0, ()), (c1, c2, c3, c4, (), ()), l, ()) := by
  unfold Owes_16
  simp (disch := omega) only [at_no h, bnd]
theorem last_ok {N : Nat} {i c1 c2 c3 c4 : Int} {l : List Core} (h0 : 0 ≤ i) (h1 : i < l.length) :
    Last_17 N (((), i, ()), (c1, c2, c3, c4, (), ()), l, ()) = some (((l.getD i.toNat (0, 0, 0)).2.1, ()), (c1, c2, c3, c4, (), ()), l, ()) := by
  unfold Last_17
  simp (disch := omega) only [at_ok h0 h1, bnd]
theorem last_no {N : Nat} {i c1 c2 c3 c4 : Int} {l : List Core} (h : i < 0 ∨ (l.length : Int) ≤ i) :
    Last_17 N (((), i, ()), (c1, c2, c3, c4, (), ()), l, ()) = some ((-1, ()), (c1, c2, c3, c4, (), ()), l, ()) := by
  unfold Last_17
  simp (disch := omega) only [at_no h, bnd]
theorem many_eq {N : Nat} {c1 c2 c3 c4 : Int} {l : List Core} : Many_19 N (((), ()), (c1, c2, c3, c4, (), ()), l, ()) = some (((l.length : Int), ()), (c1, c2, c3, c4, (), ()), l, ()) := rfl
theorem examples_eq {N : Nat} (h : 300 ≤ N) : examples_8 N ((), ()) = some ((true, ()), ()) := by
  unfold examples_8
  rw [if_pos h]
end Go.Proofs.YtpnalmjmgaopjaaC
