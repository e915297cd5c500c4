/- The plain law ValidSpoils. Conditions: its own. -/
import Derived.Test.YtflnooigdbhpdaaXSpoil
namespace Go.Proofs.Ytflnooigdbhpdaa.Pure
open Go Go.Proofs.YtflnooigdbhpdaaM Go.Proofs.YtflnooigdbhpdaaX Go.Proofs.YtflnooigdbhpdaaL Go.Proofs.YtflnooigdbhpdaaC
set_option linter.unusedVariables false
set_option linter.unusedSimpArgs false

theorem whole_len {s0 s1 s2 s3 s4 s5 s6 s7 : Int} {l m : List Tk} (h : wholeB s0 s1 s2 s3 s4 s5 s6 s7 l = true) (hm : 1 ≤ m.length ∧ m.length ≤ 24) : wholeB s0 s1 s2 s3 s4 s5 s6 s7 m = true := by
  unfold wholeB at h ⊢
  have := of_decide_eq_true h
  exact decide_eq_true (by omega)
theorem right_of {s0 s1 s2 s3 s4 s5 s6 s7 : Int} {l : List Tk} (h : rightB s0 s1 s2 s3 s4 s5 s6 s7 l = true) : wholeB s0 s1 s2 s3 s4 s5 s6 s7 l = true ∧ 1 ≤ l.length ∧ l.length ≤ 24 ∧ ∀ t ∈ l, taskB s7 t = true := by
  unfold rightB at h
  simp only [Bool.and_eq_true, List.all_eq_true] at h
  have h1 := h.1
  unfold wholeB at h1
  have := of_decide_eq_true h1
  exact ⟨h.1, by omega, by omega, h.2⟩
theorem right_mk {s0 s1 s2 s3 s4 s5 s6 s7 : Int} {l : List Tk} (h : wholeB s0 s1 s2 s3 s4 s5 s6 s7 l = true) (h2 : ∀ t ∈ l, taskB s7 t = true) : rightB s0 s1 s2 s3 s4 s5 s6 s7 l = true := by
  unfold rightB
  simp only [Bool.and_eq_true, List.all_eq_true]
  exact ⟨h, h2⟩
theorem not_right {s0 s1 s2 s3 s4 s5 s6 s7 : Int} {l : List Tk} {i : Nat} (hi : i < l.length) (h : taskB s7 (l.getD i (0, 0, 0, [])) = false) : rightB s0 s1 s2 s3 s4 s5 s6 s7 l = false := by
  have : ¬ rightB s0 s1 s2 s3 s4 s5 s6 s7 l = true := by
    intro g
    have := (right_of g).2.2.2 _ (getD_mem (d := (0, 0, 0, [])) hi)
    rw [h] at this
    cases this
  simpa using this
theorem num_no {R : Int} {t : Tk} (h : ¬ (1 ≤ t.1 ∧ t.1 ≤ 1099511627776 ∧ 1 ≤ t.2.1 ∧ t.2.1 ≤ t.1 ∧ 1 ≤ t.2.2.1 ∧ t.2.2.1 ≤ t.2.1 ∧ t.2.2.2.length ≤ 4)) : taskB R t = false := by
  unfold taskB numB
  rw [decide_eq_false h, Bool.false_and]
theorem sec_no {R : Int} {t : Tk} (x : Sec) (e : t.2.2.2 = [x]) (h : ¬ (0 ≤ x.1 ∧ x.1 ≤ t.2.2.1 ∧ 0 ≤ x.2.1 ∧ x.2.1 < R ∧ 1 ≤ x.2.2 ∧ x.2.2 ≤ t.2.2.1 - x.1)) : taskB R t = false := by
  unfold taskB
  rw [e, secB_cons, decide_eq_false h, Bool.false_and, Bool.and_false]
theorem whole_no {s0 s1 s2 s3 s4 s5 s6 s7 : Int} {l : List Tk} (h : wholeB s0 s1 s2 s3 s4 s5 s6 s7 l = false) : rightB s0 s1 s2 s3 s4 s5 s6 s7 l = false := by
  unfold rightB
  rw [h, Bool.false_and]

theorem spoil_end {N : Nat} (hN : 100 ≤ N) {s0 s1 s2 s3 s4 s5 s6 s7 : Int} {l : List Tk} (h : rightB s0 s1 s2 s3 s4 s5 s6 s7 l = false) : ValidSpoils_4_J42 N ((true, (), ()), (s0, s1, s2, s3, s4, s5, s6, s7, (), ()), l, ()) = some ((true, ()), ()) := by
  rw [ValidSpoils_4_J42]
  try dsimp only
  rw [byB_true, right_at (by omega), bnd, h]
  rfl
theorem spoil_loop {N : Nat} (hN : 100 ≤ N) {s0 s1 s2 s3 s4 s5 s6 : Int} {i : Nat} (hi : i < 24) :
    ∀ (d j k : Nat) (l : List Tk), j + d = l.length → d < k → l.length ≤ 24 → i < l.length → taskB 1 (l.getD i (0, 0, 0, [])) = false →
      loopN k (ValidSpoils_4_L38 N (ValidSpoils_4_J42 N)) ((true, (i : Int), (), (j : Int), ()), (s0, s1, s2, s3, s4, s5, s6, 1, (), ()), l, ()) = some ((true, ()), ()) := by
  intro d
  induction d with
  | zero =>
    intro j k l hd hk hl hil hb
    obtain ⟨k, rfl⟩ : ∃ m, k = m + 1 := ⟨k - 1, by omega⟩
    rw [loopN_succ, ValidSpoils_4_L38]
    try dsimp only
    rw [byB_f (by omega)]
    exact spoil_end hN (not_right hil hb)
  | succ d ih =>
    intro j k l hd hk hl hil hb
    obtain ⟨k, rfl⟩ : ∃ m, k = m + 1 := ⟨k - 1, by omega⟩
    have hnx : IntKind.wrap .i64 ((j : Int) + 1) = ((j + 1 : Nat) : Int) := by rw [w64 (by omega) (by omega)]; omega
    rw [loopN_succ, ValidSpoils_4_L38]
    try dsimp only
    rw [byB_t (by omega), hnx]
    by_cases c : (j : Int) = (i : Int)
    · rw [byB_nef c]
      exact ih (j + 1) k l (by omega) (by omega) hl hil hb
    · rw [byB_net c, if_pos (by omega), Int.toNat_natCast]
      refine ih (j + 1) k _ (by rw [List.length_set]; omega) (by omega) (by rw [List.length_set]; omega) (by rw [List.length_set]; omega) ?_
      rw [Go.Proofs.YtflnooigdbhpdaaL.getD_set_ne (by omega)]
      exact hb

theorem spoil8 {N : Nat} (hN : 100 ≤ N) {s0 s1 s2 s3 s4 s5 s6 s7 task what : Int} {l : List Tk} (h : rightB s0 s1 s2 s3 s4 s5 s6 s7 l = true) (ht : 0 ≤ task) (hwh : 0 ≤ what) :
    ValidSpoils_4_J8 N ((task, what, (), true, ()), (s0, s1, s2, s3, s4, s5, s6, s7, l, ()), ()) = some ((true, ()), ()) := by
  obtain ⟨hw, hl1, hl2, hall⟩ := right_of h
  have hwd := hw
  unfold wholeB at hwd
  have hwd := of_decide_eq_true hwd
  rw [ValidSpoils_4_J8]
  try dsimp only
  have e45 : (if (l.length : Int) > 1 then (l.length : Int) else 1) = (l.length : Int) := by split <;> omega
  rw [e45, if_neg (by omega), Int.tmod_eq_emod_of_nonneg ht]
  have r1 := Int.emod_nonneg task (show (l.length : Int) ≠ 0 by omega)
  have r2 := Int.emod_lt_of_pos task (show 0 < (l.length : Int) by omega)
  obtain ⟨i, hi⟩ : ∃ i : Nat, task % (l.length : Int) = i := ⟨(task % (l.length : Int)).toNat, by omega⟩
  rw [hi] at r1 r2 ⊢
  have hil : i < l.length := by omega
  have l1 : (l.take i).length = i := by simp; omega
  have l2 : (l.drop (i + 1)).length = l.length - (i + 1) := by simp
  have e2 : ((i : Int) + 1).toNat = i + 1 := by omega
  rw [byB_eqf (by omega), if_pos (by omega), Int.toNat_natCast, if_pos (by rw [l1]; omega), w64 (n := (i : Int) + 1) (by omega) (by omega), if_pos (by omega), e2, List.take_length, if_pos (by rw [l1, l2]; omega), right_at (by omega), bnd]
  have lessR : rightB s0 s1 s2 s3 s4 s5 s6 s7 (l.take i ++ l.drop (i + 1)) = decide ((l.length : Int) > 1) := by
    by_cases c : (l.length : Int) > 1
    · rw [decide_eq_true c]
      refine right_mk (whole_len hw (by rw [List.length_append, l1, l2]; omega)) ?_
      intro t hx
      rcases List.mem_append.1 hx with h | h
      · exact hall t (List.mem_of_mem_take h)
      · exact hall t (List.mem_of_mem_drop h)
    · rw [decide_eq_false c]
      refine whole_no ?_
      unfold wholeB
      refine decide_eq_false ?_
      rw [List.length_append, l1, l2]
      omega
  rw [lessR]
  try dsimp only
  have htk := hall _ (getD_mem (d := (0, 0, 0, [])) hil)
  rw [beq_self_eq_true, Bool.not_true, byB_false, if_pos (by omega), if_pos (by omega)]
  have hnum : numB (l.getD i (0, 0, 0, [])) = true := by
    unfold taskB at htk
    exact (Bool.and_eq_true_iff.1 htk).1
  have hnd := hnum
  unfold numB at hnd
  have hnd := of_decide_eq_true hnd
  have hb : rightB s0 s1 s2 s3 s4 s5 s6 s7 (l.set i ((l.getD i (0, 0, 0, [])).1, (l.getD i (0, 0, 0, [])).2.1, (l.getD i (0, 0, 0, [])).2.2.1, [])) = true := by
    refine right_mk (whole_len hw (by rw [List.length_set]; omega)) ?_
    intro t hx
    rcases List.mem_or_eq_of_mem_set hx with h | h
    · exact hall t h
    · subst h
      unfold taskB numB
      rw [secB_nil, Bool.and_true]
      exact decide_eq_true (by simp only [List.length_nil]; omega)
  rw [right_at (by omega), bnd, hb]
  have hset : ∀ v : Tk, (l.set i v).getD i (0, 0, 0, []) = v := fun v => getD_set_eq hil
  generalize l.getD i (0, 0, 0, []) = x at *
  obtain ⟨P, D, W, S⟩ := x
  simp only [] at *
  have len1 : (l.set i (P, D, W, [])).length = l.length := List.length_set ..
  have nr : ∀ {s0 s1 s2 s3 s4 s5 s6 s7 : Int} (v : Tk), taskB s7 v = false → rightB s0 s1 s2 s3 s4 s5 s6 s7 ((l.set i (P, D, W, [])).set i v) = false := by
    intro s0 s1 s2 s3 s4 s5 s6 s7 v hv
    refine not_right (i := i) (by rw [List.length_set, len1]; exact hil) ?_
    rw [getD_set_eq (by rw [len1]; exact hil)]
    exact hv
  simp only [Bool.not_true, byB_false, join_eq]
  rw [Int.tmod_eq_emod_of_nonneg hwh]
  have ifl : (0 ≤ (i : Int) ∧ (i : Int) < ((l.set i (P, D, W, [])).length : Int)) := by rw [len1]; omega
  simp only [if_pos ifl, hset]
  generalize what % 8 = q
  by_cases c0 : q = 0
  · rw [byB_eqt c0, w64 (by omega) (by omega)]
    exact spoil_end hN (nr _ (num_no (by simp only; omega)))
  rw [byB_eqf c0]
  by_cases c1 : q = 1
  · rw [byB_eqt c1, w64 (by omega) (by omega)]
    exact spoil_end hN (nr _ (num_no (by simp only; omega)))
  rw [byB_eqf c1]
  by_cases c2 : q = 2
  · rw [byB_eqt c2]
    exact spoil_end hN (nr _ (num_no (by simp only; omega)))
  rw [byB_eqf c2]
  by_cases c3 : q = 3
  · rw [byB_eqt c3]
    exact spoil_end hN (nr _ (sec_no _ rfl (by simp only; omega)))
  rw [byB_eqf c3]
  by_cases c4 : q = 4
  · rw [byB_eqt c4]
    exact spoil_end hN (whole_no (by unfold wholeB; exact decide_eq_false (by omega)))
  rw [byB_eqf c4]
  by_cases c5 : q = 5
  · rw [byB_eqt c5]
    exact spoil_end hN (whole_no (by unfold wholeB; exact decide_eq_false (by omega)))
  rw [byB_eqf c5]
  by_cases c6 : q = 6
  · rw [byB_eqt c6]
    have len2 : ((l.set i (P, D, W, [])).set i (P, D, W, [((1 : Int), (0 : Int), W)])).length = l.length := by rw [List.length_set, len1]
    refine spoil_loop hN (by omega) l.length 0 N _ (by rw [len2]; omega) (by omega) (by rw [len2]; omega) (by rw [len2]; omega) ?_
    rw [getD_set_eq (by rw [len1]; exact hil)]
    exact sec_no _ rfl (by simp only; omega)
  rw [byB_eqf c6]
  exact spoil_end hN (whole_no (by unfold wholeB; exact decide_eq_false (by omega)))
theorem spoil6 {N : Nat} (hN : 100 ≤ N) {s0 s1 s2 s3 s4 s5 s6 s7 task what : Int} {l : List Tk} (h : rightB s0 s1 s2 s3 s4 s5 s6 s7 l = true) (ht : 0 ≤ task) (hwh : -9223372036854775808 ≤ what ∧ what ≤ 9223372036854775807) :
    ValidSpoils_4_J6 N ((task, what, (), true, ()), (s0, s1, s2, s3, s4, s5, s6, s7, l, ()), ()) = some ((true, ()), ()) := by
  rw [ValidSpoils_4_J6]
  try dsimp only
  rw [join_eq]
  by_cases c : what < 0
  · have e3 : IntKind.wrap .i64 (0 - IntKind.wrap .i64 (what + 1)) = -(what + 1) := by
      rw [w64 (n := what + 1) (by omega) (by omega), w64 (by omega) (by omega)]; omega
    rw [byB_t c, e3]
    exact spoil8 hN h ht (by omega)
  · rw [byB_f c]
    exact spoil8 hN h ht (by omega)
theorem ValidSpoils (y0 : Int × Int × Int × Int × Int × Int × Int × Int × (List (Int × Int × Int × (List (Int × Int × Int))))) (y1 : Int) (y2 : Int) (gy0 : ((Lit.int .i64 y0.1).wf = true ∧ ((Lit.int .i64 y0.2.1).wf = true ∧ ((Lit.int .i64 y0.2.2.1).wf = true ∧ ((Lit.int .i64 y0.2.2.2.1).wf = true ∧ ((Lit.int .i64 y0.2.2.2.2.1).wf = true ∧ ((Lit.int .i64 y0.2.2.2.2.2.1).wf = true ∧ ((Lit.int .i64 y0.2.2.2.2.2.2.1).wf = true ∧ ((Lit.int .i64 y0.2.2.2.2.2.2.2.1).wf = true ∧ (y0.2.2.2.2.2.2.2.2.length * 48 ≤ 140737488351232 ∧ ∀ e0 ∈ y0.2.2.2.2.2.2.2.2, ((Lit.int .i64 e0.1).wf = true ∧ ((Lit.int .i64 e0.2.1).wf = true ∧ ((Lit.int .i64 e0.2.2.1).wf = true ∧ (e0.2.2.2.length * 24 ≤ 140737488351232 ∧ ∀ e1 ∈ e0.2.2.2, ((Lit.int .i64 e1.1).wf = true ∧ ((Lit.int .i64 e1.2.1).wf = true ∧ (Lit.int .i64 e1.2.2).wf = true)))))))))))))))) (gy1 : (Lit.int .i64 y1).wf = true) (gy2 : (Lit.int .i64 y2).wf = true) : ∃ N, ValidSpoils_4 N (((y0.1, y0.2.1, y0.2.2.1, y0.2.2.2.1, y0.2.2.2.2.1, y0.2.2.2.2.2.1, y0.2.2.2.2.2.2.1, y0.2.2.2.2.2.2.2.1, y0.2.2.2.2.2.2.2.2, ()), y1, y2, ()), ()) = some ((true, ()), ()) := by
  obtain ⟨M, hM⟩ : ∃ M : Nat, 1000 ≤ M := ⟨1000, Nat.le_refl _⟩
  refine ⟨M, ?_⟩
  have h1 := wf64 gy1
  have h2 := wf64 gy2
  have ex : examples_7 M ((), ()) = some ((true, ()), ()) := by
    unfold examples_7
    rw [if_pos (by omega)]
  obtain ⟨a0, a1, a2, a3, a4, a5, a6, a7, l⟩ := y0
  unfold ValidSpoils_4
  try dsimp only
  rw [ex, bnd, right_at (by omega), bnd, byB_not]
  try dsimp only
  cases hr : rightB a0 a1 a2 a3 a4 a5 a6 a7 l with
  | false => rw [byB_false]
  | true =>
    rw [byB_true, join_eq]
    by_cases c : y1 < 0
    · have e3 : IntKind.wrap .i64 (0 - IntKind.wrap .i64 (y1 + 1)) = -(y1 + 1) := by
        rw [w64 (n := y1 + 1) (by omega) (by omega), w64 (by omega) (by omega)]; omega
      rw [byB_t c, e3]
      exact spoil6 (by omega) hr (by omega) h2
    · rw [byB_f c]
      exact spoil6 (by omega) hr (by omega) h2
end Go.Proofs.Ytflnooigdbhpdaa.Pure
