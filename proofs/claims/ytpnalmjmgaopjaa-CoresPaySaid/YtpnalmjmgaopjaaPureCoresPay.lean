/- The plain law CoresPay. Conditions: its own. -/
import Derived.Test.YtpnalmjmgaopjaaXPay
namespace Go.Proofs.Ytpnalmjmgaopjaa.Pure
open Go Go.Proofs.YtpnalmjmgaopjaaM Go.Proofs.YtpnalmjmgaopjaaX Go.Proofs.YtpnalmjmgaopjaaL Go.Proofs.YtpnalmjmgaopjaaC
set_option linter.unusedVariables false
set_option linter.unusedSimpArgs false

/-- All that is owed is paid. -/
theorem pays {N core : Nat} {c1 c2 c3 c4 last : Int} : ∀ (m : Nat) (l : List Core) (paid owed : Int) (k : Nat), core < l.length → m < k → (nth l core).1 = m → (nth l core).2.1 = last → paid + m = owed → 0 ≤ paid → owed ≤ 100000 →
    loopN k (CoresPay_4_L31 N) (((core : Int), true, (), owed, last, paid, ()), (c1, c2, c3, c4, (), ()), l, ()) = some ((true, ()), ()) := by
  intro m
  induction m with
  | zero =>
    intro l paid owed k hc hk h1 h2 h3 h4 h5
    obtain ⟨k, rfl⟩ : ∃ k', k = k' + 1 := ⟨k - 1, by omega⟩
    rw [loopN_succ, CoresPay_4_L31]
    simp (disch := omega) only [pay_none hc (by omega), owesk hc, lastk hc, bnd, byB_false, byB_true, byB_eqt]
    rw [h2]
    simp
  | succ m ih =>
    intro l paid owed k hc hk h1 h2 h3 h4 h5
    obtain ⟨k, rfl⟩ : ∃ k', k = k' + 1 := ⟨k - 1, by omega⟩
    rw [loopN_succ, CoresPay_4_L31]
    simp (disch := omega) only [pay_ok hc (by omega), bnd, byB_true, byB_t, w64]
    refine ih _ (paid + 1) owed k (by simpa using hc) (by omega) ?_ ?_ (by omega) (by omega) h5
    · rw [nth, getD_set_eq hc]; simp only; omega
    · rw [nth, getD_set_eq hc]; exact h2

theorem pay_main {N n core : Nat} (hn : n ≤ 8) (hcore : core < n) {a b c : Int} (ha : 0 ≤ a ∧ a ≤ 50) (hb : 0 ≤ b ∧ b ≤ 50) (hc : 0 ≤ c ∧ c ≤ 50) {deeds : List Core} (hd : ∀ e ∈ deeds, (Lit.int .i64 e.1).wf = true ∧ (Lit.int .i64 e.2.1).wf = true ∧ (Lit.int .i64 e.2.2).wf = true) (hN : 100100 < N) :
    ∀ (m i : Nat) (l : List Core) (owed last : Int) (k : Nat), i + m = 100 → m < k → l.length = n → (nth l core).1 = owed → (nth l core).2.1 = last → (∀ q, q < n → 0 ≤ (nth l q).1 ∧ (nth l q).1 ≤ 50 * i) →
    loopN k (CoresPay_4_L14 N) (((n : Int), deeds, (core : Int), (), true, (), owed, last, (i : Int), ()), (a, b, c, ()), (0, a, b, c, (), ()), l, ()) = some ((true, ()), ()) := by
  have fin : ∀ (i : Nat) (l : List Core) (owed last : Int), i ≤ 100 → l.length = n → (nth l core).1 = owed → (nth l core).2.1 = last → (∀ q, q < n → 0 ≤ (nth l q).1 ∧ (nth l q).1 ≤ 50 * i) →
      loopN N (CoresPay_4_L31 N) (((core : Int), true, (), owed, last, 0, ()), (0, a, b, c, (), ()), l, ()) = some ((true, ()), ()) := by
    intro i l owed last hi hl h1 h2 h3
    have := h3 core hcore
    exact pays (nth l core).1.toNat l 0 owed N (by omega) (by omega) (by omega) h2 (by omega) (by omega) (by omega)
  intro m
  induction m with
  | zero =>
    intro i l owed last k hi hk hl h1 h2 h3
    obtain ⟨k, rfl⟩ : ∃ k', k = k' + 1 := ⟨k - 1, by omega⟩
    rw [loopN_succ, CoresPay_4_L14]
    have f := fin i l owed last (by omega) hl h1 h2 h3
    simp (disch := omega) only [byB_f (show ¬ (i : Int) < 100 by omega), f]
    exact byB_same
  | succ m ih =>
    intro i l owed last k hi hk hl h1 h2 h3
    obtain ⟨k, rfl⟩ : ∃ k', k = k' + 1 := ⟨k - 1, by omega⟩
    rw [loopN_succ, CoresPay_4_L14]
    have f := fin i l owed last (by omega) hl h1 h2 h3
    simp only [f]
    by_cases hs : (i : Int) < deeds.length
    · simp (disch := omega) only [byB_t, if_pos, Int.toNat_natCast]
      have hmem := hd _ (getD_mem (d := (0, 0, 0)) (show i < deeds.length by omega))
      generalize deeds.getD i (0, 0, 0) = e at hmem ⊢
      obtain ⟨w1, w2, w3⟩ := hmem
      have pk1 := pick_eq (N := N) w2 (n := n) (by omega)
      have r1 := pk_range (c := e.2.1) (n := n) (by omega)
      have pk2 := pick_eq (N := N) w1 (n := 2) (by omega)
      have pk3 := pick_eq (N := N) w3 (n := 3) (by omega)
      have r3 := pk_range (c := e.2.2) (n := 3) (by omega)
      have pk5 := pick_eq (N := N) w3 (n := 5) (by omega)
      simp only [pk1, pk2, pk3, pk5, bnd]
      obtain ⟨q, hq⟩ : ∃ q : Nat, pk e.2.1 n = q := ⟨(pk e.2.1 n).toNat, by omega⟩
      rw [hq] at r1 ⊢
      have hqn : q < n := by omega
      have h3q := h3 q hqn
      have keep : ∀ (x : Core), 0 ≤ x.1 → x.1 ≤ (nth l q).1 + 50 → ∀ p, p < n → 0 ≤ (nth (l.set q x) p).1 ∧ (nth (l.set q x) p).1 ≤ 50 * ((i + 1 : Nat) : Int) := by
        intro x x1 x2 p hp
        have := h3 p hp
        have h3q' := h3q
        simp only [nth] at this x2 h3q' ⊢
        rw [getD_set (by omega)]
        split <;> omega
      have same : ∀ p, p < n → 0 ≤ (nth l p).1 ∧ (nth l p).1 ≤ 50 * ((i + 1 : Nat) : Int) := fun p hp => by have := h3 p hp; omega
      generalize pk e.1 2 = kind
      generalize pk e.2.2 3 = op at r3 ⊢
      generalize pk e.2.2 5 = t
      have ew : IntKind.wrap .i64 ((i : Int) + 1) = ((i + 1 : Nat) : Int) := by rw [w64 (by omega) (by omega)]; omega
      simp only [ew]
      by_cases hkind : kind = 0
      · rw [byB_eqt hkind]
        have he : ∃ x, [0, a, b, c].getD (1 + op).toNat 0 = x ∧ [a, b, c].getD op.toNat 0 = x ∧ 0 ≤ x ∧ x ≤ 50 := by
          have : op = 0 ∨ op = 1 ∨ op = 2 := by omega
          rcases this with rfl | rfl | rfl
          · exact ⟨a, rfl, rfl, ha⟩
          · exact ⟨b, rfl, rfl, hb⟩
          · exact ⟨c, rfl, rfl, hc⟩
        obtain ⟨x, x1, x2, x3, x4⟩ := he
        have hch := charge_ok (N := N) (k := q) (op := 1 + op) (c1 := 0) (c2 := a) (c3 := b) (c4 := c) (l := l) (by omega) (by omega) x1 (by omega)
        have e1 : IntKind.wrap .i64 (1 + op) = 1 + op := w64 (by omega) (by omega)
        have e2 : IntKind.wrap .i64 (1 + op - 1) = op := by rw [w64 (by omega) (by omega)]; omega
        simp only [e1, e2, hch, bnd]
        by_cases hqc : q = core
        · subst hqc
          simp (disch := omega) only [byB_eqt, if_pos, x2, w64]
          refine ih (i + 1) _ _ _ k (by omega) (by omega) (by simpa using hl) ?_ ?_ (keep _ (by simp only; omega) (by simp only; omega))
          · rw [nth, getD_set_eq (by omega)]; simp only; omega
          · rw [nth, getD_set_eq (by omega)]; exact h2
        · simp (disch := omega) only [byB_eqf]
          refine ih (i + 1) _ _ _ k (by omega) (by omega) (by simpa using hl) ?_ ?_ (keep _ (by simp only; omega) (by simp only; omega))
          · rw [nth, Go.Proofs.YtpnalmjmgaopjaaL.getD_set_ne hqc]; exact h1
          · rw [nth, Go.Proofs.YtpnalmjmgaopjaaL.getD_set_ne hqc]; exact h2
      · rw [byB_eqf hkind]
        by_cases ht : (nth l q).2.1 = t
        · have hld := load_same (N := N) (k := q) (c1 := 0) (c2 := a) (c3 := b) (c4 := c) (l := l) (t := t) (by omega) ht
          simp only [hld, bnd]
          by_cases hqc : q = core
          · subst hqc
            have e3 : (last != t) = false := by simp; omega
            simp (disch := omega) only [byB_eqt, e3, byB_not, byB_false, byB_true, beq_self_eq_true]
            exact ih (i + 1) _ _ _ k (by omega) (by omega) hl h1 h2 same
          · simp (disch := omega) only [byB_eqf]
            exact ih (i + 1) _ _ _ k (by omega) (by omega) hl h1 h2 same
        · have hld := load_ok (N := N) (k := q) (c1 := 0) (c2 := a) (c3 := b) (c4 := c) (l := l) (t := t) (by omega) ht (by omega)
          simp only [hld, bnd]
          by_cases hqc : q = core
          · subst hqc
            have e3 : (last != t) = true := by simp; omega
            simp (disch := omega) only [byB_eqt, e3, byB_not, byB_false, byB_true, beq_self_eq_true, w64]
            refine ih (i + 1) _ _ _ k (by omega) (by omega) (by simpa using hl) ?_ ?_ (keep _ (by simp only; omega) (by simp only; omega))
            · rw [nth, getD_set_eq (by omega)]; simp only; omega
            · rw [nth, getD_set_eq (by omega)]
          · simp (disch := omega) only [byB_eqf]
            refine ih (i + 1) _ _ _ k (by omega) (by omega) (by simpa using hl) ?_ ?_ (keep _ (by simp only; omega) (by simp only; omega))
            · rw [nth, Go.Proofs.YtpnalmjmgaopjaaL.getD_set_ne hqc]; exact h1
            · rw [nth, Go.Proofs.YtpnalmjmgaopjaaL.getD_set_ne hqc]; exact h2
    · exact byB_f hs

theorem pay_start {M n core : Nat} (hM : 200000 ≤ M) (h1 : 1 ≤ n) (hn : n ≤ 8) (hcore : core < n) {a b c : Int} (ha : (Lit.int .i64 a).wf = true) (hb : (Lit.int .i64 b).wf = true) (hc : (Lit.int .i64 c).wf = true) {deeds : List Core} (hd : ∀ e ∈ deeds, (Lit.int .i64 e.1).wf = true ∧ (Lit.int .i64 e.2.1).wf = true ∧ (Lit.int .i64 e.2.2).wf = true) :
    loopN (M + 4) (CoresPay_4_L5 (M + 4)) (((n : Int), deeds, (core : Int), (), true, 0, ()), (a, b, c, ()), ()) = some ((true, ()), ()) := by
  have r1 := pk_range (c := a) (n := 51) (by omega)
  have r2 := pk_range (c := b) (n := 51) (by omega)
  have r3 := pk_range (c := c) (n := 51) (by omega)
  have fin := pay_main (N := M + 4) (n := n) (core := core) hn hcore (a := pk a 51) (b := pk b 51) (c := pk c 51) (by omega) (by omega) (by omega) hd (by omega) 100 0 (cores0 n) 0 (-1) (M + 4) (by omega) (by omega) (by simp) (by rw [nth, getD_rep (by omega)]) (by rw [nth, getD_rep (by omega)]) (fun q hq => by rw [nth, getD_rep hq]; simp)
  rw [loopN_succ, CoresPay_4_L5]
  simp (disch := omega) only [byB_t, if_pos, Int.toNat_zero, List.getD_cons_zero, List.getD_cons_succ, Int.reduceAdd, Int.reduceToNat]
  rw [pick_eq ha (by omega)]
  simp (disch := omega) only [bnd, List.getD_cons_zero, List.getD_cons_succ, List.set_cons_zero, List.set_cons_succ, w64, Int.reduceAdd, Int.reduceToNat]
  rw [loopN_succ, CoresPay_4_L5]
  simp (disch := omega) only [byB_t, if_pos, Int.toNat_zero, List.getD_cons_zero, List.getD_cons_succ, Int.reduceAdd, Int.reduceToNat]
  rw [pick_eq hb (by omega)]
  simp (disch := omega) only [bnd, List.getD_cons_zero, List.getD_cons_succ, List.set_cons_zero, List.set_cons_succ, w64, Int.reduceAdd, Int.reduceToNat]
  rw [loopN_succ, CoresPay_4_L5]
  simp (disch := omega) only [byB_t, if_pos, Int.toNat_zero, List.getD_cons_zero, List.getD_cons_succ, Int.reduceAdd, Int.reduceToNat]
  rw [pick_eq hc (by omega)]
  simp (disch := omega) only [bnd, List.getD_cons_zero, List.getD_cons_succ, List.set_cons_zero, List.set_cons_succ, w64, Int.reduceAdd, Int.reduceToNat]
  rw [loopN_succ, CoresPay_4_L5]
  simp (disch := omega) only [byB_f, new_ok, bnd]
  exact fin

theorem CoresPay (y0 : Int) (y1 : Int × Int × Int) (y2 : List (Int × Int × Int)) (y3 : Int) (gy0 : (Lit.int .i64 y0).wf = true) (gy1 : ((Lit.int .i64 y1.1).wf = true ∧ ((Lit.int .i64 y1.2.1).wf = true ∧ (Lit.int .i64 y1.2.2).wf = true))) (gy2 : (y2.length * 24 ≤ 140737488351232 ∧ ∀ e0 ∈ y2, ((Lit.int .i64 e0.1).wf = true ∧ ((Lit.int .i64 e0.2.1).wf = true ∧ (Lit.int .i64 e0.2.2).wf = true)))) (gy3 : (Lit.int .i64 y3).wf = true) : ∃ N, CoresPay_4 N ((y0, (y1.1, y1.2.1, y1.2.2, ()), y2, y3, ()), ()) = some ((true, ()), ()) := by
  obtain ⟨M, hM⟩ : ∃ M : Nat, 200000 ≤ M := ⟨200000, Nat.le_refl _⟩
  refine ⟨M + 4, ?_⟩
  have hp := pk_range (c := y0) (n := 8) (by omega)
  obtain ⟨n, hn⟩ : ∃ n : Nat, 1 + pk y0 8 = n := ⟨(1 + pk y0 8).toNat, by omega⟩
  have hq := pk_range (c := y3) (n := n) (by omega)
  obtain ⟨core, hcore⟩ : ∃ q : Nat, pk y3 n = q := ⟨(pk y3 n).toNat, by omega⟩
  have e1 : IntKind.wrap .i64 (1 + pk y0 8) = n := by rw [w64 (by omega) (by omega), hn]
  unfold CoresPay_4
  simp only [examples_eq (N := M + 4) (by omega), pick_eq (N := M + 4) gy0 (n := 8) (by omega), bnd, e1, pick_eq (N := M + 4) gy3 (n := n) (by omega), hcore]
  exact pay_start hM (by omega) (by omega) (by omega) gy1.1 gy1.2.1 gy1.2.2 gy2.2
end Go.Proofs.Ytpnalmjmgaopjaa.Pure
