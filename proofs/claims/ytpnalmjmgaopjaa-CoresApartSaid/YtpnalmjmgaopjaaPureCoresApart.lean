/- The plain law CoresApart. Conditions: its own. -/
import Derived.Test.YtpnalmjmgaopjaaXPay
namespace Go.Proofs.Ytpnalmjmgaopjaa.Pure
open Go Go.Proofs.YtpnalmjmgaopjaaM Go.Proofs.YtpnalmjmgaopjaaX Go.Proofs.YtpnalmjmgaopjaaL Go.Proofs.YtpnalmjmgaopjaaC
set_option linter.unusedVariables false
set_option linter.unusedSimpArgs false

/-- What a deed makes of a core. -/
def act1 (a b c kind x : Int) (z : Core) : Core :=
  if kind = 0 then (if 1 ≤ x ∧ x ≤ 3 then (z.1 + [0, a, b, c].getD x.toNat 0, z.2) else z)
  else if kind = 1 then (if z.1 = 0 then z else (z.1 - 1, z.2))
  else if kind = 2 then (if z.2.1 = x then z else (z.1 + b, x, z.2.2))
  else (z.1, z.2.1, z.2.2 + 1)
theorem set_self {l : List Core} {k : Nat} (h : k < l.length) : l.set k (nth l k) = l := by
  rw [nth, getD_eq h, List.set_getElem_self]
theorem cost_le {a b c x : Int} (ha : 0 ≤ a ∧ a ≤ 50) (hb : 0 ≤ b ∧ b ≤ 50) (hc : 0 ≤ c ∧ c ≤ 50) (hx : 1 ≤ x ∧ x ≤ 3) : 0 ≤ [0, a, b, c].getD x.toNat 0 ∧ [0, a, b, c].getD x.toNat 0 ≤ 50 := by
  have : x = 1 ∨ x = 2 ∨ x = 3 := by omega
  rcases this with rfl | rfl | rfl
  · exact ha
  · exact hb
  · exact hc
theorem act1_le {a b c kind x : Int} {z : Core} {i : Int} (ha : 0 ≤ a ∧ a ≤ 50) (hb : 0 ≤ b ∧ b ≤ 50) (hc : 0 ≤ c ∧ c ≤ 50) (hi : 0 ≤ i) (h : 0 ≤ z.1 ∧ z.1 ≤ 50 * i ∧ 0 ≤ z.2.2 ∧ z.2.2 ≤ i) :
    0 ≤ (act1 a b c kind x z).1 ∧ (act1 a b c kind x z).1 ≤ 50 * (i + 1) ∧ 0 ≤ (act1 a b c kind x z).2.2 ∧ (act1 a b c kind x z).2.2 ≤ i + 1 := by
  unfold act1
  split
  · split
    · rename_i hx
      have := cost_le ha hb hc hx
      simp only
      omega
    · omega
  · split
    · split
      · omega
      · simp only; omega
    · split
      · split
        · omega
        · simp only; omega
      · simp only; omega
/-- One deed. -/
theorem deed {R : Type} {N : Nat} {k : Nat} {a b c w x : Int} {l : List Core} (hk : k < l.length) (ha : 0 ≤ a ∧ a ≤ 50) (hb : 0 ≤ b ∧ b ≤ 50) (hc : 0 ≤ c ∧ c ≤ 50) (hw : (Lit.int .i64 w).wf = true) {i : Int} (hi : i ≤ 100)
    (h : 0 ≤ (nth l k).1 ∧ (nth l k).1 ≤ 50 * i ∧ 0 ≤ (nth l k).2.2 ∧ (nth l k).2.2 ≤ i) (K : (Int × Int × Int × Int × Unit × Unit) → List Core → Option R) :
    ((pick_11 N ((w, 4, ()), ())).bind fun y =>
      byB (y.1.1 == 0)
        ((Charge_13 N (((), (k : Int), x, ()), (0, a, b, c, (), ()), l, ())).bind fun z => K (z.2.1.1, z.2.1.2.1, z.2.1.2.2.1, z.2.1.2.2.2.1, (), ()) z.2.2.1)
        (byB (y.1.1 == 1)
          ((Pay_15 N (((), (k : Int), ()), (0, a, b, c, (), ()), l, ())).bind fun z => K (z.2.1.1, z.2.1.2.1, z.2.1.2.2.1, z.2.1.2.2.2.1, (), ()) z.2.2.1)
          (byB (y.1.1 == 2)
            ((Load_14 N (((), (k : Int), x, ()), (0, a, b, c, (), ()), l, ())).bind fun z => K (z.2.1.1, z.2.1.2.1, z.2.1.2.2.1, z.2.1.2.2.2.1, (), ()) z.2.2.1)
            ((Step_18 N (((), (k : Int), ()), (0, a, b, c, (), ()), l, ())).bind fun z => K (z.2.1.1, z.2.1.2.1, z.2.1.2.2.1, z.2.1.2.2.2.1, (), ()) z.2.2.1)))) =
      K (0, a, b, c, (), ()) (l.set k (act1 a b c (pk w 4) x (nth l k))) := by
  rw [pick_eq hw (by omega), bnd]
  simp only
  generalize pk w 4 = kind
  unfold act1
  by_cases h0 : kind = 0
  · rw [byB_eqt h0, if_pos h0]
    by_cases hx : 1 ≤ x ∧ x ≤ 3
    · have hcost := cost_le ha hb hc hx
      rw [charge_ok hk hx rfl (by omega), bnd, if_pos hx]
    · rw [charge_bad (by omega), bnd, if_neg hx, set_self hk]
  · rw [byB_eqf h0, if_neg h0]
    by_cases h1 : kind = 1
    · rw [byB_eqt h1, if_pos h1]
      by_cases hz : (nth l k).1 = 0
      · rw [pay_none hk hz, bnd, if_pos hz, set_self hk]
      · rw [pay_ok hk (by omega), bnd, if_neg hz]
    · rw [byB_eqf h1, if_neg h1]
      by_cases h2 : kind = 2
      · rw [byB_eqt h2, if_pos h2]
        by_cases hz : (nth l k).2.1 = x
        · rw [load_same hk hz, bnd, if_pos hz, set_self hk]
        · rw [load_ok hk hz (by omega), bnd, if_neg hz]
      · rw [byB_eqf h2, if_neg h2]
        have hs := step_ok (N := N) (i := (k : Int)) (c1 := 0) (c2 := a) (c3 := b) (c4 := c) (l := l) (by omega) (by omega) (by rw [Int.toNat_natCast]; simp only [nth] at h; omega)
        rw [hs, bnd, Int.toNat_natCast]

theorem apart_main {N n core : Nat} (hn : n ≤ 8) (hcore : core < n) {a b c : Int} (ha : 0 ≤ a ∧ a ≤ 50) (hb : 0 ≤ b ∧ b ≤ 50) (hc : 0 ≤ c ∧ c ≤ 50) {deeds : List Core} (hd : ∀ e ∈ deeds, (Lit.int .i64 e.1).wf = true ∧ (Lit.int .i64 e.2.1).wf = true ∧ (Lit.int .i64 e.2.2).wf = true) (hN : 10 < N) :
    ∀ (m i : Nat) (la lb : List Core) (k : Nat), i + m = 100 → m < k → la.length = n → lb.length = n → nth la core = nth lb core → (∀ q, q < n → 0 ≤ (nth la q).1 ∧ (nth la q).1 ≤ 50 * (i : Int) ∧ 0 ≤ (nth la q).2.2 ∧ (nth la q).2.2 ≤ (i : Int)) →
      (∀ q, q < n → 0 ≤ (nth lb q).1 ∧ (nth lb q).1 ≤ 50 * (i : Int) ∧ 0 ≤ (nth lb q).2.2 ∧ (nth lb q).2.2 ≤ (i : Int)) →
    loopN k (CoresApart_6_L13 N) (((n : Int), deeds, (core : Int), true, (), (), (i : Int), ()), (0, a, b, c, (), ()), (0, a, b, c, (), ()), la, lb, ()) = some ((true, ()), ()) := by
  have fin : ∀ (i : Nat) (la lb : List Core), i ≤ 100 → la.length = n → lb.length = n → nth la core = nth lb core → (∀ q, q < n → 0 ≤ (nth la q).1 ∧ (nth la q).1 ≤ 50 * (i : Int) ∧ 0 ≤ (nth la q).2.2 ∧ (nth la q).2.2 ≤ (i : Int)) →
      ((Step_18 N (((), (core : Int), ()), (0, a, b, c, (), ()), la, ())).bind fun y141 =>
            (Step_18 N (((), (core : Int), ()), (0, a, b, c, (), ()), lb, ())).bind fun y142 =>
            some ((y141.1.1 == y142.1.1, ()), ())) = some ((true, ()), ()) := by
    intro i la lb hi hla hlb heq h1
    have h := h1 core hcore
    have hb' := h
    rw [heq] at hb'
    simp only [nth] at h hb' heq
    have e1 := step_ok (N := N) (i := (core : Int)) (c1 := 0) (c2 := a) (c3 := b) (c4 := c) (l := la) (by omega) (by omega) (by rw [Int.toNat_natCast]; omega)
    have e2 := step_ok (N := N) (i := (core : Int)) (c1 := 0) (c2 := a) (c3 := b) (c4 := c) (l := lb) (by omega) (by omega) (by rw [Int.toNat_natCast]; omega)
    rw [e1, e2, bnd, bnd, Int.toNat_natCast, heq]
    simp
  intro m
  induction m with
  | zero =>
    intro i la lb k hi hk hla hlb heq h1 h2
    obtain ⟨k, rfl⟩ : ∃ k', k = k' + 1 := ⟨k - 1, by omega⟩
    rw [loopN_succ, CoresApart_6_L13]
    have f := fin i la lb (by omega) hla hlb heq h1
    simp (disch := omega) only [byB_f (show ¬ (i : Int) < 100 by omega), byB_true, f]
    exact byB_same
  | succ m ih =>
    intro i la lb k hi hk hla hlb heq h1 h2
    obtain ⟨k, rfl⟩ : ∃ k', k = k' + 1 := ⟨k - 1, by omega⟩
    rw [loopN_succ, CoresApart_6_L13]
    have f := fin i la lb (by omega) hla hlb heq h1
    simp only [byB_true, f]
    by_cases hs : (i : Int) < deeds.length
    · rw [byB_t hs, byB_t (show (i : Int) < 100 by omega), if_pos (by omega), Int.toNat_natCast]
      have hmem := hd _ (getD_mem (d := (0, 0, 0)) (show i < deeds.length by omega))
      generalize deeds.getD i (0, 0, 0) = e at hmem ⊢
      obtain ⟨w1, w2, w3⟩ := hmem
      have r1 := pk_range (c := e.2.1) (n := n) (by omega)
      obtain ⟨q, hq⟩ : ∃ q : Nat, pk e.2.1 n = q := ⟨(pk e.2.1 n).toNat, by omega⟩
      rw [hq] at r1
      have hqn : q < n := by omega
      rw [pick_eq w2 (by omega), bnd, hq]
      simp only
      generalize hag : loopN k (CoresApart_6_L13 N) = again
      generalize e.2.2 = x at w3 ⊢
      generalize decide ((i : Int) < 100) = t45
      -- the first turn: the one with all deeds
      let z := act1 a b c (pk e.1 4) x (nth la q)
      have hz : z = act1 a b c (pk e.1 4) x (nth la q) := rfl
      have hzl := act1_le (kind := pk e.1 4) (x := x) ha hb hc (show 0 ≤ (i : Int) by omega) (h1 q hqn)
      rw [← hz] at hzl
      have bound : ∀ (l : List Core), l.length = n → (∀ q, q < n → 0 ≤ (nth l q).1 ∧ (nth l q).1 ≤ 50 * (i : Int) ∧ 0 ≤ (nth l q).2.2 ∧ (nth l q).2.2 ≤ (i : Int)) → ∀ y : Core, (0 ≤ y.1 ∧ y.1 ≤ 50 * ((i : Int) + 1) ∧ 0 ≤ y.2.2 ∧ y.2.2 ≤ (i : Int) + 1) →
          ∀ p, p < n → 0 ≤ (nth (l.set q y) p).1 ∧ (nth (l.set q y) p).1 ≤ 50 * ((i + 1 : Nat) : Int) ∧ 0 ≤ (nth (l.set q y) p).2.2 ∧ (nth (l.set q y) p).2.2 ≤ ((i + 1 : Nat) : Int) := by
        intro l hl h y hy p hp
        have h3 := h p hp
        simp only [nth] at h3 ⊢
        rw [getD_set (by omega)]
        split <;> omega
      -- what stands behind both turns
      have last : ∀ lb' : List Core, lb'.length = n → nth (la.set q z) core = nth lb' core → (∀ q, q < n → 0 ≤ (nth lb' q).1 ∧ (nth lb' q).1 ≤ 50 * ((i + 1 : Nat) : Int) ∧ 0 ≤ (nth lb' q).2.2 ∧ (nth lb' q).2.2 ≤ ((i + 1 : Nat) : Int)) → ∀ (M : Nat) (kk : Int),
          loopN (M + 1) (CoresApart_6_L18 N again) (((n : Int), deeds, (core : Int), true, (), (), (i : Int), (), kk, 2, (i : Int), t45, ()), (0, a, b, c, (), ()), (0, a, b, c, (), ()), (e.1, e.2.1, x, ()), la.set q z, lb', ()) = some ((true, ()), ()) := by
        intro lb' hl' he' hb' M kk
        rw [loopN_succ, CoresApart_6_L18]
        have hla' : (la.set q z).length = n := by simpa using hla
        rw [byB_f (by omega), owesk (by omega), bnd, owesk (by omega), bnd]
        simp only
        rw [byB_nef (by rw [he']), lastk (by omega), bnd, lastk (by omega), bnd]
        simp only
        rw [byB_nef (by rw [he']), ← hag, w64 (by omega) (by omega)]
        have := ih (i + 1) (la.set q z) lb' k (by omega) (by omega) hla' hl' he' (bound la hla h1 z hzl) hb'
        exact this
      obtain ⟨M, rfl⟩ : ∃ M, N = M + 3 := ⟨N - 3, by omega⟩
      rw [loopN_succ, CoresApart_6_L18]
      rw [byB_t (by omega), join_eq, byB_eqf (by omega), byB_eqf (by omega)]
      refine (deed (by omega) ha hb hc w1 (i := (i : Int)) (by omega) (h1 q hqn) (fun cs l => CoresApart_6_J19 (M + 3) (loopN (M + 2) (CoresApart_6_L18 (M + 3) again)) (((n : Int), deeds, (core : Int), true, (), (), (i : Int), (), (q : Int), 0, (i : Int), t45, ()), cs, (0, a, b, c, (), ()), (e.1, e.2.1, x, ()), l, lb, ()))).trans ?_
      rw [← hz, CoresApart_6_J19]
      try simp only
      rw [w64 (by omega) (by omega), loopN_succ, CoresApart_6_L18]
      rw [byB_t (by omega), join_eq, byB_eqt (by omega), byB_eqt (by omega)]
      by_cases hqc : q = core
      · subst hqc
        rw [byB_nef rfl]
        refine (deed (by omega) ha hb hc w1 (i := (i : Int)) (by omega) (h2 q hqn) (fun cs l => CoresApart_6_J19 (M + 3) (loopN (M + 1) (CoresApart_6_L18 (M + 3) again)) (((n : Int), deeds, (q : Int), true, (), (), (i : Int), (), (q : Int), 0 + 1, (i : Int), t45, ()), (0, a, b, c, (), ()), cs, (e.1, e.2.1, x, ()), la.set q z, l, ()))).trans ?_
        rw [CoresApart_6_J19]
        try simp only
        rw [w64 (by omega) (by omega)]
        have hz2 : act1 a b c (pk e.1 4) x (nth lb q) = z := by rw [hz, heq]
        rw [hz2]
        refine last (lb.set q z) (by simpa using hlb) ?_ (bound lb hlb h2 z hzl) M _
        rw [nth, nth, getD_set_eq (by omega), getD_set_eq (by omega)]
      · rw [byB_net (by omega), CoresApart_6_J19]
        try simp only
        rw [w64 (by omega) (by omega)]
        refine last lb hlb ?_ (fun p hp => by have := h2 p hp; omega) M _
        rw [nth, Go.Proofs.YtpnalmjmgaopjaaL.getD_set_ne hqc]
        exact heq
    · exact byB_f hs

theorem apart_start {M n core : Nat} (hM : 2000 ≤ M) (h1 : 1 ≤ n) (hn : n ≤ 8) (hcore : core < n) {a b c : Int} (ha : (Lit.int .i64 a).wf = true) (hb : (Lit.int .i64 b).wf = true) (hc : (Lit.int .i64 c).wf = true) {deeds : List Core} (hd : ∀ e ∈ deeds, (Lit.int .i64 e.1).wf = true ∧ (Lit.int .i64 e.2.1).wf = true ∧ (Lit.int .i64 e.2.2).wf = true) :
    loopN (M + 4) (CoresApart_6_L5 (M + 4)) (((n : Int), deeds, (core : Int), (), true, 0, ()), (a, b, c, ()), ()) = some ((true, ()), ()) := by
  have r1 := pk_range (c := a) (n := 51) (by omega)
  have r2 := pk_range (c := b) (n := 51) (by omega)
  have r3 := pk_range (c := c) (n := 51) (by omega)
  have fin := apart_main (N := M + 4) (n := n) (core := core) hn hcore (a := pk a 51) (b := pk b 51) (c := pk c 51) (by omega) (by omega) (by omega) hd (by omega) 100 0 (cores0 n) (cores0 n) (M + 4) (by omega) (by omega) (by simp) (by simp) rfl (fun q hq => by rw [nth, getD_rep hq]; simp) (fun q hq => by rw [nth, getD_rep hq]; simp)
  rw [loopN_succ, CoresApart_6_L5]
  simp (disch := omega) only [byB_t, if_pos, Int.toNat_zero, List.getD_cons_zero, List.getD_cons_succ, Int.reduceAdd, Int.reduceToNat]
  rw [pick_eq ha (by omega)]
  simp (disch := omega) only [bnd, List.getD_cons_zero, List.getD_cons_succ, List.set_cons_zero, List.set_cons_succ, w64, Int.reduceAdd, Int.reduceToNat]
  rw [loopN_succ, CoresApart_6_L5]
  simp (disch := omega) only [byB_t, if_pos, Int.toNat_zero, List.getD_cons_zero, List.getD_cons_succ, Int.reduceAdd, Int.reduceToNat]
  rw [pick_eq hb (by omega)]
  simp (disch := omega) only [bnd, List.getD_cons_zero, List.getD_cons_succ, List.set_cons_zero, List.set_cons_succ, w64, Int.reduceAdd, Int.reduceToNat]
  rw [loopN_succ, CoresApart_6_L5]
  simp (disch := omega) only [byB_t, if_pos, Int.toNat_zero, List.getD_cons_zero, List.getD_cons_succ, Int.reduceAdd, Int.reduceToNat]
  rw [pick_eq hc (by omega)]
  simp (disch := omega) only [bnd, List.getD_cons_zero, List.getD_cons_succ, List.set_cons_zero, List.set_cons_succ, w64, Int.reduceAdd, Int.reduceToNat]
  rw [loopN_succ, CoresApart_6_L5]
  simp (disch := omega) only [byB_f, new_ok, bnd]
  exact fin

theorem CoresApart (y0 : Int) (y1 : Int × Int × Int) (y2 : List (Int × Int × Int)) (y3 : Int) (gy0 : (Lit.int .i64 y0).wf = true) (gy1 : ((Lit.int .i64 y1.1).wf = true ∧ ((Lit.int .i64 y1.2.1).wf = true ∧ (Lit.int .i64 y1.2.2).wf = true))) (gy2 : (y2.length * 24 ≤ 140737488351232 ∧ ∀ e0 ∈ y2, ((Lit.int .i64 e0.1).wf = true ∧ ((Lit.int .i64 e0.2.1).wf = true ∧ (Lit.int .i64 e0.2.2).wf = true)))) (gy3 : (Lit.int .i64 y3).wf = true) : ∃ N, CoresApart_6 N ((y0, (y1.1, y1.2.1, y1.2.2, ()), y2, y3, ()), ()) = some ((true, ()), ()) := by
  obtain ⟨M, hM⟩ : ∃ M : Nat, 2000 ≤ M := ⟨2000, Nat.le_refl _⟩
  refine ⟨M + 4, ?_⟩
  have hp := pk_range (c := y0) (n := 8) (by omega)
  obtain ⟨n, hn⟩ : ∃ n : Nat, 1 + pk y0 8 = n := ⟨(1 + pk y0 8).toNat, by omega⟩
  have hq := pk_range (c := y3) (n := n) (by omega)
  obtain ⟨core, hcore⟩ : ∃ q : Nat, pk y3 n = q := ⟨(pk y3 n).toNat, by omega⟩
  have e1 : IntKind.wrap .i64 (1 + pk y0 8) = n := by rw [w64 (by omega) (by omega), hn]
  unfold CoresApart_6
  simp only [examples_eq (N := M + 4) (by omega), pick_eq (N := M + 4) gy0 (n := 8) (by omega), bnd, e1, pick_eq (N := M + 4) gy3 (n := n) (by omega), hcore]
  exact apart_start hM (by omega) (by omega) (by omega) gy1.1 gy1.2.1 gy1.2.2 gy2.2
end Go.Proofs.Ytpnalmjmgaopjaa.Pure
