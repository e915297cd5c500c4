/- What the document's Decode tells: the same as the program's. Conditions: as each theorem states them. -/
import Derived.Test.YtcdnofemnpafhaaXK
import Derived.Test.YtcdnofemnpafhaaXD
namespace Go.Proofs.YtcdnofemnpafhaaC
open Go Go.Proofs.YtcdnofemnpafhaaM Go.Proofs.YtcdnofemnpafhaaX Go.Proofs.YtcdnofemnpafhaaL
set_option linter.unusedVariables false
set_option linter.unusedSimpArgs false

theorem nx_cons (x : Int) (t : List Int) : nx (x :: t, 0) = (x, (t, 0)) := rfl
theorem nx_dead {e : Int} (h : e ≠ 0) (c : List Int) : nx (c, e) = (0, (c, e)) := by
  cases c <;> simp [nx, h]
theorem mn_dead {most e : Int} (hm : 0 ≤ most) (h : e ≠ 0) (c : List Int) : mn most (c, e) = (0, (c, e)) := by
  unfold mn
  rw [nx_dead h]
  dsimp only
  rw [if_pos hm]
theorem secs_dead {e : Int} (h : e ≠ 0) : ∀ (m : Nat) (c : List Int) (out : List Sec), (secsD m (c, e) out).2 = (c, e)
  | 0, c, out => rfl
  | m + 1, c, out => by
    rw [secsD, nx_dead h]
    dsimp only
    rw [nx_dead h]
    dsimp only
    rw [nx_dead h]
    exact secs_dead h m c _
theorem task_dead {e : Int} (h : e ≠ 0) (c : List Int) : (taskD (c, e)).2 = (c, e) := by
  unfold taskD
  dsimp only
  rw [nx_dead h]
  dsimp only
  rw [nx_dead h]
  dsimp only
  rw [nx_dead h]
  dsimp only
  rw [mn_dead (by decide) h]
  rfl
theorem tasks_dead {e : Int} (h : e ≠ 0) : ∀ (k : Nat) (c : List Int) (out : List Tk), (tasksD k (c, e) out).2 = (c, e)
  | 0, c, out => rfl
  | k + 1, c, out => by
    rw [tasksD, task_dead h]
    exact tasks_dead h k c _
theorem secs_short : ∀ (m : Nat) (l : List Int) (out : List Sec), l.length < 3 * m → ∃ c, (secsD m (l, 0) out).2 = (c, 8)
  | 0, l, out, h => absurd h (by omega)
  | m + 1, [], out, h => ⟨[], secs_dead (by decide) m _ _⟩
  | m + 1, [a], out, h => ⟨[], secs_dead (by decide) m _ _⟩
  | m + 1, [a, b], out, h => ⟨[], secs_dead (by decide) m _ _⟩
  | m + 1, a :: b :: c :: l, out, h => by
    rw [secsD]
    exact secs_short m l _ (by simp only [List.length_cons] at h; omega)
theorem endE_dead {e : Int} (h : e ≠ 0) (c : List Int) : endE (c, e) = e := by
  unfold endE
  dsimp only
  split
  · rfl
  · rfl
theorem split4 {l : List Int} (h : 4 ≤ l.length) : ∃ a b c d t, l = a :: b :: c :: d :: t := by
  match l, h with
  | a :: b :: c :: d :: t, _ => exact ⟨a, b, c, d, t, rfl⟩
theorem split3 {l : List Int} (h : 3 ≤ l.length) : ∃ a b c t, l = a :: b :: c :: t := by
  match l, h with
  | a :: b :: c :: t, _ => exact ⟨a, b, c, t, rfl⟩
theorem mn_low {most x : Int} (h : x ≤ most) (t : List Int) : mn most (x :: t, 0) = (x, (t, 0)) := by
  unfold mn
  rw [nx_cons]
  dsimp only
  rw [if_pos h]
theorem mn_high {most x : Int} (h : ¬ x ≤ most) (t : List Int) : mn most (x :: t, 0) = (0, (t, 7)) := by
  unfold mn
  rw [nx_cons]
  dsimp only
  rw [if_neg h]
  rfl
theorem task_low {a b c d : Int} (h : d ≤ 4) (t : List Int) : taskD (a :: b :: c :: d :: t, 0) = ((a, b, c, (secsD d.toNat (t, 0) []).1), (secsD d.toNat (t, 0) []).2) := by
  unfold taskD
  simp only [nx_cons, mn_low h]
theorem task_high {a b c d : Int} (h : ¬ d ≤ 4) (t : List Int) : (taskD (a :: b :: c :: d :: t, 0)).2 = (t, 7) := by
  unfold taskD
  simp only [nx_cons, mn_high h]
  rfl
theorem task_short {l : List Int} (h : l.length < 4) : ∃ c, (taskD (l, 0)).2 = (c, 8) := by
  match l, h with
  | [], _ => exact ⟨_, rfl⟩
  | [a], _ => exact ⟨_, rfl⟩
  | [a, b], _ => exact ⟨_, rfl⟩
  | [a, b, c], _ => exact ⟨_, rfl⟩

/-- What the document's tasks tells. -/
def RT (l : List Int) (m : Nat) (y : (Unit × (List Int × (Int × Unit))) × (List Tk × Unit)) : Prop :=
  (∃ rest T, tasksD m (l, 0) [] = (T, (rest, 0)) ∧ y = (((), rest, 0, ()), T, ())) ∨ ∃ e c, e ≠ 0 ∧ (tasksD m (l, 0) []).2 = (c, e) ∧ y = (((), [], e, ()), [], ())
theorem rsecs_loop {N : Nat} {Q : _ → Prop} {again3 : _ → _} {many : Int} {i : Int} {n : Nat} {t23 t25 t27 : List Int} {t24 t26 t28 t29 t30 t31 : Int} {t32 : List Sec} {c34 c35 c36 : Int} {rest : List Int} {out : List Tk}
    (hn : n ≤ 4) (hN : 10 < N) (ho : out.length ≤ 1000) (hr : 3 * n ≤ rest.length)
    (h : ∀ l', (secsD n (rest, 0) []).2 = (l', 0) → l'.length + 3 * n = rest.length → (∀ x ∈ l', x ∈ rest) → Ev (again3 ((l', many, (), IntKind.wrap .i64 (i + 1), ()), out ++ [(c34, c35, c36, (secsD n (rest, 0) []).1)], ())) Q) :
    Ev (loopN N (tasks_27v1_L15 N again3) ((rest, many, (), i, (), (n : Int), 0, t23, t24, t25, t26, t27, t28, (t29, t30, t31, t32, ()), ()), out, (c34, c35, c36, (), ()), [], ())) Q := by
  refine Ev.loop (k := n) (fun k st => ∃ (q : Nat) (l' : List Int) (o : List Sec), st = ((l', many, (), i, (), (n : Int), (q : Int), t23, t24, t25, t26, t27, t28, (t29, t30, t31, t32, ()), ()), out, (c34, c35, c36, (), ()), o, ()) ∧ k = n - q ∧ q ≤ n ∧ o.length = q ∧ secsD (n - q) (l', 0) o = secsD n (rest, 0) [] ∧ l'.length + 3 * q = rest.length ∧ ∀ x ∈ l', x ∈ rest) ?_ ⟨0, rest, [], rfl, rfl, by omega, rfl, rfl, rfl, fun _ h => h⟩ (by omega)
  rintro k st again ⟨q, l', o, rfl, hk, hq, hol, he, hl, hmem⟩ ih
  unfold tasks_27v1_L15
  refine Ev.dec (fun h1 => ?_) fun h1 => ?_
  · obtain ⟨a, b, c, t, rfl⟩ := split3 (l := l') (by omega)
    have hlen : (a :: b :: c :: t).length = t.length + 3 := rfl
    rw [if_pos (by omega), if_pos (by omega), if_pos (by omega), if_pos (by omega), if_pos (by omega)]
    have e1 : IntKind.wrap .i64 ((q : Int) + 1) = ((q + 1 : Nat) : Int) := by rw [w64 (by omega) (by omega)]; omega
    have e2 : ((a :: b :: c :: t).take (a :: b :: c :: t).length).drop 3 = t := by rw [List.take_length]; rfl
    rw [e1, e2]
    refine ih (n - (q + 1)) _ (by omega) ⟨q + 1, t, _, rfl, rfl, by omega, by rw [List.length_append, hol]; rfl, ?_, by omega, fun x hx => hmem x (by simp [hx])⟩
    rw [← he, show n - q = (n - (q + 1)) + 1 by omega, secsD]
    rfl
  · have hz : n - q = 0 := by omega
    rw [hz] at he
    rw [← he] at h
    rw [if_pos (by omega)]
    exact h l' rfl (by omega) hmem
theorem rtasks_at {N : Nat} (hN : 100 < N) {l : List Int} (hl : l.length ≤ 2000) (hp : ∀ x ∈ l, 0 ≤ x) {m : Nat} (hm : m ≤ 24) : Ev (tasks_27v1 N ((l, (m : Int), ()), ())) (RT l m) := by
  unfold tasks_27v1
  dsimp only
  refine Ev.loop (k := m) (fun k st => ∃ (i : Nat) (l' : List Int) (o : List Tk), st = ((l', (m : Int), (), (i : Int), ()), o, ()) ∧ k = m - i ∧ i ≤ m ∧ o.length = i ∧ tasksD (m - i) (l', 0) o = tasksD m (l, 0) [] ∧ l'.length ≤ 2000 ∧ ∀ x ∈ l', 0 ≤ x) ?_ ⟨0, l, [], rfl, rfl, by omega, rfl, rfl, hl, hp⟩ (by omega)
  rintro k st again ⟨i, l', o, rfl, hk, hi, hol, he, hll, hpos⟩ ih
  unfold tasks_27v1_L3
  refine Ev.dec (fun h1 => ?_) fun h1 => ?_
  · rw [show m - i = (m - (i + 1)) + 1 by omega, tasksD] at he
    refine Ev.dec (fun h2 => Ev.mk (.inr ?_)) fun h2 => ?_
    · obtain ⟨c, hc⟩ := task_short (l := l') (by omega)
      refine ⟨8, c, by decide, ?_, rfl⟩
      rw [← he, hc, tasks_dead (by decide)]
    · obtain ⟨a, b, c, d, t, rfl⟩ := split4 (l := l') (by omega)
      have hlen : (a :: b :: c :: d :: t).length = t.length + 4 := rfl
      rw [if_pos (by omega), if_pos (by omega), if_pos (by omega), if_pos (by omega), if_pos (by omega)]
      have e2 : ((a :: b :: c :: d :: t).take (a :: b :: c :: d :: t).length).drop 4 = t := by rw [List.take_length]; rfl
      have d0 : (a :: b :: c :: d :: t).getD 0 0 = a := rfl
      have d1 : (a :: b :: c :: d :: t).getD 1 0 = b := rfl
      have d2 : (a :: b :: c :: d :: t).getD 2 0 = c := rfl
      have d3 : (a :: b :: c :: d :: t).getD 3 0 = d := rfl
      simp only [e2, d0, d1, d2, d3]
      rw [byB_not]
      refine Ev.dec (fun h4 => ?_) fun h4 => Ev.mk (.inr ?_)
      · rw [task_low h4] at he
        have hd := hpos d (by simp)
        · obtain ⟨n, rfl⟩ : ∃ n : Nat, d = n := ⟨d.toNat, by omega⟩
          rw [Int.toNat_natCast] at he
          rw [w64 (by omega) (by omega)]
          refine Ev.dec (fun h3 => Ev.mk (.inr ?_)) fun h3 => ?_
          · obtain ⟨c', hc⟩ := secs_short n t [] (by omega)
            refine ⟨8, c', by decide, ?_, rfl⟩
            rw [← he, hc, tasks_dead (by decide)]
          · refine rsecs_loop (by omega) (by omega) (by omega) (by omega) fun l' hl' hlen' hmem' => ?_
            rw [hl'] at he
            have e1 : IntKind.wrap .i64 ((i : Int) + 1) = ((i + 1 : Nat) : Int) := by rw [w64 (by omega) (by omega)]; omega
            rw [e1]
            exact ih (m - (i + 1)) _ (by omega) ⟨i + 1, l', _, rfl, rfl, by omega, by rw [List.length_append, hol]; rfl, he, by omega, fun x hx => hpos x (by simp [hmem' x hx])⟩
      · refine ⟨7, t, by decide, ?_, rfl⟩
        rw [← he, task_high h4, tasks_dead (by decide)]
  · have hz : m - i = 0 := by omega
    rw [hz] at he
    exact Ev.mk (.inl ⟨l', o, he.symm, rfl⟩)
theorem split10 {l : List Int} (h : 10 ≤ l.length) : ∃ a0 a1 a2 a3 a4 a5 a6 a7 a8 a9 t, l = a0 :: a1 :: a2 :: a3 :: a4 :: a5 :: a6 :: a7 :: a8 :: a9 :: t := by
  match l, h with
  | a0 :: a1 :: a2 :: a3 :: a4 :: a5 :: a6 :: a7 :: a8 :: a9 :: t, _ => exact ⟨a0, a1, a2, a3, a4, a5, a6, a7, a8, a9, t, rfl⟩
theorem nx_nil : nx (([] : List Int), 0) = (0, ([], 8)) := rfl
theorem mn_nil : mn 24 (([] : List Int), 0) = (0, ([], 8)) := rfl
theorem decD_short {l : List Int} (h : l.length < 10) : decD l = (z0, 8) := by
  have n8 : nx (([] : List Int), 8) = (0, ([], 8)) := rfl
  have m8 : mn 24 (([] : List Int), 8) = (0, ([], 8)) := rfl
  have hE : endE ([], 8) = 8 := rfl
  have h0 : ¬ (0 : Int) = 1 := by decide
  have h8 : ¬ (8 : Int) = 0 := by decide
  match l, h with
  | [], _ => rfl
  | [a], _ => by_cases ha : a = 1 <;> simp [decD, nx_cons, nx_nil, n8, m8, hE, tasksD, ha]
  | [a, b], _ => by_cases ha : a = 1 <;> simp [decD, nx_cons, nx_nil, n8, m8, hE, tasksD, ha]
  | [a, b, c], _ => by_cases ha : a = 1 <;> simp [decD, nx_cons, nx_nil, n8, m8, hE, tasksD, ha]
  | [a, b, c, d], _ => by_cases ha : a = 1 <;> simp [decD, nx_cons, nx_nil, n8, m8, hE, tasksD, ha]
  | [a, b, c, d, e], _ => by_cases ha : a = 1 <;> simp [decD, nx_cons, nx_nil, n8, m8, hE, tasksD, ha]
  | [a, b, c, d, e, f], _ => by_cases ha : a = 1 <;> simp [decD, nx_cons, nx_nil, n8, m8, hE, tasksD, ha]
  | [a, b, c, d, e, f, g], _ => by_cases ha : a = 1 <;> simp [decD, nx_cons, nx_nil, n8, m8, hE, tasksD, ha]
  | [a, b, c, d, e, f, g, i], _ => by_cases ha : a = 1 <;> simp [decD, nx_cons, nx_nil, n8, m8, hE, tasksD, ha]
  | [a, b, c, d, e, f, g, i, j], _ => by_cases ha : a = 1 <;> simp [decD, nx_cons, nx_nil, mn_nil, n8, m8, hE, tasksD, ha]
theorem decD_not {a : Int} {t : List Int} (h : ¬ a = 1) : decD (a :: t) = (z0, 8) := by simp [decD, nx_cons, h]
theorem decD_high {a1 a2 a3 a4 a5 a6 a7 a8 a9 : Int} {t : List Int} (h : ¬ a9 ≤ 24) : decD (1 :: a1 :: a2 :: a3 :: a4 :: a5 :: a6 :: a7 :: a8 :: a9 :: t) = (z0, 7) := by
  have e : endE (t, 7) = 7 := endE_dead (by decide) t
  simp [decD, nx_cons, mn_high h, tasksD, e]
theorem decD_low {a1 a2 a3 a4 a5 a6 a7 a8 a9 : Int} {t : List Int} (h : a9 ≤ 24) : decD (1 :: a1 :: a2 :: a3 :: a4 :: a5 :: a6 :: a7 :: a8 :: a9 :: t) = if endE (tasksD a9.toNat (t, 0) []).2 = 0 then ((a1, a2, a3, a4, a5, a6, a7, a8, (tasksD a9.toNat (t, 0) []).1), 0) else (z0, endE (tasksD a9.toNat (t, 0) []).2) := by
  simp [decD, nx_cons, mn_low h]
theorem readS_ok {l : List UInt8} (h : (ReadS l).2 = 0) : okL (ReadS l).1 ∧ (ReadS l).1.length ≤ 2000 := by
  obtain ⟨t, h1, h2, h3, h4⟩ := readS_dec (l.length + 1) l [] (ReadS l).1 (by omega) (by simp) (by rw [← ReadS, ← h])
  rw [h1, List.nil_append]
  rw [h1, List.nil_append] at h4
  exact ⟨h3, h4⟩
theorem rdecode_at {N : Nat} {b : ByteArray} (hb : b.size < 140737488355328) (hN : b.size + 200000 < N) : Ev (Decode_11v1 N ((b, ()), ())) fun y => y = rs (decS b) := by
  unfold Decode_11v1
  dsimp only
  refine Ev.bind (ropen_at hb (by omega)) ?_
  rintro y rfl
  have hsz := openD_size b
  unfold decS
  generalize openD b = x at hsz ⊢
  obtain ⟨x, e⟩ := x
  dsimp only at hsz ⊢
  refine Ev.bne (fun h0 => ?_) fun h0 => ?_
  · rw [if_neg h0]
    exact Ev.mk rfl
  · rw [if_pos h0]
    refine Ev.bind (rread_at (s := x) (by omega) (by omega)) ?_
    rintro y rfl
    dsimp only
    refine Ev.bne (fun h => Ev.mk ?_) fun h => ?_
    · unfold decB
      rw [if_neg h]
      rfl
    · have hd : decB x = decD (ReadS x.data.toList).1 := by unfold decB; rw [if_pos h]
      rw [hd]
      have hok := readS_ok h
      generalize (ReadS x.data.toList).1 = l at hok ⊢
      rw [join_eq]
      refine Ev.dec (fun h1 => ?_) fun h1 => ?_
      · unfold Decode_11v1_J8
        dsimp only
        rw [byB_true, decD_short (by omega)]
        exact Ev.mk rfl
      · obtain ⟨a0, a1, a2, a3, a4, a5, a6, a7, a8, a9, t, rfl⟩ := split10 (l := l) (by omega)
        have hlen : (a0 :: a1 :: a2 :: a3 :: a4 :: a5 :: a6 :: a7 :: a8 :: a9 :: t).length = t.length + 10 := rfl
        rw [if_pos (by omega)]
        unfold Decode_11v1_J8
        dsimp only
        show Ev (byB (a0 != 1) _ _) _
        refine Ev.bne (fun h2 => Ev.mk ?_) fun h2 => ?_
        · rw [decD_not h2]
          rfl
        · subst h2
          rw [if_pos (by omega)]
          show Ev (byB (!decide (a9 ≤ 24)) _ _) _
          rw [byB_not]
          refine Ev.dec (fun h3 => ?_) fun h3 => Ev.mk ?_
          · rw [decD_low h3, if_pos (by omega), if_pos (by omega), if_pos (by omega), if_pos (by omega), if_pos (by omega), if_pos (by omega), if_pos (by omega), if_pos (by omega), if_pos (by omega), if_pos (by omega)]
            have e2 : ((1 :: a1 :: a2 :: a3 :: a4 :: a5 :: a6 :: a7 :: a8 :: a9 :: t).take (1 :: a1 :: a2 :: a3 :: a4 :: a5 :: a6 :: a7 :: a8 :: a9 :: t).length).drop 10 = t := by rw [List.take_length]; rfl
            have h9 : 0 ≤ a9 := (hok.1 a9 (by simp)).1
            obtain ⟨m, rfl⟩ : ∃ m : Nat, a9 = m := ⟨a9.toNat, by omega⟩
            rw [e2]
            show Ev ((tasks_27v1 N ((t, (m : Int), ()), ())).bind _) _
            rw [Int.toNat_natCast]
            refine Ev.bind (rtasks_at (N := N) (by omega) (l := t) (by have := hok.2; omega) (fun x hx => (hok.1 x (by simp [hx])).1) (m := m) (by omega)) fun y hy => ?_
            rcases hy with ⟨rest, T, hT, rfl⟩ | ⟨e, c, he, hT, rfl⟩
            · rw [hT]
              dsimp only
              rw [byB_nef rfl, byB_not]
              refine Ev.dec (fun h5 => ?_) fun h5 => ?_
              · have : endE (rest, 0) = 0 := by unfold endE; rw [if_pos (show rest.length = 0 by omega)]
                rw [if_pos this]
                exact Ev.mk rfl
              · have : endE (rest, 0) = 8 := by unfold endE; rw [if_neg (show ¬ rest.length = 0 by omega)]; rfl
                rw [if_neg (by rw [this]; decide), this]
                exact Ev.mk rfl
            · rw [hT]
              dsimp only
              rw [byB_net he, endE_dead he, if_neg he]
              exact Ev.mk rfl
          · rw [decD_high h3]
            rfl
end Go.Proofs.YtcdnofemnpafhaaC
