/- Written systems are read as they were; what is read is written; what is cut, or has numbers behind, is none. Conditions: as each theorem states them. -/
import Derived.Test.YtcdnofemnpafhaaXD
namespace Go.Proofs.YtcdnofemnpafhaaC
open Go Go.Proofs.YtcdnofemnpafhaaM Go.Proofs.YtcdnofemnpafhaaX Go.Proofs.YtcdnofemnpafhaaL
set_option linter.unusedVariables false
set_option linter.unusedSimpArgs false

theorem nx_cons (x : Int) (t : List Int) : nx (x :: t, 0) = (x, (t, 0)) := rfl
theorem mn_cons {most x : Int} (t : List Int) (h : x ≤ most) : mn most (x :: t, 0) = (x, (t, 0)) := by
  unfold mn
  rw [nx_cons]
  dsimp only
  rw [if_pos h]
theorem secN_cons (x : Sec) (l : List Sec) (rest : List Int) : (x :: l).flatMap secN ++ rest = x.1 :: x.2.1 :: x.2.2 :: (l.flatMap secN ++ rest) := by
  rw [List.flatMap_cons]
  rfl
theorem secs_full : ∀ (l : List Sec) (rest : List Int) (out : List Sec), secsD l.length (l.flatMap secN ++ rest, 0) out = (out ++ l, (rest, 0))
  | [], rest, out => by simp [secsD]
  | x :: l, rest, out => by
    rw [secN_cons, List.length_cons, secsD, nx_cons, nx_cons, nx_cons, secs_full l rest]
    simp
theorem taskN_eq (t : Tk) (rest : List Int) : taskN t ++ rest = t.1 :: t.2.1 :: t.2.2.1 :: (t.2.2.2.length : Int) :: (t.2.2.2.flatMap secN ++ rest) := by
  unfold taskN
  rw [List.append_assoc]
  rfl
theorem task_full {t : Tk} (h : t.2.2.2.length ≤ 4) (rest : List Int) : taskD (taskN t ++ rest, 0) = (t, (rest, 0)) := by
  rw [taskN_eq]
  have h4 : ((t.2.2.2.length : Nat) : Int) ≤ 4 := by omega
  unfold taskD
  simp only [nx_cons, mn_cons _ h4, Int.toNat_natCast, secs_full]
  rfl
theorem tasks_full : ∀ (ts : List Tk) (rest : List Int) (out : List Tk), (∀ t ∈ ts, t.2.2.2.length ≤ 4) → tasksD ts.length (ts.flatMap taskN ++ rest, 0) out = (out ++ ts, (rest, 0))
  | [], rest, out, _ => by simp [tasksD]
  | t :: ts, rest, out, h => by
    rw [List.flatMap_cons, List.append_assoc, List.length_cons, tasksD, task_full (h t List.mem_cons_self), tasks_full ts rest _ fun x hx => h x (List.mem_cons_of_mem _ hx)]
    simp
theorem dec_at {s : Sy} (hg : goodS s) (rest : List Int) : decD (nums s ++ rest) = if rest = [] then (s, 0) else (z0, 8) := by
  have h24 := hg.1
  have e : nums s ++ rest = 1 :: s.1 :: s.2.1 :: s.2.2.1 :: s.2.2.2.1 :: s.2.2.2.2.1 :: s.2.2.2.2.2.1 :: s.2.2.2.2.2.2.1 :: s.2.2.2.2.2.2.2.1 :: ((tksOf s).length : Int) :: ((tksOf s).flatMap taskN ++ rest) := by
    unfold nums headN
    rw [List.append_assoc]
    rfl
  rw [e]
  unfold decD
  rw [nx_cons]
  dsimp only
  rw [if_pos rfl, nx_cons, nx_cons, nx_cons, nx_cons, nx_cons, nx_cons, nx_cons, nx_cons, mn_cons _ (by omega)]
  dsimp only
  rw [Int.toNat_natCast, tasks_full _ _ _ hg.2]
  dsimp only [endE]
  cases rest with
  | nil => rfl
  | cons x t => rfl
theorem dec_full {s : Sy} (hg : goodS s) : decD (nums s) = (s, 0) := by
  have := dec_at hg []
  rw [List.append_nil, if_pos rfl] at this
  exact this
theorem dec_more {s : Sy} (hg : goodS s) {m : List Int} (hm : m ≠ []) : decD (nums s ++ m) = (z0, 8) := by rw [dec_at hg, if_neg hm]

/-! what is read is written -/
theorem nx_inv {st : RS} (h : (nx st).2.2 = 0) : st.2 = 0 ∧ st.1 = (nx st).1 :: (nx st).2.1 := by
  obtain ⟨c, e⟩ := st
  cases c with
  | nil =>
    have h' : (if e = 0 then 8 else e) = 0 := h
    split at h'
    · omega
    · contradiction
  | cons x t =>
    by_cases he : e = 0
    · subst he
      exact ⟨rfl, rfl⟩
    · simp [nx, he] at h
theorem mn_inv {most : Int} {st : RS} (h : (mn most st).2.2 = 0) : st.2 = 0 ∧ st.1 = (mn most st).1 :: (mn most st).2.1 ∧ (mn most st).1 ≤ most := by
  unfold mn at h ⊢
  dsimp only at h ⊢
  by_cases hm : (nx st).1 ≤ most
  · rw [if_pos hm] at h ⊢
    obtain ⟨h1, h2⟩ := nx_inv h
    exact ⟨h1, h2, hm⟩
  · rw [if_neg hm] at h
    dsimp only at h
    split at h
    · omega
    · contradiction
theorem secs_inv : ∀ (m : Nat) (st : RS) (out : List Sec), (secsD m st out).2.2 = 0 → st.2 = 0 ∧ ∃ new, (secsD m st out).1 = out ++ new ∧ new.length = m ∧ st.1 = new.flatMap secN ++ (secsD m st out).2.1
  | 0, st, out, h => ⟨h, [], by simp [secsD], rfl, by simp [secsD]⟩
  | m + 1, st, out, h => by
    rw [secsD] at h ⊢
    obtain ⟨h1, new, h2, h3, h4⟩ := secs_inv m _ _ h
    obtain ⟨k1, k2⟩ := nx_inv h1
    obtain ⟨k3, k4⟩ := nx_inv k1
    obtain ⟨k5, k6⟩ := nx_inv k3
    refine ⟨k5, ((nx st).1, (nx (nx st).2).1, (nx (nx (nx st).2).2).1) :: new, by rw [h2]; simp, by rw [List.length_cons, h3], ?_⟩
    rw [secN_cons, ← h4, ← k2, ← k4, ← k6]
theorem task_inv {st : RS} (h : (taskD st).2.2 = 0) (hp : ∀ x ∈ st.1, 0 ≤ x) : st.2 = 0 ∧ st.1 = taskN (taskD st).1 ++ (taskD st).2.1 ∧ (taskD st).1.2.2.2.length ≤ 4 := by
  rw [taskN_eq]
  unfold taskD at h ⊢
  dsimp only at h ⊢
  obtain ⟨h1, new, h2, h3, h4⟩ := secs_inv _ _ _ h
  rw [List.nil_append] at h2
  obtain ⟨k1, k2, k3⟩ := mn_inv h1
  obtain ⟨k4, k5⟩ := nx_inv k1
  obtain ⟨k6, k7⟩ := nx_inv k4
  obtain ⟨k8, k9⟩ := nx_inv k6
  have hmem : 0 ≤ (mn 4 (nx (nx (nx st).2).2).2).1 := by
    apply hp
    rw [k9, k7, k5, k2]
    simp
  rw [h2, h3, ← h4]
  refine ⟨k8, ?_, by omega⟩
  rw [show (((mn 4 (nx (nx (nx st).2).2).2).1.toNat : Nat) : Int) = (mn 4 (nx (nx (nx st).2).2).2).1 by omega, ← k2, ← k5, ← k7, ← k9]
theorem tasks_inv : ∀ (k : Nat) (st : RS) (out : List Tk), (tasksD k st out).2.2 = 0 → (∀ x ∈ st.1, 0 ≤ x) → st.2 = 0 ∧ ∃ new, (tasksD k st out).1 = out ++ new ∧ new.length = k ∧ (∀ t ∈ new, t.2.2.2.length ≤ 4) ∧ st.1 = new.flatMap taskN ++ (tasksD k st out).2.1
  | 0, st, out, h, _ => ⟨h, [], by simp [tasksD], rfl, by simp, by simp [tasksD]⟩
  | k + 1, st, out, h, hp => by
    rw [tasksD] at h ⊢
    have alive : (taskD st).2.2 = 0 := (tasks_inv0 k _ _ h)
    obtain ⟨a1, a2, a3⟩ := task_inv alive hp
    obtain ⟨h1, new, h2, h3, h4, h5⟩ := tasks_inv k _ _ h (fun x hx => hp x (by rw [a2]; exact List.mem_append_right _ hx))
    refine ⟨a1, (taskD st).1 :: new, by rw [h2]; simp, by rw [List.length_cons, h3], fun t ht => ?_, ?_⟩
    · rcases List.mem_cons.1 ht with rfl | ht
      · exact a3
      · exact h4 t ht
    · rw [List.flatMap_cons, List.append_assoc, ← h5, ← a2]
where
  task_inv0 {st : RS} (h : (taskD st).2.2 = 0) : st.2 = 0 := by
    unfold taskD at h
    dsimp only at h
    obtain ⟨h1, _⟩ := secs_inv _ _ _ h
    exact (nx_inv (nx_inv (nx_inv (mn_inv h1).1).1).1).1
  tasks_inv0 : ∀ (k : Nat) (st : RS) (out : List Tk), (tasksD k st out).2.2 = 0 → st.2 = 0
    | 0, st, out, h => h
    | k + 1, st, out, h => by
      rw [tasksD] at h
      exact task_inv0 (tasks_inv0 k _ _ h)
theorem endE_zero {st : RS} (h : endE st = 0) : st.1 = [] ∧ st.2 = 0 := by
  unfold endE at h
  by_cases h1 : st.1.length = 0
  · rw [if_pos h1] at h
    exact ⟨List.length_eq_zero_iff.1 h1, h⟩
  · rw [if_neg h1] at h
    split at h
    · omega
    · contradiction
theorem dec_inv {l : List Int} (h : (decD l).2 = 0) (hp : ∀ x ∈ l, 0 ≤ x) : l = nums (decD l).1 ∧ goodS (decD l).1 := by
  unfold decD at h ⊢
  dsimp only at h ⊢
  by_cases h1 : (nx (l, 0)).1 = 1
  · rw [if_pos h1] at h ⊢
    generalize hT : tasksD (mn 24 (nx (nx (nx (nx (nx (nx (nx (nx (nx (l, 0)).2).2).2).2).2).2).2).2).2).1.toNat (mn 24 (nx (nx (nx (nx (nx (nx (nx (nx (nx (l, 0)).2).2).2).2).2).2).2).2).2).2 [] = T at h ⊢
    by_cases h2 : endE T.2 = 0
    · rw [if_pos h2]
      obtain ⟨e1, e2⟩ := endE_zero h2
      have al := tasks_inv.tasks_inv0 _ _ _ (show (tasksD (mn 24 (nx (nx (nx (nx (nx (nx (nx (nx (nx (l, 0)).2).2).2).2).2).2).2).2).2).1.toNat (mn 24 (nx (nx (nx (nx (nx (nx (nx (nx (nx (l, 0)).2).2).2).2).2).2).2).2).2).2 []).2.2 = 0 by rw [hT]; exact e2)
      obtain ⟨a9, b9, c9⟩ := mn_inv al
      obtain ⟨a8, b8⟩ := nx_inv a9
      obtain ⟨a7, b7⟩ := nx_inv a8
      obtain ⟨a6, b6⟩ := nx_inv a7
      obtain ⟨a5, b5⟩ := nx_inv a6
      obtain ⟨a4, b4⟩ := nx_inv a5
      obtain ⟨a3, b3⟩ := nx_inv a4
      obtain ⟨a2, b2⟩ := nx_inv a3
      obtain ⟨a1, b1⟩ := nx_inv a2
      obtain ⟨a0, b0⟩ := nx_inv a1
      have b0' : l = (nx (l, 0)).1 :: (nx (l, 0)).2.1 := b0
      have hl : l = 1 :: (nx (nx (l, 0)).2).1 :: (nx (nx (nx (l, 0)).2).2).1 :: (nx (nx (nx (nx (l, 0)).2).2).2).1 :: (nx (nx (nx (nx (nx (l, 0)).2).2).2).2).1 :: (nx (nx (nx (nx (nx (nx (l, 0)).2).2).2).2).2).1 :: (nx (nx (nx (nx (nx (nx (nx (l, 0)).2).2).2).2).2).2).1 :: (nx (nx (nx (nx (nx (nx (nx (nx (l, 0)).2).2).2).2).2).2).2).1 :: (nx (nx (nx (nx (nx (nx (nx (nx (nx (l, 0)).2).2).2).2).2).2).2).2).1 :: (mn 24 (nx (nx (nx (nx (nx (nx (nx (nx (nx (l, 0)).2).2).2).2).2).2).2).2).2).1 :: (mn 24 (nx (nx (nx (nx (nx (nx (nx (nx (nx (l, 0)).2).2).2).2).2).2).2).2).2).2.1 := by
        rw [← b9, ← b8, ← b7, ← b6, ← b5, ← b4, ← b3, ← b2, ← b1, ← h1, ← b0']
      generalize (nx (nx (l, 0)).2).1 = f0 at hl ⊢
      generalize (nx (nx (nx (l, 0)).2).2).1 = f1 at hl ⊢
      generalize (nx (nx (nx (nx (l, 0)).2).2).2).1 = f2 at hl ⊢
      generalize (nx (nx (nx (nx (nx (l, 0)).2).2).2).2).1 = f3 at hl ⊢
      generalize (nx (nx (nx (nx (nx (nx (l, 0)).2).2).2).2).2).1 = f4 at hl ⊢
      generalize (nx (nx (nx (nx (nx (nx (nx (l, 0)).2).2).2).2).2).2).1 = f5 at hl ⊢
      generalize (nx (nx (nx (nx (nx (nx (nx (nx (l, 0)).2).2).2).2).2).2).2).1 = f6 at hl ⊢
      generalize (nx (nx (nx (nx (nx (nx (nx (nx (nx (l, 0)).2).2).2).2).2).2).2).2).1 = f7 at hl ⊢
      generalize mn 24 (nx (nx (nx (nx (nx (nx (nx (nx (nx (l, 0)).2).2).2).2).2).2).2).2).2 = d at *
      have hd0 : 0 ≤ d.1 := hp _ (by rw [hl]; simp)
      have htail : ∀ x ∈ d.2.1, 0 ≤ x := fun x hx => hp x (by rw [hl]; simp [hx])
      obtain ⟨_, new, n1, n2, n3, n4⟩ := tasks_inv _ _ _ (show (tasksD d.1.toNat d.2 []).2.2 = 0 by rw [hT]; exact e2) htail
      rw [hT, List.nil_append] at n1
      rw [hT, e1, List.append_nil] at n4
      refine ⟨?_, ?_, ?_⟩
      · rw [hl, n4]
        unfold nums headN tksOf
        dsimp only
        rw [n1, show ((new.length : Nat) : Int) = d.1 by omega]
        rfl
      · show T.1.length ≤ 24
        rw [n1]
        omega
      · show ∀ t ∈ T.1, _
        rw [n1]
        exact n3
    · rw [if_neg h2] at h
      exact absurd h h2
  · rw [if_neg h1] at h
    exact absurd h (by decide)

/-! what is cut is none -/
theorem nx_dead (c : List Int) : nx (c, 8) = (0, (c, 8)) := by
  cases c <;> rfl
theorem secs_dead : ∀ (m : Nat) (c : List Int) (out : List Sec), (secsD m (c, 8) out).2 = (c, 8)
  | 0, _, _ => rfl
  | m + 1, c, out => by rw [secsD, nx_dead, nx_dead, nx_dead, secs_dead m]
theorem mn_dead {most : Int} (h : 0 ≤ most) (c : List Int) : mn most (c, 8) = (0, (c, 8)) := by
  unfold mn
  rw [nx_dead]
  dsimp only
  rw [if_pos h]
theorem task_dead (c : List Int) : (taskD (c, 8)).2 = (c, 8) := by
  unfold taskD
  simp only [nx_dead, mn_dead (show (0 : Int) ≤ 4 by decide)]
  rfl
theorem tasks_dead : ∀ (k : Nat) (c : List Int) (out : List Tk), (tasksD k (c, 8) out).2 = (c, 8)
  | 0, _, _ => rfl
  | k + 1, c, out => by rw [tasksD, task_dead, tasks_dead k]
theorem secs_pre : ∀ (l : List Sec) (rest p : List Int) (out : List Sec), p <+: l.flatMap secN ++ rest → (∃ p', p = l.flatMap secN ++ p' ∧ p' <+: rest) ∨ ∃ c, (secsD l.length (p, 0) out).2 = (c, 8)
  | [], rest, p, out, h => .inl ⟨p, rfl, h⟩
  | x :: l, rest, p, out, h => by
    rw [secN_cons] at h
    match p, h with
    | [], _ => exact .inr ⟨[], secs_dead l.length [] _⟩
    | [a], _ => exact .inr ⟨[], secs_dead l.length [] _⟩
    | [a, b], _ => exact .inr ⟨[], secs_dead l.length [] _⟩
    | a :: b :: c :: p, h =>
      rw [List.cons_prefix_cons, List.cons_prefix_cons, List.cons_prefix_cons] at h
      obtain ⟨rfl, rfl, rfl, h⟩ := h
      rcases secs_pre l rest p (out ++ [(x.1, x.2.1, x.2.2)]) h with ⟨p', rfl, h2⟩ | ⟨c, h2⟩
      · exact .inl ⟨p', by rw [secN_cons], h2⟩
      · exact .inr ⟨c, h2⟩
theorem tasks_pre : ∀ (ts : List Tk) (p : List Int) (out : List Tk), (∀ t ∈ ts, t.2.2.2.length ≤ 4) → p <+: ts.flatMap taskN → p = ts.flatMap taskN ∨ ∃ c, (tasksD ts.length (p, 0) out).2 = (c, 8)
  | [], p, out, _, h => .inl (List.prefix_nil.1 h)
  | t :: ts, p, out, ht, h => by
    rw [List.flatMap_cons] at h ⊢
    have hs := ht t List.mem_cons_self
    have short : ∀ q : List Int, (taskD (q, 0)).2 = ([], 8) → ∃ c, (tasksD (t :: ts).length (q, 0) out).2 = (c, 8) := fun q hq => ⟨[], by rw [List.length_cons, tasksD, hq]; exact tasks_dead _ _ _⟩
    rw [taskN_eq] at h
    match p, h with
    | [], _ => exact .inr (short _ rfl)
    | [a], _ => exact .inr (short _ rfl)
    | [a, b], _ => exact .inr (short _ rfl)
    | [a, b, c], _ => exact .inr (short _ rfl)
    | a :: b :: c :: d :: p, h =>
      rw [List.cons_prefix_cons, List.cons_prefix_cons, List.cons_prefix_cons, List.cons_prefix_cons] at h
      obtain ⟨rfl, rfl, rfl, rfl, h⟩ := h
      have e : taskD (t.1 :: t.2.1 :: t.2.2.1 :: (t.2.2.2.length : Int) :: p, 0) = ((t.1, t.2.1, t.2.2.1, (secsD t.2.2.2.length (p, 0) []).1), (secsD t.2.2.2.length (p, 0) []).2) := by
        have h4 : ((t.2.2.2.length : Nat) : Int) ≤ 4 := by omega
        unfold taskD
        simp only [nx_cons, mn_cons _ h4, Int.toNat_natCast]
      rw [List.length_cons, tasksD, e]
      dsimp only
      rcases secs_pre _ _ p [] h with ⟨p', rfl, h2⟩ | ⟨c, h2⟩
      · rw [secs_full]
        rcases tasks_pre ts p' (out ++ [(t.1, t.2.1, t.2.2.1, [] ++ t.2.2.2)]) (fun x hx => ht x (List.mem_cons_of_mem _ hx)) h2 with rfl | ⟨c, h3⟩
        · exact .inl (by rw [taskN_eq])
        · exact .inr ⟨c, h3⟩
      · rw [h2]
        exact .inr ⟨c, tasks_dead _ _ _⟩
theorem dec_pre {s : Sy} (hg : goodS s) {p : List Int} (hp : p <+: nums s) (hne : p ≠ nums s) : decD p = (z0, 8) := by
  have h24 := hg.1
  have e : nums s = 1 :: s.1 :: s.2.1 :: s.2.2.1 :: s.2.2.2.1 :: s.2.2.2.2.1 :: s.2.2.2.2.2.1 :: s.2.2.2.2.2.2.1 :: s.2.2.2.2.2.2.2.1 :: ((tksOf s).length : Int) :: ((tksOf s).flatMap taskN) := rfl
  rw [e] at hp hne
  match p, hp, hne with
  | [], _, _ => rfl
  | [a], hp, _ => rw [List.cons_prefix_cons] at hp; obtain ⟨rfl, _⟩ := hp; rfl
  | [a, b], hp, _ => rw [List.cons_prefix_cons] at hp; obtain ⟨rfl, _⟩ := hp; rfl
  | [a, b, c], hp, _ => rw [List.cons_prefix_cons] at hp; obtain ⟨rfl, _⟩ := hp; rfl
  | [a, b, c, d], hp, _ => rw [List.cons_prefix_cons] at hp; obtain ⟨rfl, _⟩ := hp; rfl
  | [a, b, c, d, f], hp, _ => rw [List.cons_prefix_cons] at hp; obtain ⟨rfl, _⟩ := hp; rfl
  | [a, b, c, d, f, g], hp, _ => rw [List.cons_prefix_cons] at hp; obtain ⟨rfl, _⟩ := hp; rfl
  | [a, b, c, d, f, g, h], hp, _ => rw [List.cons_prefix_cons] at hp; obtain ⟨rfl, _⟩ := hp; rfl
  | [a, b, c, d, f, g, h, i], hp, _ => rw [List.cons_prefix_cons] at hp; obtain ⟨rfl, _⟩ := hp; rfl
  | [a, b, c, d, f, g, h, i, j], hp, _ => rw [List.cons_prefix_cons] at hp; obtain ⟨rfl, _⟩ := hp; rfl
  | a :: b :: c :: d :: f :: g :: h :: i :: j :: k :: p, hp, hne =>
    simp only [List.cons_prefix_cons] at hp
    obtain ⟨rfl, rfl, rfl, rfl, rfl, rfl, rfl, rfl, rfl, rfl, hp⟩ := hp
    unfold decD
    rw [nx_cons]
    dsimp only
    rw [if_pos rfl, nx_cons, nx_cons, nx_cons, nx_cons, nx_cons, nx_cons, nx_cons, nx_cons, mn_cons _ (by omega)]
    dsimp only
    rw [Int.toNat_natCast]
    rcases tasks_pre _ p [] hg.2 hp with rfl | ⟨c, h2⟩
    · exact absurd rfl hne
    · rw [h2]
      dsimp only [endE]
      by_cases hc : c.length = 0
      · simp [hc]
      · simp [hc]
end Go.Proofs.YtcdnofemnpafhaaC
