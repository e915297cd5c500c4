import Derived.Test.YtflnooigdbhpdaaPAx5
namespace Go.Proofs.Ytflnooigdbhpdaa.Pure
open Go.RowKit Go.Proofs.Ytflnooigdbhpdaa.PA Go.Proofs.YtflnooigdbhpdaaW.PrintWords Go.Proofs.YtflnooigdbhpdaaW.PrintLast

theorem between_eq (a b c : Int) : valid_between.f a b c = some (decide (b ≤ a ∧ a ≤ c)) := by
  unfold valid_between.f
  by_cases h : a ≥ b
  · rw [if_pos h]; congr 1; by_cases h2 : a ≤ c <;> simp [h2] <;> omega
  · rw [if_neg h]; congr 1; symm; rw [decide_eq_false_iff_not]; omega

/-- What is asked of a system alone. -/
def wholeP (a0 a1 a2 a3 a4 a5 a6 a7 n : Int) : Prop :=
  (a1 = 1 ∨ a1 = 2) ∧ (a2 = 1 ∨ (a2 = 2 ∧ a1 = 1)) ∧ (0 ≤ a3 ∧ a3 ≤ 50) ∧ (0 ≤ a4 ∧ a4 ≤ 50) ∧ (0 ≤ a5 ∧ a5 ≤ 50) ∧ (1 ≤ a0 ∧ a0 ≤ 8) ∧ (1 ≤ a6 ∧ a6 ≤ 50) ∧ (0 ≤ a7 ∧ a7 ≤ 8) ∧ (1 ≤ n ∧ n ≤ 24)
instance (a0 a1 a2 a3 a4 a5 a6 a7 n : Int) : Decidable (wholeP a0 a1 a2 a3 a4 a5 a6 a7 n) := by unfold wholeP; infer_instance

theorem ite_sd (c d : Prop) [Decidable c] [Decidable d] : (if c then some (decide d) else some false) = some (decide (c ∧ d)) := by
  by_cases h : c <;> simp [h]
theorem ite_sd2 (c d e : Prop) [Decidable c] [Decidable d] [Decidable e] : (if c then some (decide d) else some (decide e)) = some (decide ((c ∧ d) ∨ (¬ c ∧ e))) := by
  by_cases h : c <;> simp [h]
theorem whole_eq (k : Nat) (a0 a1 a2 a3 a4 a5 a6 a7 : Int) (l : List S35) : valid_whole.f (k + 4) a0 a1 a2 a3 a4 a5 a6 a7 l = some (decide (wholeP a0 a1 a2 a3 a4 a5 a6 a7 (l.length : Int))) := by
  have j2 : ∀ k b, valid_whole.j2 (k + 1) b a0 a1 a2 a3 a4 a5 a6 a7 l = some (decide (b = true ∧ (1 ≤ a0 ∧ a0 ≤ 8) ∧ (1 ≤ a6 ∧ a6 ≤ 50) ∧ (0 ≤ a7 ∧ a7 ≤ 8) ∧ (1 ≤ (l.length : Int) ∧ (l.length : Int) ≤ 24))) := by
    intro k b
    simp only [valid_whole.j2, between_eq, Option.bind_some, ite_sd, decide_eq_true_eq]
  have j1 : ∀ k, valid_whole.j1 (k + 2) a0 a1 a2 a3 a4 a5 a6 a7 l = some (decide ((0 ≤ a3 ∧ a3 ≤ 50) ∧ (0 ≤ a4 ∧ a4 ≤ 50) ∧ (0 ≤ a5 ∧ a5 ≤ 50) ∧ (1 ≤ a0 ∧ a0 ≤ 8) ∧ (1 ≤ a6 ∧ a6 ≤ 50) ∧ (0 ≤ a7 ∧ a7 ≤ 8) ∧ (1 ≤ (l.length : Int) ∧ (l.length : Int) ≤ 24))) := by
    intro k
    simp only [valid_whole.j1, between_eq, Option.bind_some, j2, ite_sd, decide_eq_true_eq, Bool.false_eq_true, false_and, decide_false]
  have j0 : ∀ k b, valid_whole.j0 (k + 3) b a0 a1 a2 a3 a4 a5 a6 a7 l = some (decide (b = false ∧ (a2 = 1 ∨ (a2 = 2 ∧ a1 = 1)) ∧ (0 ≤ a3 ∧ a3 ≤ 50) ∧ (0 ≤ a4 ∧ a4 ≤ 50) ∧ (0 ≤ a5 ∧ a5 ≤ 50) ∧ (1 ≤ a0 ∧ a0 ≤ 8) ∧ (1 ≤ a6 ∧ a6 ≤ 50) ∧ (0 ≤ a7 ∧ a7 ≤ 8) ∧ (1 ≤ (l.length : Int) ∧ (l.length : Int) ≤ 24))) := by
    intro k b
    simp only [valid_whole.j0, j1, ite_sd]
    cases b <;> by_cases h1 : a2 = 1 <;> by_cases h2 : a2 = 2 <;> by_cases h3 : a1 = 1 <;> simp [h1, h2, h3]
  simp only [valid_whole.f, j0, wholeP]
  by_cases h3 : a1 = 1 <;> by_cases h4 : a1 = 2 <;> simp [h3, h4]

/-- A section's fault. -/
def secBad (res wcet : Int) (x : S37) (e : Int) : Prop := x.f0 < e ∨ x.f0 > wcet ∨ x.f1 < 0 ∨ x.f1 ≥ res ∨ x.f2 < 1 ∨ x.f2 > wrap64 (wcet - x.f0)
instance (res wcet : Int) (x : S37) (e : Int) : Decidable (secBad res wcet x e) := by unfold secBad; infer_instance
def badSec (res wcet : Int) : Int → List S37 → Nat → Option Nat
  | _, [], _ => none
  | e, x :: r, k => if secBad res wcet x e then some k else badSec res wcet (wrap64 (x.f0 + x.f2)) r (k + 1)
/-- A task's fault, without its sections'. -/
def taskOk (t : S35) : Prop := (1 ≤ t.f0 ∧ t.f0 ≤ 1099511627776) ∧ (1 ≤ t.f1 ∧ t.f1 ≤ t.f0) ∧ (1 ≤ t.f2 ∧ t.f2 ≤ t.f1) ∧ ¬ (t.f3.length : Int) > 4
instance (t : S35) : Decidable (taskOk t) := by unfold taskOk; infer_instance
def badTask (res : Int) : List S35 → Nat → Option (Nat × Int)
  | [], _ => none
  | t :: r, i => if taskOk t then (match badSec res t.f2 0 t.f3 0 with | some k => some (i, (k : Int)) | none => badTask res r (i + 1)) else some (i, -1)

theorem rd35 {xs r : List S35} {t : S35} {i : Nat} (h : xs.drop i = t :: r) : rd_T35 xs (i : Int) = t ∧ i < xs.length := by
  have hl : i < xs.length := by
    rcases Nat.lt_or_ge i xs.length with h1 | h1
    · exact h1
    · rw [List.drop_eq_nil_of_le h1] at h; cases h
  refine ⟨?_, hl⟩
  unfold rd_T35
  rw [Int.toNat_natCast, List.getD_eq_getElem?_getD]
  have := congrArg (fun l => l[0]?) h
  simp only [List.getElem?_drop, Nat.add_zero, List.getElem?_cons_zero] at this
  rw [this]; rfl
theorem rd37 {xs r : List S37} {t : S37} {i : Nat} (h : xs.drop i = t :: r) : rd_T37 xs (i : Int) = t ∧ i < xs.length := by
  have hl : i < xs.length := by
    rcases Nat.lt_or_ge i xs.length with h1 | h1
    · exact h1
    · rw [List.drop_eq_nil_of_le h1] at h; cases h
  refine ⟨?_, hl⟩
  unfold rd_T37
  rw [Int.toNat_natCast, List.getD_eq_getElem?_getD]
  have := congrArg (fun l => l[0]?) h
  simp only [List.getElem?_drop, Nat.add_zero, List.getElem?_cons_zero] at this
  rw [this]; rfl
theorem drop_next {α : Type} {xs r : List α} {t : α} {i : Nat} (h : xs.drop i = t :: r) : xs.drop (i + 1) = r := by
  rw [← List.tail_drop, h]; rfl
theorem drop_end {α : Type} {xs : List α} {i : Nat} (h : xs.drop i = []) : xs.length ≤ i := by simpa using h

def Ev {α : Type} (f : Nat → Option α) (v : α) : Prop := ∃ K, ∀ k, K ≤ k → f k = some v
theorem Ev.succ {α : Type} {f : Nat → Option α} {g : Nat → Option α} {v : α} (h : Ev f v) (e : ∀ k, g (k + 1) = f k) : Ev g v := by
  obtain ⟨K, hK⟩ := h
  refine ⟨K + 1, fun k hk => ?_⟩
  obtain ⟨k, rfl⟩ : ∃ k', k = k' + 1 := ⟨k - 1, by omega⟩
  rw [e]
  exact hK k (by omega)
theorem Ev.now {α : Type} {g : Nat → Option α} {v : α} (e : ∀ k, g (k + 1) = some v) : Ev g v :=
  ⟨1, fun k hk => by obtain ⟨k, rfl⟩ : ∃ k', k = k' + 1 := ⟨k - 1, by omega⟩; exact e k⟩

theorem check_l1 (ts : List S35) (n i : Int) (hi : 0 ≤ i) (secs : List S37) (hs : secs.length ≤ 4) (a0 a1 a2 a3 a4 a5 a6 a7 : Int) (l : List S35) (t0 t1 t2 : Int) (v : Int × Int × Int)
    (h : Ev (fun k => valid_Check.l0 k ts n (wrap64 (i + 1)) a0 a1 a2 a3 a4 a5 a6 a7 l 10 (-1) (-1)) v) :
    ∀ (rest : List S37) (e : Int) (q : Nat), secs.drop q = rest → Ev (fun k => valid_Check.l1 k e ts n i secs (secs.length : Int) (q : Int) a0 a1 a2 a3 a4 a5 a6 a7 l 10 i (-1) t0 t1 t2 secs)
      (match badSec a7 t2 e rest q with | some p => (10, i, (p : Int)) | none => v) := by
  intro rest
  induction rest with
  | nil =>
    intro e q hd
    have := drop_end hd
    exact h.succ fun k => by simp only [valid_Check.l1]; rw [if_neg (by omega)]
  | cons x r ih =>
    intro e q hd
    obtain ⟨hx, hq⟩ := rd37 hd
    have hw : wrap64 ((q : Int) + 1) = ((q + 1 : Nat) : Int) := by unfold wrap64; omega
    simp only [badSec]
    by_cases hb : secBad a7 t2 x e
    · rw [if_pos hb]
      refine Ev.now fun k => ?_
      simp only [valid_Check.l1, hx]
      rw [if_pos (by omega), if_pos (by omega), if_pos (by omega), if_pos hi]
      unfold secBad at hb
      repeat' split
      all_goals first | rfl | omega
    · rw [if_neg hb]
      refine (ih (wrap64 (x.f0 + x.f2)) (q + 1) (drop_next hd)).succ fun k => ?_
      unfold secBad at hb
      simp only [valid_Check.l1, hx, hw]
      rw [if_pos (by omega), if_pos (by omega), if_pos (by omega), if_neg (by omega), if_neg (by omega), if_neg (by omega), if_neg (by omega), if_neg (by omega), if_neg (by omega)]

theorem check_l0 (ts : List S35) (hts : ts.length ≤ 24) (a0 a1 a2 a3 a4 a5 a6 a7 : Int) (l : List S35) :
    ∀ (rest : List S35) (q : Nat), ts.drop q = rest → Ev (fun k => valid_Check.l0 k ts (ts.length : Int) (q : Int) a0 a1 a2 a3 a4 a5 a6 a7 l 10 (-1) (-1))
      (match badTask a7 rest q with | some p => (10, (p.1 : Int), p.2) | none => (0, -1, -1)) := by
  intro rest
  induction rest with
  | nil =>
    intro q hd
    have := drop_end hd
    exact Ev.now fun k => by simp only [valid_Check.l0]; rw [if_neg (by omega), if_neg (by omega)]; rfl
  | cons t r ih =>
    intro q hd
    obtain ⟨hx, hq⟩ := rd35 hd
    have hw : wrap64 ((q : Int) + 1) = ((q + 1 : Nat) : Int) := by unfold wrap64; omega
    simp only [badTask]
    by_cases hb : taskOk t
    · rw [if_pos hb]
      have h1 := check_l1 ts (ts.length : Int) (q : Int) (by omega) t.f3 (by unfold taskOk at hb; omega) a0 a1 a2 a3 a4 a5 a6 a7 l t.f0 t.f1 t.f2 _ (by rw [hw]; exact ih (q + 1) (drop_next hd)) t.f3 0 0 rfl
      have h2 : Ev (fun k => valid_Check.j1 k ts (ts.length : Int) (q : Int) false a0 a1 a2 a3 a4 a5 a6 a7 l 10 (q : Int) (-1) t.f0 t.f1 t.f2 t.f3) _ := h1.succ fun k => by
        simp only [valid_Check.j1, Bool.false_eq_true, if_false]; rfl
      have h3 := h2.succ (g := fun k => valid_Check.l0 k ts (ts.length : Int) (q : Int) a0 a1 a2 a3 a4 a5 a6 a7 l 10 (-1) (-1)) fun k => by
        unfold taskOk at hb
        simp only [valid_Check.l0, hx, between_eq, Option.bind_some]
        rw [if_pos (by omega), if_pos (by omega), if_pos (by omega), if_pos (by simpa using hb.1), if_pos (by simpa using hb.2.1), if_pos (by simpa using hb.2.2.1), decide_eq_false hb.2.2.2]
      cases hbs : badSec a7 t.f2 0 t.f3 0 <;> rw [hbs] at h3 <;> exact h3
    · rw [if_neg hb]
      have h2 : Ev (fun k => valid_Check.j1 k ts (ts.length : Int) (q : Int) true a0 a1 a2 a3 a4 a5 a6 a7 l 10 (q : Int) (-1) t.f0 t.f1 t.f2 t.f3) (10, (q : Int), -1) := Ev.now fun k => by
        simp only [valid_Check.j1, if_true]
      refine h2.succ fun k => ?_
      unfold taskOk at hb
      simp only [valid_Check.l0, hx, between_eq, Option.bind_some, decide_eq_true_eq]
      rw [if_pos (by omega), if_pos (by omega), if_pos (by omega)]
      by_cases b1 : 1 ≤ t.f0 ∧ t.f0 ≤ 1099511627776
      · rw [if_pos b1]
        by_cases b2 : 1 ≤ t.f1 ∧ t.f1 ≤ t.f0
        · rw [if_pos b2]
          by_cases b3 : 1 ≤ t.f2 ∧ t.f2 ≤ t.f1
          · rw [if_pos b3, decide_eq_true (by omega)]
          · rw [if_neg b3]
        · rw [if_neg b2]
      · rw [if_neg b1]

/-- What the program finds. -/
def found (a0 a1 a2 a3 a4 a5 a6 a7 : Int) (l : List S35) : Option (Int × Int) :=
  if wholeP a0 a1 a2 a3 a4 a5 a6 a7 (l.length : Int) then (badTask a7 l 0).map fun p => ((p.1 : Int), p.2) else some (-1, -1)
theorem check_eq (a0 a1 a2 a3 a4 a5 a6 a7 : Int) (l : List S35) : Ev (fun k => valid_Check.f k a0 a1 a2 a3 a4 a5 a6 a7 l) (match found a0 a1 a2 a3 a4 a5 a6 a7 l with | some p => (10, p.1, p.2) | none => (0, -1, -1)) := by
  unfold found
  by_cases hw : wholeP a0 a1 a2 a3 a4 a5 a6 a7 (l.length : Int)
  · rw [if_pos hw]
    obtain ⟨K, hK⟩ := check_l0 l (by unfold wholeP at hw; omega) a0 a1 a2 a3 a4 a5 a6 a7 l l 0 rfl
    refine ⟨K + 4, fun k hk => ?_⟩
    obtain ⟨k, rfl⟩ : ∃ k', k = k' + 4 := ⟨k - 4, by omega⟩
    simp only [valid_Check.f, whole_eq, Option.bind_some, decide_eq_true hw, if_true]
    have := hK (k + 4) (by omega)
    simp only [Int.ofNat_zero] at this
    rw [this]
    cases badTask a7 l 0 <;> rfl
  · rw [if_neg hw]
    refine ⟨4, fun k hk => ?_⟩
    obtain ⟨k, rfl⟩ : ∃ k', k = k' + 4 := ⟨k - 4, by omega⟩
    simp only [valid_Check.f, whole_eq, Option.bind_some, decide_eq_false hw, Bool.false_eq_true, if_false]
theorem right_eq (a0 a1 a2 a3 a4 a5 a6 a7 : Int) (l : List S35) : Ev (fun k => valid_Right.f k a0 a1 a2 a3 a4 a5 a6 a7 l) (found a0 a1 a2 a3 a4 a5 a6 a7 l).isNone := by
  obtain ⟨K, hK⟩ := check_eq a0 a1 a2 a3 a4 a5 a6 a7 l
  refine ⟨K, fun k hk => ?_⟩
  simp only [valid_Right.f]
  have := hK k hk
  simp only at this
  rw [this]
  cases found a0 a1 a2 a3 a4 a5 a6 a7 l <;> rfl

end Go.Proofs.Ytflnooigdbhpdaa.Pure
