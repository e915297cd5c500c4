import Derived.Test.YtflnooigdbhpdaaXValid
import Derived.Test.YtflnooigdbhpdaaPAx6
namespace Go.Proofs.Ytflnooigdbhpdaa.Pure
open Go.RowKit Go.Proofs.Ytflnooigdbhpdaa.PA Go.Proofs.YtflnooigdbhpdaaW.PrintWords Go.Proofs.YtflnooigdbhpdaaW.PrintLast

theorem within_eq (a b c : Int) : tourbillonref08_within.f a b c = some (decide (b ≤ a ∧ a ≤ c)) := between_eq a b c
theorem ref_whole_eq (k : Nat) (a0 a1 a2 a3 a4 a5 a6 a7 : Int) (l : List S35) : tourbillonref08_whole.f (k + 1) a0 a1 a2 a3 a4 a5 a6 a7 l = some (decide (wholeP a0 a1 a2 a3 a4 a5 a6 a7 (l.length : Int))) := by
  have j0 : ∀ k b, tourbillonref08_whole.j0 (k + 1) b a0 a1 a2 a3 a4 a5 a6 a7 l = some (decide (b = false ∧ (0 ≤ a3 ∧ a3 ≤ 50) ∧ (0 ≤ a4 ∧ a4 ≤ 50) ∧ (0 ≤ a5 ∧ a5 ≤ 50) ∧ (1 ≤ a6 ∧ a6 ≤ 50) ∧ (0 ≤ a7 ∧ a7 ≤ 8) ∧ (1 ≤ (l.length : Int) ∧ (l.length : Int) ≤ 24))) := by
    intro k b
    simp only [tourbillonref08_whole.j0, within_eq, Option.bind_some, ite_sd, decide_eq_true_eq]
    cases b <;> simp
  simp only [tourbillonref08_whole.f, within_eq, Option.bind_some, j0, decide_eq_true_eq, Bool.true_eq_false, false_and, decide_false]
  have e : ∀ {p q : Prop} [Decidable p] [Decidable q], (p ↔ q) → some (decide p) = some (decide q) := fun h => by rw [decide_eq_decide.2 h]
  have ef : ∀ {q : Prop} [Decidable q], ¬ q → some false = some (decide q) := fun h => by rw [decide_eq_false h]
  split
  · split
    · split
      · split
        · rename_i h1 h2 h3 h4
          refine e ⟨fun h => ?_, fun h => ?_⟩
          · obtain ⟨h5, h⟩ := h
            have h5 : a1 = 1 := by simpa using h5
            exact ⟨.inl h5, .inr ⟨h4, h5⟩, h.1, h.2.1, h.2.2.1, h1, h.2.2.2⟩
          · obtain ⟨h5, h6, h⟩ := h
            exact ⟨by simp; omega, h.1, h.2.1, h.2.2.1, h.2.2.2.2⟩
        · rename_i h1 h2 h3 h4
          refine e ⟨fun h => ?_, fun h => ?_⟩
          · obtain ⟨h5, h⟩ := h
            exact ⟨by omega, by omega, h.1, h.2.1, h.2.2.1, h1, h.2.2.2⟩
          · obtain ⟨h5, h6, h⟩ := h
            exact ⟨trivial, h.1, h.2.1, h.2.2.1, h.2.2.2.2⟩
      · refine ef fun h => ?_
        unfold wholeP at h; omega
    · refine ef fun h => ?_
      unfold wholeP at h; omega
  · refine ef fun h => ?_
    unfold wholeP at h; omega

theorem ref_l1 (i : Int) (secs : List S37) (hs : secs.length ≤ 4) (a0 a1 a2 a3 a4 a5 a6 a7 : Int) (h7 : 0 ≤ a7 ∧ a7 ≤ 8) (l : List S35) (t0 t1 t2 : Int) (v : Bool × Int × Int)
    (h : Ev (fun k => tourbillonref08_Check.l0 k (wrap64 (i + 1)) a0 a1 a2 a3 a4 a5 a6 a7 l) v) :
    ∀ (rest : List S37) (e : Int) (q : Nat), secs.drop q = rest → Ev (fun k => tourbillonref08_Check.l1 k i e (q : Int) a0 a1 a2 a3 a4 a5 a6 a7 l t0 t1 t2 secs)
      (match badSec a7 t2 e rest q with | some p => (true, i, (p : Int)) | none => v) := by
  intro rest
  have hw7 : wrap64 (a7 - 1) = a7 - 1 := by unfold wrap64; omega
  induction rest with
  | nil =>
    intro e q hd
    have := drop_end hd
    exact h.succ fun k => by simp only [tourbillonref08_Check.l1]; rw [if_neg (by omega)]
  | cons x r ih =>
    intro e q hd
    obtain ⟨hx, hq⟩ := rd37 hd
    have hw : wrap64 ((q : Int) + 1) = ((q + 1 : Nat) : Int) := by unfold wrap64; omega
    simp only [badSec]
    by_cases hb : secBad a7 t2 x e
    · rw [if_pos hb]
      refine Ev.now fun k => ?_
      simp only [tourbillonref08_Check.l1, hx, within_eq, Option.bind_some, decide_eq_true_eq, hw7]
      rw [if_pos (by omega), if_pos (by omega)]
      unfold secBad at hb
      split
      · split
        · split
          · exfalso; omega
          · rfl
        · rfl
      · rfl
    · rw [if_neg hb]
      refine (ih (wrap64 (x.f0 + x.f2)) (q + 1) (drop_next hd)).succ fun k => ?_
      unfold secBad at hb
      simp only [tourbillonref08_Check.l1, hx, hw, within_eq, Option.bind_some, decide_eq_true_eq, hw7]
      rw [if_pos (by omega), if_pos (by omega), if_pos (by omega), if_pos (by omega), if_pos (by omega)]

theorem ref_l0 (ts : List S35) (hts : ts.length ≤ 24) (a0 a1 a2 a3 a4 a5 a6 a7 : Int) (h7 : 0 ≤ a7 ∧ a7 ≤ 8) :
    ∀ (rest : List S35) (q : Nat), ts.drop q = rest → Ev (fun k => tourbillonref08_Check.l0 k (q : Int) a0 a1 a2 a3 a4 a5 a6 a7 ts)
      (match badTask a7 rest q with | some p => (true, (p.1 : Int), p.2) | none => (false, -1, -1)) := by
  intro rest
  induction rest with
  | nil =>
    intro q hd
    have := drop_end hd
    exact Ev.now fun k => by simp only [tourbillonref08_Check.l0]; rw [if_neg (by omega)]; rfl
  | cons t r ih =>
    intro q hd
    obtain ⟨hx, hq⟩ := rd35 hd
    have hw : wrap64 ((q : Int) + 1) = ((q + 1 : Nat) : Int) := by unfold wrap64; omega
    simp only [badTask]
    by_cases hb : taskOk t
    · rw [if_pos hb]
      have h1 := ref_l1 (q : Int) t.f3 (by unfold taskOk at hb; omega) a0 a1 a2 a3 a4 a5 a6 a7 h7 ts t.f0 t.f1 t.f2 _ (by rw [hw]; exact ih (q + 1) (drop_next hd)) t.f3 0 0 rfl
      have h2 : Ev (fun k => tourbillonref08_Check.j1 k (q : Int) false a0 a1 a2 a3 a4 a5 a6 a7 ts t.f0 t.f1 t.f2 t.f3) _ := h1.succ fun k => by
        simp only [tourbillonref08_Check.j1, Bool.false_eq_true, if_false]; rfl
      have h3 := h2.succ (g := fun k => tourbillonref08_Check.l0 k (q : Int) a0 a1 a2 a3 a4 a5 a6 a7 ts) fun k => by
        unfold taskOk at hb
        simp only [tourbillonref08_Check.l0, hx, within_eq, Option.bind_some]
        rw [if_pos (by omega), if_pos (by omega), if_pos (by simpa using hb.1), if_pos (by simpa using hb.2.1), if_pos (by simpa using hb.2.2.1), decide_eq_false hb.2.2.2]
      cases hbs : badSec a7 t.f2 0 t.f3 0 <;> rw [hbs] at h3 <;> exact h3
    · rw [if_neg hb]
      have h2 : Ev (fun k => tourbillonref08_Check.j1 k (q : Int) true a0 a1 a2 a3 a4 a5 a6 a7 ts t.f0 t.f1 t.f2 t.f3) (true, (q : Int), -1) := Ev.now fun k => by
        simp only [tourbillonref08_Check.j1, if_true]
      refine h2.succ fun k => ?_
      unfold taskOk at hb
      simp only [tourbillonref08_Check.l0, hx, within_eq, Option.bind_some, decide_eq_true_eq]
      rw [if_pos (by omega), if_pos (by omega)]
      by_cases b1 : 1 ≤ t.f0 ∧ t.f0 ≤ 1099511627776
      · rw [if_pos b1]
        by_cases b2 : 1 ≤ t.f1 ∧ t.f1 ≤ t.f0
        · rw [if_pos b2]
          by_cases b3 : 1 ≤ t.f2 ∧ t.f2 ≤ t.f1
          · rw [if_pos b3, decide_eq_true (by omega)]
          · rw [if_neg b3]
        · rw [if_neg b2]
      · rw [if_neg b1]

theorem ref_eq (a0 a1 a2 a3 a4 a5 a6 a7 : Int) (l : List S35) : Ev (fun k => tourbillonref08_Check.f k a0 a1 a2 a3 a4 a5 a6 a7 l) (match found a0 a1 a2 a3 a4 a5 a6 a7 l with | some p => (true, p.1, p.2) | none => (false, -1, -1)) := by
  unfold found
  by_cases hw : wholeP a0 a1 a2 a3 a4 a5 a6 a7 (l.length : Int)
  · rw [if_pos hw]
    obtain ⟨K, hK⟩ := ref_l0 l (by unfold wholeP at hw; omega) a0 a1 a2 a3 a4 a5 a6 a7 (by unfold wholeP at hw; omega) l 0 rfl
    refine ⟨K + 1, fun k hk => ?_⟩
    obtain ⟨k, rfl⟩ : ∃ k', k = k' + 1 := ⟨k - 1, by omega⟩
    simp only [tourbillonref08_Check.f, ref_whole_eq, Option.bind_some, decide_eq_true hw, if_true]
    have := hK (k + 1) (by omega)
    simp only [Int.ofNat_zero] at this
    rw [this]
    cases badTask a7 l 0 <;> rfl
  · rw [if_neg hw]
    refine ⟨1, fun k hk => ?_⟩
    obtain ⟨k, rfl⟩ : ∃ k', k = k' + 1 := ⟨k - 1, by omega⟩
    simp only [tourbillonref08_Check.f, ref_whole_eq, Option.bind_some, decide_eq_false hw, Bool.false_eq_true, if_false]
end Go.Proofs.Ytflnooigdbhpdaa.Pure
