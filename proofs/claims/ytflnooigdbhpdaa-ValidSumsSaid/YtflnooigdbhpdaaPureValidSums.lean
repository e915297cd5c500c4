import Derived.Test.YtflnooigdbhpdaaPAx7b
import Derived.Test.YtflnooigdbhpdaaXValid
namespace Go.Proofs.Ytflnooigdbhpdaa.Pure
open Go.RowKit Go.Proofs.Ytflnooigdbhpdaa.PA Go.Proofs.YtflnooigdbhpdaaW.PrintWords Go.Proofs.YtflnooigdbhpdaaW.PrintLast

theorem sums_l1 (i : Int) (secs : List S37) (hs : secs.length ≤ 4) (a0 a1 a2 a3 a4 a5 a6 a7 : Int) (l : List S35) (t0 t1 t2 : Int) (v : Bool) (ht : (1 ≤ t0 ∧ t0 ≤ 1099511627776) ∧ (1 ≤ t1 ∧ t1 ≤ t0) ∧ (1 ≤ t2 ∧ t2 ≤ t1))
    (h : Ev (fun k => tourbillonlaw08_ValidSums.l0 k true (wrap64 (i + 1)) a0 a1 a2 a3 a4 a5 a6 a7 l) v) :
    ∀ (rest : List S37) (e : Int) (q : Nat), 0 ≤ e → secs.drop q = rest → badSec a7 t2 e rest q = none → Ev (fun k => tourbillonlaw08_ValidSums.l1 k true i e (q : Int) a0 a1 a2 a3 a4 a5 a6 a7 l t0 t1 t2 secs) v := by
  intro rest
  induction rest with
  | nil =>
    intro e q he hd _
    have := drop_end hd
    exact h.succ fun k => by
      simp only [tourbillonlaw08_ValidSums.l1]
      rw [if_neg (by omega), if_neg (by omega), if_neg (by omega), if_neg (by omega), if_neg (by omega)]
  | cons x r ih =>
    intro e q he hd hb
    obtain ⟨hx, hq⟩ := rd37 hd
    have hw : wrap64 ((q : Int) + 1) = ((q + 1 : Nat) : Int) := by unfold wrap64; omega
    simp only [badSec] at hb
    by_cases hs : secBad a7 t2 x e
    · rw [if_pos hs] at hb; cases hb
    · rw [if_neg hs] at hb
      unfold secBad at hs
      have e1 : wrap64 (t2 - x.f0) = t2 - x.f0 := by unfold wrap64; omega
      rw [e1] at hs
      have e2 : wrap64 (x.f0 + x.f2) = x.f0 + x.f2 := by unfold wrap64; omega
      refine (ih (wrap64 (x.f0 + x.f2)) (q + 1) (by omega) (drop_next hd) hb).succ fun k => ?_
      simp only [tourbillonlaw08_ValidSums.l1, hx, hw]
      rw [if_pos (by omega), if_pos (by omega), if_neg (by omega), if_neg (by omega), if_neg (by omega), if_neg (by omega), if_neg (by omega)]

theorem sums_l0 (ts : List S35) (hts : ts.length ≤ 24) (a0 a1 a2 a3 a4 a5 a6 a7 : Int) (h0 : 1 ≤ a0 ∧ a0 ≤ 8) (h2 : a2 = 1 ∨ a1 = 1) :
    ∀ (rest : List S35) (q : Nat), ts.drop q = rest → badTask a7 rest q = none → Ev (fun k => tourbillonlaw08_ValidSums.l0 k true (q : Int) a0 a1 a2 a3 a4 a5 a6 a7 ts) true := by
  intro rest
  induction rest with
  | nil =>
    intro q hd _
    have := drop_end hd
    exact Ev.now fun k => by
      simp only [tourbillonlaw08_ValidSums.l0]
      rw [if_neg (by omega), if_pos trivial, if_pos (by omega), if_pos (by omega)]
      rcases h2 with h2 | h2 <;> simp [h2]
  | cons t r ih =>
    intro q hd hb
    obtain ⟨hx, hq⟩ := rd35 hd
    have hw : wrap64 ((q : Int) + 1) = ((q + 1 : Nat) : Int) := by unfold wrap64; omega
    simp only [badTask] at hb
    split at hb
    · rename_i hok
      split at hb
      · cases hb
      · rename_i hbs
        unfold taskOk at hok
        refine (sums_l1 (q : Int) t.f3 (by omega) a0 a1 a2 a3 a4 a5 a6 a7 ts t.f0 t.f1 t.f2 true ⟨hok.1, hok.2.1, hok.2.2.1⟩ (by rw [hw]; exact ih (q + 1) (drop_next hd) hb) t.f3 0 0 (by omega) rfl hbs).succ fun k => ?_
        simp only [tourbillonlaw08_ValidSums.l0, hx]
        rw [if_pos (by omega), if_pos (by omega)]
        rfl
    · cases hb

theorem ValidSums : tourbillonlaw08_ValidSums.Pure := by
  intro x0 _
  obtain ⟨K1, h1⟩ := check_eq x0.f0 x0.f1 x0.f2 x0.f3 x0.f4 x0.f5 x0.f6 x0.f7 x0.f8
  obtain ⟨K3, h3⟩ := right_eq x0.f0 x0.f1 x0.f2 x0.f3 x0.f4 x0.f5 x0.f6 x0.f7 x0.f8
  cases hf : found x0.f0 x0.f1 x0.f2 x0.f3 x0.f4 x0.f5 x0.f6 x0.f7 x0.f8 with
  | some p =>
    have h1 := h1 (max K1 K3) (by omega)
    have h3 := h3 (max K1 K3) (by omega)
    refine ⟨max K1 K3, ?_⟩
    simp only [hf] at h1 h3
    simp only [tourbillonlaw08_ValidSums.f, tourbillonlaw08_examples.f, Option.bind_some, h1, h3]
    simp
  | none =>
    unfold found at hf
    split at hf
    · rename_i hw
      have hb : badTask x0.f7 x0.f8 0 = none := by simpa using hf
      unfold wholeP at hw
      obtain ⟨K4, h4⟩ := sums_l0 x0.f8 (by omega) x0.f0 x0.f1 x0.f2 x0.f3 x0.f4 x0.f5 x0.f6 x0.f7 (by omega) (by omega) x0.f8 0 rfl hb
      have h3 := h3 (max K3 K4) (by omega)
      have h4 := h4 (max K3 K4) (by omega)
      refine ⟨max K3 K4, ?_⟩
      have hf' : found x0.f0 x0.f1 x0.f2 x0.f3 x0.f4 x0.f5 x0.f6 x0.f7 x0.f8 = none := by
        unfold found; rw [if_pos (by unfold wholeP; exact hw), hb]; rfl
      simp only [hf', Option.isNone_none] at h3
      simp only [Int.ofNat_zero] at h4
      simp only [tourbillonlaw08_ValidSums.f, tourbillonlaw08_examples.f, Option.bind_some, h3, if_true]
      exact h4
    · cases hf

end Go.Proofs.Ytflnooigdbhpdaa.Pure
