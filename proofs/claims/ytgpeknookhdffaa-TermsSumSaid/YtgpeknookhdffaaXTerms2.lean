/- Chapter 14: the calls of the program and of the document. Conditions: as each theorem states them. -/
import Derived.Test.YtgpeknookhdffaaXTerms
namespace Go.Proofs.YtgpeknookhdffaaC
open Go Go.Proofs.YtgpeknookhdffaaM Go.Proofs.YtgpeknookhdffaaX Go.Proofs.YtgpeknookhdffaaL
set_option linter.unusedVariables false
set_option linter.unusedSimpArgs false

theorem right_facts {s0 s1 s2 s3 s4 s5 s6 s7 : Int} {l : List Tk} (h : rightB s0 s1 s2 s3 s4 s5 s6 s7 l = true) : (1 ≤ s0 ∧ s0 ≤ 8) ∧ 1 ≤ l.length ∧ l.length ≤ 24 ∧ ∀ t ∈ l, taskB s7 t = true := by
  unfold rightB at h
  simp only [Bool.and_eq_true, List.all_eq_true] at h
  have h1 := h.1
  unfold wholeB at h1
  have := of_decide_eq_true h1
  exact ⟨this.2.2.2.2.2.1, by omega, by omega, h.2⟩
theorem task_facts {R : Int} {t : Tk} (h : taskB R t = true) : 1 ≤ t.2.2.1 ∧ t.2.2.1 ≤ 1099511627776 ∧ t.2.2.2.length ≤ 4 ∧ ∀ x ∈ t.2.2.2, 1 ≤ x.2.2 ∧ x.2.2 ≤ 1099511627776 := by
  unfold taskB at h
  simp only [Bool.and_eq_true] at h
  have h1 := h.1
  unfold numB at h1
  have h1 := of_decide_eq_true h1
  refine ⟨by omega, by omega, by omega, ?_⟩
  have : ∀ (secs : List Sec) (e : Int), 0 ≤ e → secB R t.2.2.1 e secs = true → ∀ x ∈ secs, 1 ≤ x.2.2 ∧ x.2.2 ≤ 1099511627776 := by
    intro secs
    induction secs with
    | nil => intro e _ _ x hx; simp at hx
    | cons y secs ih =>
      intro e he hs x hx
      rw [secB_cons, Bool.and_eq_true] at hs
      have hy := of_decide_eq_true hs.1
      rcases List.mem_cons.1 hx with rfl | hx
      · omega
      · exact ih _ (by omega) hs.2 x hx
  exact this _ 0 (by omega) h.2
theorem lg_range {s0 s1 s2 s3 s4 s5 s6 s7 : Int} {l : List Tk} (h : rightB s0 s1 s2 s3 s4 s5 s6 s7 l = true) (wh : List Int) (c res : Int) : 0 ≤ lgS wh c res l ∧ lgS wh c res l ≤ 1099511627776 := by
  obtain ⟨_, _, _, ht⟩ := right_facts h
  refine ⟨bestT_le, ?_⟩
  rcases bestT_get (wh := wh) (c := c) (res := res) l 0 0 with h1 | ⟨q, h1, _, _, x, h4, _, h6⟩
  · unfold lgS; omega
  · have := (task_facts (ht _ (getD_mem (d := (0, 0, 0, [])) h1))).2.2.2 x h4
    unfold lgS; omega
def longS (rb : Bool) (s0 : Int) (l : List Tk) (wh : List Int) (c res : Int) : Int := if rb = true ∧ 0 ≤ c ∧ c < s0 then lgS wh c res l else 0
theorem Longest_at {N : Nat} (hN : 100 ≤ N) {s0 s1 s2 s3 s4 s5 s6 s7 : Int} {l : List Tk} {wh : List Int} {c res : Int} :
    Longest_8 N (((s0, s1, s2, s3, s4, s5, s6, s7, l, ()), wh, c, res, ()), ()) = some ((longS (rightB s0 s1 s2 s3 s4 s5 s6 s7 l) s0 l wh c res, ()), ()) := by
  unfold Longest_8 longS
  try dsimp only
  rw [right_at (by omega), bnd, byB_not]
  try dsimp only
  cases h : rightB s0 s1 s2 s3 s4 s5 s6 s7 l with
  | false => rw [byB_false, if_neg (by simp)]
  | true =>
    rw [byB_true]
    by_cases h1 : c < 0
    · rw [byB_t h1, if_neg (by omega)]
    · by_cases h2 : c ≥ s0
      · rw [byB_f h1, byB_t h2, if_neg (by omega)]
      · obtain ⟨_, _, hl, ht⟩ := right_facts h
        obtain ⟨r, e, q⟩ := longest_ev hN (s0 := s0) (s1 := s1) (s2 := s2) (s3 := s3) (s4 := s4) (s5 := s5) (s6 := s6) (s7 := s7) hl (fun t m => (task_facts (ht t m)).2.2.1) wh
        rw [byB_f h1, byB_f h2, e, bnd, if_pos ⟨rfl, by omega, by omega⟩, ← q]
        rfl
/-- The core of a task. -/
def ownS (wh : List Int) (task : Int) : Int := if task < 0 ∨ task ≥ wh.length then -1 else wh.getD task.toNat 0
theorem core_at {N : Nat} {wh : List Int} {task : Int} : core_22 N ((wh, task, ()), ()) = some ((ownS wh task, ()), ()) := by
  unfold core_22 ownS
  try dsimp only
  by_cases h1 : task < 0
  · rw [byB_t h1, if_pos (.inl h1)]
  · by_cases h2 : task ≥ wh.length
    · rw [byB_f h1, byB_t h2, if_pos (.inr h2)]
    · rw [byB_f h1, byB_f h2, if_pos (by omega), if_neg (by omega)]
theorem rlg_secs {N : Nat} {s0 s1 s2 s3 s4 s5 s6 s7 : Int} {l : List Tk} (hl : l.length ≤ 24) {wh : List Int} {c res : Int} (hc : 0 ≤ c) {i : Nat} (hi : i < l.length) {again6 : _ → Option ((Int × Unit) × Unit)} (hs : (l.getD i (0, 0, 0, [])).2.2.2.length ≤ 4) :
    ∀ (d j k : Nat) (m : Int), j + d = (l.getD i (0, 0, 0, [])).2.2.2.length → d < k →
      loopN k (Longest_9_L9 N again6) ((wh, c, res, (), m, (i : Int), (j : Int), ()), (s0, s1, s2, s3, s4, s5, s6, s7, l, ()), ()) =
        again6 ((wh, c, res, (), (if i < wh.length ∧ wh.getD i 0 = c then bestS res ((l.getD i (0, 0, 0, [])).2.2.2.drop j) m else m), IntKind.wrap .i64 ((i : Int) + 1), ()), (s0, s1, s2, s3, s4, s5, s6, s7, l, ()), ()) := by
  intro d
  induction d with
  | zero =>
    intro j k m hd hk
    obtain ⟨k, rfl⟩ : ∃ q, k = q + 1 := ⟨k - 1, by omega⟩
    rw [loopN_succ, Longest_9_L9]
    try dsimp only
    rw [if_pos (by omega), Int.toNat_natCast, byB_f (by omega), List.drop_of_length_le (by omega), bestS_nil]
    split <;> rfl
  | succ d ih =>
    intro j k m hd hk
    obtain ⟨k, rfl⟩ : ∃ q, k = q + 1 := ⟨k - 1, by omega⟩
    have hj : j < (l.getD i (0, 0, 0, [])).2.2.2.length := by omega
    have hnx : IntKind.wrap .i64 ((j : Int) + 1) = ((j + 1 : Nat) : Int) := by rw [w64 (by omega) (by omega)]; omega
    have ih2 := fun m' => ih (j + 1) k m' (by omega) (by omega)
    rw [loopN_succ, Longest_9_L9]
    try dsimp only
    rw [if_pos (by omega), Int.toNat_natCast, byB_t (by omega), if_pos (by omega), if_pos (by omega), Int.toNat_natCast, hnx, core_at, bnd, drop_getD (d := (0, 0, 0)) hj, bestS_cons]
    generalize hx : (l.getD i (0, 0, 0, [])).2.2.2.getD j (0, 0, 0) = x at *
    by_cases h : i < wh.length ∧ wh.getD i 0 = c
    · have e : ownS wh (i : Int) = c := by
        unfold ownS
        rw [if_neg (by omega), Int.toNat_natCast]
        exact h.2
      rw [byB_eqt e, if_pos h]
      by_cases h2 : x.2.1 = res
      · rw [byB_eqt h2, ih2, if_pos h, if_pos h2]
      · rw [byB_eqf h2, ih2, if_pos h, if_neg h2]
    · have e : ¬ ownS wh (i : Int) = c := by
        unfold ownS
        split
        · omega
        · rename_i h3
          rw [Int.toNat_natCast]
          intro e
          exact h ⟨by omega, e⟩
      rw [byB_eqf e, ih2, if_neg h, if_neg h]
theorem rlg_tasks {N : Nat} (hN : 10 ≤ N) {s0 s1 s2 s3 s4 s5 s6 s7 : Int} {l : List Tk} (hl : l.length ≤ 24) (hs : ∀ t ∈ l, t.2.2.2.length ≤ 4) {wh : List Int} {c res : Int} (hc : 0 ≤ c) :
    ∀ (d i k : Nat) (m : Int), i + d = l.length → d < k →
      loopN k (Longest_9_L6 N) ((wh, c, res, (), m, (i : Int), ()), (s0, s1, s2, s3, s4, s5, s6, s7, l, ()), ()) = some ((bestT wh c res i (l.drop i) m, ()), ()) := by
  intro d
  induction d with
  | zero =>
    intro i k m hd hk
    obtain ⟨k, rfl⟩ : ∃ q, k = q + 1 := ⟨k - 1, by omega⟩
    rw [loopN_succ, Longest_9_L6]
    try dsimp only
    rw [byB_f (by omega), List.drop_of_length_le (by omega), bestT_nil]
  | succ d ih =>
    intro i k m hd hk
    obtain ⟨k, rfl⟩ : ∃ q, k = q + 1 := ⟨k - 1, by omega⟩
    have hi : i < l.length := by omega
    have hnx : IntKind.wrap .i64 ((i : Int) + 1) = ((i + 1 : Nat) : Int) := by rw [w64 (by omega) (by omega)]; omega
    have hst := hs _ (getD_mem (d := (0, 0, 0, [])) hi)
    have e := rlg_secs (N := N) (s0 := s0) (s1 := s1) (s2 := s2) (s3 := s3) (s4 := s4) (s5 := s5) (s6 := s6) (s7 := s7) hl (wh := wh) (res := res) hc hi (again6 := loopN k (Longest_9_L6 N)) hst _ 0 N m (by rw [Nat.zero_add]) (by omega)
    have e0 : ((0 : Nat) : Int) = 0 := rfl
    rw [e0, List.drop_zero] at e
    rw [loopN_succ, Longest_9_L6]
    try dsimp only
    rw [byB_t (by omega), e, hnx, ih (i + 1) k _ (by omega) (by omega), drop_getD (d := (0, 0, 0, [])) hi, bestT_cons]
theorem rLongest_at {N : Nat} (hN : 100 ≤ N) {s0 s1 s2 s3 s4 s5 s6 s7 : Int} {l : List Tk} {wh : List Int} {c res : Int} :
    Longest_9 N (((s0, s1, s2, s3, s4, s5, s6, s7, l, ()), wh, c, res, ()), ()) = some ((longS (rightB s0 s1 s2 s3 s4 s5 s6 s7 l) s0 l wh c res, ()), ()) := by
  unfold Longest_9 longS
  try dsimp only
  rw [rright_at (by omega), bnd, byB_not]
  try dsimp only
  cases h : rightB s0 s1 s2 s3 s4 s5 s6 s7 l with
  | false => rw [byB_false, if_neg (by simp)]
  | true =>
    rw [byB_true]
    by_cases h1 : c < 0
    · rw [byB_t h1, if_neg (by omega)]
    · by_cases h2 : c ≥ s0
      · rw [byB_f h1, byB_t h2, if_neg (by omega)]
      · obtain ⟨_, _, hl, ht⟩ := right_facts h
        have e := rlg_tasks (N := N) (by omega) (s0 := s0) (s1 := s1) (s2 := s2) (s3 := s3) (s4 := s4) (s5 := s5) (s6 := s6) (s7 := s7) hl (fun t m => (task_facts (ht t m)).2.2.1) (wh := wh) (c := c) (res := res) (by omega) l.length 0 N 0 (by omega) (by omega)
        have e0 : ((0 : Nat) : Int) = 0 := rfl
        rw [e0, List.drop_zero] at e
        rw [byB_f h1, byB_f h2, e, if_pos ⟨rfl, by omega, by omega⟩]
        rfl
/-! a section -/
def secOk (rb : Bool) (l : List Tk) (task k : Int) : Bool := rb && decide (0 ≤ task ∧ task < l.length ∧ 0 ≤ k ∧ k < (l.getD task.toNat (0, 0, 0, [])).2.2.2.length)
def secX (l : List Tk) (task k : Int) : Sec := (l.getD task.toNat (0, 0, 0, [])).2.2.2.getD k.toNat (0, 0, 0)
def secR (rb : Bool) (l : List Tk) (task k : Int) : Sec := if secOk rb l task k = true then secX l task k else (0, 0, 0)
theorem section_body {s0 s1 s2 s3 s4 s5 s6 s7 : Int} {l : List Tk} {task k : Int} : ((some ((rightB s0 s1 s2 s3 s4 s5 s6 s7 l, ()), ()) : Option ((Bool × Unit) × Unit)).bind fun y11 =>
    byB (!y11.1.1)
      (some (((0, 0, 0, ()), false, ()), ()))
      (byB (decide (task < 0))
          (some (((0, 0, 0, ()), false, ()), ()))
          (byB (decide (task ≥ (l.length : Int)))
              (some (((0, 0, 0, ()), false, ()), ()))
              (byB (decide (k < 0))
                  (some (((0, 0, 0, ()), false, ()), ()))
                  (if (0 ≤ task) ∧ (task < (l.length : Int)) then
                    byB (decide (k ≥ ((l.getD task.toNat (0, 0, 0, [])).2.2.2.length : Int)))
                      (some (((0, 0, 0, ()), false, ()), ()))
                      (if (0 ≤ task) ∧ (task < (l.length : Int)) then
                        let e20 := l.getD task.toNat (0, 0, 0, []);
                        if (0 ≤ k) ∧ (k < (e20.2.2.2.length : Int)) then
                        let e21 := e20.2.2.2.getD k.toNat (0, 0, 0);
                        some (((e21.1, e21.2.1, e21.2.2, ()), true, ()), ())
                        else none
                        else none)
                    else none))))) =
    some ((((secR (rightB s0 s1 s2 s3 s4 s5 s6 s7 l) l task k).1, (secR (rightB s0 s1 s2 s3 s4 s5 s6 s7 l) l task k).2.1, (secR (rightB s0 s1 s2 s3 s4 s5 s6 s7 l) l task k).2.2, ()), secOk (rightB s0 s1 s2 s3 s4 s5 s6 s7 l) l task k, ()), ()) := by
  rw [bnd, byB_not]
  unfold secR secOk
  cases h : rightB s0 s1 s2 s3 s4 s5 s6 s7 l with
  | false => simp only [byB_false, Bool.false_and, Bool.false_eq_true, if_false]
  | true =>
    simp only [byB_true, Bool.true_and, decide_eq_true_eq]
    by_cases h1 : task < 0
    · rw [byB_t h1, if_neg (by omega), decide_eq_false (by omega)]
    · by_cases h2 : task ≥ l.length
      · rw [byB_f h1, byB_t h2, if_neg (by omega), decide_eq_false (by omega)]
      · by_cases h3 : k < 0
        · rw [byB_f h1, byB_f h2, byB_t h3, if_neg (by omega), decide_eq_false (by omega)]
        · by_cases h4 : k ≥ (l.getD task.toNat (0, 0, 0, [])).2.2.2.length
          · rw [byB_f h1, byB_f h2, byB_f h3, if_pos (by omega), byB_t h4, if_neg (by omega), decide_eq_false (by omega)]
          · rw [byB_f h1, byB_f h2, byB_f h3, if_pos (by omega), byB_f h4, if_pos (by omega), if_pos (by omega), if_pos (by omega), decide_eq_true (by omega)]
            rfl
theorem section_at {N : Nat} (hN : 100 ≤ N) {s0 s1 s2 s3 s4 s5 s6 s7 : Int} {l : List Tk} {task k : Int} :
    section_23 N (((s0, s1, s2, s3, s4, s5, s6, s7, l, ()), task, k, ()), ()) = some ((((secR (rightB s0 s1 s2 s3 s4 s5 s6 s7 l) l task k).1, (secR (rightB s0 s1 s2 s3 s4 s5 s6 s7 l) l task k).2.1, (secR (rightB s0 s1 s2 s3 s4 s5 s6 s7 l) l task k).2.2, ()), secOk (rightB s0 s1 s2 s3 s4 s5 s6 s7 l) l task k, ()), ()) := by
  unfold section_23
  try dsimp only
  rw [right_at (by omega)]
  exact section_body
theorem rsection_at {N : Nat} (hN : 100 ≤ N) {s0 s1 s2 s3 s4 s5 s6 s7 : Int} {l : List Tk} {task k : Int} :
    section_24 N (((s0, s1, s2, s3, s4, s5, s6, s7, l, ()), task, k, ()), ()) = some ((((secR (rightB s0 s1 s2 s3 s4 s5 s6 s7 l) l task k).1, (secR (rightB s0 s1 s2 s3 s4 s5 s6 s7 l) l task k).2.1, (secR (rightB s0 s1 s2 s3 s4 s5 s6 s7 l) l task k).2.2, ()), secOk (rightB s0 s1 s2 s3 s4 s5 s6 s7 l) l task k, ()), ()) := by
  unfold section_24
  try dsimp only
  rw [rright_at (by omega)]
  exact section_body
/-! waits -/
/-- What is waited for, of d cores from c on. -/
def wsum (n : Int → Int) (own : Int) : Nat → Int → Int
  | 0, _ => 0
  | d + 1, c => (if c ≠ own ∧ n c > 0 then n c + 1 else 0) + wsum n own d (c + 1)
theorem wsum_zero (n : Int → Int) (own c : Int) : wsum n own 0 c = 0 := by simp [wsum]
theorem wsum_succ (n : Int → Int) (own c : Int) (d : Nat) : wsum n own (d + 1) c = (if c ≠ own ∧ n c > 0 then n c + 1 else 0) + wsum n own d (c + 1) := by simp [wsum]
theorem wsum_range {n : Int → Int} {B own : Int} (h : ∀ c, 0 ≤ n c ∧ n c ≤ B) : ∀ (d : Nat) (c : Int), 0 ≤ wsum n own d c ∧ wsum n own d c ≤ d * (B + 1)
  | 0, c => by rw [wsum_zero]; simp
  | d + 1, c => by
    have := wsum_range h d (c + 1) (own := own)
    have hc := h c
    have e : ((d + 1 : Nat) : Int) * (B + 1) = (d : Int) * (B + 1) + (B + 1) := by
      rw [show ((d + 1 : Nat) : Int) = (d : Int) + 1 by omega, Int.add_mul, Int.one_mul]
    rw [wsum_succ, e]
    split <;> omega
def waitS (rb : Bool) (s0 : Int) (l : List Tk) (wh : List Int) (task k : Int) : Int := if secOk rb l task k = true then wsum (fun c => lgS wh c (secX l task k).2.1 l) (ownS wh task) s0.toNat 0 else 0
theorem secOk_of {rb : Bool} {l : List Tk} {task k : Int} (h : secOk rb l task k = true) : rb = true ∧ 0 ≤ task ∧ task < l.length ∧ 0 ≤ k ∧ k < (l.getD task.toNat (0, 0, 0, [])).2.2.2.length := by
  unfold secOk at h
  rw [Bool.and_eq_true, decide_eq_true_eq] at h
  exact h
theorem wait_range {s0 s1 s2 s3 s4 s5 s6 s7 : Int} {l : List Tk} (wh : List Int) (task k : Int) : 0 ≤ waitS (rightB s0 s1 s2 s3 s4 s5 s6 s7 l) s0 l wh task k ∧ waitS (rightB s0 s1 s2 s3 s4 s5 s6 s7 l) s0 l wh task k ≤ 8796093022216 := by
  unfold waitS
  split
  · rename_i h
    have hr := (secOk_of h).1
    obtain ⟨hc, _⟩ := right_facts hr
    have := wsum_range (own := ownS wh task) (B := 1099511627776) (fun c => lg_range hr wh c (secX l task k).2.1) s0.toNat 0
    have : ((s0.toNat : Nat) : Int) * (1099511627776 + 1) ≤ 8 * (1099511627776 + 1) := Int.mul_le_mul_of_nonneg_right (by omega) (by omega)
    omega
  · omega
theorem wait_loop {N : Nat} {s0 : Int} (hs : s0 ≤ 8) {own x1 x2 x3 : Int} {M : List ((Int × Int) × Int)} {n : Int → Int} (hM : ∀ c, gm M c x2 = n c) (hn : ∀ c, 0 ≤ n c ∧ n c ≤ 1099511627776) :
    ∀ (d : Nat) (c : Int) (k : Nat) (sum : Int), c + d = s0 → 0 ≤ c → d < k → 0 ≤ sum → sum ≤ c * 1099511627777 →
      loopN k (Wait_10_L9 N) (((), own, (), sum, s0, c, ()), (x1, x2, x3, ()), M, ()) = some ((sum + wsum n own d c, ()), ()) := by
  intro d
  induction d with
  | zero =>
    intro c k sum hd hc hk h0 h1
    obtain ⟨k, rfl⟩ : ∃ q, k = q + 1 := ⟨k - 1, by omega⟩
    rw [loopN_succ, Wait_10_L9]
    try dsimp only
    rw [byB_f (by omega), wsum_zero, Int.add_zero]
  | succ d ih =>
    intro c k sum hd hc hk h0 h1
    obtain ⟨k, rfl⟩ : ∃ q, k = q + 1 := ⟨k - 1, by omega⟩
    have hg : (mapGet eqk (c, x2) M).getD 0 = n c := hM c
    have hnc := hn c
    rw [loopN_succ, Wait_10_L9]
    try dsimp only
    rw [byB_t (by omega), hg, w64 (n := c + 1) (by omega) (by omega), wsum_succ]
    by_cases h2 : c = own
    · rw [byB_nef h2, ih _ _ _ (by omega) (by omega) (by omega) h0 (by omega), if_neg (fun h => h.1 h2), Int.zero_add]
    · rw [byB_net h2]
      by_cases h3 : n c > 0
      · rw [byB_t h3, w64 (n := n c + 1) (by omega) (by omega), w64 (by omega) (by omega), ih _ _ _ (by omega) (by omega) (by omega) (by omega) (by omega), if_pos ⟨h2, h3⟩, Int.add_assoc]
      · rw [byB_f h3, ih _ _ _ (by omega) (by omega) (by omega) h0 (by omega), if_neg (fun h => h3 h.2), Int.zero_add]
theorem Wait_at {N : Nat} (hN : 100 ≤ N) {s0 s1 s2 s3 s4 s5 s6 s7 : Int} {l : List Tk} {wh : List Int} {task k : Int} :
    Wait_10 N (((s0, s1, s2, s3, s4, s5, s6, s7, l, ()), wh, task, k, ()), ()) = some ((waitS (rightB s0 s1 s2 s3 s4 s5 s6 s7 l) s0 l wh task k, ()), ()) := by
  unfold Wait_10 waitS
  try dsimp only
  rw [section_at hN, bnd, byB_not]
  try dsimp only
  cases h : secOk (rightB s0 s1 s2 s3 s4 s5 s6 s7 l) l task k with
  | false => rw [byB_false, if_neg (by simp)]
  | true =>
    obtain ⟨hr, h1, h2, h3, h4⟩ := secOk_of h
    obtain ⟨hc, _, hl, ht⟩ := right_facts hr
    have es : secR (rightB s0 s1 s2 s3 s4 s5 s6 s7 l) l task k = secX l task k := by unfold secR; rw [if_pos h]
    obtain ⟨r, e, q⟩ := longest_ev hN (s0 := s0) (s1 := s1) (s2 := s2) (s3 := s3) (s4 := s4) (s5 := s5) (s6 := s6) (s7 := s7) hl (fun t m => (task_facts (ht t m)).2.2.1) wh
    have w := fun own => wait_loop (N := N) (s0 := s0) (by omega) (own := own) (x1 := (secX l task k).1) (x2 := (secX l task k).2.1) (x3 := (secX l task k).2.2) (M := r.2.1) (n := fun c => lgS wh c (secX l task k).2.1 l) (fun c => q c _) (fun c => lg_range hr wh c _) s0.toNat 0 N 0 (by omega) (by omega) (by omega) (by omega) (by omega)
    rw [byB_true, es, if_pos rfl, e]
    simp only [bnd]
    by_cases h5 : task < wh.length
    · rw [byB_t h5, if_pos (by omega), w, Int.zero_add]
      unfold ownS
      rw [if_neg (by omega)]
    · rw [byB_f h5, w, Int.zero_add]
      unfold ownS
      rw [if_pos (by omega)]
theorem rwait_loop {N : Nat} (hN : 100 ≤ N) {s0 s1 s2 s3 s4 s5 s6 s7 : Int} {l : List Tk} {wh : List Int} {task x1 x2 x3 : Int} (hr : rightB s0 s1 s2 s3 s4 s5 s6 s7 l = true) :
    ∀ (d : Nat) (c : Int) (k : Nat) (sum : Int), c + d = s0 → 0 ≤ c → d < k → 0 ≤ sum → sum ≤ c * 1099511627777 →
      loopN k (Wait_11_L6 N) ((wh, task, (), (), sum, c, ()), (s0, s1, s2, s3, s4, s5, s6, s7, l, ()), (x1, x2, x3, ()), ()) = some ((sum + wsum (fun c => lgS wh c x2 l) (ownS wh task) d c, ()), ()) := by
  have hs := (right_facts hr).1
  intro d
  induction d with
  | zero =>
    intro c k sum hd hc hk h0 h1
    obtain ⟨k, rfl⟩ : ∃ q, k = q + 1 := ⟨k - 1, by omega⟩
    rw [loopN_succ, Wait_11_L6]
    try dsimp only
    rw [byB_f (by omega), wsum_zero, Int.add_zero]
  | succ d ih =>
    intro c k sum hd hc hk h0 h1
    obtain ⟨k, rfl⟩ : ∃ q, k = q + 1 := ⟨k - 1, by omega⟩
    have hnc := lg_range hr wh c x2
    have el : longS (rightB s0 s1 s2 s3 s4 s5 s6 s7 l) s0 l wh c x2 = lgS wh c x2 l := by unfold longS; rw [if_pos ⟨hr, hc, by omega⟩]
    rw [loopN_succ, Wait_11_L6]
    try dsimp only
    rw [byB_t (by omega), rLongest_at hN, bnd, core_at, bnd, el, w64 (n := c + 1) (by omega) (by omega), wsum_succ]
    try dsimp only
    by_cases h2 : c = ownS wh task
    · rw [byB_nef h2, ih _ _ _ (by omega) (by omega) (by omega) h0 (by omega), if_neg (fun h => h.1 h2), Int.zero_add]
    · rw [byB_net h2]
      by_cases h3 : lgS wh c x2 l > 0
      · rw [byB_t h3, w64 (n := sum + lgS wh c x2 l) (by omega) (by omega), w64 (by omega) (by omega), ih _ _ _ (by omega) (by omega) (by omega) (by omega) (by omega), if_pos ⟨h2, h3⟩]
        have e : sum + lgS wh c x2 l + 1 + wsum (fun c => lgS wh c x2 l) (ownS wh task) d (c + 1) = sum + (lgS wh c x2 l + 1 + wsum (fun c => lgS wh c x2 l) (ownS wh task) d (c + 1)) := by omega
        rw [e]
      · rw [byB_f h3, ih _ _ _ (by omega) (by omega) (by omega) h0 (by omega), if_neg (fun h => h3 h.2), Int.zero_add]
theorem rWait_at {N : Nat} (hN : 100 ≤ N) {s0 s1 s2 s3 s4 s5 s6 s7 : Int} {l : List Tk} {wh : List Int} {task k : Int} :
    Wait_11 N (((s0, s1, s2, s3, s4, s5, s6, s7, l, ()), wh, task, k, ()), ()) = some ((waitS (rightB s0 s1 s2 s3 s4 s5 s6 s7 l) s0 l wh task k, ()), ()) := by
  unfold Wait_11 waitS
  try dsimp only
  rw [rsection_at hN, bnd, byB_not]
  try dsimp only
  cases h : secOk (rightB s0 s1 s2 s3 s4 s5 s6 s7 l) l task k with
  | false => rw [byB_false, if_neg (by simp)]
  | true =>
    obtain ⟨hr, _⟩ := secOk_of h
    obtain ⟨hc, _⟩ := right_facts hr
    have es : secR (rightB s0 s1 s2 s3 s4 s5 s6 s7 l) l task k = secX l task k := by unfold secR; rw [if_pos h]
    have w := rwait_loop hN (wh := wh) (task := task) (x1 := (secX l task k).1) (x2 := (secX l task k).2.1) (x3 := (secX l task k).2.2) hr s0.toNat 0 N 0 (by omega) (by omega) (by omega) (by omega) (by omega)
    rw [byB_true, es, if_pos rfl, w, Int.zero_add]
def holdS (rb : Bool) (s0 : Int) (l : List Tk) (wh : List Int) (task k : Int) : Int := waitS rb s0 l wh task k + (secR rb l task k).2.2
theorem sec_range {s0 s1 s2 s3 s4 s5 s6 s7 : Int} {l : List Tk} (task k : Int) : 0 ≤ (secR (rightB s0 s1 s2 s3 s4 s5 s6 s7 l) l task k).2.2 ∧ (secR (rightB s0 s1 s2 s3 s4 s5 s6 s7 l) l task k).2.2 ≤ 1099511627776 := by
  unfold secR
  split
  · rename_i h
    obtain ⟨hr, h1, h2, h3, h4⟩ := secOk_of h
    obtain ⟨_, _, hl, ht⟩ := right_facts hr
    have a := task_facts (ht _ (getD_mem (d := (0, 0, 0, [])) (show task.toNat < l.length by omega)))
    have b := a.2.2.2 _ (getD_mem (d := (0, 0, 0)) (show k.toNat < (l.getD task.toNat (0, 0, 0, [])).2.2.2.length by omega))
    unfold secX
    omega
  · simp
theorem Hold_at {N : Nat} (hN : 100 ≤ N) {s0 s1 s2 s3 s4 s5 s6 s7 : Int} {l : List Tk} {wh : List Int} {task k : Int} :
    Hold_12 N (((s0, s1, s2, s3, s4, s5, s6, s7, l, ()), wh, task, k, ()), ()) = some ((holdS (rightB s0 s1 s2 s3 s4 s5 s6 s7 l) s0 l wh task k, ()), ()) := by
  have h1 := wait_range (s0 := s0) (s1 := s1) (s2 := s2) (s3 := s3) (s4 := s4) (s5 := s5) (s6 := s6) (s7 := s7) (l := l) wh task k
  have h2 := sec_range (s0 := s0) (s1 := s1) (s2 := s2) (s3 := s3) (s4 := s4) (s5 := s5) (s6 := s6) (s7 := s7) (l := l) task k
  unfold Hold_12 holdS
  try dsimp only
  rw [section_at hN, bnd, Wait_at hN, bnd]
  try dsimp only
  rw [w64 (by omega) (by omega)]
theorem rHold_at {N : Nat} (hN : 100 ≤ N) {s0 s1 s2 s3 s4 s5 s6 s7 : Int} {l : List Tk} {wh : List Int} {task k : Int} :
    Hold_13 N (((s0, s1, s2, s3, s4, s5, s6, s7, l, ()), wh, task, k, ()), ()) = some ((holdS (rightB s0 s1 s2 s3 s4 s5 s6 s7 l) s0 l wh task k, ()), ()) := by
  have h1 := wait_range (s0 := s0) (s1 := s1) (s2 := s2) (s3 := s3) (s4 := s4) (s5 := s5) (s6 := s6) (s7 := s7) (l := l) wh task k
  have h2 := sec_range (s0 := s0) (s1 := s1) (s2 := s2) (s3 := s3) (s4 := s4) (s5 := s5) (s6 := s6) (s7 := s7) (l := l) task k
  unfold Hold_13 holdS
  try dsimp only
  rw [rsection_at hN, bnd, byB_not]
  try dsimp only
  cases h : secOk (rightB s0 s1 s2 s3 s4 s5 s6 s7 l) l task k with
  | false =>
    rw [byB_false]
    unfold waitS secR
    rw [h, if_neg (by decide), if_neg (by decide)]
    rfl
  | true =>
    rw [byB_true, rWait_at hN, bnd]
    try dsimp only
    rw [w64 (by omega) (by omega)]
/-- What all of a task's sections, from j on, wait for. -/
def esum (f : Int → Int) : Nat → Int → Int
  | 0, _ => 0
  | d + 1, j => f j + esum f d (j + 1)
theorem esum_zero (f : Int → Int) (j : Int) : esum f 0 j = 0 := by simp [esum]
theorem esum_succ (f : Int → Int) (d : Nat) (j : Int) : esum f (d + 1) j = f j + esum f d (j + 1) := by simp [esum]
theorem esum_range {f : Int → Int} (h : ∀ j, 0 ≤ f j ∧ f j ≤ 8796093022216) : ∀ (d : Nat) (j : Int), 0 ≤ esum f d j ∧ esum f d j ≤ d * 8796093022216
  | 0, j => by rw [esum_zero]; simp
  | d + 1, j => by
    have := esum_range h d (j + 1)
    have := h j
    rw [esum_succ]
    omega
def extraS (rb : Bool) (s0 : Int) (l : List Tk) (wh : List Int) (task : Int) : Int := if rb = true ∧ 0 ≤ task ∧ task < l.length then esum (waitS rb s0 l wh task) (l.getD task.toNat (0, 0, 0, [])).2.2.2.length 0 else 0
theorem Uses_at {N : Nat} (hN : 100 ≤ N) {s0 s1 s2 s3 s4 s5 s6 s7 : Int} {l : List Tk} {task : Int} :
    Uses_16 N (((s0, s1, s2, s3, s4, s5, s6, s7, l, ()), task, ()), ()) = some ((secOk (rightB s0 s1 s2 s3 s4 s5 s6 s7 l) l task 0, ()), ()) := by
  unfold Uses_16
  try dsimp only
  rw [section_at hN, bnd]
theorem rUses_at {N : Nat} (hN : 100 ≤ N) {s0 s1 s2 s3 s4 s5 s6 s7 : Int} {l : List Tk} {task : Int} :
    Uses_17 N (((s0, s1, s2, s3, s4, s5, s6, s7, l, ()), task, ()), ()) = some ((secOk (rightB s0 s1 s2 s3 s4 s5 s6 s7 l) l task 0, ()), ()) := by
  unfold Uses_17 secOk
  try dsimp only
  rw [rright_at (by omega), bnd]
  try dsimp only
  cases h : rightB s0 s1 s2 s3 s4 s5 s6 s7 l with
  | false => rw [byB_false, Bool.false_and]
  | true =>
    rw [byB_true, Bool.true_and]
    by_cases h1 : task ≥ 0
    · by_cases h2 : task < l.length
      · rw [byB_t h1, byB_t h2, if_pos (by omega)]
        congr 4
        exact propext ⟨fun g => by omega, fun g => by omega⟩
      · rw [byB_t h1, byB_f h2, decide_eq_false (by omega)]
    · rw [byB_f h1, decide_eq_false (by omega)]
theorem extra_loop {N : Nat} (hN : 100 ≤ N) {s0 s1 s2 s3 s4 s5 s6 s7 : Int} {l : List Tk} {wh : List Int} {task : Int} {n : Int} (hn : n ≤ 4) :
    ∀ (d : Nat) (j : Int) (k : Nat) (sum : Int), j + d = n → 0 ≤ j → d < k → 0 ≤ sum → sum ≤ j * 8796093022216 →
      loopN k (Extra_14_L4 N) ((wh, task, (), sum, n, j, ()), (s0, s1, s2, s3, s4, s5, s6, s7, l, ()), ()) = some ((sum + esum (waitS (rightB s0 s1 s2 s3 s4 s5 s6 s7 l) s0 l wh task) d j, ()), ()) := by
  intro d
  induction d with
  | zero =>
    intro j k sum hd hj hk h0 h1
    obtain ⟨k, rfl⟩ : ∃ q, k = q + 1 := ⟨k - 1, by omega⟩
    rw [loopN_succ, Extra_14_L4]
    try dsimp only
    rw [byB_f (by omega), esum_zero, Int.add_zero]
  | succ d ih =>
    intro j k sum hd hj hk h0 h1
    obtain ⟨k, rfl⟩ : ∃ q, k = q + 1 := ⟨k - 1, by omega⟩
    have hw := wait_range (s0 := s0) (s1 := s1) (s2 := s2) (s3 := s3) (s4 := s4) (s5 := s5) (s6 := s6) (s7 := s7) (l := l) wh task j
    rw [loopN_succ, Extra_14_L4]
    try dsimp only
    rw [byB_t (by omega), Wait_at hN, bnd]
    try dsimp only
    rw [w64 (n := j + 1) (by omega) (by omega), w64 (by omega) (by omega), ih _ _ _ (by omega) (by omega) (by omega) (by omega) (by omega), esum_succ, Int.add_assoc]
theorem Extra_at {N : Nat} (hN : 100 ≤ N) {s0 s1 s2 s3 s4 s5 s6 s7 : Int} {l : List Tk} {wh : List Int} {task : Int} :
    Extra_14 N (((s0, s1, s2, s3, s4, s5, s6, s7, l, ()), wh, task, ()), ()) = some ((extraS (rightB s0 s1 s2 s3 s4 s5 s6 s7 l) s0 l wh task, ()), ()) := by
  unfold Extra_14 extraS
  try dsimp only
  rw [Uses_at hN, bnd]
  try dsimp only
  cases h : secOk (rightB s0 s1 s2 s3 s4 s5 s6 s7 l) l task 0 with
  | false =>
    rw [byB_false]
    split
    · rename_i g
      unfold secOk at h
      rw [g.1, Bool.true_and] at h
      have h := of_decide_eq_false h
      have e : (l.getD task.toNat (0, 0, 0, [])).2.2.2.length = 0 := by omega
      rw [e, esum_zero]
    · rfl
  | true =>
    obtain ⟨hr, h1, h2, h3, h4⟩ := secOk_of h
    obtain ⟨_, _, hl, ht⟩ := right_facts hr
    have a := task_facts (ht _ (getD_mem (d := (0, 0, 0, [])) (show task.toNat < l.length by omega)))
    rw [byB_true, if_pos (by omega), if_pos ⟨hr, h1, h2⟩]
    have := extra_loop hN (s0 := s0) (s1 := s1) (s2 := s2) (s3 := s3) (s4 := s4) (s5 := s5) (s6 := s6) (s7 := s7) (l := l) (wh := wh) (task := task) (n := (((l.getD task.toNat (0, 0, 0, [])).2.2.2.length : Nat) : Int)) (by omega) (l.getD task.toNat (0, 0, 0, [])).2.2.2.length 0 N 0 (by omega) (by omega) (by omega) (by omega) (by omega)
    rw [this, Int.zero_add]
theorem rextra_loop {N : Nat} (hN : 100 ≤ N) {s0 s1 s2 s3 s4 s5 s6 s7 : Int} {l : List Tk} {wh : List Int} {task : Int} (ht : 0 ≤ task ∧ task < l.length) (hn : (l.getD task.toNat (0, 0, 0, [])).2.2.2.length ≤ 4) :
    ∀ (d : Nat) (j : Int) (k : Nat) (sum : Int), j + d = (l.getD task.toNat (0, 0, 0, [])).2.2.2.length → 0 ≤ j → d < k → 0 ≤ sum → sum ≤ j * 8796093022216 →
      loopN k (Extra_15_L5 N) ((wh, task, (), sum, j, ()), (s0, s1, s2, s3, s4, s5, s6, s7, l, ()), ()) = some ((sum + esum (waitS (rightB s0 s1 s2 s3 s4 s5 s6 s7 l) s0 l wh task) d j, ()), ()) := by
  intro d
  induction d with
  | zero =>
    intro j k sum hd hj hk h0 h1
    obtain ⟨k, rfl⟩ : ∃ q, k = q + 1 := ⟨k - 1, by omega⟩
    rw [loopN_succ, Extra_15_L5]
    try dsimp only
    rw [if_pos (by omega), byB_f (by omega), esum_zero, Int.add_zero]
  | succ d ih =>
    intro j k sum hd hj hk h0 h1
    obtain ⟨k, rfl⟩ : ∃ q, k = q + 1 := ⟨k - 1, by omega⟩
    have hw := wait_range (s0 := s0) (s1 := s1) (s2 := s2) (s3 := s3) (s4 := s4) (s5 := s5) (s6 := s6) (s7 := s7) (l := l) wh task j
    rw [loopN_succ, Extra_15_L5]
    try dsimp only
    rw [if_pos (by omega), byB_t (by omega), rWait_at hN, bnd]
    try dsimp only
    rw [w64 (n := j + 1) (by omega) (by omega), w64 (by omega) (by omega), ih _ _ _ (by omega) (by omega) (by omega) (by omega) (by omega), esum_succ, Int.add_assoc]
theorem rExtra_at {N : Nat} (hN : 100 ≤ N) {s0 s1 s2 s3 s4 s5 s6 s7 : Int} {l : List Tk} {wh : List Int} {task : Int} :
    Extra_15 N (((s0, s1, s2, s3, s4, s5, s6, s7, l, ()), wh, task, ()), ()) = some ((extraS (rightB s0 s1 s2 s3 s4 s5 s6 s7 l) s0 l wh task, ()), ()) := by
  unfold Extra_15 extraS
  try dsimp only
  rw [rright_at (by omega), bnd]
  try dsimp only
  cases hr : rightB s0 s1 s2 s3 s4 s5 s6 s7 l with
  | false => rw [byB_false, if_neg (by simp)]
  | true =>
    rw [byB_true]
    by_cases h1 : task ≥ 0
    · by_cases h2 : task < l.length
      · obtain ⟨_, _, hl, ht⟩ := right_facts hr
        have a := task_facts (ht _ (getD_mem (d := (0, 0, 0, [])) (show task.toNat < l.length by omega)))
        have := rextra_loop hN (s0 := s0) (s1 := s1) (s2 := s2) (s3 := s3) (s4 := s4) (s5 := s5) (s6 := s6) (s7 := s7) (l := l) (wh := wh) (task := task) ⟨h1, h2⟩ a.2.2.1 (l.getD task.toNat (0, 0, 0, [])).2.2.2.length 0 N 0 (by omega) (by omega) (by omega) (by omega) (by omega)
        rw [byB_t h1, byB_t h2, if_pos ⟨rfl, h1, h2⟩, this, Int.zero_add, hr]
      · rw [byB_t h1, byB_f h2, if_neg (fun h => h2 h.2.2)]
    · rw [byB_f h1, if_neg (fun h => h1 h.2.1)]
theorem examples_eq {N : Nat} (h : 300 ≤ N) : examples_7 N ((), ()) = some ((true, ()), ()) := by
  unfold examples_7
  rw [if_pos h]
end Go.Proofs.YtgpeknookhdffaaC
