/- Chapter 14: the longest sections, and what is waited for, as numbers. Conditions: as each theorem states them. -/
import Derived.Test.YtgpeknookhdffaaXValidR
namespace Go.Proofs.YtgpeknookhdffaaC
open Go Go.Proofs.YtgpeknookhdffaaM Go.Proofs.YtgpeknookhdffaaX Go.Proofs.YtgpeknookhdffaaL
set_option linter.unusedVariables false
set_option linter.unusedSimpArgs false

/-- The longest of some sections with a resource, from a number on. -/
def bestS (res : Int) : List Sec → Int → Int
  | [], m => m
  | x :: l, m => bestS res l (if x.2.1 = res then (if x.2.2 > m then x.2.2 else m) else m)
theorem bestS_nil (res m : Int) : bestS res [] m = m := by simp [bestS]
theorem bestS_cons (res m : Int) (x : Sec) (l : List Sec) : bestS res (x :: l) m = bestS res l (if x.2.1 = res then (if x.2.2 > m then x.2.2 else m) else m) := by simp [bestS]
/-- The longest of some tasks' sections with a resource, where these are on a core. -/
def bestT (wh : List Int) (c res : Int) : Nat → List Tk → Int → Int
  | _, [], m => m
  | i, t :: l, m => bestT wh c res (i + 1) l (if i < wh.length ∧ wh.getD i 0 = c then bestS res t.2.2.2 m else m)
theorem bestT_nil (wh : List Int) (c res : Int) (i : Nat) (m : Int) : bestT wh c res i [] m = m := by simp [bestT]
theorem bestT_cons (wh : List Int) (c res : Int) (i : Nat) (t : Tk) (l : List Tk) (m : Int) : bestT wh c res i (t :: l) m = bestT wh c res (i + 1) l (if i < wh.length ∧ wh.getD i 0 = c then bestS res t.2.2.2 m else m) := by simp [bestT]
theorem bestS_le {res : Int} : ∀ {l : List Sec} {m : Int}, m ≤ bestS res l m
  | [], m => by rw [bestS_nil]; omega
  | x :: l, m => by
    rw [bestS_cons]
    have := bestS_le (res := res) (l := l) (m := if x.2.1 = res then (if x.2.2 > m then x.2.2 else m) else m)
    split at this
    · rename_i h; rw [if_pos h]; split at this <;> rename_i h2
      · rw [if_pos h2]; omega
      · rw [if_neg h2]; omega
    · rename_i h; rw [if_neg h]; omega
theorem bestS_mem {res : Int} : ∀ {l : List Sec} {m : Int} {x : Sec}, x ∈ l → x.2.1 = res → x.2.2 ≤ bestS res l m
  | y :: l, m, x, h, hx => by
    rw [bestS_cons]
    rcases List.mem_cons.1 h with rfl | h
    · have := bestS_le (res := res) (l := l) (m := if x.2.1 = res then (if x.2.2 > m then x.2.2 else m) else m)
      rw [if_pos hx] at this ⊢
      split at this <;> rename_i h2
      · rw [if_pos h2]; exact this
      · rw [if_neg h2]; omega
    · exact bestS_mem h hx
theorem bestS_get {res : Int} : ∀ (l : List Sec) (m : Int), bestS res l m = m ∨ ∃ x ∈ l, x.2.1 = res ∧ bestS res l m = x.2.2
  | [], m => .inl (bestS_nil _ _)
  | y :: l, m => by
    rw [bestS_cons]
    rcases bestS_get l (if y.2.1 = res then (if y.2.2 > m then y.2.2 else m) else m) with h | ⟨x, h1, h2, h3⟩
    · rw [h]
      by_cases c1 : y.2.1 = res
      · by_cases c2 : y.2.2 > m
        · rw [if_pos c1, if_pos c2]; exact .inr ⟨y, .head _, c1, rfl⟩
        · rw [if_pos c1, if_neg c2]; exact .inl rfl
      · rw [if_neg c1]; exact .inl rfl
    · exact .inr ⟨x, .tail _ h1, h2, h3⟩
theorem bestT_le {wh : List Int} {c res : Int} : ∀ {l : List Tk} {i : Nat} {m : Int}, m ≤ bestT wh c res i l m
  | [], i, m => by rw [bestT_nil]; omega
  | t :: l, i, m => by
    rw [bestT_cons]
    have := bestT_le (wh := wh) (c := c) (res := res) (l := l) (i := i + 1) (m := if i < wh.length ∧ wh.getD i 0 = c then bestS res t.2.2.2 m else m)
    have h2 := bestS_le (res := res) (l := t.2.2.2) (m := m)
    split at this <;> rename_i h
    · rw [if_pos h]; omega
    · rw [if_neg h]; omega
theorem bestT_mem {wh : List Int} {c res : Int} : ∀ {l : List Tk} {i : Nat} {m : Int} (q : Nat), q < l.length → i + q < wh.length → wh.getD (i + q) 0 = c → ∀ x ∈ (l.getD q (0, 0, 0, [])).2.2.2, x.2.1 = res → x.2.2 ≤ bestT wh c res i l m
  | [], i, m, q, h, _, _, _, _, _ => by simp at h
  | t :: l, i, m, q, h, h1, h2, x, hx, hr => by
    rw [bestT_cons]
    cases q with
    | zero =>
      rw [if_pos ⟨by simpa using h1, by simpa using h2⟩]
      have a := bestS_mem (m := m) (show x ∈ t.2.2.2 from hx) hr
      have b := bestT_le (wh := wh) (c := c) (res := res) (l := l) (i := i + 1) (m := bestS res t.2.2.2 m)
      omega
    | succ q => exact bestT_mem q (by simpa using h) (by omega) (by rw [show i + 1 + q = i + (q + 1) by omega]; exact h2) x hx hr
theorem bestT_get {wh : List Int} {c res : Int} : ∀ (l : List Tk) (i : Nat) (m : Int), bestT wh c res i l m = m ∨ ∃ q, q < l.length ∧ i + q < wh.length ∧ wh.getD (i + q) 0 = c ∧ ∃ x ∈ (l.getD q (0, 0, 0, [])).2.2.2, x.2.1 = res ∧ bestT wh c res i l m = x.2.2
  | [], i, m => .inl (bestT_nil _ _ _ _ _)
  | t :: l, i, m => by
    rw [bestT_cons]
    rcases bestT_get (wh := wh) (c := c) (res := res) l (i + 1) (if i < wh.length ∧ wh.getD i 0 = c then bestS res t.2.2.2 m else m) with h | ⟨q, h1, h2, h3, x, h4, h5, h6⟩
    · rw [h]
      by_cases hc : i < wh.length ∧ wh.getD i 0 = c
      · rw [if_pos hc]
        rcases bestS_get (res := res) t.2.2.2 m with g | ⟨x, g1, g2, g3⟩
        · exact .inl g
        · exact .inr ⟨0, by simp, by simpa using hc.1, by simpa using hc.2, x, g1, g2, g3⟩
      · rw [if_neg hc]; exact .inl rfl
    · exact .inr ⟨q + 1, by simpa using h1, by omega, by rw [show i + (q + 1) = i + 1 + q by omega]; exact h3, x, h4, h5, h6⟩
theorem bestT_over {wh : List Int} {c res : Int} : ∀ {l : List Tk} {i : Nat} {m : Int}, wh.length ≤ i → bestT wh c res i l m = m
  | [], i, m, _ => bestT_nil _ _ _ _ _
  | t :: l, i, m, h => by
    rw [bestT_cons, if_neg (by omega)]
    exact bestT_over (by omega)
theorem bestT_take {wh : List Int} {c res : Int} : ∀ {l : List Tk} {i n : Nat} {m : Int}, wh.length ≤ i + n → bestT wh c res i (l.take n) m = bestT wh c res i l m
  | [], i, n, m, _ => by rw [List.take_nil]
  | t :: l, i, 0, m, h => by rw [List.take_zero, bestT_nil, bestT_over (by omega)]
  | t :: l, i, n + 1, m, h => by
    rw [List.take_succ_cons, bestT_cons, bestT_cons]
    exact bestT_take (by omega)
/-- The longest section with a resource on a core. -/
def lgS (wh : List Int) (c res : Int) (l : List Tk) : Int := bestT wh c res 0 l 0

/-! the map -/
abbrev eqk : Int × Int → Int × Int → Bool := Ty.beqD (.pair (.int .i64) (.int .i64))
theorem eqk_iff (a b : Int × Int) : eqk a b = true ↔ a = b := by
  obtain ⟨a1, a2⟩ := a
  obtain ⟨b1, b2⟩ := b
  simp only [eqk, Ty.beqD, Bool.and_eq_true, decide_eq_true_eq, Prod.mk.injEq]
theorem get_put (k k' : Int × Int) (v : Int) : ∀ m : List ((Int × Int) × Int), mapGet eqk k' (mapPut eqk k v m) = if k' = k then some v else mapGet eqk k' m
  | [] => by
    simp only [mapPut, mapGet]
    by_cases h : k' = k
    · rw [if_pos h, if_pos ((eqk_iff _ _).2 h)]
    · rw [if_neg h, if_neg (fun e => h ((eqk_iff _ _).1 e))]
  | p :: m => by
    have ih := get_put k k' v m
    simp only [mapPut]
    by_cases h1 : k = p.1
    · rw [if_pos ((eqk_iff _ _).2 h1)]
      simp only [mapGet]
      by_cases h : k' = k
      · rw [if_pos h, if_pos ((eqk_iff _ _).2 h)]
      · rw [if_neg h, if_neg (fun e => h ((eqk_iff _ _).1 e)), if_neg (fun e => h (((eqk_iff _ _).1 e).trans h1.symm))]
    · rw [if_neg (fun e => h1 ((eqk_iff _ _).1 e))]
      simp only [mapGet]
      by_cases h : k' = p.1
      · rw [if_pos ((eqk_iff _ _).2 h), if_pos ((eqk_iff _ _).2 h), if_neg (fun e => h1 (e.symm.trans h))]
      · rw [if_neg (fun e => h ((eqk_iff _ _).1 e)), if_neg (fun e => h ((eqk_iff _ _).1 e)), ih]
def gm (m : List ((Int × Int) × Int)) (c res : Int) : Int := (mapGet eqk (c, res) m).getD 0
theorem gm_put (m : List ((Int × Int) × Int)) (c res w r v : Int) : gm (mapPut eqk (w, r) v m) c res = if w = c ∧ r = res then v else gm m c res := by
  unfold gm
  rw [get_put]
  by_cases h : w = c ∧ r = res
  · rw [if_pos h, if_pos (by rw [h.1, h.2])]
    rfl
  · rw [if_neg h, if_neg]
    intro e
    cases e
    exact h ⟨rfl, rfl⟩
theorem gm_nil (c res : Int) : gm [] c res = 0 := rfl

theorem secs_put {N : Nat} {wh : List Int} {l : List Tk} {secs : List Sec} {w : Int} {i : Nat} {again3 : _ → _} {Q : ((Unit × Unit) × (List ((Int × Int) × Int) × Unit)) → Prop} (hi : i < wh.length) (hw : wh.getD i 0 = w) (hs : secs.length ≤ 4) (hl : l.length ≤ 24) :
    ∀ (d j k : Nat) (M : List ((Int × Int) × Int)), j + d = secs.length → d < k →
      (∀ M', (∀ c res, gm M' c res = if w = c then bestS res (secs.drop j) (gm M c res) else gm M c res) → Ev (again3 ((wh, (), l, (l.length : Int), IntKind.wrap .i64 ((i : Int) + 1), ()), M', ())) Q) →
      Ev (loopN k (longest_20_L6 N again3) ((wh, (), (i : Int), l, (l.length : Int), (i : Int), secs, (secs.length : Int), (j : Int), ()), M, ())) Q := by
  intro d
  induction d with
  | zero =>
    intro j k M hd hk H
    obtain ⟨k, rfl⟩ : ∃ m, k = m + 1 := ⟨k - 1, by omega⟩
    rw [loopN_succ, longest_20_L6]
    try dsimp only
    rw [byB_f (by omega)]
    refine H M fun c res => ?_
    rw [List.drop_of_length_le (by omega), bestS_nil]
    split <;> rfl
  | succ d ih =>
    intro j k M hd hk H
    obtain ⟨k, rfl⟩ : ∃ m, k = m + 1 := ⟨k - 1, by omega⟩
    have hj : j < secs.length := by omega
    have hnx : IntKind.wrap .i64 ((j : Int) + 1) = ((j + 1 : Nat) : Int) := by rw [w64 (by omega) (by omega)]; omega
    rw [loopN_succ, longest_20_L6]
    try dsimp only
    rw [byB_t (by omega), if_pos (by omega), if_pos (by omega), Int.toNat_natCast, Int.toNat_natCast, hnx, hw]
    refine ih (j + 1) k _ (by omega) (by omega) fun M' hM' => H M' fun c res => ?_
    rw [hM', drop_getD (d := (0, 0, 0)) hj, bestS_cons]
    generalize secs.getD j (0, 0, 0) = x
    have e : gm (mapPut eqk (w, x.2.1) (if x.2.2 > (mapGet eqk (w, x.2.1) M).getD 0 then x.2.2 else (mapGet eqk (w, x.2.1) M).getD 0) M) c res = if w = c then (if x.2.1 = res then (if x.2.2 > gm M c res then x.2.2 else gm M c res) else gm M c res) else gm M c res := by
      rw [gm_put]
      by_cases h1 : w = c
      · by_cases h2 : x.2.1 = res
        · rw [if_pos ⟨h1, h2⟩, if_pos h1, if_pos h2, h1, h2]
          rfl
        · rw [if_neg (fun h => h2 h.2), if_pos h1, if_neg h2]
      · rw [if_neg (fun h => h1 h.1), if_neg h1]
    by_cases h1 : w = c
    · rw [if_pos h1, if_pos h1]
      rw [if_pos h1] at e
      exact congrArg (bestS res (secs.drop (j + 1))) e
    · rw [if_neg h1, if_neg h1]
      rw [if_neg h1] at e
      exact e
theorem tasks_put {N : Nat} (hN : 10 ≤ N) {wh : List Int} {l : List Tk} (hl : l.length ≤ 24) (hlw : l.length ≤ wh.length) (hs : ∀ t ∈ l, t.2.2.2.length ≤ 4) :
    ∀ (d i k : Nat) (M : List ((Int × Int) × Int)), i + d = l.length → d < k →
      Ev (loopN k (longest_20_L3 N) ((wh, (), l, (l.length : Int), (i : Int), ()), M, ())) (fun r => ∀ c res, gm r.2.1 c res = bestT wh c res i (l.drop i) (gm M c res)) := by
  intro d
  induction d with
  | zero =>
    intro i k M hd hk
    obtain ⟨k, rfl⟩ : ∃ m, k = m + 1 := ⟨k - 1, by omega⟩
    rw [loopN_succ, longest_20_L3]
    try dsimp only
    rw [byB_f (by omega)]
    refine .mk fun c res => ?_
    rw [List.drop_of_length_le (by omega), bestT_nil]
  | succ d ih =>
    intro i k M hd hk
    obtain ⟨k, rfl⟩ : ∃ m, k = m + 1 := ⟨k - 1, by omega⟩
    have hi : i < l.length := by omega
    have hnx : IntKind.wrap .i64 ((i : Int) + 1) = ((i + 1 : Nat) : Int) := by rw [w64 (by omega) (by omega)]; omega
    have hst := hs _ (getD_mem (d := (0, 0, 0, [])) hi)
    rw [loopN_succ, longest_20_L3]
    try dsimp only
    rw [byB_t (by omega), if_pos (by omega), Int.toNat_natCast]
    refine secs_put (w := wh.getD i 0) (by omega) rfl hst hl (l.getD i (0, 0, 0, [])).2.2.2.length 0 N M (by omega) (by omega) fun M' hM' => ?_
    rw [hnx]
    refine (ih (i + 1) k M' (by omega) (by omega)).mono fun r hr c res => ?_
    rw [hr, hM', drop_getD (d := (0, 0, 0, [])) hi, bestT_cons, List.drop_zero]
    by_cases h : wh.getD i 0 = c
    · rw [if_pos h, if_pos ⟨by omega, h⟩]
    · rw [if_neg h, if_neg (fun g => h g.2)]
/-- What longest tells. -/
theorem longest_ev {N : Nat} (hN : 100 ≤ N) {s0 s1 s2 s3 s4 s5 s6 s7 : Int} {l : List Tk} (hl : l.length ≤ 24) (hs : ∀ t ∈ l, t.2.2.2.length ≤ 4) (wh : List Int) :
    Ev (longest_20 N (((s0, s1, s2, s3, s4, s5, s6, s7, l, ()), wh, ()), ())) (fun r => ∀ c res, gm r.2.1 c res = lgS wh c res l) := by
  unfold longest_20
  try dsimp only
  obtain ⟨n, hn, hn2⟩ : ∃ n : Nat, (if (wh.length : Int) < (l.length : Int) then (wh.length : Int) else (l.length : Int)) = (n : Int) ∧ n = min wh.length l.length := ⟨min wh.length l.length, by split <;> omega, rfl⟩
  rw [hn, if_pos (by omega), Int.toNat_natCast]
  have hlen : (l.take n).length = n := by rw [List.length_take]; omega
  refine (tasks_put (N := N) (by omega) (wh := wh) (l := l.take n) (by omega) (by omega) (fun t ht => hs t (List.mem_of_mem_take ht)) n 0 N [] (by omega) (by omega)).mono fun r hr c res => ?_
  rw [hr, List.drop_zero, gm_nil]
  unfold lgS
  by_cases h : wh.length ≤ l.length
  · rw [bestT_take (by omega)]
  · rw [List.take_of_length_le (by omega)]
end Go.Proofs.YtgpeknookhdffaaC
