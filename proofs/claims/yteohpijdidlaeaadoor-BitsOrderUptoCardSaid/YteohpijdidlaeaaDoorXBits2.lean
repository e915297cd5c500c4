/- What the functions of package bits that go round, and the document's answer, tell. Conditions: as each theorem states them. -/
import Derived.Test.YteohpijdidlaeaaDoorXBits
namespace Go.Proofs.YteohpijdidlaeaaDoorL
open Go Go.Proofs.YteohpijdidlaeaaDoorM Go.Proofs.YteohpijdidlaeaaDoorX
set_option linter.unusedVariables false
set_option linter.unusedSimpArgs false

theorem ex_eq {N : Nat} (h : 300 ≤ N) : examples_10 N ((), ()) = some ((true, ()), ()) := by
  unfold examples_10
  rw [if_pos h]

/-- Is an integer a level that is there? -/
def hasL (l : List Int) (i : Nat) : Bool := l.contains (i : Int)
theorem hasL_snoc (l : List Int) (x : Nat) (i : Nat) : hasL (l ++ [(x : Int)]) i = (hasL l i || decide (i = x)) := by
  unfold hasL
  rw [List.contains_eq_any_beq, List.any_append, ← List.contains_eq_any_beq]
  congr 1
  simp only [List.any_cons, List.any_nil, Bool.or_false]
  by_cases h : i = x
  · subst h; simp
  · have : ¬ (i : Int) = (x : Int) := by omega
    simp [h, this]
abbrev inL (l : List Int) : Prop := ∀ x ∈ l, 0 ≤ x ∧ x < 256
theorem inL_snoc {l : List Int} {x : Int} (h : inL l) (hx : 0 ≤ x ∧ x < 256) : inL (l ++ [x]) := fun y hy => by
  rcases List.mem_append.1 hy with hy | hy
  · exact h y hy
  · simp at hy; subst hy; exact hx

def zeroW : Nat → Nat := fun _ => 0
theorem zeroW_ok : OK zeroW := fun _ => by show (0 : Nat) < _; decide
theorem zeroW_mem (i : Nat) : mem zeroW i = false := Nat.zero_testBit _

/-- Levels made a set. -/
def OfSaid (l : List Int) (r : ((Int × (Int × (Int × (Int × Unit)))) × (Int × Unit)) × Unit) : Prop :=
  (inL l ∧ ∃ s, OK s ∧ r = ((tw s, 0, ()), ()) ∧ ∀ i, i < 256 → mem s i = hasL l i) ∨ (¬ inL l ∧ r = ((tw zeroW, 1, ()), ()))
theorem of_eq (N : Nat) (l : List Int) (hl : l.length < 9223372036854775807) (hN : l.length < N) : Ev (Of_11 N ((l, ()), ())) (OfSaid l) := by
  unfold Of_11
  dsimp only
  refine Ev.loop (fun n st => ∃ (i : Nat) (s : Nat → Nat) (z : Int × Int × Int × Int × Unit), st = (((), (), l, (l.length : Int), (i : Int), ()), z, tw s, ()) ∧ n = l.length - i ∧ i ≤ l.length ∧ OK s ∧ inL (l.take i) ∧ ∀ j, j < 256 → mem s j = hasL (l.take i) j) ?_
    (k := l.length) ⟨0, zeroW, (0, 0, 0, 0, ()), rfl, rfl, by omega, zeroW_ok, fun x hx => by simp at hx, fun j hj => by rw [zeroW_mem]; rfl⟩ hN
  rintro n st again ⟨i, s, z, rfl, rfl, hi, hs, hin, hm⟩ ih
  obtain ⟨z0, z1, z2, z3, _⟩ := z
  unfold Of_11_L3
  refine Ev.dec (fun h => ?_) fun h => ?_
  · have hi' : i < l.length := by omega
    rw [if_pos (by omega)]
    have hmem : l.getD i 0 ∈ l := getD_mem hi'
    have ht := take_succ_getD (l := l) (i := i) (d := 0) hi'
    simp only [Int.toNat_natCast, level_eq, bnd]
    generalize l.getD i 0 = x at *
    by_cases hx : 0 ≤ x ∧ x < 256
    · rw [decide_eq_true hx]
      obtain ⟨k, rfl⟩ : ∃ k : Nat, x = k := ⟨x.toNat, by omega⟩
      have hk : k < 256 := by omega
      rw [byB_not, byB_true, with_in N hs k hk, bnd]
      have e1 : IntKind.wrap .i64 ((i : Int) + 1) = ((i + 1 : Nat) : Int) := by rw [w64 (by omega) (by omega)]; omega
      rw [e1]
      refine ih (l.length - (i + 1)) _ (by omega) ⟨i + 1, withB s k, (z0, z1, z2, z3, ()), rfl, rfl, by omega, withB_ok hs k, ?_, fun j hj => ?_⟩
      · rw [ht]; exact inL_snoc hin hx
      · rw [withB_mem, hm j hj, ht, hasL_snoc]
    · rw [decide_eq_false hx, byB_not, byB_false]
      exact Ev.mk (.inr ⟨fun h' => hx (h' x hmem), rfl⟩)
  · have : i = l.length := by omega
    subst this
    rw [List.take_length] at hin hm
    exact Ev.mk (.inl ⟨hin, s, hs, rfl, hm⟩)

/-- The document's. -/
theorem setD {l : List Bool} {i j : Nat} {b : Bool} (h : i < l.length) : (l.set i b).getD j false = if i = j then b else l.getD j false := getD_set h
theorem rof_eq (N : Nat) (l : List Int) (hl : l.length < 9223372036854775807) (hN : l.length < N) :
    Ev (Of_12 N ((l, ()), ())) fun r => (inL l ∧ ∃ m, r = (((), true, ()), m, ()) ∧ m.length = 256 ∧ ∀ i, i < 256 → m.getD i false = hasL l i) ∨ (¬ inL l ∧ r = (((), false, ()), [], ())) := by
  unfold Of_12
  dsimp only
  refine Ev.loop (fun n st => ∃ (i : Nat) (m : List Bool), st = ((l, (), (i : Int), ()), m, ()) ∧ n = l.length - i ∧ i ≤ l.length ∧ m.length = 256 ∧ inL (l.take i) ∧ ∀ j, j < 256 → m.getD j false = hasL (l.take i) j) ?_
    (k := l.length) ⟨0, List.replicate 256 false, rfl, rfl, by omega, List.length_replicate, fun x hx => by simp at hx, fun j hj => by rw [getD_rep hj]; rfl⟩ hN
  rintro n st again ⟨i, m, rfl, rfl, hi, hml, hin, hm⟩ ih
  unfold Of_12_L3
  refine Ev.dec (fun h => ?_) fun h => ?_
  · have hi' : i < l.length := by omega
    rw [if_pos (by omega)]
    have hmem : l.getD i 0 ∈ l := getD_mem hi'
    have ht := take_succ_getD (l := l) (i := i) (d := 0) hi'
    obtain ⟨x, ex⟩ : ∃ x, l.getD i 0 = x := ⟨_, rfl⟩
    simp only [Int.toNat_natCast, ex] at hmem ht ⊢
    refine Ev.dec (fun h1 => Ev.mk (.inr ⟨fun h' => by have := (h' x hmem).1; omega, rfl⟩)) fun h1 => ?_
    rw [if_pos (by omega)]
    refine Ev.dec (fun h2 => Ev.mk (.inr ⟨fun h' => by have := (h' x hmem).2; omega, rfl⟩)) fun h2 => ?_
    rw [if_pos (by omega)]
    obtain ⟨k, rfl⟩ : ∃ k : Nat, x = k := ⟨x.toNat, by omega⟩
    rw [if_pos (by omega), Int.toNat_natCast]
    have e1 : IntKind.wrap .i64 ((i : Int) + 1) = ((i + 1 : Nat) : Int) := by rw [w64 (by omega) (by omega)]; omega
    rw [e1]
    refine ih (l.length - (i + 1)) _ (by omega) ⟨i + 1, m.set k true, rfl, rfl, by omega, by rw [List.length_set]; exact hml, ?_, fun j hj => ?_⟩
    · rw [ht]; exact inL_snoc hin (by omega)
    · rw [setD (by omega), hm j hj, ht, hasL_snoc]
      by_cases e : k = j
      · subst e; simp
      · have : ¬ j = k := fun e' => e e'.symm
        simp [e, this]
  · have : i = l.length := by omega
    subst this
    rw [List.take_length] at hin hm
    exact Ev.mk (.inl ⟨hin, m, rfl, hml, hm⟩)

theorem tdiv64 (i : Nat) : Int.tdiv (i : Int) 64 = ((i / 64 : Nat) : Int) := by
  rw [Int.tdiv_eq_ediv_of_nonneg (by omega)]; omega
theorem tmod64 (i : Nat) : Int.tmod (i : Int) 64 = ((i % 64 : Nat) : Int) := by
  rw [Int.tmod_eq_emod_of_nonneg (by omega)]; omega

/-- Words told level by level. -/
theorem levels_eq (N : Nat) {s : Nat → Nat} (hs : OK s) (hN : 256 < N) : Ev (Levels_20 N ((tw s, ()), ())) fun r => ∃ l, r = (((), ()), l, ()) ∧ l.length = 256 ∧ ∀ i, i < 256 → l.getD i false = mem s i := by
  unfold Levels_20
  dsimp only
  refine Ev.loop (fun n st => ∃ (i : Nat) (l : List Bool), st = (((), (), (i : Int), ()), tw s, l, ()) ∧ n = 256 - i ∧ i ≤ 256 ∧ l.length = 256 ∧ ∀ j, j < i → l.getD j false = mem s j) ?_
    (k := 256) ⟨0, List.replicate 256 false, rfl, rfl, by omega, List.length_replicate, fun j hj => by omega⟩ hN
  rintro n st again ⟨i, l, rfl, rfl, hi, hl, hm⟩ ih
  unfold Levels_20_L3
  refine Ev.dec (fun h => ?_) fun h => ?_
  · have hi' : i < 256 := by omega
    have e0 : IntKind.wrap .i64 (((i / 64 : Nat) : Int)) = ((i / 64 : Nat) : Int) := w64 (by omega) (by omega)
    simp only [tdiv64, tmod64, e0]
    rw [if_pos (by omega), if_neg (by omega), if_pos (by omega)]
    have e1 : IntKind.wrap .i64 ((i : Int) + 1) = ((i + 1 : Nat) : Int) := by rw [w64 (by omega) (by omega)]; omega
    simp only [Int.toNat_natCast]
    rw [e1, getD4 s (by omega), show min (i % 64) (IntKind.bits .u64) = i % 64 from Nat.min_eq_left (by show i % 64 ≤ 64; omega), shr_nat]
    refine ih (256 - (i + 1)) _ (by omega) ⟨i + 1, _, rfl, rfl, by omega, by rw [List.length_set]; exact hl, fun j hj => ?_⟩
    rw [setD (by omega)]
    by_cases e : i = j
    · subst e
      rw [if_pos rfl]
      unfold mem
      rw [Nat.testBit_eq_decide_div_mod_eq, Int.tmod_eq_emod_of_nonneg (Int.natCast_nonneg _)]
      generalize s (i / 64) / 2 ^ (i % 64) = q
      by_cases hq : q % 2 = 1
      · have : ((q : Int) % 2) = 1 := by omega
        simp [hq, this]
      · have : ¬ ((q : Int) % 2) = 1 := by omega
        simp [hq, this]
    · rw [if_neg e]; exact hm j (by omega)
  · have : i = 256 := by omega
    subst this
    exact Ev.mk ⟨l, rfl, hl, hm⟩

/-- Levels made words. -/
theorem words_eq (N : Nat) (l : List Bool) (hl : l.length = 256) (hN : 256 < N) : Ev (Words_13 N ((l, ()), ())) fun r => ∃ s, OK s ∧ r = ((tw s, ()), ()) ∧ ∀ i, i < 256 → mem s i = l.getD i false := by
  unfold Words_13
  dsimp only
  refine Ev.loop (fun n st => ∃ (i : Nat) (s : Nat → Nat) (z : Int × Int × Int × Int × Unit), st = ((l, (), (), (i : Int), ()), z, tw s, ()) ∧ n = 256 - i ∧ i ≤ 256 ∧ OK s ∧ (∀ j, j < i → mem s j = l.getD j false) ∧ ∀ j, i ≤ j → j < 256 → mem s j = false) ?_
    (k := 256) ⟨0, zeroW, (0, 0, 0, 0, ()), rfl, rfl, by omega, zeroW_ok, fun j hj => by omega, fun j _ _ => zeroW_mem j⟩ hN
  rintro n st again ⟨i, s, z, rfl, rfl, hi, hs, hm, hz⟩ ih
  obtain ⟨z0, z1, z2, z3, _⟩ := z
  unfold Words_13_L3
  have e1 : i < 256 → IntKind.wrap .i64 ((i : Int) + 1) = ((i + 1 : Nat) : Int) := fun h => by rw [w64 (by omega) (by omega)]; omega
  refine Ev.dec (fun h => ?_) fun h => ?_
  · have hi' : i < 256 := by omega
    rw [if_pos (by omega), Int.toNat_natCast]
    refine Ev.by (fun hb => ?_) fun hb => ?_
    · have e0 : IntKind.wrap .i64 (((i / 64 : Nat) : Int)) = ((i / 64 : Nat) : Int) := w64 (by omega) (by omega)
      simp only [tdiv64, tmod64, e0]
      rw [if_pos (by omega), if_neg (by omega), if_pos (by omega)]
      simp only [Int.toNat_natCast]
      have hp := pow_mod (i % 64) (by omega)
      have hlt : s (i / 64) < 2 ^ (i % 64) := by
        apply Nat.lt_pow_two_of_testBit
        intro j hj
        by_cases hj64 : j < 64
        · have := hz (64 * (i / 64) + j) (by omega) (by omega)
          unfold mem at this
          rw [show (64 * (i / 64) + j) / 64 = i / 64 by omega, show (64 * (i / 64) + j) % 64 = j by omega] at this
          exact this
        · exact Nat.testBit_lt_two_pow (Nat.lt_of_lt_of_le (hs _) (Nat.pow_le_pow_right (n := 2) (by decide) (show 64 ≤ j by omega)))
      have hor : s (i / 64) + 2 ^ (i % 64) = s (i / 64) ||| 2 ^ (i % 64) := by
        have := Nat.two_pow_add_eq_or_of_lt (i := i % 64) (b := s (i / 64)) hlt 1
        rw [Nat.mul_one] at this
        rw [Nat.add_comm, this, Nat.or_comm]
      have hlt2 := or_bit_lt (hs (i / 64)) (show i % 64 < 64 by omega)
      have e2 : IntKind.wrap .u64 (1 * 2 ^ (min (i % 64) (IntKind.bits .u64))) = ((2 ^ (i % 64) : Nat) : Int) := by
        rw [show min (i % 64) (IntKind.bits .u64) = i % 64 from Nat.min_eq_left (by show i % 64 ≤ 64; omega), Int.one_mul, show (2 : Int) ^ (i % 64) = ((2 ^ (i % 64) : Nat) : Int) by simp]
        generalize 2 ^ (i % 64) = z at hp
        exact wu64 (by omega) (by omega)
      have e3 : IntKind.wrap .u64 ((s (i / 64) : Int) + ((2 ^ (i % 64) : Nat) : Int)) = ((s (i / 64) ||| 2 ^ (i % 64) : Nat) : Int) := by
        rw [← Int.natCast_add, hor]
        exact wu64 (by omega) (by omega)
      rw [e1 hi', getD4 s (by omega), e2, e3, set4 s _ (show i / 64 < 4 by omega)]
      refine ih (256 - (i + 1)) _ (by omega) ⟨i + 1, withB s i, (z0, z1, z2, z3, ()), rfl, rfl, by omega, withB_ok hs i, fun j hj => ?_, fun j hj hj' => ?_⟩
      · rw [withB_mem]
        by_cases e : j = i
        · subst e; rw [hb]; simp
        · rw [hm j (by omega), decide_eq_false e, Bool.or_false]
      · rw [withB_mem, hz j (by omega) hj', decide_eq_false (by omega)]; rfl
    · rw [e1 hi']
      refine ih (256 - (i + 1)) _ (by omega) ⟨i + 1, s, (z0, z1, z2, z3, ()), rfl, rfl, by omega, hs, fun j hj => ?_, fun j hj hj' => hz j (by omega) hj'⟩
      by_cases e : j = i
      · subst e; rw [hb, hz j (Nat.le_refl _) hi']
      · exact hm j (by omega)
  · have : i = 256 := by omega
    subst this
    exact Ev.mk ⟨s, hs, rfl, hm⟩

/-- The least one, by the document. -/
theorem rnext_eq (N : Nat) (l : List Bool) (hl : l.length = 256) (hN : 256 < N) {i : Int} (h0 : -9223372036854775808 ≤ i) (h1 : i ≤ 9223372036854775807) :
    Ev (Next_22 N ((l, i, ()), ())) fun r => ∃ m, r = ((m, ()), ()) ∧ IsNext (fun k => l.getD k false) (i + 1).toNat m := by
  unfold Next_22
  dsimp only
  refine Ev.dec (fun h => Ev.mk ⟨_, rfl, .inl ⟨rfl, fun k hk hk' => by omega⟩⟩) fun h => ?_
  have e : IntKind.wrap .i64 ((if (-1) > i then (-1) else i) + 1) = (((i + 1).toNat : Nat) : Int) := by
    by_cases hh : (-1) > i
    · rw [if_pos hh, w64 (by omega) (by omega)]; omega
    · rw [if_neg hh, w64 (by omega) (by omega)]; omega
  rw [e]
  have ha : (i + 1).toNat ≤ 256 := by omega
  generalize (i + 1).toNat = a at *
  refine Ev.loop (fun n st => ∃ k : Nat, st = ((l, (k : Int), ()), ()) ∧ n = 256 - k ∧ a ≤ k ∧ k ≤ 256 ∧ ∀ j, a ≤ j → j < k → l.getD j false = false) ?_ (k := 256 - a) ⟨a, rfl, rfl, Nat.le_refl _, ha, fun j _ _ => by omega⟩ (by omega)
  rintro n st again ⟨k, rfl, rfl, hak, hk, hm⟩ ih
  unfold Next_22_L4
  refine Ev.dec (fun h => ?_) fun h => ?_
  · rw [if_pos (by omega), Int.toNat_natCast]
    refine Ev.by (fun hb => ?_) fun hb => ?_
    · exact Ev.mk ⟨_, rfl, .inr ⟨k, rfl, hak, by omega, hb, hm⟩⟩
    · have e1 : IntKind.wrap .i64 ((k : Int) + 1) = ((k + 1 : Nat) : Int) := by rw [w64 (by omega) (by omega)]; omega
      rw [e1]
      refine ih (256 - (k + 1)) _ (by omega) ⟨k + 1, rfl, rfl, by omega, by omega, fun j hj hj' => ?_⟩
      by_cases ej : j = k
      · subst ej; exact hb
      · exact hm j hj (by omega)
  · exact Ev.mk ⟨_, rfl, .inl ⟨rfl, fun j hj hj' => hm j hj (by omega)⟩⟩

/-- All levels of a set. -/
theorem list_eq (N : Nat) {s : Nat → Nat} (hs : OK s) (hN : 257 < N) : Ev (List_21 N ((tw s, ()), ())) fun r => r = (((), ()), mlist (mem s) 256, ()) := by
  unfold List_21
  dsimp only
  refine Ev.bind (first_eq N hs (by omega)) ?_
  rintro r ⟨m, rfl, hm⟩
  refine Ev.loop (fun n st => ∃ (m : Int) (a : Nat), st = (((), (), m, ()), tw s, mlist (mem s) a, ()) ∧ n = 257 - a ∧ a ≤ 256 ∧ IsNext (mem s) a m) ?_ (k := 257) ⟨m, 0, rfl, rfl, by omega, hm⟩ hN
  rintro n st again ⟨m, a, rfl, rfl, ha, hm⟩ ih
  unfold List_21_L3
  refine Ev.dec (fun h => ?_) fun h => ?_
  · rcases hm with ⟨rfl, _⟩ | ⟨k, rfl, hak, hk, hmk, hn⟩
    · omega
    · have hlen : (mlist (mem s) a).length ≤ 256 := by rw [mlist_len]; exact Nat.le_trans (cnt_le _ _) ha
      rw [if_pos (by omega)]
      refine Ev.bind (next_eq N hs (by omega) (i := (k : Int)) (by omega) (by omega)) ?_
      rintro r ⟨m, rfl, hm'⟩
      refine ih (257 - (k + 1)) _ (by omega) ⟨m, k + 1, ?_, rfl, by omega, by rw [show ((k : Int) + 1).toNat = k + 1 by omega] at hm'; exact hm'⟩
      rw [mlist_succ, if_pos hmk, mlist_none hak hn]
  · rcases hm with ⟨rfl, hn⟩ | ⟨k, rfl, hak, hk, hmk, hn⟩
    · exact Ev.mk (by rw [mlist_none ha hn])
    · omega
end Go.Proofs.YteohpijdidlaeaaDoorL
