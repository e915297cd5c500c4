/- Plain facts on sets of levels: words of bits, members, how many, the least one. Conditions: none. -/
import Derived.Test.YteohpijdidlaeaaDoorPL
import Derived.Lib.TrailingZeros
namespace Go.Proofs.YteohpijdidlaeaaDoorL
open Go Go.Proofs.YteohpijdidlaeaaDoorM
set_option linter.unusedVariables false
set_option linter.unusedSimpArgs false

/-- A level's in the words. -/
def mem (s : Nat → Nat) (i : Nat) : Bool := (s (i / 64)).testBit (i % 64)
def upd (s : Nat → Nat) (k v : Nat) : Nat → Nat := fun j => if j = k then v else s j
abbrev OK (s : Nat → Nat) : Prop := ∀ k, s k < 18446744073709551616
@[reducible] def tw (s : Nat → Nat) : Int × Int × Int × Int × Unit := ((s 0 : Int), (s 1 : Int), (s 2 : Int), (s 3 : Int), ())

theorem getD4 (s : Nat → Nat) {k : Nat} (h : k < 4) : ([(s 0 : Int), (s 1 : Int), (s 2 : Int), (s 3 : Int)] : List Int).getD k 0 = (s k : Int) := by
  obtain rfl | rfl | rfl | rfl : k = 0 ∨ k = 1 ∨ k = 2 ∨ k = 3 := by omega
  all_goals rfl
theorem set4 (s : Nat → Nat) {k : Nat} (v : Nat) (h : k < 4) : ((([(s 0 : Int), (s 1 : Int), (s 2 : Int), (s 3 : Int)] : List Int).set k (v : Int)).getD 0 0, (([(s 0 : Int), (s 1 : Int), (s 2 : Int), (s 3 : Int)] : List Int).set k (v : Int)).getD 1 0, (([(s 0 : Int), (s 1 : Int), (s 2 : Int), (s 3 : Int)] : List Int).set k (v : Int)).getD 2 0, (([(s 0 : Int), (s 1 : Int), (s 2 : Int), (s 3 : Int)] : List Int).set k (v : Int)).getD 3 0, ()) = tw (upd s k v) := by
  obtain rfl | rfl | rfl | rfl : k = 0 ∨ k = 1 ∨ k = 2 ∨ k = 3 := by omega
  all_goals rfl
theorem OK.upd {s : Nat → Nat} (h : OK s) {k v : Nat} (hv : v < 18446744073709551616) : OK (upd s k v) := fun j => by
  unfold Go.Proofs.YteohpijdidlaeaaDoorL.upd
  split
  · exact hv
  · exact h j

/-- The same levels, the same words. -/
theorem ext4 {s t : Nat → Nat} (hs : OK s) (ht : OK t) (h : ∀ i, i < 256 → mem s i = mem t i) {k : Nat} (hk : k < 4) : s k = t k := by
  apply Nat.eq_of_testBit_eq
  intro i
  by_cases hi : i < 64
  · have := h (64 * k + i) (by omega)
    unfold mem at this
    rw [show (64 * k + i) / 64 = k by omega, show (64 * k + i) % 64 = i by omega] at this
    exact this
  · have e : (2 : Nat) ^ 64 ≤ 2 ^ i := Nat.pow_le_pow_right (by decide) (by omega)
    have h1 : s k < 2 ^ i := Nat.lt_of_lt_of_le (hs k) e
    have h2 : t k < 2 ^ i := Nat.lt_of_lt_of_le (ht k) e
    rw [Nat.testBit_lt_two_pow h1, Nat.testBit_lt_two_pow h2]
theorem ext4_tw {s t : Nat → Nat} (hs : OK s) (ht : OK t) (h : ∀ i, i < 256 → mem s i = mem t i) : tw s = tw t := by
  unfold tw
  rw [ext4 hs ht h (k := 0) (by omega), ext4 hs ht h (k := 1) (by omega), ext4 hs ht h (k := 2) (by omega), ext4 hs ht h (k := 3) (by omega)]

theorem lt64_of {x : Nat} (h : ∀ i, 64 ≤ i → x.testBit i = false) : x < 18446744073709551616 := Nat.lt_pow_two_of_testBit (n := 64) x h

/-- One level more. -/
theorem or_bit_lt {x k : Nat} (hx : x < 18446744073709551616) (hk : k < 64) : x ||| 2 ^ k < 18446744073709551616 :=
  Nat.or_lt_two_pow (n := 64) hx (Nat.pow_lt_pow_right (by decide) hk)
def withB (s : Nat → Nat) (i : Nat) : Nat → Nat := upd s (i / 64) (s (i / 64) ||| 2 ^ (i % 64))
theorem withB_ok {s : Nat → Nat} (h : OK s) (i : Nat) : OK (withB s i) := h.upd (or_bit_lt (h _) (by omega))
theorem withB_mem (s : Nat → Nat) (i j : Nat) : mem (withB s i) j = (mem s j || decide (j = i)) := by
  unfold mem withB upd
  by_cases h : j / 64 = i / 64
  · rw [if_pos h, Nat.testBit_or, h, Nat.testBit_two_pow]
    congr 1
    by_cases h2 : j % 64 = i % 64
    · have : j = i := by omega
      simp [h2, this]
    · have : ¬ j = i := fun e => h2 (by rw [e])
      simp [this]
      omega
  · rw [if_neg h]
    have : ¬ j = i := fun e => h (by rw [e])
    simp [this]

/-- One level less. -/
def clr (x k : Nat) : Nat := (BitVec.ofNat 64 x &&& ~~~ BitVec.ofNat 64 (2 ^ k)).toNat
theorem clr_lt (x k : Nat) : clr x k < 18446744073709551616 := (BitVec.ofNat 64 x &&& ~~~ BitVec.ofNat 64 (2 ^ k)).isLt
theorem clr_bit (x k j : Nat) (hj : j < 64) (hk : k < 64) : (clr x k).testBit j = (x.testBit j && !decide (j = k)) := by
  have h2 : (2 : Nat) ^ k < 2 ^ 64 := Nat.pow_lt_pow_right (by decide) hk
  unfold clr
  show (BitVec.ofNat 64 x &&& ~~~ BitVec.ofNat 64 (2 ^ k)).getLsbD j = _
  rw [BitVec.getLsbD_and, BitVec.getLsbD_not, BitVec.getLsbD_ofNat, BitVec.getLsbD_ofNat, Nat.testBit_two_pow]
  by_cases h : j = k
  · subst h; simp [hj]
  · have : ¬ k = j := fun e => h e.symm
    simp [hj, h, this]
def without (s : Nat → Nat) (i : Nat) : Nat → Nat := upd s (i / 64) (clr (s (i / 64)) (i % 64))
theorem without_ok {s : Nat → Nat} (h : OK s) (i : Nat) : OK (without s i) := h.upd (clr_lt _ _)
theorem without_mem (s : Nat → Nat) (i j : Nat) : mem (without s i) j = (mem s j && !decide (j = i)) := by
  unfold mem without upd
  by_cases h : j / 64 = i / 64
  · rw [if_pos h, h, clr_bit _ _ _ (by omega) (by omega)]
    congr 2
    by_cases h2 : j % 64 = i % 64
    · have : j = i := by omega
      simp [h2, this]
    · have : ¬ j = i := fun e => h2 (by rw [e])
      simp [this, h2]
  · rw [if_neg h]
    have : ¬ j = i := fun e => h (by rw [e])
    simp [this]

/-- How many. -/
def cnt (f : Nat → Bool) : Nat → Nat
  | 0 => 0
  | n + 1 => cnt f n + (f n).toNat
theorem cnt_add (f : Nat → Bool) (a : Nat) : ∀ b, cnt f (a + b) = cnt f a + cnt (fun i => f (a + i)) b
  | 0 => rfl
  | b + 1 => by
    show cnt f (a + b) + (f (a + b)).toNat = _
    rw [cnt_add f a b]
    show _ = cnt f a + (cnt (fun i => f (a + i)) b + (f (a + b)).toNat)
    omega
theorem cnt_congr {f g : Nat → Bool} : ∀ {n : Nat}, (∀ i, i < n → f i = g i) → cnt f n = cnt g n
  | 0, _ => rfl
  | n + 1, h => by
    show cnt f n + _ = cnt g n + _
    rw [cnt_congr fun i hi => h i (by omega), h n (by omega)]
theorem cnt_le (f : Nat → Bool) : ∀ n, cnt f n ≤ n
  | 0 => Nat.le_refl _
  | n + 1 => by
    have := cnt_le f n
    show cnt f n + (f n).toNat ≤ n + 1
    cases f n <;> simp <;> omega
theorem cnt_mono (f : Nat → Bool) {a b : Nat} (h : a ≤ b) : cnt f a ≤ cnt f b := by
  obtain ⟨c, rfl⟩ : ∃ c, b = a + c := ⟨b - a, by omega⟩
  rw [cnt_add]
  omega
theorem cnt_none {f : Nat → Bool} {a b : Nat} (hab : a ≤ b) (h : ∀ i, a ≤ i → i < b → f i = false) : cnt f b = cnt f a := by
  obtain ⟨c, rfl⟩ : ∃ c, b = a + c := ⟨b - a, by omega⟩
  rw [cnt_add]
  have : ∀ (n : Nat) (g : Nat → Bool), (∀ i, i < n → g i = false) → cnt g n = 0 := by
    intro n
    induction n with
    | zero => intros; rfl
    | succ n ih => intro g hg; show cnt g n + _ = 0; rw [ih g fun i hi => hg i (by omega), hg n (by omega)]; rfl
  rw [this c _ fun i hi => h (a + i) (by omega) (by omega)]
  rfl
theorem cnt_set {f g : Nat → Bool} {i n : Nat} (hi : i < n) (h : ∀ j, j < n → g j = (f j || decide (j = i))) : cnt g n = cnt f n + (!(f i)).toNat := by
  induction n with
  | zero => omega
  | succ n ih =>
    show cnt g n + (g n).toNat = cnt f n + (f n).toNat + _
    by_cases e : i = n
    · subst e
      rw [cnt_congr (g := f) (f := g) fun j hj => by rw [h j (by omega), decide_eq_false (by omega), Bool.or_false], h i (by omega)]
      cases f i <;> simp
    · rw [ih (by omega) fun j hj => h j (by omega), h n (by omega), decide_eq_false (by omega), Bool.or_false]
      omega
theorem cnt_drop {f g : Nat → Bool} {i n : Nat} (hi : i < n) (h : ∀ j, j < n → g j = (f j && !decide (j = i))) : cnt f n = cnt g n + (f i).toNat := by
  induction n with
  | zero => omega
  | succ n ih =>
    show cnt f n + (f n).toNat = cnt g n + (g n).toNat + _
    by_cases e : i = n
    · subst e
      rw [cnt_congr (g := f) (f := g) fun j hj => by rw [h j (by omega), decide_eq_false (by omega)]; simp, h i (by omega)]
      simp
    · rw [ih (by omega) fun j hj => h j (by omega), h n (by omega), decide_eq_false (by omega)]
      simp only [Bool.not_false, Bool.and_true]
      omega
theorem cnt_256 (s : Nat → Nat) : cnt (mem s) 256 = cnt (s 0).testBit 64 + cnt (s 1).testBit 64 + cnt (s 2).testBit 64 + cnt (s 3).testBit 64 := by
  have e : ∀ k, cnt (mem s) (64 * k + 64) = cnt (mem s) (64 * k) + cnt (s k).testBit 64 := fun k => by
    rw [cnt_add]
    congr 1
    exact cnt_congr fun i hi => by
      show (s ((64 * k + i) / 64)).testBit ((64 * k + i) % 64) = _
      rw [show (64 * k + i) / 64 = k by omega, show (64 * k + i) % 64 = i by omega]
  have e0 : cnt (mem s) 64 = cnt (mem s) 0 + cnt (s 0).testBit 64 := e 0
  have e1 : cnt (mem s) 128 = cnt (mem s) 64 + cnt (s 1).testBit 64 := e 1
  have e2 : cnt (mem s) 192 = cnt (mem s) 128 + cnt (s 2).testBit 64 := e 2
  have e3 : cnt (mem s) 256 = cnt (mem s) 192 + cnt (s 3).testBit 64 := e 3
  have z : cnt (mem s) 0 = 0 := rfl
  omega

/-- The least level from a place on, or none. -/
def IsNext (f : Nat → Bool) (a : Nat) (r : Int) : Prop :=
  (r = -1 ∧ ∀ k, a ≤ k → k < 256 → f k = false) ∨ ∃ k : Nat, r = (k : Int) ∧ a ≤ k ∧ k < 256 ∧ f k = true ∧ ∀ j, a ≤ j → j < k → f j = false
theorem IsNext.uniq {f : Nat → Bool} {a : Nat} {r r' : Int} (h : IsNext f a r) (h' : IsNext f a r') : r = r' := by
  rcases h with ⟨h1, h2⟩ | ⟨k, h1, h2, h3, h4, h5⟩ <;> rcases h' with ⟨g1, g2⟩ | ⟨m, g1, g2, g3, g4, g5⟩
  · rw [h1, g1]
  · rw [h2 m g2 g3] at g4; cases g4
  · rw [g2 k h2 h3] at h4; cases h4
  · rcases Nat.lt_trichotomy k m with hlt | rfl | hlt
    · rw [g5 k h2 hlt] at h4; cases h4
    · rw [h1, g1]
    · rw [h5 m g2 hlt] at g4; cases g4
theorem IsNext.congr {f g : Nat → Bool} {a : Nat} {r : Int} (h : IsNext f a r) (e : ∀ i, i < 256 → f i = g i) : IsNext g a r := by
  rcases h with ⟨h1, h2⟩ | ⟨k, h1, h2, h3, h4, h5⟩
  · exact .inl ⟨h1, fun k hk hk' => by rw [← e k hk']; exact h2 k hk hk'⟩
  · exact .inr ⟨k, h1, h2, h3, by rw [← e k h3]; exact h4, fun j hj hj' => by rw [← e j (by omega)]; exact h5 j hj hj'⟩

/-- The levels, rising. -/
def mlist (f : Nat → Bool) (n : Nat) : List Int := ((List.range n).filter f).map Int.ofNat
theorem mlist_succ (f : Nat → Bool) (n : Nat) : mlist f (n + 1) = mlist f n ++ if f n = true then [(n : Int)] else [] := by
  unfold mlist
  rw [List.range_succ, List.filter_append, List.map_append]
  congr 1
  by_cases h : f n = true <;> simp [h]
theorem mlist_none {f : Nat → Bool} {a b : Nat} (hab : a ≤ b) (h : ∀ i, a ≤ i → i < b → f i = false) : mlist f b = mlist f a := by
  obtain ⟨c, rfl⟩ : ∃ c, b = a + c := ⟨b - a, by omega⟩
  induction c with
  | zero => rfl
  | succ c ih =>
    rw [← Nat.add_assoc, mlist_succ, h (a + c) (by omega) (by omega), ih (by omega) fun i h1 h2 => h i h1 (by omega)]
    simp
theorem mlist_len (f : Nat → Bool) : ∀ n, (mlist f n).length = cnt f n
  | 0 => rfl
  | n + 1 => by
    rw [mlist_succ, List.length_append, mlist_len f n]
    show _ = cnt f n + (f n).toNat
    cases f n <;> simp
theorem mlist_at {f : Nat → Bool} {i n : Nat} (hi : i < n) (h : f i = true) : (mlist f n).getD (cnt f i) 0 = (i : Int) := by
  obtain ⟨c, rfl⟩ : ∃ c, n = i + 1 + c := ⟨n - (i + 1), by omega⟩
  clear hi
  induction c with
  | zero =>
    rw [Nat.add_zero, mlist_succ, if_pos h, getD_app_r (by rw [mlist_len]; exact Nat.le_refl _), mlist_len, Nat.sub_self]
    rfl
  | succ c ih =>
    rw [← Nat.add_assoc, mlist_succ, getD_app_l]
    · exact ih
    · rw [mlist_len]
      have : cnt f i < cnt f (i + 1) := by
        show _ < cnt f i + (f i).toNat
        rw [h]; simp
      exact Nat.lt_of_lt_of_le this (cnt_mono f (by omega))
theorem mlist_mem {f : Nat → Bool} {n i : Nat} : (i : Int) ∈ mlist f n ↔ i < n ∧ f i = true := by
  unfold mlist
  simp only [List.mem_map, List.mem_filter, List.mem_range]
  constructor
  · rintro ⟨a, ⟨h1, h2⟩, h3⟩
    have : a = i := Int.ofNat.inj h3
    subst this
    exact ⟨h1, h2⟩
  · rintro ⟨h1, h2⟩
    exact ⟨i, ⟨h1, h2⟩, rfl⟩
theorem mlist_range {f : Nat → Bool} {n : Nat} {x : Int} (h : x ∈ mlist f n) : 0 ≤ x ∧ x < n := by
  unfold mlist at h
  simp only [List.mem_map, List.mem_filter, List.mem_range] at h
  obtain ⟨a, ⟨h1, h2⟩, h3⟩ := h
  subst h3
  simp
  omega

/-- The lowest bit. -/
theorem ctz_bit {w : Nat} (h0 : w ≠ 0) (h : w < 18446744073709551616) : Lib.ctz 64 w < 64 ∧ w.testBit (Lib.ctz 64 w) = true ∧ ∀ j, j < Lib.ctz 64 w → w.testBit j = false := by
  obtain ⟨m, hm, hk⟩ := Lib.ctzFrom_spec 64 w (by omega) h
  have e : Lib.ctz 64 w = Lib.ctzFrom 64 w := by simp [Lib.ctz, h0]
  rw [e]
  generalize Lib.ctzFrom 64 w = c at hm hk
  refine ⟨hk, ?_, fun j hj => ?_⟩
  · rw [hm, Nat.mul_comm, Nat.testBit_mul_two_pow]
    simp
  · rw [hm, Nat.mul_comm, Nat.testBit_mul_two_pow]
    simp
    omega
end Go.Proofs.YteohpijdidlaeaaDoorL
