/- Chapter 5: timers in the order of their times, and of their numbers. Conditions: as each theorem states them. -/
import Derived.Test.YtcaapoidmfkldaaXD3
namespace Go.Proofs.YtcaapoidmfkldaaC
open Go Go.Proofs.YtcaapoidmfkldaaM Go.Proofs.YtcaapoidmfkldaaX Go.Proofs.YtcaapoidmfkldaaL
set_option linter.unusedVariables false
set_option linter.unusedSimpArgs false

theorem lt_ext : ∀ {a b : List Int}, a.Pairwise (· < ·) → b.Pairwise (· < ·) → (∀ x, x ∈ a ↔ x ∈ b) → a = b
  | [], [], _, _, _ => rfl
  | [], y :: b, _, _, h => absurd ((h y).2 (List.mem_cons_self ..)) (by simp)
  | x :: a, [], _, _, h => absurd ((h x).1 (List.mem_cons_self ..)) (by simp)
  | x :: a, y :: b, ha, hb, h => by
    rw [List.pairwise_cons] at ha hb
    have e : x = y := by
      rcases List.mem_cons.1 ((h x).1 (List.mem_cons_self ..)) with e | h1
      · exact e
      · rcases List.mem_cons.1 ((h y).2 (List.mem_cons_self ..)) with e | h2
        · exact e.symm
        · have := hb.1 x h1; have := ha.1 y h2; omega
    subst e
    rw [lt_ext ha.2 hb.2 fun z => ⟨fun hz => ?_, fun hz => ?_⟩]
    · rcases List.mem_cons.1 ((h z).1 (List.mem_cons_of_mem _ hz)) with e | h1
      · subst e; have := ha.1 z hz; omega
      · exact h1
    · rcases List.mem_cons.1 ((h z).2 (List.mem_cons_of_mem _ hz)) with e | h1
      · subst e; have := hb.1 z hz; omega
      · exact h1

def lex (A : List (Int × Int)) : Prop := A.Pairwise fun x y => x.2 < y.2 ∨ (x.2 = y.2 ∧ x.1 < y.1)
theorem lex_srt {A : List (Int × Int)} (h : lex A) : srt A := List.Pairwise.imp (fun h => by omega) h
theorem lex_ins {x : Int × Int} : ∀ {A : List (Int × Int)}, lex A → (∀ y ∈ A, y.1 < x.1) → lex (ins x A)
  | [], _, _ => by simp [ins, lex]
  | y :: r, h, hx => by
    unfold lex at h ⊢
    have hs := srt_head (lex_srt h)
    rw [List.pairwise_cons] at h
    simp only [ins]
    split
    · rename_i e
      refine List.pairwise_cons.2 ⟨fun z hz => ?_, lex_ins (A := r) h.2 fun z hz => hx z (List.mem_cons_of_mem _ hz)⟩
      rcases ins_mem.1 hz with rfl | hz
      · have := hx y (List.mem_cons_self ..); omega
      · exact h.1 z hz
    · rename_i e
      refine List.pairwise_cons.2 ⟨fun z hz => ?_, List.pairwise_cons.2 h⟩
      rcases List.mem_cons.1 hz with rfl | hz
      · omega
      · have := hs z hz; omega
theorem lex_can {id : Int} {A : List (Int × Int)} (h : lex A) : lex (canD id A) := List.Pairwise.sublist canD_sub h
theorem lex_aft {n : Int} {A : List (Int × Int)} (h : lex A) : lex (aft n A) := by
  unfold aft shf lex
  rw [List.pairwise_map]
  exact List.Pairwise.imp (fun h => by dsimp only; omega) (List.Pairwise.filter _ h)
theorem outs_mem {n x : Int} {A : List (Int × Int)} : x ∈ outs n A ↔ ∃ s, (x, s) ∈ A ∧ s ≤ n := by
  unfold outs ids upto
  rw [List.mem_map]
  constructor
  · rintro ⟨y, hy, rfl⟩
    obtain ⟨h1, h2⟩ := List.mem_filter.1 hy
    exact ⟨y.2, h1, by simpa using h2⟩
  · rintro ⟨s, h1, h2⟩
    exact ⟨(x, s), List.mem_filter.2 ⟨h1, by simpa using h2⟩, rfl⟩
theorem outs_lt {A : List (Int × Int)} (h : lex A) (hA : Gd A) : (outs 1 A).Pairwise (· < ·) := by
  unfold outs ids upto
  rw [List.pairwise_map]
  refine List.Pairwise.imp_of_mem (fun {a b} ha hb hr => ?_) (List.Pairwise.filter _ h)
  have h1 := hA.pos a (List.mem_filter.1 ha).1
  have h2 := hA.pos b (List.mem_filter.1 hb).1
  have h3 := (List.mem_filter.1 ha).2
  have h4 := (List.mem_filter.1 hb).2
  simp at h3 h4
  omega

/-- Those of n that go off with a tick. -/
def goes (D : List Int) (tick : Int) (n : Nat) : List Int := ((List.range n).filter fun k => decide (D.getD k 0 = tick)).map fun (k : Nat) => (k : Int)
theorem goes_succ (D : List Int) (tick : Int) (n : Nat) : (goes D tick (n + 1)).length = (goes D tick n).length + (if D.getD n 0 = tick then 1 else 0) := by
  unfold goes
  rw [List.range_succ, List.filter_append, List.map_append, List.length_append]
  by_cases h : D.getD n 0 = tick
  · rw [if_pos h, List.filter_cons_of_pos (by simpa using h)]; simp
  · rw [if_neg h, List.filter_cons_of_neg (by simpa using h)]; simp
theorem goes_mem {D : List Int} {tick : Int} {n : Nat} {x : Int} : x ∈ goes D tick n ↔ (0 ≤ x ∧ x < n) ∧ D.getD x.toNat 0 = tick := by
  unfold goes
  rw [List.mem_map]
  constructor
  · rintro ⟨k, hk, rfl⟩
    obtain ⟨h1, h2⟩ := List.mem_filter.1 hk
    rw [List.mem_range] at h1
    exact ⟨by omega, by rw [Int.toNat_natCast]; simpa using h2⟩
  · rintro ⟨h1, h2⟩
    exact ⟨x.toNat, List.mem_filter.2 ⟨List.mem_range.2 (by omega), by simpa using h2⟩, by omega⟩
theorem goes_lt (D : List Int) (tick : Int) (n : Nat) : (goes D tick n).Pairwise (· < ·) := by
  unfold goes
  rw [List.pairwise_map]
  exact List.Pairwise.imp (fun h => by omega) (List.Pairwise.filter _ (List.pairwise_lt_range (n := n)))

/-- m are added, b ticks are done; D tells with which tick each goes off. -/
structure On (n m b : Nat) (D : List Int) (A : List (Int × Int)) : Prop where
  gd : Gd A
  lex : lex A
  ndp : ndp A
  len : D.length = n
  few : A.length ≤ m
  mem : ∀ k s, (k, s) ∈ A ↔ (0 ≤ k ∧ k < n ∧ k < m) ∧ (b : Int) < D.getD k.toNat 0 ∧ s = D.getD k.toNat 0 - b
  top : ∀ k : Nat, D.getD k 0 ≤ 260
  non : ∀ k : Nat, m ≤ k → D.getD k 0 = 0
theorem On.outs {n b : Nat} {D : List Int} {A : List (Int × Int)} (h : On n (b + 1) b D A) : outs 1 A = goes D (b + 1) n := by
  refine lt_ext (outs_lt h.lex h.gd) (goes_lt _ _ _) fun x => ?_
  rw [outs_mem, goes_mem]
  constructor
  · rintro ⟨s, h1, h2⟩
    obtain ⟨h3, h4, h5⟩ := (h.mem x s).1 h1
    exact ⟨by omega, by omega⟩
  · rintro ⟨h1, h2⟩
    refine ⟨1, (h.mem x 1).2 ⟨⟨h1.1, h1.2, ?_⟩, by omega, by omega⟩, by omega⟩
    by_cases hm : x < ((b + 1 : Nat) : Int)
    · exact hm
    · have := h.non x.toNat (by omega); omega
theorem On.tick {n b : Nat} {D : List Int} {A : List (Int × Int)} (h : On n (b + 1) b D A) : On n (b + 1) (b + 1) D (aft 1 A) := by
  refine ⟨aft_gd (by omega) h.gd, lex_aft h.lex, ndp_aft h.ndp, h.len, by rw [aft_len]; have := past_len 1 A; have := h.few; omega, fun k s => ?_, h.top, h.non⟩
  rw [aft_mem, h.mem]
  constructor
  · rintro ⟨⟨h1, h2, h3⟩, h4⟩; exact ⟨h1, by omega, by omega⟩
  · rintro ⟨h1, h2, h3⟩; exact ⟨⟨h1, by omega, by omega⟩, by omega⟩
theorem On.cancel {n m b : Nat} {D : List Int} {A : List (Int × Int)} {x : Nat} (h : On n m b D A) (hx : x < n) : On n m b (D.set x 0) (canD x A) := by
  have hlen := h.len
  refine ⟨canD_gd h.gd, lex_can h.lex, ndp_can h.ndp, by simpa using h.len, by have := (canD_sub (id := (x : Int)) (A := A)).length_le; have := h.few; omega, fun k s => ?_, fun k => ?_, fun k hk => ?_⟩
  · rw [can_mem h.ndp, h.mem]
    by_cases e : k = x
    · subst e
      rw [Int.toNat_natCast, getD_set_eq (by omega)]
      constructor
      · rintro ⟨_, h2⟩; exact absurd rfl h2
      · rintro ⟨_, h2, _⟩; omega
    · constructor
      · rintro ⟨⟨h1, h2, h3⟩, h4⟩
        rw [Go.Proofs.YtcaapoidmfkldaaL.getD_set_ne (by omega)]
        exact ⟨h1, h2, h3⟩
      · rintro ⟨h1, h2, h3⟩
        rw [Go.Proofs.YtcaapoidmfkldaaL.getD_set_ne (by omega)] at h2 h3
        exact ⟨⟨h1, h2, h3⟩, e⟩
  · rw [getD_set (by omega)]
    split
    · omega
    · exact h.top k
  · rw [getD_set (by omega)]
    split
    · rfl
    · exact h.non k hk
theorem On.gone {n m b : Nat} {D : List Int} {A : List (Int × Int)} {x : Int} (h : On n m b D A) (hx : ∀ s, (x, s) ∉ A) : canD x A = A := by
  unfold canD
  rw [ix_none fun y hy e => hx y.2 (by rw [← e]; exact hy)]
theorem On.add {n b : Nat} {D : List Int} {A : List (Int × Int)} {after : Int} (h : On n b b D A) (hb : b < n) (hn : n ≤ 60) (ha : 1 ≤ after ∧ after ≤ 200) : On n (b + 1) b (D.set b (b + after)) (ins ((b : Int), after) A) := by
  have hlen := h.len
  have hid : ∀ t, ((b : Int), t) ∉ A := fun t ht => by have := ((h.mem _ _).1 ht).1; omega
  have hg := addD_gd (room := 256) (id := (b : Int)) (after := after) h.gd (by omega)
  rw [addD_ok (by omega) (by omega) hid (by have := h.few; omega)] at hg
  refine ⟨hg, lex_ins h.lex fun y hy => ?_, ndp_ins h.ndp hid, by simpa using h.len, by rw [ins_len]; have := h.few; omega, fun k s => ?_, fun k => ?_, fun k hk => ?_⟩
  · have := ((h.mem y.1 y.2).1 hy).1
    dsimp only
    omega
  · rw [ins_mem, h.mem]
    simp only [Prod.mk.injEq]
    by_cases e : k = b
    · subst e
      rw [Int.toNat_natCast, getD_set_eq (by omega)]
      constructor
      · rintro (⟨_, rfl⟩ | ⟨h1, _⟩)
        · exact ⟨by omega, by omega, by omega⟩
        · omega
      · rintro ⟨h1, h2, h3⟩
        exact .inl ⟨rfl, by omega⟩
    · constructor
      · rintro (⟨rfl, _⟩ | ⟨h1, h2, h3⟩)
        · exact absurd rfl e
        · rw [Go.Proofs.YtcaapoidmfkldaaL.getD_set_ne (by omega)]
          exact ⟨by omega, h2, h3⟩
      · rintro ⟨h1, h2, h3⟩
        rw [Go.Proofs.YtcaapoidmfkldaaL.getD_set_ne (by omega)] at h2 h3
        exact .inr ⟨by omega, h2, h3⟩
  · rw [getD_set (by omega)]
    split
    · omega
    · exact h.top k
  · rw [Go.Proofs.YtcaapoidmfkldaaL.getD_set_ne (by omega)]
    exact h.non k (by omega)
theorem On.idle {n b : Nat} {D : List Int} {A : List (Int × Int)} (h : On n b b D A) (hb : ¬ b < n) : On n (b + 1) b D A := by
  refine ⟨h.gd, h.lex, h.ndp, h.len, by have := h.few; omega, fun k s => ?_, h.top, fun k hk => h.non k (by omega)⟩
  rw [h.mem]
  constructor
  · rintro ⟨h1, h2⟩; exact ⟨by omega, h2⟩
  · rintro ⟨h1, h2⟩; exact ⟨by omega, h2⟩
end Go.Proofs.YtcaapoidmfkldaaC
