/- Chapter 5: Cancel, the laws' own functions, who is there. Conditions: as each theorem states them. -/
import Derived.Test.YtcaapoidmfkldaaXD2
namespace Go.Proofs.YtcaapoidmfkldaaC
open Go Go.Proofs.YtcaapoidmfkldaaM Go.Proofs.YtcaapoidmfkldaaX Go.Proofs.YtcaapoidmfkldaaL
set_option linter.unusedVariables false
set_option linter.unusedSimpArgs false

theorem examples_eq {N : Nat} (hN : 300 ≤ N) : examples_7 N ((), ()) = some ((true, ()), ()) := by unfold examples_7; rw [if_pos hN]
theorem new_at {N : Nat} {room : Int} (h : 0 ≤ room ∧ room ≤ 256) : New_8 N ((room, ()), ()) = some (.inr (((), 0, ()), (room, 0, (), ()), [], ())) := by
  unfold New_8
  dsimp only
  rw [byB_f (by omega), byB_not, byB_t (by omega)]
theorem new_no {N : Nat} {room : Int} (h : ¬ (0 ≤ room ∧ room ≤ 256)) : New_8 N ((room, ()), ()) = some (.inl (((), 1, ()), ())) := by
  unfold New_8
  dsimp only
  by_cases h1 : room < 0
  · rw [byB_t h1]
  · rw [byB_f h1, byB_not, byB_f (by omega)]

/-- Which of n things a raw number speaks of. -/
def pk (c n : Int) : Int := if c < 0 then Int.tmod (-(c + 1)) n else Int.tmod c n
theorem pk_range {c n : Int} (hn : 0 < n) : 0 ≤ pk c n ∧ pk c n < n := by
  unfold pk
  split
  · exact ⟨Int.tmod_nonneg _ (by omega), Int.tmod_lt_of_pos _ hn⟩
  · exact ⟨Int.tmod_nonneg _ (by omega), Int.tmod_lt_of_pos _ hn⟩
theorem pick_at {N : Nat} {c n : Int} (hc : (Lit.int .i64 c).wf = true) (hn : 0 < n) : pick_9 N ((c, n, ()), ()) = some ((pk c n, ()), ()) := by
  have h := wf64 hc
  unfold pick_9 pk
  dsimp only
  by_cases h1 : c < 0
  · rw [byB_t h1, if_pos h1, if_neg (by omega), w64 (n := c + 1) (by omega) (by omega), w64 (by omega) (by omega), show 0 - (c + 1) = -(c + 1) by omega]
  · rw [byB_f h1, if_neg h1, if_neg (by omega)]
theorem numbers_eq {N : Nat} {a : List Int} (hl : a.length < N) (hb : a.length ≤ 1000000) : numbers_13 N ((a, a, ()), ()) = some ((true, ()), ()) := by
  unfold numbers_13
  dsimp only
  rw [byB_nef rfl]
  refine loopN_ind (fun k s => ∃ i : Nat, i + k = a.length ∧ s = ((a, a, (i : Int), ()), ())) (fun _ => some ((true, ()), ())) ?_ a.length _ N ⟨0, by omega, rfl⟩ hl
  rintro k s again ⟨i, hik, rfl⟩ ih
  unfold numbers_13_L4
  dsimp only
  by_cases h : (i : Int) < a.length
  · rw [byB_t h, if_pos ⟨by omega, h⟩, if_pos ⟨by omega, h⟩, byB_nef rfl, w64 (by omega) (by omega)]
    exact ih (k - 1) _ (by omega) ⟨i + 1, by omega, by simp⟩
  · rw [byB_f h]
theorem len_at {N : Nat} {room m : Int} {l : List (Int × Int)} : Len_15 N (((), ()), (room, m, (), ()), l, ()) = some ((m, ()), (room, m, (), ()), l, ()) := rfl

theorem cancel_at {N : Nat} {id room : Int} {A : List (Int × Int)} (hA : Gd A) (hN : 300 < N) :
    Cancel_16 N (((), id, ()), (room, (A.length : Int), (), ()), df 0 A, ()) = some (((ix id A).isSome, ()), (room, ((canD id A).length : Int), (), ()), (), df 0 (canD id A), ()) := by
  unfold Cancel_16
  dsimp only
  rw [find_at hA hN, bnd, fnd]
  unfold canD
  have hlen := hA.len
  cases hix : ix id A with
  | none => rfl
  | some p =>
    obtain ⟨p, t⟩ := p
    dsimp only
    obtain ⟨B, C, hBC, rfl, hB⟩ := ix_some hix
    have hl : A.length = B.length + (C.length + 1) := by rw [hBC]; simp
    have hlst := lst_range (lo := 0) (hi := 9007199254740991) (n := 0) (A := B) (by omega) (by omega) (fun y hy => by have := hA.pos y (by rw [hBC]; simp [hy]); omega)
    have ht := hA.pos (id, t) (by rw [hBC]; simp)
    dsimp only at ht
    have hd : df 0 A = df 0 B ++ (id, t - lst 0 B) :: df t C := by rw [hBC, df_app]; rfl
    have htake : A.take B.length = B := by rw [hBC]; exact List.take_left' rfl
    have hdrop : A.drop (B.length + 1) = C := by
      rw [hBC, show B ++ (id, t) :: C = (B ++ [(id, t)]) ++ C by simp]
      exact List.drop_left' (by simp)
    rw [htake, hdrop, df_len, if_pos (by omega)]
    have hcan : (((B ++ C).length : Nat) : Int) = (A.length : Int) - 1 := by simp; omega
    cases C with
    | nil =>
      rw [byB_f (by simp at hl; omega), if_pos (by omega), if_pos (by omega), w64 (by omega) (by omega), hcan, hd, List.take_left' (df_len 0 B)]
      have : (df 0 B ++ (id, t - lst 0 B) :: df t []).drop (B.length + 1) = [] := List.drop_of_length_le (by simp [df_len, df])
      rw [this, List.append_nil, List.append_nil]
      rfl
    | cons z r =>
      simp only [List.length_cons] at hl
      have hz := hA.pos z (by rw [hBC]; simp)
      have htz : t ≤ z.2 := by
        have h1 := hA.srt
        rw [hBC] at h1
        exact srt_head (List.pairwise_append.1 h1).2.1 z (List.mem_cons_self ..)
      have hg0 : (df 0 A).getD B.length (0, 0) = (id, t - lst 0 B) := by
        rw [hd, getD_app_r (by rw [df_len]; omega), df_len, Nat.sub_self]; rfl
      have hg1 : (df 0 A).getD (B.length + 1) (0, 0) = (z.1, z.2 - t) := by
        rw [hd, getD_app_r (by rw [df_len]; omega), df_len, show B.length + 1 - B.length = 1 by omega]; rfl
      rw [byB_t (by omega), if_pos (by omega), if_pos (by omega), if_pos (by omega), if_pos (by omega), hg0, hg1]
      dsimp only
      have hset : (df 0 A).set (B.length + 1) (z.1, IntKind.wrap .i64 (z.2 - t + (t - lst 0 B))) = df 0 B ++ (id, t - lst 0 B) :: (z.1, z.2 - lst 0 B) :: df z.2 r := by
        rw [hd, List.set_append_right _ _ (by rw [df_len]; omega), df_len, show B.length + 1 - B.length = 1 by omega, w64 (by omega) (by omega), show z.2 - t + (t - lst 0 B) = z.2 - lst 0 B by omega]
        rfl
      rw [hset, if_pos (by simp [df_len]), if_pos (by omega), w64 (by omega) (by omega), hcan, List.take_left' (df_len 0 B)]
      have : (df 0 B ++ (id, t - lst 0 B) :: (z.1, z.2 - lst 0 B) :: df z.2 r).drop (B.length + 1) = (z.1, z.2 - lst 0 B) :: df z.2 r := by
        rw [show df 0 B ++ (id, t - lst 0 B) :: (z.1, z.2 - lst 0 B) :: df z.2 r = (df 0 B ++ [(id, t - lst 0 B)]) ++ (z.1, z.2 - lst 0 B) :: df z.2 r by simp]
        exact List.drop_left' (by simp [df_len])
      rw [this, df_app]
      rfl

/-! who is there -/
def ndp (A : List (Int × Int)) : Prop := (ids A).Nodup
theorem ix_mem {id : Int} {A : List (Int × Int)} {p : Nat} {t : Int} (h : ix id A = some (p, t)) : (id, t) ∈ A := by
  obtain ⟨B, C, rfl, _, _⟩ := ix_some h
  simp
theorem mem_ix {id t : Int} : ∀ {A : List (Int × Int)}, ndp A → (id, t) ∈ A → ∃ p, ix id A = some (p, t)
  | [], _, h => by cases h
  | x :: r, hn, h => by
    unfold ndp ids at hn
    rw [List.map_cons, List.nodup_cons] at hn
    by_cases e : x.1 = id
    · rcases List.mem_cons.1 h with h | h
      · subst h; exact ⟨0, by simp [ix]⟩
      · exfalso
        refine hn.1 ?_
        rw [e]
        exact List.mem_map.2 ⟨(id, t), h, rfl⟩
    · rcases List.mem_cons.1 h with h | h
      · subst h; exact absurd rfl e
      · obtain ⟨p, hp⟩ := mem_ix (A := r) hn.2 h
        exact ⟨p + 1, by simp [ix, e, hp]⟩
theorem ix_iff {id : Int} {A : List (Int × Int)} (hn : ndp A) : (ix id A).isSome = true ↔ ∃ t, (id, t) ∈ A := by
  constructor
  · intro h
    obtain ⟨⟨p, t⟩, hp⟩ := Option.isSome_iff_exists.1 h
    exact ⟨t, ix_mem hp⟩
  · rintro ⟨t, h⟩
    obtain ⟨p, hp⟩ := mem_ix hn h
    rw [hp]; rfl
/-- With how many more ticks an id goes off. -/
def left (id : Int) (A : List (Int × Int)) : Int := ((ix id A).map (·.2)).getD 0
theorem left_mem {id t : Int} {A : List (Int × Int)} (hn : ndp A) (h : (id, t) ∈ A) : left id A = t := by
  obtain ⟨p, hp⟩ := mem_ix hn h
  unfold left
  rw [hp]; rfl
theorem left_none {id : Int} {A : List (Int × Int)} (h : ∀ t, (id, t) ∉ A) : left id A = 0 := by
  unfold left
  rw [ix_none fun y hy e => h y.2 (by rw [← e]; exact hy)]; rfl
theorem ndp_sub {A B : List (Int × Int)} (h : List.Sublist A B) (hn : ndp B) : ndp A := List.Nodup.sublist (h.map _) hn
theorem ndp_shf {n : Int} {A : List (Int × Int)} (hn : ndp A) : ndp (shf n A) := by unfold ndp; rw [ids_shf]; exact hn
theorem ndp_aft {n : Int} {A : List (Int × Int)} (hn : ndp A) : ndp (aft n A) := ndp_shf (ndp_sub List.filter_sublist hn)
theorem ndp_can {id : Int} {A : List (Int × Int)} (hn : ndp A) : ndp (canD id A) := ndp_sub canD_sub hn
theorem ndp_ins {x : Int × Int} : ∀ {A : List (Int × Int)}, ndp A → (∀ t, (x.1, t) ∉ A) → ndp (ins x A)
  | [], _, _ => by simp [ndp, ids, ins]
  | y :: r, hn, hx => by
    have hn0 := hn
    unfold ndp ids at hn
    rw [List.map_cons, List.nodup_cons] at hn
    have hxy : x.1 ≠ y.1 := fun e => hx y.2 (by rw [e]; exact List.mem_cons_self ..)
    simp only [ins]
    split
    · unfold ndp ids
      rw [List.map_cons, List.nodup_cons]
      refine ⟨fun h => ?_, ndp_ins (A := r) hn.2 fun t h => hx t (List.mem_cons_of_mem _ h)⟩
      obtain ⟨z, hz, e⟩ := List.mem_map.1 h
      rcases ins_mem.1 hz with rfl | hz
      · exact hxy e
      · exact hn.1 (List.mem_map.2 ⟨z, hz, e⟩)
    · unfold ndp ids
      rw [List.map_cons, List.nodup_cons]
      refine ⟨fun h => ?_, hn0⟩
      obtain ⟨z, hz, e⟩ := List.mem_map.1 h
      exact hx z.2 (by rw [← e]; exact hz)
theorem aft_mem {n id t : Int} {A : List (Int × Int)} : (id, t) ∈ aft n A ↔ (id, t + n) ∈ A ∧ 0 < t := by
  unfold aft shf past
  rw [List.mem_map]
  constructor
  · rintro ⟨y, hy, e⟩
    obtain ⟨h1, h2⟩ := List.mem_filter.1 hy
    simp only [Prod.mk.injEq] at e
    obtain ⟨rfl, rfl⟩ := e
    simp at h2
    exact ⟨by rw [show y.2 - n + n = y.2 by omega]; exact h1, by omega⟩
  · rintro ⟨h1, h2⟩
    exact ⟨(id, t + n), List.mem_filter.2 ⟨h1, by simp; omega⟩, by simp⟩
theorem can_mem {x id t : Int} {A : List (Int × Int)} (hn : ndp A) : (id, t) ∈ canD x A ↔ (id, t) ∈ A ∧ id ≠ x := by
  unfold canD
  cases h : ix x A with
  | none =>
    dsimp only
    refine ⟨fun hm => ⟨hm, ?_⟩, fun hm => hm.1⟩
    rintro rfl
    obtain ⟨p, hp⟩ := mem_ix hn hm
    rw [h] at hp; cases hp
  | some p =>
    obtain ⟨p, s⟩ := p
    obtain ⟨B, C, rfl, rfl, hB⟩ := ix_some h
    dsimp only
    have e : (B ++ (x, s) :: C).drop (B.length + 1) = C := by
      rw [show B ++ (x, s) :: C = (B ++ [(x, s)]) ++ C by simp]
      exact List.drop_left' (by simp)
    rw [List.take_left' rfl, e]
    constructor
    · intro hm
      rcases List.mem_append.1 hm with hm | hm
      · exact ⟨List.mem_append.2 (.inl hm), hB _ hm⟩
      · refine ⟨List.mem_append.2 (.inr (List.mem_cons_of_mem _ hm)), ?_⟩
        rintro rfl
        unfold ndp ids at hn
        rw [List.map_append, List.map_cons] at hn
        have h2 := (List.nodup_append.1 hn).2.1
        rw [List.nodup_cons] at h2
        exact h2.1 (List.mem_map.2 ⟨_, hm, rfl⟩)
    · rintro ⟨hm, hne⟩
      rcases List.mem_append.1 hm with hm | hm
      · exact List.mem_append.2 (.inl hm)
      · rcases List.mem_cons.1 hm with hm | hm
        · simp only [Prod.mk.injEq] at hm; exact absurd hm.1 hne
        · exact List.mem_append.2 (.inr hm)
theorem nil_of {A : List (Int × Int)} (h : ∀ id t, (id, t) ∉ A) : A = [] := by
  cases A with
  | nil => rfl
  | cons x r => exact absurd (List.mem_cons_self ..) (h x.1 x.2)
/-- A new one, that is let in. -/
theorem addD_ok {A : List (Int × Int)} {id after : Int} (h1 : 1 ≤ after) (h2 : after ≤ 9007199254740991) (hid : ∀ t, (id, t) ∉ A) (hl : A.length < 256) : addD 256 A id after = (0, ins (id, after) A) := by
  unfold addD
  rw [if_neg (by omega), ix_none fun y hy e => hid y.2 (by rw [← e]; exact hy), if_neg (by simp), if_neg (by omega)]
end Go.Proofs.YtcaapoidmfkldaaC
