/- Chapter 5: the document's answer: timers as they were added. Conditions: as each theorem states them. -/
import Derived.Test.YtcaapoidmfkldaaXD3
namespace Go.Proofs.YtcaapoidmfkldaaC
open Go Go.Proofs.YtcaapoidmfkldaaM Go.Proofs.YtcaapoidmfkldaaX Go.Proofs.YtcaapoidmfkldaaL
set_option linter.unusedVariables false
set_option linter.unusedSimpArgs false

/-- Timers in the order in which they go off. -/
def so (L : List (Int × Int)) : List (Int × Int) := L.foldl (fun A x => ins x A) []
theorem so_snoc (L : List (Int × Int)) (x : Int × Int) : so (L ++ [x]) = ins x (so L) := by simp [so]
theorem fold_mem {z : Int × Int} : ∀ {L A : List (Int × Int)}, z ∈ L.foldl (fun A x => ins x A) A ↔ z ∈ A ∨ z ∈ L
  | [], A => by simp
  | x :: r, A => by
    rw [List.foldl_cons, fold_mem, ins_mem, List.mem_cons]
    constructor
    · rintro ((h | h) | h) <;> simp [h]
    · rintro (h | h | h) <;> simp [h]
theorem so_mem {z : Int × Int} {L : List (Int × Int)} : z ∈ so L ↔ z ∈ L := by unfold so; rw [fold_mem]; simp
theorem fold_len : ∀ {L A : List (Int × Int)}, (L.foldl (fun A x => ins x A) A).length = A.length + L.length
  | [], A => by simp
  | x :: r, A => by rw [List.foldl_cons, fold_len, ins_len]; simp; omega
theorem so_len (L : List (Int × Int)) : (so L).length = L.length := by unfold so; rw [fold_len]; simp
theorem fold_srt : ∀ {L A : List (Int × Int)}, srt A → srt (L.foldl (fun A x => ins x A) A)
  | [], A, h => h
  | x :: r, A, h => fold_srt (L := r) (ins_srt h)
theorem so_srt (L : List (Int × Int)) : srt (so L) := fold_srt List.Pairwise.nil
theorem ins_front {x : Int × Int} : ∀ {A : List (Int × Int)}, (∀ z ∈ A, x.2 < z.2) → ins x A = x :: A
  | [], _ => rfl
  | y :: r, h => by simp only [ins]; rw [if_neg (by have := h y (List.mem_cons_self ..); omega)]
theorem ins_back {x : Int × Int} {A : List (Int × Int)} (h : ∀ z ∈ A, z.2 ≤ x.2) : ins x A = A ++ [x] := by
  have := ins_app (x := x) (A := A) (B := []) h
  rw [List.append_nil] at this
  rw [this]; rfl
theorem ins_filter {x : Int × Int} {p : Int × Int → Bool} : ∀ {A : List (Int × Int)}, srt A → (ins x A).filter p = if p x = true then ins x (A.filter p) else A.filter p
  | [], _ => by
    simp only [ins]
    by_cases h : p x = true
    · rw [if_pos h, List.filter_cons_of_pos h]; rfl
    · rw [if_neg h, List.filter_cons_of_neg h]
  | y :: r, hs => by
    have ih := ins_filter (x := x) (p := p) (srt_tail hs)
    have hh := srt_head hs
    simp only [ins]
    by_cases e : y.2 ≤ x.2
    · rw [if_pos e]
      by_cases hy : p y = true
      · rw [List.filter_cons_of_pos hy, List.filter_cons_of_pos hy, ih]
        by_cases hx : p x = true
        · rw [if_pos hx, if_pos hx]; simp only [ins, if_pos e]
        · rw [if_neg hx, if_neg hx]
      · rw [List.filter_cons_of_neg hy, List.filter_cons_of_neg hy, ih]
    · rw [if_neg e]
      by_cases hx : p x = true
      · rw [if_pos hx, List.filter_cons_of_pos hx, ins_front]
        intro z hz
        have hz' := (List.mem_filter.1 hz).1
        rcases List.mem_cons.1 hz' with rfl | hz'
        · omega
        · have := hh z hz'; omega
      · rw [if_neg hx, List.filter_cons_of_neg hx]
theorem fold_filter {p : Int × Int → Bool} : ∀ {L A : List (Int × Int)}, srt A → (L.foldl (fun A x => ins x A) A).filter p = (L.filter p).foldl (fun A x => ins x A) (A.filter p)
  | [], A, _ => rfl
  | x :: r, A, h => by
    rw [List.foldl_cons, fold_filter (ins_srt h), ins_filter h]
    by_cases hx : p x = true
    · rw [if_pos hx, List.filter_cons_of_pos hx, List.foldl_cons]
    · rw [if_neg hx, List.filter_cons_of_neg hx]
theorem so_filter (p : Int × Int → Bool) (L : List (Int × Int)) : so (L.filter p) = (so L).filter p := (fold_filter List.Pairwise.nil).symm
theorem ins_shf {n : Int} {x : Int × Int} : ∀ {A : List (Int × Int)}, ins (x.1, x.2 - n) (shf n A) = shf n (ins x A)
  | [] => rfl
  | y :: r => by
    have ih := ins_shf (n := n) (x := x) (A := r)
    simp only [shf, List.map_cons, ins] at ih ⊢
    by_cases e : y.2 ≤ x.2
    · rw [if_pos (by omega), if_pos e, List.map_cons, ih]
    · rw [if_neg (by omega), if_neg e]; rfl
theorem fold_shf {n : Int} : ∀ {L A : List (Int × Int)}, (shf n L).foldl (fun A x => ins x A) (shf n A) = shf n (L.foldl (fun A x => ins x A) A)
  | [], A => rfl
  | x :: r, A => by
    have ih := fold_shf (n := n) (L := r) (A := ins x A)
    rw [← ins_shf] at ih
    exact ih
theorem so_shf (n : Int) (L : List (Int × Int)) : so (shf n L) = shf n (so L) := fold_shf (A := [])
theorem so_aft (n : Int) (L : List (Int × Int)) : so (aft n L) = aft n (so L) := by
  unfold aft past
  rw [so_shf, so_filter]
theorem fold_same {k : Int} : ∀ {L A : List (Int × Int)}, (∀ x ∈ L, x.2 = k) → (∀ x ∈ A, x.2 ≤ k) → L.foldl (fun A x => ins x A) A = A ++ L
  | [], A, _, _ => by simp
  | x :: r, A, h, hA => by
    have hx := h x (List.mem_cons_self ..)
    rw [List.foldl_cons, ins_back fun z hz => by have := hA z hz; omega, fold_same (fun y hy => h y (List.mem_cons_of_mem _ hy)) fun z hz => ?_]
    · simp
    · rcases List.mem_append.1 hz with hz | hz
      · exact hA z hz
      · simp at hz; subst hz; omega
theorem so_same {k : Int} {L : List (Int × Int)} (h : ∀ x ∈ L, x.2 = k) : so L = L := by unfold so; rw [fold_same h (by simp)]; simp
/-- With the first ones to go off. -/
theorem outs_first {k : Int} {L : List (Int × Int)} (h : ∀ x ∈ L, k ≤ x.2) : outs k (so L) = outs k L := by
  unfold outs upto
  rw [← so_filter, so_same (k := k)]
  intro x hx
  obtain ⟨h1, h2⟩ := List.mem_filter.1 hx
  have := h x h1
  simp at h2
  omega

/-- Timers as the document has them. -/
structure Rd (L : List (Int × Int)) : Prop where
  len : L.length ≤ 256
  ndp : ndp L
  pos : ∀ x ∈ L, 1 ≤ x.2 ∧ x.2 ≤ 9007199254740991
theorem fold_ndp : ∀ {L A : List (Int × Int)}, ndp (A ++ L) → ndp (L.foldl (fun A x => ins x A) A)
  | [], A, h => by simpa using h
  | x :: r, A, h => by
    rw [List.foldl_cons]
    refine fold_ndp ?_
    unfold ndp ids at h ⊢
    rw [List.map_append] at h ⊢
    rw [List.map_cons] at h
    obtain ⟨h1, h2, h3⟩ := List.nodup_append.1 h
    rw [List.nodup_cons] at h2
    have hx : ∀ t, (x.1, t) ∉ A := fun t ht => h3 x.1 (List.mem_map.2 ⟨_, ht, rfl⟩) x.1 (List.mem_cons_self ..) rfl
    refine List.nodup_append.2 ⟨ndp_ins h1 hx, h2.2, fun a ha b hb e => ?_⟩
    subst e
    obtain ⟨z, hz, rfl⟩ := List.mem_map.1 ha
    rcases ins_mem.1 hz with rfl | hz
    · exact h2.1 hb
    · exact h3 z.1 (List.mem_map.2 ⟨z, hz, rfl⟩) z.1 (List.mem_cons_of_mem _ hb) rfl
theorem Rd.so_gd {L : List (Int × Int)} (h : Rd L) : Gd (so L) := ⟨by rw [so_len]; exact h.len, so_srt L, fun x hx => h.pos x (so_mem.1 hx)⟩
theorem Rd.so_ndp {L : List (Int × Int)} (h : Rd L) : Go.Proofs.YtcaapoidmfkldaaC.ndp (so L) := fold_ndp (by simpa using h.ndp)
theorem Rd.nil : Rd [] := ⟨by simp, by simp [Go.Proofs.YtcaapoidmfkldaaC.ndp, ids], by simp⟩
theorem Rd.aft {n : Int} {L : List (Int × Int)} (hn : 0 ≤ n) (h : Rd L) : Rd (aft n L) := by
  refine ⟨by rw [aft_len]; have := past_len n L; have := h.len; omega, ndp_aft h.ndp, fun x hx => ?_⟩
  obtain ⟨h1, h2⟩ := aft_mem.1 (show (x.1, x.2) ∈ Go.Proofs.YtcaapoidmfkldaaC.aft n L from hx)
  have := h.pos _ h1
  dsimp only at this
  omega
theorem Rd.can {id : Int} {L : List (Int × Int)} (h : Rd L) : Rd (canD id L) :=
  ⟨by have := (canD_sub (id := id) (A := L)).length_le; have := h.len; omega, ndp_can h.ndp, fun x hx => h.pos x (canD_sub.subset hx)⟩
theorem left_so {id : Int} {L : List (Int × Int)} (h : Rd L) : left id (so L) = left id L := by
  by_cases e : ∃ t, (id, t) ∈ L
  · obtain ⟨t, ht⟩ := e
    rw [left_mem h.ndp ht, left_mem h.so_ndp (so_mem.2 ht)]
  · rw [left_none fun t ht => e ⟨t, ht⟩, left_none fun t ht => e ⟨t, so_mem.1 ht⟩]
theorem some_so {id : Int} {L : List (Int × Int)} (h : Rd L) : (ix id (so L)).isSome = (ix id L).isSome := by
  have h1 := ix_iff (id := id) h.ndp
  have h2 := ix_iff (id := id) h.so_ndp
  rw [Bool.eq_iff_iff, h1, h2]
  constructor
  · rintro ⟨t, ht⟩; exact ⟨t, so_mem.1 ht⟩
  · rintro ⟨t, ht⟩; exact ⟨t, so_mem.2 ht⟩
theorem can_filter {id : Int} : ∀ {A : List (Int × Int)}, ndp A → canD id A = A.filter fun x => decide (x.1 ≠ id)
  | [], _ => rfl
  | x :: r, hn => by
    have hn0 := hn
    unfold ndp ids at hn
    rw [List.map_cons, List.nodup_cons] at hn
    by_cases e : x.1 = id
    · rw [List.filter_cons_of_neg (by simp [e])]
      have : r.filter (fun x => decide (x.1 ≠ id)) = r := by
        rw [List.filter_eq_self]
        intro y hy
        simp only [decide_eq_true_eq]
        rintro e2
        exact hn.1 (List.mem_map.2 ⟨y, hy, by rw [e2, e]⟩)
      rw [this]
      simp [canD, ix, e]
    · rw [List.filter_cons_of_pos (by simpa using e), ← can_filter (A := r) hn.2]
      simp only [canD, ix, if_neg e]
      cases ix id r with
      | none => rfl
      | some p => rfl
theorem so_can {id : Int} {L : List (Int × Int)} (h : Rd L) : so (canD id L) = canD id (so L) := by
  rw [can_filter h.ndp, can_filter h.so_ndp, so_filter]

/-! the functions -/
def atR (id : Int) (L : List (Int × Int)) : Int := match ix id L with | some (p, _) => p | none => -1
theorem at_at {N : Nat} {id c : Int} {L : List (Int × Int)} (hl : L.length ≤ 256) (hN : 300 < N) : at_25 N (((), id, ()), (c, (), ()), L, ()) = some ((atR id L, ()), (c, (), ()), L, ()) := by
  unfold at_25
  dsimp only
  refine loopN_ind (fun k s => ∃ B C, L = B ++ C ∧ k = C.length ∧ (∀ y ∈ B, y.1 ≠ id) ∧ s = (((), id, (B.length : Int), ()), (c, (), ()), L, ())) (fun _ => some ((atR id L, ()), (c, (), ()), L, ())) ?_ L.length _ N ⟨[], L, rfl, rfl, by simp, rfl⟩ (by omega)
  rintro k s again ⟨B, C, hBC, rfl, hB, rfl⟩ ih
  unfold at_25_L2
  dsimp only
  have hlen : L.length = B.length + C.length := by rw [hBC]; simp
  unfold atR
  cases C with
  | nil =>
    rw [byB_f (by simp at hlen; omega)]
    have : L = B := by simpa using hBC
    rw [ix_none (by rw [this]; exact hB)]
  | cons x r =>
    simp only [List.length_cons] at hlen
    have hg : L.getD B.length (0, 0) = x := by rw [hBC, getD_app_r (Nat.le_refl _), Nat.sub_self]; rfl
    rw [byB_t (by omega), if_pos ⟨by omega, by omega⟩, Int.toNat_natCast, hg]
    by_cases e : x.1 = id
    · rw [byB_eqt e, show ix id L = some (B.length, x.2) by rw [hBC, ix_mid hB e]]
    · rw [byB_eqf e, w64 (by omega) (by omega)]
      refine ih r.length _ (by simp) ⟨B ++ [x], r, by rw [hBC]; simp, rfl, fun y hy => ?_, by simp⟩
      rcases List.mem_append.1 hy with hy | hy
      · exact hB y hy
      · simp at hy; subst hy; exact e
theorem atR_lt {id : Int} {L : List (Int × Int)} : atR id L < 0 ↔ (ix id L).isSome = false := by
  unfold atR
  cases ix id L with
  | none => simp
  | some p => simp
theorem left22_at {N : Nat} {id c : Int} {L : List (Int × Int)} (hl : L.length ≤ 256) (hN : 300 < N) : Left_22 N (((), id, ()), (c, (), ()), L, ()) = some ((left id L, ()), (c, (), ()), L, ()) := by
  unfold Left_22
  dsimp only
  rw [at_at hl hN, bnd]
  dsimp only
  unfold atR left
  cases h : ix id L with
  | none => dsimp only; rw [byB_t (by omega)]; rfl
  | some p =>
    obtain ⟨p, t⟩ := p
    obtain ⟨B, C, rfl, rfl, hB⟩ := ix_some h
    dsimp only
    rw [byB_f (by omega), if_pos ⟨by omega, by simp; omega⟩, Int.toNat_natCast, getD_app_r (Nat.le_refl _), Nat.sub_self]
    rfl
def addR (room : Int) (L : List (Int × Int)) (id after : Int) : Int × List (Int × Int) :=
  if after < 1 ∨ 9007199254740991 < after then (1, L) else if (ix id L).isSome then (4, L) else if room ≤ L.length then (3, L) else (0, L ++ [(id, after)])
theorem addR_so {room id after : Int} {L : List (Int × Int)} (h : Rd L) : addD room (so L) id after = ((addR room L id after).1, so (addR room L id after).2) := by
  unfold addD addR
  rw [some_so h, so_len]
  split
  · rfl
  · split
    · rfl
    · split
      · rfl
      · rw [so_snoc]
theorem addR_rd {room id after : Int} {L : List (Int × Int)} (h : Rd L) (hr : room ≤ 256) : Rd (addR room L id after).2 := by
  unfold addR
  split
  · exact h
  · split
    · exact h
    · split
      · exact h
      · rename_i h1 h2 h3
        refine ⟨by simp; omega, ?_, fun x hx => ?_⟩
        · unfold ndp ids
          rw [List.map_append]
          refine List.nodup_append.2 ⟨h.ndp, by simp, fun a ha b hb e => ?_⟩
          simp at hb
          subst hb; subst e
          obtain ⟨z, hz, rfl⟩ := List.mem_map.1 ha
          exact h2 ((ix_iff h.ndp).2 ⟨z.2, hz⟩)
        · rcases List.mem_append.1 hx with hx | hx
          · exact h.pos x hx
          · simp at hx; subst hx; dsimp only; omega
theorem add18_at {N : Nat} {id after room : Int} {L : List (Int × Int)} (h : Rd L) (hN : 300 < N) :
    Add_18 N (((), id, after, ()), (room, (), ()), L, ()) = some (((addR room L id after).1, ()), (room, (), ()), (), (addR room L id after).2, ()) := by
  have hlen := h.len
  unfold Add_18 addR
  dsimp only
  by_cases h1 : after < 1
  · rw [byB_t h1, if_pos (.inl h1)]
  · rw [byB_f h1, byB_not]
    by_cases h2 : after ≤ 9007199254740991
    · rw [byB_t h2, if_neg (by omega), at_at hlen hN, bnd, byB_not]
      dsimp only
      cases hi : (ix id L).isSome with
      | true =>
        rw [byB_f (by rw [atR_lt, hi]; simp), if_pos rfl]
      | false =>
        rw [byB_t (by rw [atR_lt]; exact hi), if_neg (show ¬ (false = true) by simp), byB_not]
        by_cases h3 : room ≤ L.length
        · rw [byB_f (by omega), if_pos h3]
        · rw [byB_t (by omega), if_neg h3, if_pos (by omega)]
    · rw [byB_f h2, if_pos (.inr (by omega))]
theorem tick19_at {N : Nat} {c : Int} {L : List (Int × Int)} (hl : L.length ≤ 256) (hp : ∀ x ∈ L, 1 ≤ x.2 ∧ x.2 ≤ 9007199254740992) (hN : 300 < N) :
    Tick_19 N (((), ()), (c, (), ()), L, ()) = some (((), ()), (c, (), ()), (), aft 1 L, outs 1 L, ()) := by
  unfold Tick_19
  dsimp only
  refine loopN_ind (fun k s => ∃ B C, L = B ++ C ∧ k = C.length ∧ s = (((), (), (), (B.length : Int), ()), (c, (), ()), L, outs 1 B, aft 1 B, ())) (fun _ => some (((), ()), (c, (), ()), (), aft 1 L, outs 1 L, ())) ?_ L.length _ N ⟨[], L, rfl, rfl, rfl⟩ (by omega)
  rintro k s again ⟨B, C, hBC, rfl, rfl⟩ ih
  unfold Tick_19_L4
  dsimp only
  have hlen : L.length = B.length + C.length := by rw [hBC]; simp
  cases C with
  | nil =>
    rw [byB_f (by simp at hlen; omega)]
    have : L = B := by simpa using hBC
    rw [this]
  | cons x r =>
    simp only [List.length_cons] at hlen
    have hx := hp x (by rw [hBC]; simp)
    have hg : L.getD B.length (0, 0) = x := by rw [hBC, getD_app_r (Nat.le_refl _), Nat.sub_self]; rfl
    have hb1 : (outs 1 B).length ≤ B.length := by
      unfold outs ids; rw [List.length_map]; have := upto_past_len 1 B; omega
    have hb2 : (aft 1 B).length ≤ B.length := by rw [aft_len]; exact past_len 1 B
    rw [byB_t (by omega), if_pos ⟨by omega, by omega⟩, Int.toNat_natCast, hg, w64 (n := x.2 - 1) (by omega) (by omega), w64 (by omega) (by omega)]
    by_cases e : x.2 - 1 = 0
    · rw [byB_eqt e, if_pos (by omega)]
      refine ih r.length _ (by simp) ⟨B ++ [x], r, by rw [hBC]; simp, rfl, ?_⟩
      have e1 : outs 1 (B ++ [x]) = outs 1 B ++ [x.1] := by
        unfold outs ids upto
        rw [List.filter_append, List.filter_cons_of_pos (by simp; omega)]; simp
      have e2 : aft 1 (B ++ [x]) = aft 1 B := by
        unfold aft shf past
        rw [List.filter_append, List.filter_cons_of_neg (by simp; omega)]; simp
      rw [e1, e2]; simp
    · rw [byB_eqf e, if_pos (by omega)]
      refine ih r.length _ (by simp) ⟨B ++ [x], r, by rw [hBC]; simp, rfl, ?_⟩
      have e1 : outs 1 (B ++ [x]) = outs 1 B := by
        unfold outs ids upto
        rw [List.filter_append, List.filter_cons_of_neg (by simp; omega)]; simp
      have e2 : aft 1 (B ++ [x]) = aft 1 B ++ [(x.1, x.2 - 1)] := by
        unfold aft shf past
        rw [List.filter_append, List.filter_cons_of_pos (by simp; omega)]; simp
      rw [e1, e2]; simp
theorem cancel21_at {N : Nat} {id c : Int} {L : List (Int × Int)} (hl : L.length ≤ 256) (hN : 300 < N) :
    Cancel_21 N (((), id, ()), (c, (), ()), L, ()) = some (((ix id L).isSome, ()), (c, (), ()), (), canD id L, ()) := by
  unfold Cancel_21
  dsimp only
  rw [at_at hl hN, bnd]
  dsimp only
  unfold atR canD
  cases h : ix id L with
  | none => dsimp only; rw [byB_t (by omega)]; rfl
  | some p =>
    obtain ⟨p, t⟩ := p
    have hp : p < L.length := by
      obtain ⟨B, C, rfl, rfl, _⟩ := ix_some h
      simp
    dsimp only
    rw [byB_f (by omega)]
    refine loopN_ind (fun k s => ∃ i : Nat, i + k = L.length ∧ s = (((), (p : Int), (), (i : Int), ()), (c, (), ()), L, (L.take i).take p ++ (L.take i).drop (p + 1), ())) (fun _ => some ((true, ()), (c, (), ()), (), L.take p ++ L.drop (p + 1), ())) ?_ L.length _ N ⟨0, by omega, by simp⟩ (by omega)
    rintro k s again ⟨i, hik, rfl⟩ ih
    unfold Cancel_21_L6
    dsimp only
    by_cases hi : (i : Int) < L.length
    · have hsucc := take_succ_getD (l := L) (i := i) (d := (0, 0)) (by omega)
      have hti : (L.take i).length = i := by simp; omega
      rw [byB_t hi, w64 (by omega) (by omega)]
      by_cases e : (i : Int) = p
      · have e' : i = p := by omega
        rw [byB_nef e]
        refine ih (k - 1) _ (by omega) ⟨i + 1, by omega, ?_⟩
        rw [hsucc]
        have a1 : (L.take i ++ [L.getD i (0, 0)]).take p = (L.take i).take p := by rw [List.take_append_of_le_length (by omega)]
        have a2 : (L.take i ++ [L.getD i (0, 0)]).drop (p + 1) = (L.take i).drop (p + 1) := by
          rw [List.drop_of_length_le (by simp; omega), List.drop_of_length_le (by omega)]
        rw [a1, a2]; simp
      · have e' : i ≠ p := by omega
        have hln : ((L.take i).take p ++ (L.take i).drop (p + 1)).length ≤ 256 := by simp; omega
        rw [byB_net e, if_pos ⟨by omega, hi⟩, if_pos (by omega), Int.toNat_natCast]
        refine ih (k - 1) _ (by omega) ⟨i + 1, by omega, ?_⟩
        rw [hsucc]
        by_cases hip : i < p
        · have a1 : (L.take i ++ [L.getD i (0, 0)]).take p = L.take i ++ [L.getD i (0, 0)] := List.take_of_length_le (by simp; omega)
          have a2 : (L.take i ++ [L.getD i (0, 0)]).drop (p + 1) = [] := List.drop_of_length_le (by simp; omega)
          have a3 : (L.take i).take p = L.take i := List.take_of_length_le (by omega)
          have a4 : (L.take i).drop (p + 1) = [] := List.drop_of_length_le (by omega)
          rw [a1, a2, a3, a4]; simp
        · have a1 : (L.take i ++ [L.getD i (0, 0)]).take p = (L.take i).take p := by rw [List.take_append_of_le_length (by omega)]
          have a2 : (L.take i ++ [L.getD i (0, 0)]).drop (p + 1) = (L.take i).drop (p + 1) ++ [L.getD i (0, 0)] := by rw [List.drop_append_of_le_length (by omega)]
          rw [a1, a2]; simp
    · have : L.take i = L := List.take_of_length_le (by omega)
      rw [byB_f hi, this]
end Go.Proofs.YtcaapoidmfkldaaC
