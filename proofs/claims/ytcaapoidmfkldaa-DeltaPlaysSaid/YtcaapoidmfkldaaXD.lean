/- Chapter 5: timers told by their times; what the list's functions tell. Conditions: as each theorem states them. -/
import Derived.Test.YtcaapoidmfkldaaX1
import Derived.Test.YtcaapoidmfkldaaPL
namespace Go.Proofs.YtcaapoidmfkldaaC
open Go Go.Proofs.YtcaapoidmfkldaaM Go.Proofs.YtcaapoidmfkldaaX Go.Proofs.YtcaapoidmfkldaaL
set_option linter.unusedVariables false
set_option linter.unusedSimpArgs false

/-- Timers by the ticks between them. -/
def df (n : Int) : List (Int × Int) → List (Int × Int)
  | [] => []
  | x :: r => (x.1, x.2 - n) :: df x.2 r
def lst (n : Int) : List (Int × Int) → Int
  | [] => n
  | x :: r => lst x.2 r
theorem df_len : ∀ (n : Int) (A : List (Int × Int)), (df n A).length = A.length
  | _, [] => rfl
  | _, x :: r => by simp [df, df_len]
theorem df_app : ∀ (n : Int) (A B : List (Int × Int)), df n (A ++ B) = df n A ++ df (lst n A) B
  | _, [], _ => rfl
  | _, x :: r, B => by simp [df, lst, df_app]
theorem lst_range {lo hi : Int} : ∀ {n : Int} {A : List (Int × Int)}, lo ≤ n → n ≤ hi → (∀ x ∈ A, lo ≤ x.2 ∧ x.2 ≤ hi) → lo ≤ lst n A ∧ lst n A ≤ hi
  | n, [], h0, h1, _ => ⟨h0, h1⟩
  | n, x :: r, _, _, h => show lo ≤ lst x.2 r ∧ lst x.2 r ≤ hi from lst_range (h x (List.mem_cons_self ..)).1 (h x (List.mem_cons_self ..)).2 fun y hy => h y (List.mem_cons_of_mem _ hy)
theorem lst_snoc : ∀ (n : Int) (A : List (Int × Int)) (x : Int × Int), lst n (A ++ [x]) = x.2
  | _, [], _ => rfl
  | _, y :: r, x => by simp only [List.cons_append, lst]; exact lst_snoc y.2 r x

def srt (A : List (Int × Int)) : Prop := A.Pairwise fun x y => x.2 ≤ y.2
/-- Timers as they are: in order, each with a time ahead, not too many. -/
structure Gd (A : List (Int × Int)) : Prop where
  len : A.length ≤ 256
  srt : srt A
  pos : ∀ x ∈ A, 1 ≤ x.2 ∧ x.2 ≤ 9007199254740991
theorem Gd.nil : Gd [] := ⟨by simp, List.Pairwise.nil, by simp⟩

/-- Where an id's timer is, and its time. -/
def ix (id : Int) : List (Int × Int) → Option (Nat × Int)
  | [] => none
  | x :: r => if x.1 = id then some (0, x.2) else (ix id r).map fun p => (p.1 + 1, p.2)
theorem ix_mid {id : Int} : ∀ {A : List (Int × Int)} {x : Int × Int} {r : List (Int × Int)}, (∀ y ∈ A, y.1 ≠ id) → x.1 = id → ix id (A ++ x :: r) = some (A.length, x.2)
  | [], x, r, _, h => by simp [ix, h]
  | y :: A, x, r, h, hx => by
    simp only [List.cons_append, ix, if_neg (h y (List.mem_cons_self ..)), ix_mid (fun z hz => h z (List.mem_cons_of_mem _ hz)) hx]
    rfl
theorem ix_none {id : Int} : ∀ {A : List (Int × Int)}, (∀ y ∈ A, y.1 ≠ id) → ix id A = none
  | [], _ => rfl
  | y :: A, h => by simp only [ix, if_neg (h y (List.mem_cons_self ..)), ix_none (fun z hz => h z (List.mem_cons_of_mem _ hz))]; rfl
theorem ix_some {id : Int} : ∀ {A : List (Int × Int)} {p : Nat} {t : Int}, ix id A = some (p, t) → ∃ B C, A = B ++ (id, t) :: C ∧ B.length = p ∧ ∀ y ∈ B, y.1 ≠ id
  | [], _, _, h => by simp [ix] at h
  | x :: r, p, t, h => by
    simp only [ix] at h
    split at h
    · rename_i e
      simp only [Option.some.injEq, Prod.mk.injEq] at h
      obtain ⟨rfl, rfl⟩ := h
      exact ⟨[], r, by rw [← e]; rfl, rfl, by simp⟩
    · rename_i e
      rw [Option.map_eq_some_iff] at h
      obtain ⟨⟨p', t'⟩, h1, h2⟩ := h
      simp only [Prod.mk.injEq] at h2
      obtain ⟨rfl, rfl⟩ := h2
      obtain ⟨B, C, rfl, rfl, h3⟩ := ix_some h1
      exact ⟨x :: B, C, rfl, rfl, fun y hy => by rcases List.mem_cons.1 hy with rfl | hy; exact e; exact h3 y hy⟩

/-- What find tells. -/
def fnd (id c1 c2 : Int) (A : List (Int × Int)) : ((Nat × (Int × Unit)) × ((Int × (Int × (Unit × Unit))) × (List (Int × Int) × Unit))) ⊕ ((Unit × (Int × Unit)) × ((Int × (Int × (Unit × Unit))) × (List (Int × Int) × Unit))) :=
  match ix id A with
  | some (p, t) => .inl ((p, t, ()), (c1, c2, (), ()), df 0 A, ())
  | none => .inr (((), 0, ()), (c1, c2, (), ()), df 0 A, ())
theorem find_at {N : Nat} {id c1 c2 : Int} {A : List (Int × Int)} (hA : Gd A) (hN : 300 < N) :
    find_23 N (((), id, ()), (c1, c2, (), ()), df 0 A, ()) = some (fnd id c1 c2 A) := by
  unfold find_23
  dsimp only
  refine loopN_ind (fun k s => ∃ B C, A = B ++ C ∧ k = C.length ∧ (∀ y ∈ B, y.1 ≠ id) ∧ s = ((id, lst 0 B, B.length, ()), (c1, c2, (), ()), df 0 A, ())) (fun _ => some (fnd id c1 c2 A)) ?_ A.length _ N ⟨[], A, rfl, rfl, by simp, rfl⟩ (by have := hA.len; omega)
  rintro k s again ⟨B, C, hBC, rfl, hB, rfl⟩ ih
  unfold find_23_L3
  dsimp only
  rw [df_len]
  have hl : A.length = B.length + C.length := by rw [hBC]; simp
  cases C with
  | nil =>
    rw [byB_f (by simp at hl; omega)]
    have : A = B := by simpa using hBC
    rw [fnd, ix_none (by rw [this]; exact hB)]
  | cons x r =>
    simp only [List.length_cons] at hl
    have hx := hA.pos x (by rw [hBC]; simp)
    have hlst := lst_range (lo := 0) (hi := 9007199254740991) (n := 0) (A := B) (by omega) (by omega) (fun y hy => by have := hA.pos y (by rw [hBC]; simp [hy]); omega)
    have hg : (df 0 A).getD B.length (0, 0) = (x.1, x.2 - lst 0 B) := by
      rw [hBC, df_app, getD_app_r (by rw [df_len]; omega), df_len, Nat.sub_self]; rfl
    rw [byB_t (by omega), if_pos (by omega), hg, if_pos (by omega)]
    dsimp only
    rw [show lst 0 B + (x.2 - lst 0 B) = x.2 by omega, w64 (by omega) (by omega)]
    by_cases e : x.1 = id
    · rw [byB_eqt e, fnd, show ix id A = some (B.length, x.2) by rw [hBC, ix_mid hB e]]
    · rw [byB_eqf e, if_pos (by omega)]
      refine ih r.length _ (by simp) ⟨B ++ [x], r, by rw [hBC]; simp, rfl, fun y hy => ?_, by simp [lst_snoc]⟩
      rcases List.mem_append.1 hy with hy | hy
      · exact hB y hy
      · simp at hy; subst hy; exact e

theorem left_at {N : Nat} {id c1 c2 : Int} {A : List (Int × Int)} (hA : Gd A) (hN : 300 < N) :
    Left_14 N (((), id, ()), (c1, c2, (), ()), df 0 A, ()) = some ((((ix id A).map (·.2)).getD 0, ()), (c1, c2, (), ()), df 0 A, ()) := by
  unfold Left_14
  dsimp only
  rw [find_at hA hN, bnd, fnd]
  cases ix id A with
  | none => rfl
  | some p => rfl

/-- A timer that is put behind all that go off no later. -/
def ins (x : Int × Int) : List (Int × Int) → List (Int × Int)
  | [] => [x]
  | y :: r => if y.2 ≤ x.2 then y :: ins x r else x :: y :: r
theorem ins_app {x : Int × Int} : ∀ {A B : List (Int × Int)}, (∀ y ∈ A, y.2 ≤ x.2) → ins x (A ++ B) = A ++ ins x B
  | [], _, _ => rfl
  | y :: A, B, h => by
    simp only [List.cons_append, ins, if_pos (h y (List.mem_cons_self ..)), ins_app fun z hz => h z (List.mem_cons_of_mem _ hz)]
theorem ins_len (x : Int × Int) : ∀ A : List (Int × Int), (ins x A).length = A.length + 1
  | [] => rfl
  | y :: r => by simp only [ins]; split <;> simp [ins_len x r]
theorem ins_mem {x z : Int × Int} : ∀ {A : List (Int × Int)}, z ∈ ins x A ↔ z = x ∨ z ∈ A
  | [] => by simp [ins]
  | y :: r => by
    simp only [ins]
    split
    · simp only [List.mem_cons, ins_mem]
      constructor
      · rintro (h | h | h) <;> simp [h]
      · rintro (h | h | h) <;> simp [h]
    · simp only [List.mem_cons]
theorem ins_srt {x : Int × Int} : ∀ {A : List (Int × Int)}, srt A → srt (ins x A)
  | [], _ => by simp [ins, srt]
  | y :: r, h => by
    unfold srt at h ⊢
    rw [List.pairwise_cons] at h
    simp only [ins]
    split
    · rename_i e
      refine List.pairwise_cons.2 ⟨fun z hz => ?_, ins_srt h.2⟩
      rcases ins_mem.1 hz with rfl | hz
      · exact e
      · exact h.1 z hz
    · rename_i e
      refine List.pairwise_cons.2 ⟨fun z hz => ?_, List.pairwise_cons.2 h⟩
      rcases List.mem_cons.1 hz with rfl | hz
      · omega
      · have := h.1 z hz; omega

/-- What Add tells, and leaves. -/
def addD (room : Int) (A : List (Int × Int)) (id after : Int) : Int × List (Int × Int) :=
  if after < 1 ∨ 9007199254740991 < after then (1, A) else if (ix id A).isSome then (4, A) else if room ≤ A.length then (3, A) else (0, ins (id, after) A)
theorem addD_gd {room id after : Int} {A : List (Int × Int)} (hA : Gd A) (hr : room ≤ 256) : Gd (addD room A id after).2 := by
  unfold addD
  split
  · exact hA
  · split
    · exact hA
    · split
      · exact hA
      · rename_i h1 h2 h3
        refine ⟨?_, ins_srt hA.srt, fun z hz => ?_⟩
        · show (ins (id, after) A).length ≤ 256
          rw [ins_len]; omega
        · rcases ins_mem.1 hz with rfl | hz
          · dsimp only; omega
          · exact hA.pos z hz
theorem add_at {N : Nat} {id after room : Int} {A : List (Int × Int)} (hA : Gd A) (hr : room ≤ 256) (hN : 300 < N) :
    Add_10 N (((), id, after, ()), (room, (A.length : Int), (), ()), df 0 A, ()) = some (((addD room A id after).1, ()), (room, ((addD room A id after).2.length : Int), (), ()), (), df 0 (addD room A id after).2, ()) := by
  have hlen := hA.len
  unfold Add_10
  dsimp only
  rw [find_at hA hN, bnd, fnd]
  have hbad : ∀ {X Y : Option ((Int × Unit) × ((Int × (Int × (Unit × Unit))) × (Unit × (List (Int × Int) × Unit))))}, (after < 1 ∨ 9007199254740991 < after) → byB (decide (after < 1)) X (byB (!decide (after ≤ 9007199254740991)) X Y) = X := by
    intro X Y h
    by_cases h1 : after < 1
    · rw [byB_t h1]
    · rw [byB_f h1, byB_not, byB_f (by omega)]
  have hgood : ∀ {X Y : Option ((Int × Unit) × ((Int × (Int × (Unit × Unit))) × (Unit × (List (Int × Int) × Unit))))}, ¬ (after < 1 ∨ 9007199254740991 < after) → byB (decide (after < 1)) X (byB (!decide (after ≤ 9007199254740991)) X Y) = Y := by
    intro X Y h
    rw [byB_f (by omega), byB_not, byB_t (by omega)]
  unfold addD
  cases hix : ix id A with
  | some p =>
    dsimp only
    by_cases hb : after < 1 ∨ 9007199254740991 < after
    · rw [hbad hb, if_pos hb]
    · rw [hgood hb, if_neg hb]; rfl
  | none =>
    dsimp only
    by_cases hb : after < 1 ∨ 9007199254740991 < after
    · rw [hbad hb, if_pos hb]
    · rw [hgood hb, if_neg hb, if_neg (by simp)]
      by_cases hf : room ≤ A.length
      · rw [byB_not, byB_f (by omega), if_pos hf]
      · rw [byB_not, byB_t (by omega), if_neg hf]
        dsimp only
        refine loopN_ind (fun k s => ∃ B C, A = B ++ C ∧ k = C.length ∧ (∀ y ∈ B, y.2 ≤ after) ∧ s = (((), id, after - lst 0 B, B.length, ()), (room, (A.length : Int), (), ()), df 0 A, ())) (fun _ => some ((0, ()), (room, ((ins (id, after) A).length : Int), (), ()), (), df 0 (ins (id, after) A), ())) ?_ A.length _ N ⟨[], A, rfl, rfl, by simp, by simp [lst]⟩ (by omega)
        rintro k s again ⟨B, C, hBC, rfl, hB, rfl⟩ ih
        unfold Add_10_L9
        dsimp only
        rw [df_len, ins_len, w64 (by omega) (by omega)]
        have hl : A.length = B.length + C.length := by rw [hBC]; simp
        have hlst := lst_range (lo := 0) (hi := 9007199254740991) (n := 0) (A := B) (by omega) (by omega) (fun y hy => by have := hA.pos y (by rw [hBC]; simp [hy]); omega)
        have hcast : ((A.length : Int) + 1) = ((A.length + 1 : Nat) : Int) := by omega
        cases C with
        | nil =>
          rw [byB_f (by simp at hl; omega), if_pos (Nat.le_refl _)]
          have hAB : A = B := by simpa using hBC
          have e1 : (df 0 A).take B.length = df 0 A := List.take_of_length_le (by rw [df_len, hAB]; exact Nat.le_refl _)
          have e2 : (df 0 A).drop B.length = [] := List.drop_of_length_le (by rw [df_len, hAB]; exact Nat.le_refl _)
          have e3 : ins (id, after) A = A ++ [(id, after)] := by
            have := ins_app (x := (id, after)) (A := A) (B := []) (by rw [hAB]; exact hB)
            rw [List.append_nil] at this
            rw [this]; rfl
          rw [e1, e2, e3, df_app, hcast, hAB]; rfl
        | cons x r =>
          simp only [List.length_cons] at hl
          have hx := hA.pos x (by rw [hBC]; simp)
          have hd : df 0 A = df 0 B ++ (x.1, x.2 - lst 0 B) :: df x.2 r := by rw [hBC, df_app]; rfl
          have hg : (df 0 A).getD B.length (0, 0) = (x.1, x.2 - lst 0 B) := by
            rw [hd, getD_app_r (by rw [df_len]; omega), df_len, Nat.sub_self]; rfl
          rw [byB_t (by omega), if_pos (by omega), hg, byB_not]
          dsimp only
          by_cases e : x.2 ≤ after
          · rw [byB_t (by omega), if_pos (by omega), if_pos (by omega), w64 (by omega) (by omega)]
            have := ih r.length (((), id, after - lst 0 B - (x.2 - lst 0 B), B.length + 1, ()), (room, (A.length : Int), (), ()), df 0 A, ()) (by simp) ⟨B ++ [x], r, by rw [hBC]; simp, rfl, fun y hy => by
              rcases List.mem_append.1 hy with hy | hy
              · exact hB y hy
              · simp at hy; subst hy; exact e, by rw [lst_snoc]; simp; omega⟩
            rw [this, ins_len]
          · rw [byB_f (by omega), if_pos (by omega), if_pos (by omega), if_pos (Nat.le_refl _), w64 (by omega) (by omega)]
            have e1 : (df 0 A).set B.length (x.1, x.2 - lst 0 B - (after - lst 0 B)) = df 0 B ++ (x.1, x.2 - after) :: df x.2 r := by
              rw [hd, List.set_append_right _ _ (by rw [df_len]; omega), df_len, Nat.sub_self, show x.2 - lst 0 B - (after - lst 0 B) = x.2 - after by omega]
              rfl
            rw [e1, List.take_left' (df_len 0 B), List.drop_left' (df_len 0 B)]
            have e3 : ins (id, after) A = B ++ (id, after) :: x :: r := by
              rw [hBC, ins_app hB]
              simp only [ins, if_neg e]
            rw [e3, df_app, hcast]
            rfl
end Go.Proofs.YtcaapoidmfkldaaC
