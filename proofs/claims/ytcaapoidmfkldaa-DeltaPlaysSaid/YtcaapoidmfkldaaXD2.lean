/- Chapter 5: ticks. Conditions: as each theorem states them. -/
import Derived.Test.YtcaapoidmfkldaaXD
namespace Go.Proofs.YtcaapoidmfkldaaC
open Go Go.Proofs.YtcaapoidmfkldaaM Go.Proofs.YtcaapoidmfkldaaX Go.Proofs.YtcaapoidmfkldaaL
set_option linter.unusedVariables false
set_option linter.unusedSimpArgs false

def ids (A : List (Int × Int)) : List Int := A.map (·.1)
/-- Those that go off with tick n or ahead; those behind it. -/
def upto (n : Int) (A : List (Int × Int)) : List (Int × Int) := A.filter fun x => decide (x.2 ≤ n)
def past (n : Int) (A : List (Int × Int)) : List (Int × Int) := A.filter fun x => decide (n < x.2)
def shf (n : Int) (A : List (Int × Int)) : List (Int × Int) := A.map fun x => (x.1, x.2 - n)
theorem df_shf (n : Int) : ∀ (a : Int) (A : List (Int × Int)), df (a + n) A = df a (shf n A)
  | _, [] => rfl
  | a, x :: r => by
    have := df_shf n (x.2 - n) r
    rw [show x.2 - n + n = x.2 by omega] at this
    simp only [df, shf, List.map_cons, this]
    rw [show x.2 - (a + n) = x.2 - n - a by omega]
theorem df_base {n m : Int} {A : List (Int × Int)} (h : A = []) : df n A = df m A := by subst h; rfl
theorem upto_nil {n : Int} {A : List (Int × Int)} (h : ∀ x ∈ A, n < x.2) : upto n A = [] := by
  unfold upto
  rw [List.filter_eq_nil_iff]
  intro x hx
  have := h x hx
  simp; omega
theorem past_all {n : Int} {A : List (Int × Int)} (h : ∀ x ∈ A, n < x.2) : past n A = A := by
  unfold past
  rw [List.filter_eq_self]
  intro x hx
  simpa using h x hx
theorem srt_head {x : Int × Int} {r : List (Int × Int)} (h : srt (x :: r)) : ∀ y ∈ r, x.2 ≤ y.2 := (List.pairwise_cons.1 h).1
theorem srt_tail {x : Int × Int} {r : List (Int × Int)} (h : srt (x :: r)) : srt r := (List.pairwise_cons.1 h).2
theorem srt_filter {p : Int × Int → Bool} {A : List (Int × Int)} (h : srt A) : srt (A.filter p) := List.Pairwise.filter _ h
theorem upto_split {a n : Int} (han : a ≤ n) : ∀ {A : List (Int × Int)}, srt A → upto n A = upto a A ++ upto n (past a A)
  | [], _ => rfl
  | x :: r, h => by
    have ih := upto_split han (srt_tail h)
    by_cases h1 : x.2 ≤ a
    · have e1 : upto n (x :: r) = x :: upto n r := List.filter_cons_of_pos (by simp; omega)
      have e2 : upto a (x :: r) = x :: upto a r := List.filter_cons_of_pos (by simp; omega)
      have e3 : past a (x :: r) = past a r := List.filter_cons_of_neg (by simp; omega)
      rw [e1, e2, e3, ih]; rfl
    · have h2 : ∀ y ∈ x :: r, a < y.2 := fun y hy => by
        rcases List.mem_cons.1 hy with rfl | hy
        · omega
        · have := srt_head h y hy; omega
      rw [upto_nil h2, past_all h2]; rfl
theorem past_past {a n : Int} (han : a ≤ n) (A : List (Int × Int)) : past n (past a A) = past n A := by
  unfold past
  rw [List.filter_filter]
  congr 1
  funext x
  by_cases h : n < x.2
  · simp [h]; omega
  · simp [h]
theorem past_len (n : Int) (A : List (Int × Int)) : (past n A).length ≤ A.length := List.length_filter_le ..
theorem upto_past_len (n : Int) : ∀ A : List (Int × Int), (upto n A).length + (past n A).length = A.length
  | [] => rfl
  | x :: r => by
    have := upto_past_len n r
    unfold upto past at *
    by_cases h : x.2 ≤ n
    · rw [List.filter_cons_of_pos (by simpa using h), List.filter_cons_of_neg (by simpa using h)]
      simp only [List.length_cons]; omega
    · rw [List.filter_cons_of_neg (by simpa using h), List.filter_cons_of_pos (by simp; omega)]
      simp only [List.length_cons]; omega

theorem due_at {N : Nat} {room t : Int} {B : List (Int × Int)} (hs : srt B) (hB : ∀ x ∈ B, t ≤ x.2 ∧ 0 ≤ x.2 ∧ x.2 ≤ 9007199254740991) (ht : 0 ≤ t ∧ t ≤ 9223372036854775807) (hlen : B.length ≤ 256) (hN : 300 < N) :
    due_24 N (((), ()), (room, (B.length : Int), (), ()), df t B, ()) = some (((), ()), (room, ((past t B).length : Int), (), ()), (), df t (past t B), ids (upto t B), ()) := by
  unfold due_24
  dsimp only
  refine loopN_ind (fun k s => ∃ D C, B = D ++ C ∧ k = C.length ∧ (∀ y ∈ D, y.2 = t) ∧ s = (((), (), ()), (room, (C.length : Int), (), ()), (), df t C, ids D, ())) (fun _ => some (((), ()), (room, ((past t B).length : Int), (), ()), (), df t (past t B), ids (upto t B), ())) ?_ B.length _ N ⟨[], B, rfl, rfl, by simp, rfl⟩ (by omega)
  rintro k s again ⟨D, C, hDC, rfl, hD, rfl⟩ ih
  unfold due_24_L2
  dsimp only
  rw [df_len]
  have hl : B.length = D.length + C.length := by rw [hDC]; simp
  -- all later than now: done
  have fin : (∀ x ∈ C, t < x.2) → upto t B = D ∧ past t B = C := by
    intro h
    have e1 : upto t D = D := by
      unfold upto; rw [List.filter_eq_self]; intro x hx; have := hD x hx; simp; omega
    have e2 : past t D = [] := by
      unfold past; rw [List.filter_eq_nil_iff]; intro x hx; have := hD x hx; simp; omega
    have e3 : upto t (D ++ C) = upto t D ++ upto t C := List.filter_append ..
    have e4 : past t (D ++ C) = past t D ++ past t C := List.filter_append ..
    rw [hDC, e3, e4, e1, e2, upto_nil h, past_all h, List.append_nil, List.nil_append]
    exact ⟨rfl, rfl⟩
  cases C with
  | nil =>
    rw [byB_f (by simp)]
    obtain ⟨e1, e2⟩ := fin (by simp)
    rw [e1, e2]
  | cons x r =>
    have hx := hB x (by rw [hDC]; simp)
    simp only [List.length_cons] at hl
    have hsC : srt (x :: r) := by
      have : srt (D ++ x :: r) := by rw [← hDC]; exact hs
      exact (List.pairwise_append.1 this).2.1
    have hg : (df t (x :: r)).getD 0 (0, 0) = (x.1, x.2 - t) := rfl
    rw [byB_t (by simp), if_pos (by simp), hg]
    dsimp only
    by_cases e : x.2 - t = 0
    · rw [byB_eqt e, if_pos (by simp), if_pos (by simp [ids]; omega), if_pos (by simp), w64 (by simp only [List.length_cons]; omega) (by simp only [List.length_cons]; omega)]
      have e1 : (df t (x :: r)).take 0 ++ (df t (x :: r)).drop 1 = df t r := by
        simp only [df, List.take_zero, List.drop_succ_cons, List.drop_zero, List.nil_append]
        rw [show x.2 = t by omega]
      rw [e1]
      refine ih r.length _ (by simp) ⟨D ++ [x], r, by rw [hDC]; simp, rfl, fun y hy => ?_, by simp [ids]⟩
      rcases List.mem_append.1 hy with hy | hy
      · exact hD y hy
      · simp at hy; subst hy; omega
    · rw [byB_eqf e]
      obtain ⟨e1, e2⟩ := fin (fun y hy => by
        rcases List.mem_cons.1 hy with rfl | hy
        · omega
        · have := srt_head hsC y hy; omega)
      rw [e1, e2]

theorem skip_at {N : Nat} {room n : Int} {A : List (Int × Int)} (hA : Gd A) (hn : 0 ≤ n ∧ n ≤ 9223372036854775807) (hN : 1000 < N) :
    Skip_11 N (((), n, ()), (room, (A.length : Int), (), ()), df 0 A, ()) = some (((), 0, ()), (room, ((past n A).length : Int), (), ()), (), df n (past n A), ids (upto n A), ()) := by
  unfold Skip_11
  dsimp only
  rw [byB_f (by omega)]
  refine loopN_ind (fun k s => ∃ (t : Int) (B C : List (Int × Int)), k = 2 * C.length + (if t < n then 1 else 0) ∧ 0 ≤ t ∧ t ≤ n ∧ srt C ∧ C.length + B.length ≤ 256 ∧ (∀ x ∈ C, t < x.2 ∧ 1 ≤ x.2 ∧ x.2 ≤ 9007199254740991) ∧ B ++ upto n C = upto n A ∧ past n C = past n A ∧
      s = (((), n - t, (), ()), (room, (C.length : Int), (), ()), (), df t C, ids B, ())) (fun _ => some (((), 0, ()), (room, ((past n A).length : Int), (), ()), (), df n (past n A), ids (upto n A), ())) ?_ (2 * A.length + (if 0 < n then 1 else 0)) _ N
    ⟨0, [], A, rfl, by omega, by omega, hA.srt, by have := hA.len; simpa using this, fun x hx => by have := hA.pos x hx; omega, rfl, rfl, by rw [Int.sub_zero]; rfl⟩ (by have := hA.len; split <;> omega)
  rintro k s again ⟨t, B, C, rfl, ht0, htn, hsC, hlen, hC, hu, hp, rfl⟩ ih
  unfold Skip_11_L4
  dsimp only
  rw [df_len, byB_not]
  by_cases hend : n - t ≤ 0
  · rw [byB_t hend]
    have e : t = n := by omega
    subst e
    have h1 : ∀ x ∈ C, t < x.2 := fun x hx => (hC x hx).1
    rw [← hu, ← hp, upto_nil h1, past_all h1, List.append_nil]
  · rw [byB_f hend]
    cases C with
    | nil =>
      rw [byB_f (by simp)]
      rw [← hu, ← hp]
      simp [upto, past, df]
    | cons x r =>
      have hx := hC x (List.mem_cons_self ..)
      have hg : (df t (x :: r)).getD 0 (0, 0) = (x.1, x.2 - t) := rfl
      rw [byB_t (by simp), if_pos (by simp), hg]
      dsimp only
      generalize hk : (if x.2 - t < n - t then x.2 - t else n - t) = q
      have hq : 0 < q ∧ q ≤ n - t ∧ q ≤ x.2 - t ∧ (q = n - t ∨ q = x.2 - t) := by rw [← hk]; split <;> omega
      have hset : (df t (x :: r)).set 0 (x.1, x.2 - t - q) = df (t + q) (x :: r) := by
        simp only [df, List.set_cons_zero, show x.2 - t - q = x.2 - (t + q) by omega]
      rw [if_pos (by simp), if_pos (by simp), w64 (by omega) (by omega), hset, due_at hsC (fun y hy => by
        have h1 := hC y hy
        rcases List.mem_cons.1 hy with rfl | hy
        · omega
        · have h2 := srt_head hsC y hy; omega) (by omega) (by simp at hlen ⊢; omega) (by omega), bnd]
      dsimp only
      have hcnt := upto_past_len (t + q) (x :: r)
      simp only [List.length_cons] at hcnt hlen
      rw [if_pos (by simp [ids]; omega), w64 (by omega) (by omega), show n - t - q = n - (t + q) by omega]
      have happ : ids B ++ ids (upto (t + q) (x :: r)) = ids (B ++ upto (t + q) (x :: r)) := by simp [ids]
      rw [happ]
      refine ih (2 * (past (t + q) (x :: r)).length + (if t + q < n then 1 else 0)) _ ?_ ⟨t + q, B ++ upto (t + q) (x :: r), past (t + q) (x :: r), rfl, by omega, by omega, srt_filter hsC, by simp; omega, fun y hy => ?_, ?_, ?_, rfl⟩
      · rw [if_pos (show t < n by omega)]
        simp only [List.length_cons]
        rcases hq.2.2.2 with e | e
        · rw [if_neg (by omega)]; omega
        · have : past (t + q) (x :: r) = past (t + q) r := List.filter_cons_of_neg (by simp; omega)
          rw [this]
          have := past_len (t + q) r
          split <;> omega
      · have h1 := hC y ((List.mem_filter.1 hy).1)
        have h2 := (List.mem_filter.1 hy).2
        simp at h2
        omega
      · rw [List.append_assoc, ← upto_split (by omega) hsC, hu]
      · rw [past_past (by omega), hp]

/-- The timers some ticks later. -/
def aft (n : Int) (A : List (Int × Int)) : List (Int × Int) := shf n (past n A)
def outs (n : Int) (A : List (Int × Int)) : List Int := ids (upto n A)
theorem aft_len (n : Int) (A : List (Int × Int)) : (aft n A).length = (past n A).length := by simp [aft, shf]
theorem df_aft (n : Int) (A : List (Int × Int)) : df n (past n A) = df 0 (aft n A) := by
  have := df_shf n 0 (past n A)
  rw [Int.zero_add] at this
  exact this
theorem aft_gd {n : Int} {A : List (Int × Int)} (hn : 0 ≤ n) (hA : Gd A) : Gd (aft n A) := by
  refine ⟨by rw [aft_len]; have := past_len n A; have := hA.len; omega, ?_, fun x hx => ?_⟩
  · unfold aft shf srt
    rw [List.pairwise_map]
    exact List.Pairwise.imp (fun h => by dsimp only; omega) (srt_filter (p := fun x => decide (n < x.2)) hA.srt)
  · unfold aft shf at hx
    rw [List.mem_map] at hx
    obtain ⟨y, hy, rfl⟩ := hx
    have h1 := hA.pos y ((List.mem_filter.1 hy).1)
    have h2 := (List.mem_filter.1 hy).2
    simp at h2
    dsimp only
    omega
theorem skip_ok {N : Nat} {room n : Int} {A : List (Int × Int)} (hA : Gd A) (hn : 0 ≤ n ∧ n ≤ 9223372036854775807) (hN : 1000 < N) :
    Skip_11 N (((), n, ()), (room, (A.length : Int), (), ()), df 0 A, ()) = some (((), 0, ()), (room, ((aft n A).length : Int), (), ()), (), df 0 (aft n A), outs n A, ()) := by
  rw [skip_at hA hn hN, df_aft, aft_len]; rfl
theorem skip_no {N : Nat} {room m n : Int} {A : List (Int × Int)} (hn : n < 0) :
    Skip_11 N (((), n, ()), (room, m, (), ()), df 0 A, ()) = some (((), 1, ()), (room, m, (), ()), (), df 0 A, [], ()) := by
  unfold Skip_11
  dsimp only
  rw [byB_t hn]
theorem tick_at {N : Nat} {room : Int} {A : List (Int × Int)} (hA : Gd A) (hN : 1000 < N) :
    Tick_12 N (((), ()), (room, (A.length : Int), (), ()), df 0 A, ()) = some (((), ()), (room, ((aft 1 A).length : Int), (), ()), (), df 0 (aft 1 A), outs 1 A, ()) := by
  unfold Tick_12
  dsimp only
  rw [skip_ok hA (by omega) hN, bnd]
theorem shf_shf (a b : Int) (A : List (Int × Int)) : shf a (shf b A) = shf (b + a) A := by
  simp only [shf, List.map_map, Function.comp_def]
  congr 1
  funext x
  simp only [Prod.mk.injEq, true_and]
  omega
theorem past_shf (a b : Int) (A : List (Int × Int)) : past a (shf b A) = shf b (past (b + a) A) := by
  unfold past shf
  rw [List.filter_map]
  congr 1
  congr 1
  funext x
  simp only [Function.comp_def]
  by_cases h : b + a < x.2
  · simp [h]; omega
  · simp [h]; omega
theorem upto_shf (a b : Int) (A : List (Int × Int)) : upto a (shf b A) = shf b (upto (b + a) A) := by
  unfold upto shf
  rw [List.filter_map]
  congr 1
  congr 1
  funext x
  simp only [Function.comp_def]
  by_cases h : x.2 ≤ b + a
  · simp [h]; omega
  · simp [h]; omega
theorem aft_aft {a b : Int} (ha : 0 ≤ a) (A : List (Int × Int)) : aft a (aft b A) = aft (b + a) A := by
  unfold aft
  rw [past_shf, shf_shf, past_past (by omega)]
theorem ids_shf (n : Int) (A : List (Int × Int)) : ids (shf n A) = ids A := by simp [ids, shf]
theorem outs_add {a b : Int} (ha : 0 ≤ a) {A : List (Int × Int)} (h : srt A) : outs b A ++ outs a (aft b A) = outs (b + a) A := by
  unfold outs aft
  rw [upto_shf, ids_shf, upto_split (a := b) (n := b + a) (by omega) h]
  simp [ids]
theorem aft_zero {A : List (Int × Int)} (hA : Gd A) : aft 0 A = A := by
  unfold aft
  rw [past_all fun x hx => by have := hA.pos x hx; omega]
  simp [shf]
theorem outs_zero {A : List (Int × Int)} (hA : Gd A) : outs 0 A = [] := by
  unfold outs
  rw [upto_nil fun x hx => by have := hA.pos x hx; omega]
  rfl

/-- What Cancel leaves. -/
def canD (id : Int) (A : List (Int × Int)) : List (Int × Int) := match ix id A with | some (p, _) => A.take p ++ A.drop (p + 1) | none => A
theorem canD_sub {id : Int} {A : List (Int × Int)} : List.Sublist (canD id A) A := by
  unfold canD
  cases h : ix id A with
  | none => exact List.Sublist.refl _
  | some p =>
    obtain ⟨p, t⟩ := p
    obtain ⟨B, C, rfl, rfl, _⟩ := ix_some h
    dsimp only
    have e : (B ++ (id, t) :: C).drop (B.length + 1) = C := by
      rw [show B ++ (id, t) :: C = (B ++ [(id, t)]) ++ C by simp]
      exact List.drop_left' (by simp)
    rw [List.take_left' rfl, e]
    exact List.Sublist.append_left (List.sublist_cons_self ..) B
theorem canD_gd {id : Int} {A : List (Int × Int)} (hA : Gd A) : Gd (canD id A) :=
  ⟨by have := canD_sub (id := id) (A := A) |>.length_le; have := hA.len; omega, List.Pairwise.sublist canD_sub hA.srt, fun x hx => hA.pos x (canD_sub.subset hx)⟩
end Go.Proofs.YtcaapoidmfkldaaC
