/- Chapter 5: the document's ticks at once. Conditions: as each theorem states them. -/
import Derived.Test.YtcaapoidmfkldaaXR
namespace Go.Proofs.YtcaapoidmfkldaaC
open Go Go.Proofs.YtcaapoidmfkldaaM Go.Proofs.YtcaapoidmfkldaaX Go.Proofs.YtcaapoidmfkldaaL
set_option linter.unusedVariables false
set_option linter.unusedSimpArgs false

/-- The least of the times, n at most. -/
def lm (n : Int) (L : List (Int × Int)) : Int := L.foldl (fun a x => if x.2 < a then x.2 else a) n
theorem lm_snoc (n : Int) (L : List (Int × Int)) (x : Int × Int) : lm n (L ++ [x]) = if x.2 < lm n L then x.2 else lm n L := by unfold lm; rw [List.foldl_append]; rfl
theorem lm_spec : ∀ (L : List (Int × Int)) (n : Int), lm n L ≤ n ∧ (∀ x ∈ L, lm n L ≤ x.2) ∧ (lm n L = n ∨ ∃ x ∈ L, x.2 = lm n L)
  | [], n => ⟨Int.le_refl _, by simp, .inl rfl⟩
  | x :: r, n => by
    obtain ⟨h1, h2, h3⟩ := lm_spec r (if x.2 < n then x.2 else n)
    have e : lm n (x :: r) = lm (if x.2 < n then x.2 else n) r := rfl
    rw [e]
    have hq : (if x.2 < n then x.2 else n) ≤ n ∧ (if x.2 < n then x.2 else n) ≤ x.2 ∧ ((if x.2 < n then x.2 else n) = n ∨ (if x.2 < n then x.2 else n) = x.2) := by split <;> omega
    generalize (if x.2 < n then x.2 else n) = q at h1 h2 h3 hq ⊢
    refine ⟨by omega, fun y hy => ?_, ?_⟩
    · rcases List.mem_cons.1 hy with rfl | hy
      · omega
      · exact h2 y hy
    · rcases h3 with h3 | ⟨y, hy, h3⟩
      · rcases hq.2.2 with h4 | h4
        · exact .inl (h3.trans h4)
        · exact .inr ⟨x, List.mem_cons_self .., by omega⟩
      · exact .inr ⟨y, List.mem_cons_of_mem _ hy, h3⟩
theorem past_shf1 (k : Int) (L : List (Int × Int)) : aft 1 (shf (k - 1) L) = aft k L ∧ outs 1 (shf (k - 1) L) = outs k L := by
  unfold aft outs
  rw [past_shf, upto_shf, shf_shf, ids_shf, show k - 1 + 1 = k by omega]
  exact ⟨rfl, rfl⟩

section
variable {N : Nat} {c n : Int} {L : List (Int × Int)} {acc : List Int} {T : Int} {U : Bool}
  {again4 : ((Unit × (Int × (Unit × Unit))) × ((Int × (Unit × Unit)) × (Unit × (List (Int × Int) × (List Int × Unit))))) → Option ((Unit × (Bool × Unit)) × ((Int × (Unit × Unit)) × (Unit × (List (Int × Int) × (List Int × Unit)))))}
  {out : Option ((Unit × (Bool × Unit)) × ((Int × (Unit × Unit)) × (Unit × (List (Int × Int) × (List Int × Unit)))))}

theorem skip20_sub {k : Int} (hk : 1 ≤ k ∧ k ≤ n ∧ n ≤ 9223372036854775807) (hl : L.length ≤ 256) (ha : acc.length + L.length ≤ 256) (hp : ∀ x ∈ L, k ≤ x.2 ∧ x.2 ≤ 9007199254740991) (hN : 1000 < N)
    (ih : again4 (((), n - k, (), ()), (c, (), ()), (), aft k L, acc ++ outs k L, ()) = out) :
    loopN N (Skip_20_L11 N again4) (((), n, (), k, 0, (), (), (), (), T, U, ()), (c, (), ()), (), L, acc, ()) = out := by
  refine loopN_ind (fun j s => ∃ i : Nat, i + j = L.length ∧ s = (((), n, (), k, (i : Int), (), (), (), (), T, U, ()), (c, (), ()), (), shf (k - 1) (L.take i) ++ L.drop i, acc, ())) (fun _ => out) ?_ L.length _ N ⟨0, by omega, by simp [shf]⟩ (by omega)
  rintro j s ag ⟨i, hij, rfl⟩ ih2
  unfold Skip_20_L11
  dsimp only
  have hlen : (shf (k - 1) (L.take i) ++ L.drop i).length = L.length := by simp [shf]; omega
  have hti : (shf (k - 1) (L.take i)).length = i := by simp [shf]; omega
  rw [hlen]
  by_cases hi : (i : Int) < L.length
  · have hx := hp (L.getD i (0, 0)) (getD_mem (by omega))
    have hg : (shf (k - 1) (L.take i) ++ L.drop i).getD i (0, 0) = L.getD i (0, 0) := by
      rw [getD_app_r (by omega), hti, Nat.sub_self, drop_getD (l := L) (i := i) (d := (0, 0)) (by omega)]; rfl
    rw [byB_t hi, if_pos ⟨by omega, hi⟩, if_pos ⟨by omega, hi⟩, Int.toNat_natCast, hg, w64 (n := (L.getD i (0, 0)).2 - k) (by omega) (by omega), w64 (by omega) (by omega), w64 (by omega) (by omega)]
    refine ih2 (j - 1) _ (by omega) ⟨i + 1, by omega, ?_⟩
    have e : (shf (k - 1) (L.take i) ++ L.drop i).set i ((L.getD i (0, 0)).1, (L.getD i (0, 0)).2 - k + 1) = shf (k - 1) (L.take (i + 1)) ++ L.drop (i + 1) := by
      rw [List.set_append_right _ _ (by omega), hti, Nat.sub_self, drop_getD (l := L) (i := i) (d := (0, 0)) (by omega), List.set_cons_zero, take_succ_getD (l := L) (i := i) (d := (0, 0)) (by omega)]
      simp only [shf, List.map_append, List.map_cons, List.map_nil, List.append_assoc, List.cons_append, List.nil_append]
      rw [show (L.getD i (0, 0)).2 - (k - 1) = (L.getD i (0, 0)).2 - k + 1 by omega]
    rw [e]
    simp
  · have e : shf (k - 1) (L.take i) ++ L.drop i = shf (k - 1) L := by
      rw [List.take_of_length_le (by omega), List.drop_of_length_le (by omega), List.append_nil]
    obtain ⟨e1, e2⟩ := past_shf1 k L
    rw [byB_f hi, e, tick19_at (by simp [shf]; omega) (fun x hx => ?_) (by omega), bnd, e1, e2]
    · dsimp only
      have : (outs k L).length ≤ L.length := by unfold outs ids; rw [List.length_map]; have := upto_past_len k L; omega
      rw [if_pos (by omega), w64 (by omega) (by omega)]
      exact ih
    · unfold shf at hx
      rw [List.mem_map] at hx
      obtain ⟨y, hy, rfl⟩ := hx
      have := hp y hy
      dsimp only
      omega

theorem skip20_min (hn : 1 ≤ n ∧ n ≤ 9223372036854775807) (hl : L.length ≤ 256) (ha : acc.length + L.length ≤ 256) (hp : ∀ x ∈ L, 1 ≤ x.2 ∧ x.2 ≤ 9007199254740991) (hN : 1000 < N)
    (ih : again4 (((), n - lm n L, (), ()), (c, (), ()), (), aft (lm n L) L, acc ++ outs (lm n L) L, ()) = out) :
    loopN N (Skip_20_L7 N again4) (((), n, (), n, 0, (), (), (), (), T, U, ()), (c, (), ()), (), L, acc, ()) = out := by
  refine loopN_ind (fun j s => ∃ i : Nat, i + j = L.length ∧ s = (((), n, (), lm n (L.take i), (i : Int), (), (), (), (), T, U, ()), (c, (), ()), (), L, acc, ())) (fun _ => out) ?_ L.length _ N ⟨0, by omega, by simp [lm]⟩ (by omega)
  rintro j s ag ⟨i, hij, rfl⟩ ih2
  unfold Skip_20_L7
  dsimp only
  by_cases hi : (i : Int) < L.length
  · rw [byB_t hi, if_pos ⟨by omega, hi⟩, Int.toNat_natCast, w64 (by omega) (by omega)]
    refine ih2 (j - 1) _ (by omega) ⟨i + 1, by omega, ?_⟩
    rw [take_succ_getD (l := L) (i := i) (d := (0, 0)) (by omega), lm_snoc]
    simp
  · have e : L.take i = L := List.take_of_length_le (by omega)
    obtain ⟨h1, h2, h3⟩ := lm_spec L n
    have hk : 1 ≤ lm n L := by
      rcases h3 with h | ⟨x, hx, h⟩
      · omega
      · have := hp x hx; omega
    rw [byB_f hi, e]
    exact skip20_sub ⟨hk, h1, hn.2⟩ hl ha (fun x hx => ⟨h2 x hx, (hp x hx).2⟩) hN ih
end

theorem skip20_at {N : Nat} {c n : Int} {L : List (Int × Int)} (h : Rd L) (hn : 0 ≤ n ∧ n ≤ 9223372036854775807) (hN : 1000 < N) :
    Skip_20 N (((), n, ()), (c, (), ()), L, ()) = some (((), true, ()), (c, (), ()), (), aft n L, outs n (so L), ()) := by
  unfold Skip_20
  dsimp only
  rw [byB_f (by omega)]
  refine loopN_ind (fun j s => ∃ (r : Int) (M : List (Int × Int)) (acc : List Int), j = 2 * M.length + (if 0 < r then 1 else 0) ∧ 0 ≤ r ∧ r ≤ n ∧ Rd M ∧ acc.length + M.length ≤ 256 ∧ acc ++ outs r (so M) = outs n (so L) ∧ aft r M = aft n L ∧
      s = (((), r, (), ()), (c, (), ()), (), M, acc, ())) (fun _ => some (((), true, ()), (c, (), ()), (), aft n L, outs n (so L), ())) ?_ (2 * L.length + (if 0 < n then 1 else 0)) _ N ⟨n, L, [], rfl, hn.1, by omega, h, by have := h.len; simpa using this, rfl, rfl, rfl⟩ (by have := h.len; split <;> omega)
  rintro j s again ⟨r, M, acc, rfl, hr0, hrn, hM, hl, ho, ha, rfl⟩ ih
  unfold Skip_20_L4
  dsimp only
  have hMl := hM.len
  rw [byB_not]
  by_cases hr : r ≤ 0
  · have e : r = 0 := by omega
    subst e
    have h1 : aft 0 M = M := by
      unfold aft
      rw [past_all fun x hx => by have := hM.pos x hx; omega]
      simp [shf]
    rw [byB_t hr, ← ho, ← ha, h1, outs_zero hM.so_gd, List.append_nil]
  · rw [byB_f hr, byB_not]
    by_cases he : (M.length : Int) ≤ 0
    · have e : M = [] := List.eq_nil_of_length_eq_zero (by omega)
      subst e
      rw [byB_t he, ← ho, ← ha]
      simp [aft, outs, upto, past, shf, ids, so]
    · rw [byB_f he]
      obtain ⟨h1, h2, h3⟩ := lm_spec M r
      have hk : 1 ≤ lm r M := by
        rcases h3 with h | ⟨x, hx, h⟩
        · omega
        · have := hM.pos x hx; omega
      refine skip20_min ⟨by omega, by omega⟩ hM.len hl hM.pos hN ?_
      have hcnt := upto_past_len (lm r M) M
      have hol : (outs (lm r M) M).length = (upto (lm r M) M).length := by simp [outs, ids]
      refine ih (2 * (aft (lm r M) M).length + (if 0 < r - lm r M then 1 else 0)) _ ?_ ⟨r - lm r M, aft (lm r M) M, acc ++ outs (lm r M) M, rfl, by omega, by omega, hM.aft (by omega), by rw [aft_len]; simp; omega, ?_, ?_, rfl⟩
      · rw [aft_len, if_pos (show 0 < r by omega)]
        rcases h3 with h3 | ⟨x, hx, h3⟩
        · rw [if_neg (by omega)]; omega
        · have : 0 < (upto (lm r M) M).length := List.length_pos_of_mem (List.mem_filter.2 ⟨hx, by simp; omega⟩)
          split <;> omega
      · rw [← ho, List.append_assoc, so_aft, ← outs_first h2, outs_add (by omega) (so_srt M), show lm r M + (r - lm r M) = r by omega]
      · rw [aft_aft (by omega), show lm r M + (r - lm r M) = r by omega, ha]
theorem skip20_no {N : Nat} {c n : Int} {L : List (Int × Int)} (hn : n < 0) : Skip_20 N (((), n, ()), (c, (), ()), L, ()) = some (((), false, ()), (c, (), ()), (), L, [], ()) := by
  unfold Skip_20
  dsimp only
  rw [byB_t hn]
theorem new17_at {N : Nat} {room : Int} (h : 0 ≤ room ∧ room ≤ 256) : New_17 N ((room, ()), ()) = some (.inr (((), ()), (room, (), ()), [], ())) := by
  unfold New_17
  dsimp only
  rw [byB_f (by omega), byB_not, byB_t (by omega)]
theorem new17_no {N : Nat} {room : Int} (h : ¬ (0 ≤ room ∧ room ≤ 256)) : New_17 N ((room, ()), ()) = some (.inl (((), ()), ())) := by
  unfold New_17
  dsimp only
  by_cases h1 : room < 0
  · rw [byB_t h1]
  · rw [byB_f h1, byB_not, byB_f (by omega)]
end Go.Proofs.YtcaapoidmfkldaaC
