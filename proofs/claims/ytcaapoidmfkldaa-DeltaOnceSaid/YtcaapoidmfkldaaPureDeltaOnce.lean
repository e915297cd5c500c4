/- The plain law DeltaOnce. Conditions: its own. -/
import Derived.Test.YtcaapoidmfkldaaXD4
namespace Go.Proofs.Ytcaapoidmfkldaa.Pure
open Go Go.Proofs.YtcaapoidmfkldaaM Go.Proofs.YtcaapoidmfkldaaX Go.Proofs.YtcaapoidmfkldaaL Go.Proofs.YtcaapoidmfkldaaC
set_option linter.unusedVariables false
set_option linter.unusedSimpArgs false

section
variable {N n b : Nat} {y0 y1 : List Int} {D : List Int} {A : List (Int × Int)}
  {again : ((List Int × (List Int × (Bool × (Unit × (Int × (Unit × (Int × Unit))))))) × ((Int × (Int × (Unit × Unit))) × (List Int × (List (Int × Int) × Unit)))) → Option ((Bool × Unit) × Unit)}

/-- What went off is right, one by one. -/
theorem once_check (hn : n ≤ 60) (hb : b ≤ 300) (hD : D.length = n) (hN : 2000 < N) (m : Int)
    (ih : again ((y0, y1, true, (), (n : Int), (), ((b + 1 + 1 : Nat) : Int), ()), (256, m, (), ()), D, df 0 A, ()) = some ((true, ()), ())) :
    loopN N (DeltaOnce_6_L32 N again) ((y0, y1, true, (), (n : Int), (), ((b + 1 : Nat) : Int), (), 0, ()), (256, m, (), ()), D, goes D ((b + 1 : Nat) : Int) n, df 0 A, ()) = some ((true, ()), ()) := by
  have hlen : (goes D ((b + 1 : Nat) : Int) n).length ≤ n := by
    unfold goes; rw [List.length_map]; have := List.length_filter_le (fun k => decide (D.getD k 0 = ((b + 1 : Nat) : Int))) (List.range n); simpa using this
  have hlt := goes_lt D ((b + 1 : Nat) : Int) n
  have hmem := fun x => (goes_mem (D := D) (tick := ((b + 1 : Nat) : Int)) (n := n) (x := x)).1
  generalize goes D ((b + 1 : Nat) : Int) n = E at hlen hlt hmem ⊢
  refine loopN_ind (fun k s => ∃ i : Nat, i + k = E.length ∧ s = ((y0, y1, true, (), (n : Int), (), ((b + 1 : Nat) : Int), (), (i : Int), ()), (256, m, (), ()), D, E, df 0 A, ())) (fun _ => some ((true, ()), ())) ?_ E.length _ N ⟨0, by omega, rfl⟩ (by omega)
  rintro k s ag ⟨i, hik, rfl⟩ ih2
  unfold DeltaOnce_6_L32
  dsimp only
  by_cases h : (i : Int) < E.length
  · have hm := hmem _ (getD_mem (l := E) (i := i) (d := 0) (by omega))
    rw [byB_t h, if_pos ⟨by omega, h⟩, Int.toNat_natCast, byB_f (by omega), if_pos ⟨by omega, h⟩, byB_not, byB_t (by omega), if_pos ⟨by omega, h⟩, if_pos ⟨by omega, by omega⟩, byB_nef hm.2, byB_not]
    have hnext := ih2 (k - 1) ((y0, y1, true, (), (n : Int), (), ((b + 1 : Nat) : Int), (), ((i + 1 : Nat) : Int), ()), (256, m, (), ()), D, E, df 0 A, ()) (by omega) ⟨i + 1, by omega, rfl⟩
    rw [w64 (n := (i : Int) + 1) (by omega) (by omega)]
    have hc : ((i + 1 : Nat) : Int) = (i : Int) + 1 := by omega
    rw [hc] at hnext
    by_cases h0 : (i : Int) ≤ 0
    · rw [byB_t h0, hnext]
    · rw [byB_f h0, if_pos ⟨by omega, h⟩, w64 (by omega) (by omega), if_pos ⟨by omega, by omega⟩, show ((i : Int) - 1).toNat = i - 1 by omega, byB_f, hnext]
      have hlt' := List.pairwise_iff_getElem.1 hlt (i - 1) i (by omega) (by omega) (by omega)
      rw [getD_eq (by omega), getD_eq (by omega)]
      omega
  · rw [byB_f h, w64 (by omega) (by omega)]
    have hc : ((b + 1 : Nat) : Int) + 1 = ((b + 1 + 1 : Nat) : Int) := by omega
    rw [hc]
    exact ih

theorem once_tick (h : On n (b + 1) b D A) (hn : n ≤ 60) (hb : b ≤ 300) (hN : 2000 < N)
    (ih : ∀ A', On n (b + 1) (b + 1) D A' → again ((y0, y1, true, (), (n : Int), (), ((b + 1 + 1 : Nat) : Int), ()), (256, (A'.length : Int), (), ()), D, df 0 A', ()) = some ((true, ()), ())) :
    ((Tick_12 N (((), ()), (256, (A.length : Int), (), ()), df 0 A, ())).bind fun y209 =>
        loopN N (DeltaOnce_6_L25 N again) ((y0, y1, true, (), (n : Int), (), ((b + 1 : Nat) : Int), (), 0, 0, ()), (y209.2.1.1, y209.2.1.2.1, (), ()), D, y209.2.2.2.2.1, y209.2.2.2.1, ())) = some ((true, ()), ()) := by
  have hD := h.len
  rw [tick_at h.gd (by omega), bnd, h.outs]
  dsimp only
  have hih := ih _ h.tick
  have hcb : ((b : Int) + 1) = ((b + 1 : Nat) : Int) := by omega
  rw [hcb]
  refine loopN_ind (fun k s => ∃ i : Nat, i + k = n ∧ s = ((y0, y1, true, (), (n : Int), (), ((b + 1 : Nat) : Int), (), ((goes D ((b + 1 : Nat) : Int) i).length : Int), (i : Int), ()), (256, ((aft 1 A).length : Int), (), ()), D, goes D ((b + 1 : Nat) : Int) n, df 0 (aft 1 A), ())) (fun _ => some ((true, ()), ())) ?_ n _ N ⟨0, by omega, rfl⟩ (by omega)
  rintro k s ag ⟨i, hik, rfl⟩ ih2
  unfold DeltaOnce_6_L25
  dsimp only
  by_cases hi : (i : Int) < n
  · have hgl : (goes D ((b + 1 : Nat) : Int) i).length ≤ i := by
      unfold goes; rw [List.length_map]; have := List.length_filter_le (fun k => decide (D.getD k 0 = ((b + 1 : Nat) : Int))) (List.range i); simpa using this
    have hs := goes_succ D ((b + 1 : Nat) : Int) i
    rw [byB_t hi, if_pos ⟨by omega, by omega⟩, Int.toNat_natCast]
    have hnext := ih2 (k - 1) ((y0, y1, true, (), (n : Int), (), ((b + 1 : Nat) : Int), (), ((goes D ((b + 1 : Nat) : Int) (i + 1)).length : Int), ((i + 1 : Nat) : Int), ()), (256, ((aft 1 A).length : Int), (), ()), D, goes D ((b + 1 : Nat) : Int) n, df 0 (aft 1 A), ()) (by omega) ⟨i + 1, by omega, rfl⟩
    have hc : ((i + 1 : Nat) : Int) = (i : Int) + 1 := by omega
    rw [hc] at hnext
    rw [w64 (n := (i : Int) + 1) (by omega) (by omega), w64 (by omega) (by omega)]
    by_cases e : D.getD i 0 = ((b + 1 : Nat) : Int)
    · rw [if_pos e] at hs
      rw [byB_eqt e, show ((goes D ((b + 1 : Nat) : Int) i).length : Int) + 1 = ((goes D ((b + 1 : Nat) : Int) (i + 1)).length : Int) by rw [hs]; omega]
      exact hnext
    · rw [if_neg e] at hs
      rw [byB_eqf e, show ((goes D ((b + 1 : Nat) : Int) i).length : Int) = ((goes D ((b + 1 : Nat) : Int) (i + 1)).length : Int) by rw [hs]; omega]
      exact hnext
  · have e : i = n := by omega
    subst e
    rw [byB_f hi, byB_nef rfl]
    exact once_check hn hb hD hN _ hih

theorem once_16 {f : Bool} (h : On n (b + 1) b D A) (hn : n ≤ 60) (hb : b ≤ 300) (g1 : ∀ e0 ∈ y1, (Lit.int .i64 e0).wf = true) (hf : f = true → b < y1.length ∧ 0 < n) (hN : 2000 < N)
    (ih : ∀ D' A', On n (b + 1) (b + 1) D' A' → again ((y0, y1, true, (), (n : Int), (), ((b + 1 + 1 : Nat) : Int), ()), (256, (A'.length : Int), (), ()), D', df 0 A', ()) = some ((true, ()), ())) :
    DeltaOnce_6_J16 N again ((y0, y1, true, (), (n : Int), (), ((b + 1 : Nat) : Int), (b : Int), f, ()), (256, (A.length : Int), (), ()), D, df 0 A, ()) = some ((true, ()), ()) := by
  have hD := h.len
  unfold DeltaOnce_6_J16
  dsimp only
  cases f with
  | false =>
    rw [byB_false]
    exact once_tick h hn hb hN fun A' => ih D A'
  | true =>
    obtain ⟨hf1, hf2⟩ := hf rfl
    rw [byB_true, if_pos ⟨by omega, by omega⟩, Int.toNat_natCast, pick_at (g1 _ (getD_mem hf1)) (by omega), bnd]
    dsimp only
    have hp := pk_range (c := y1.getD b 0) (n := (n : Int)) (by omega)
    generalize hx : pk (y1.getD b 0) (n : Int) = x at hp ⊢
    obtain ⟨x, rfl⟩ : ∃ q : Nat, x = q := ⟨x.toNat, by omega⟩
    rw [Int.toNat_natCast]
    have hsome := ix_iff (id := (x : Int)) h.ndp
    by_cases hlt : (x : Int) < ((b + 1 : Nat) : Int)
    · rw [byB_t hlt, if_pos ⟨by omega, by omega⟩, cancel_at h.gd (by omega), bnd]
      dsimp only
      by_cases hdue : D.getD x 0 < ((b + 1 : Nat) : Int)
      · have hno : ∀ s, ((x : Int), s) ∉ A := fun s hs => by
          have h2 := ((h.mem _ _).1 hs).2.1
          rw [Int.toNat_natCast] at h2
          omega
        have hix : (ix (x : Int) A).isSome = false := by
          rw [Bool.eq_false_iff]; intro hh
          obtain ⟨t, ht⟩ := hsome.1 hh
          exact hno t ht
        rw [hix, decide_eq_true hdue]
        simp only [Bool.not_true, BEq.rfl, byB_false]
        rw [h.gone hno]
        exact once_tick h hn hb hN fun A' => ih D A'
      · have hix : (ix (x : Int) A).isSome = true := hsome.2 ⟨_, (h.mem _ _).2 ⟨by omega, by rw [Int.toNat_natCast]; omega, rfl⟩⟩
        rw [hix, decide_eq_false hdue]
        simp only [Bool.not_true, Bool.not_false, BEq.rfl, byB_false, byB_true]
        rw [if_pos ⟨by omega, by omega⟩]
        exact once_tick (h.cancel (by omega)) hn hb hN fun A' => ih (D.set x 0) A'
    · rw [byB_f hlt, cancel_at h.gd (by omega), bnd]
      dsimp only
      have hno : ∀ s, ((x : Int), s) ∉ A := fun s hs => by
        have h2 := ((h.mem _ _).1 hs).1
        omega
      have hix : (ix (x : Int) A).isSome = false := by
        rw [Bool.eq_false_iff]; intro hh
        obtain ⟨t, ht⟩ := hsome.1 hh
        exact hno t ht
      rw [hix, h.gone hno]
      simp only [BEq.rfl, Bool.not_true, byB_false]
      exact once_tick h hn hb hN fun A' => ih D A'

theorem once_15 (h : On n (b + 1) b D A) (hn : n ≤ 60) (hb : b ≤ 300) (g1 : ∀ e0 ∈ y1, (Lit.int .i64 e0).wf = true) (hN : 2000 < N)
    (ih : ∀ D' A', On n (b + 1) (b + 1) D' A' → again ((y0, y1, true, (), (n : Int), (), ((b + 1 + 1 : Nat) : Int), ()), (256, (A'.length : Int), (), ()), D', df 0 A', ()) = some ((true, ()), ())) :
    DeltaOnce_6_J15 N again ((y0, y1, true, (), (n : Int), (), ((b + 1 : Nat) : Int), (b : Int), ()), (256, (A.length : Int), (), ()), D, df 0 A, ()) = some ((true, ()), ()) := by
  unfold DeltaOnce_6_J15
  dsimp only
  rw [join_eq]
  by_cases h1 : (b : Int) < y1.length
  · rw [byB_t h1]
    exact once_16 h hn hb g1 (fun hf => ⟨by omega, by simp at hf; omega⟩) hN ih
  · rw [byB_f h1]
    exact once_16 h hn hb g1 (fun hf => by cases hf) hN ih
end

theorem DeltaOnce (y0 : List Int) (y1 : List Int) (gy0 : (y0.length * 8 ≤ 140737488351232 ∧ ∀ e0 ∈ y0, (Lit.int .i64 e0).wf = true)) (gy1 : (y1.length * 8 ≤ 140737488351232 ∧ ∀ e0 ∈ y1, (Lit.int .i64 e0).wf = true)) : ∃ N, DeltaOnce_6 N ((y0, y1, ()), ()) = some ((true, ()), ()) := by
  obtain ⟨N, hN⟩ : ∃ N : Nat, 2000 < N := ⟨2001, by omega⟩
  refine ⟨N, ?_⟩
  unfold DeltaOnce_6
  dsimp only
  rw [examples_eq (by omega), bnd, new_at (by omega), bnd]
  dsimp only
  generalize hnn : (if 60 < (y0.length : Int) then 60 else (y0.length : Int)) = m
  have hm : 0 ≤ m ∧ m ≤ 60 ∧ m ≤ y0.length := by rw [← hnn]; split <;> omega
  obtain ⟨n, rfl⟩ : ∃ q : Nat, m = q := ⟨m.toNat, by omega⟩
  clear hnn
  rw [if_pos ⟨by omega, by omega, by omega⟩, Int.toNat_natCast]
  have h0 : On n 0 0 (List.replicate n 0) [] := by
    refine ⟨Gd.nil, List.Pairwise.nil, by simp [ndp, ids], by simp, by simp, fun k s => by simp; omega, fun k => ?_, fun k _ => ?_⟩
    · rw [List.getD_eq_getElem?_getD, List.getElem?_replicate]; split <;> simp
    · rw [List.getD_eq_getElem?_getD, List.getElem?_replicate]; split <;> simp
  refine loopN_ind (fun k s => ∃ (b : Nat) (D : List Int) (A : List (Int × Int)), b + k = 301 ∧ b ≤ 300 ∧ On n b b D A ∧ s = ((y0, y1, true, (), (n : Int), (), ((b + 1 : Nat) : Int), ()), (256, (A.length : Int), (), ()), D, df 0 A, ())) (fun _ => some ((true, ()), ())) ?_ 301 _ N ⟨0, _, [], by omega, by omega, h0, rfl⟩ (by omega)
  clear h0
  rintro k s again ⟨b, D, A, hbk, hb300, h, rfl⟩ ih
  have hD := h.len
  unfold DeltaOnce_6_L8
  dsimp only
  by_cases hb : b < 300
  · rw [byB_t (by omega), w64 (by omega) (by omega), join_eq, show ((b + 1 : Nat) : Int) - 1 = (b : Int) by omega]
    have hih : ∀ D' A', On n (b + 1) (b + 1) D' A' → again ((y0, y1, true, (), (n : Int), (), ((b + 1 + 1 : Nat) : Int), ()), (256, (A'.length : Int), (), ()), D', df 0 A', ()) = some ((true, ()), ()) := fun D' A' h' => ih (k - 1) _ (by omega) ⟨b + 1, D', A', by omega, by omega, h', rfl⟩
    by_cases hbn : (b : Int) < n
    · have hq := pk_range (c := y0.getD b 0) (n := 200) (by omega)
      have hid : ∀ t, ((b : Int), t) ∉ A := fun t ht => by have := ((h.mem _ _).1 ht).1; omega
      rw [byB_t hbn, if_pos ⟨by omega, by omega⟩, Int.toNat_natCast, pick_at (gy0.2 _ (getD_mem (by omega))) (by omega), bnd, if_pos ⟨by omega, by omega⟩, if_pos ⟨by omega, by omega⟩, bnd]
      dsimp only
      rw [w64 (n := 1 + pk (y0.getD b 0) 200) (by omega) (by omega), add_at h.gd (by omega) (by omega), bnd, addD_ok (by omega) (by omega) hid (by have := h.few; omega)]
      dsimp only
      rw [byB_nef rfl, w64 (by omega) (by omega), show ((b + 1 : Nat) : Int) + pk (y0.getD b 0) 200 = (b : Int) + (1 + pk (y0.getD b 0) 200) by omega]
      exact once_15 (h.add (by omega) (by omega) (by omega)) (by omega) (by omega) gy1.2 hN hih
    · rw [byB_f hbn]
      exact once_15 (h.idle (by omega)) (by omega) (by omega) gy1.2 hN hih
  · rw [byB_f (by omega), byB_true, len_at, bnd]
    have : A = [] := nil_of fun id t hm => by
      have h1 := ((h.mem id t).1 hm).2.1
      have h2 := h.top id.toNat
      omega
    rw [this]
    rfl
end Go.Proofs.Ytcaapoidmfkldaa.Pure
