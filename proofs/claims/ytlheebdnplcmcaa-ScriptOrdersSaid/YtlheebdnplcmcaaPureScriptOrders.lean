/- The plain law ScriptOrders. Conditions: its own. -/
import Derived.Test.YtlheebdnplcmcaaXTick
namespace Go.Proofs.Ytlheebdnplcmcaa.Pure
open Go Go.Proofs.YtlheebdnplcmcaaM Go.Proofs.YtlheebdnplcmcaaX Go.Proofs.YtlheebdnplcmcaaL Go.Proofs.YtlheebdnplcmcaaC
set_option linter.unusedVariables false

theorem loop14_at {N n : Nat} (h8 : n ≤ 8) (hN : 10 < N) {t x0 : Int} (ht : 0 ≤ t) (ht2 : t < 1099511627776) {x1 : List Rel} {x2 : List (List Int)} {x3 : List Int} (h3 : x3.length * 8 ≤ 140737488351232) {L : List Int} :
    Ev (loopN N (ScriptOrders_6_L14 N) ((t, (), true, (), (), (), (), 0, ()), (x0, x1, x2, x3, ()), ((n : Int), 0, 0, 0, 0, 0, 0, 0, [], ()), ord n L, ord n L, List.replicate n false, ())) fun z => z = ((true, ()), ()) := by
  have hlen := ord_len (n := n) (l := L)
  have hnd := ord_nodup (n := n) (l := L)
  have hmem : ∀ y, y ∈ ord n L ↔ 0 ≤ y ∧ y < n := fun y => ord_mem
  generalize ord n L = o at *
  refine Ev.loop (k := n) (fun k st => ∃ (i : Nat) (seen : List Bool), st = ((t, (), true, (), (), (), (), (i : Int), ()), (x0, x1, x2, x3, ()), ((n : Int), 0, 0, 0, 0, 0, 0, 0, [], ()), o, o, seen, ()) ∧ i + k = n ∧ seen.length = n ∧ ∀ q : Nat, q < n → (seen.getD q false = true ↔ (q : Int) ∈ o.take i)) ?_ ⟨0, _, rfl, by omega, by simp, fun q hq => by rw [getD_rep hq]; simp⟩ (by omega)
  rintro k st again ⟨i, seen, rfl, hk, hsl, hs⟩ ih
  unfold ScriptOrders_6_L14
  dsimp only
  by_cases h : (i : Int) < o.length
  · have hin : i < o.length := by omega
    have hg : (0 : Int) ≤ i ∧ (i : Int) < o.length := ⟨by omega, h⟩
    have hv := (hmem _).1 (getD_mem (d := (0 : Int)) hin)
    have hsplit : o = o.take i ++ o.getD i 0 :: o.drop (i + 1) := by
      rw [← drop_getD hin, List.take_append_drop]
    have hnot : o.getD i 0 ∉ o.take i := by
      intro hm
      have h1 := hnd
      rw [hsplit, List.nodup_append] at h1
      exact h1.2.2 _ hm _ (List.mem_cons_self ..) rfl
    have hts := take_succ_getD (d := (0 : Int)) hin
    rw [byB_t h, if_pos hg, Int.toNat_natCast]
    obtain ⟨q, hq⟩ : ∃ q : Nat, o.getD i 0 = q := ⟨(o.getD i 0).toNat, by omega⟩
    rw [hq] at hv hnot hts ⊢
    rw [byB_f (by omega), if_pos hg, byB_f (by omega), if_pos hg, if_pos ⟨by omega, by omega⟩, Int.toNat_natCast]
    have hsq : seen.getD q false = false := by
      cases hb : seen.getD q false with
      | false => rfl
      | true => exact absurd ((hs q (by omega)).1 hb) hnot
    rw [hsq, byB_false, if_pos hg, if_pos hg, byB_nef rfl, if_pos hg, if_pos ⟨by omega, by omega⟩, w64 (by omega) (by omega)]
    refine ih (k - 1) _ (by omega) ⟨i + 1, seen.set q true, by simp, by omega, by simpa using hsl, fun p hp => ?_⟩
    rw [getD_set (by omega), hts, List.mem_append, List.mem_singleton]
    by_cases e : q = p
    · rw [if_pos e, e]; simp
    · rw [if_neg e, hs p hp]
      constructor
      · exact .inl
      · rintro (h1 | h1)
        · exact h1
        · omega
  · rw [byB_f h, lat_at, bnd, byB_true]
    dsimp only
    have hr := lat_range x3 t
    rw [byB_t hr.1, byB_t hr.2, w64 (by omega) (by omega), lat_at, bnd]
    have e : lat x3 (t + x3.length) = lat x3 t := by unfold lat; rw [turn_round ht]
    rw [e]
    dsimp only
    rw [beq_self_eq_true]
    exact Ev.mk rfl

theorem ScriptOrders (y0 : Int) (y1 : Int × (List (Int × Int × Int)) × (List (List Int)) × (List Int)) (y2 : Int) (gy0 : (Lit.int .i64 y0).wf = true) (gy1 : ((Lit.int .i64 y1.1).wf = true ∧ ((y1.2.1.length * 24 ≤ 140737488351232 ∧ ∀ e0 ∈ y1.2.1, ((Lit.int .i64 e0.1).wf = true ∧ ((Lit.int .i64 e0.2.1).wf = true ∧ (Lit.int .i64 e0.2.2).wf = true))) ∧ ((y1.2.2.1.length * 24 ≤ 140737488351232 ∧ ∀ e0 ∈ y1.2.2.1, (e0.length * 8 ≤ 140737488351232 ∧ ∀ e1 ∈ e0, (Lit.int .i64 e1).wf = true)) ∧ (y1.2.2.2.length * 8 ≤ 140737488351232 ∧ ∀ e0 ∈ y1.2.2.2, (Lit.int .i64 e0).wf = true))))) (gy2 : (Lit.int .i64 y2).wf = true) : ∃ N, ScriptOrders_6 N ((y0, (y1.1, y1.2.1, y1.2.2.1, y1.2.2.2, ()), y2, ()), ()) = some ((true, ()), ()) := by
  obtain ⟨M, hM⟩ : ∃ M : Nat, 6000 ≤ M := ⟨6000, Nat.le_refl _⟩
  have h0 := wf64 gy0
  have h2 := wf64 gy2
  have hx2 := gy1.2.2.1
  have hx3 := gy1.2.2.2.1
  obtain ⟨x0, x1, x2, x3⟩ := y1
  dsimp only at hx2 hx3 ⊢
  refine ⟨M + big x2, ?_⟩
  have hl : ∀ l ∈ x2, l.length < M + big x2 ∧ l.length * 8 ≤ 140737488351232 := fun l hl => ⟨by have := big_le hl; omega, (hx2.2 l hl).1⟩
  have hx2l := hx2.1
  have hN : 6000 ≤ M + big x2 := by omega
  generalize M + big x2 = N at *
  unfold ScriptOrders_6
  dsimp only
  rw [examples_eq (by omega), bnd, join_eq]
  dsimp only
  have key : ∀ (c t : Int), 0 ≤ c → c ≤ 9223372036854775807 → 0 ≤ t → t < 1099511627776 →
      ((Order_11 N (((IntKind.wrap .i64 (1 + (Int.tmod c 8)), 0, 0, 0, 0, 0, 0, 0, [], ()), (x0, x1, x2, x3, ()), t, ()), ())).bind fun y23 =>
        (Order_11 N (((IntKind.wrap .i64 (1 + (Int.tmod c 8)), 0, 0, 0, 0, 0, 0, 0, [], ()), (x0, x1, x2, x3, ()), IntKind.wrap .i64 (t + (x2.length : Int)), ()), ())).bind fun y26 =>
        byB ((y23.2.1.length : Int) != IntKind.wrap .i64 (1 + (Int.tmod c 8)))
          (some ((false, ()), ()))
          (byB ((y26.2.1.length : Int) != IntKind.wrap .i64 (1 + (Int.tmod c 8)))
              (some ((false, ()), ()))
              (if (0 ≤ IntKind.wrap .i64 (1 + (Int.tmod c 8))) ∧ (IntKind.wrap .i64 (1 + (Int.tmod c 8)) ≤ IntKind.wrap .i64 (1 + (Int.tmod c 8))) ∧ (1 * IntKind.wrap .i64 (1 + (Int.tmod c 8)) ≤ 281474976710656) then
                loopN N (ScriptOrders_6_L14 N) ((t, (), true, (), (), (), (), 0, ()), (x0, x1, x2, x3, ()), (IntKind.wrap .i64 (1 + (Int.tmod c 8)), 0, 0, 0, 0, 0, 0, 0, [], ()), y23.2.1, y26.2.1, List.replicate (IntKind.wrap .i64 (1 + (Int.tmod c 8))).toNat false, ())
                else none))) = some ((true, ()), ()) := by
    intro c t hc0 hc1 ht0 ht1
    rw [Int.tmod_eq_emod_of_nonneg hc0]
    have e1 := Int.emod_nonneg c (show (8 : Int) ≠ 0 by omega)
    have e2 := Int.emod_lt_of_pos c (show (0 : Int) < 8 by omega)
    rw [w64 (by omega) (by omega)]
    obtain ⟨n, hn⟩ : ∃ n : Nat, 1 + c % 8 = n := ⟨(1 + c % 8).toNat, by omega⟩
    rw [hn]
    rw [order_at (by omega) hl, bnd, w64 (n := t + (x2.length : Int)) (by omega) (by omega), order_at (by omega) hl, bnd, turn_round ht0]
    have hc : cut8 n (turn x2 [] t) = ord n (turn x2 [] t) := by
      unfold cut8
      rw [if_pos (by omega), Int.toNat_natCast]
    rw [hc]
    dsimp only
    rw [ord_len, byB_nef rfl, byB_nef rfl, if_pos ⟨by omega, by omega, by omega⟩, Int.toNat_natCast]
    exact Ev.eq (loop14_at (by omega) (by omega) ht0 ht1 hx3) fun s h => h
  have main : ∀ c : Int, 0 ≤ c → c ≤ 9223372036854775807 → ScriptOrders_6_J4 N ((c, y2, (), true, ()), (x0, x1, x2, x3, ()), ()) = some ((true, ()), ()) := by
    intro c hc0 hc1
    unfold ScriptOrders_6_J4
    dsimp only
    have tm : ∀ m : Int, 0 ≤ m → 0 ≤ Int.tmod m 1099511627776 ∧ Int.tmod m 1099511627776 < 1099511627776 := by
      intro m hm
      rw [Int.tmod_eq_emod_of_nonneg hm]
      exact ⟨Int.emod_nonneg _ (by omega), Int.emod_lt_of_pos _ (by omega)⟩
    by_cases hneg : y2 < 0
    · rw [byB_t hneg]
      have e : IntKind.wrap .i64 (0 - (IntKind.wrap .i64 (y2 + 1))) = -(y2 + 1) := by
        rw [w64 (n := y2 + 1) (by omega) (by omega), w64 (by omega) (by omega)]; omega
      rw [e]
      obtain ⟨t0, t1⟩ := tm (-(y2 + 1)) (by omega)
      exact key c _ hc0 hc1 t0 t1
    · rw [byB_f hneg]
      obtain ⟨t0, t1⟩ := tm y2 (by omega)
      exact key c _ hc0 hc1 t0 t1
  by_cases hneg : y0 < 0
  · rw [byB_t hneg]
    have e : IntKind.wrap .i64 (0 - (IntKind.wrap .i64 (y0 + 1))) = -(y0 + 1) := by
      rw [w64 (n := y0 + 1) (by omega) (by omega), w64 (by omega) (by omega)]; omega
    rw [e]
    exact main _ (by omega) (by omega)
  · rw [byB_f hneg]
    exact main _ (by omega) (by omega)
end Go.Proofs.Ytlheebdnplcmcaa.Pure
