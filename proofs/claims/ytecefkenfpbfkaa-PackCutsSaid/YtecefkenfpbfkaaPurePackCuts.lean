/- The law PackCuts, with no program in sight. Conditions: none. -/
import Derived.Test.YtecefkenfpbfkaaXR
namespace Go.Proofs.Ytecefkenfpbfkaa.Pure
open Go Go.Proofs.YtecefkenfpbfkaaM Go.Proofs.YtecefkenfpbfkaaX Go.Proofs.YtecefkenfpbfkaaL Go.Proofs.YtecefkenfpbfkaaC
set_option linter.unusedVariables false
set_option linter.unusedSimpArgs false
theorem numbers_same {N : Nat} (l : List Int) (hl : l.length < N) (hb : l.length < 9223372036854775807) : Ev (numbers_15 N ((l, l, ()), ())) fun y => y = ((true, ()), ()) := by
  unfold numbers_15
  dsimp only
  rw [byB_nef rfl]
  refine Ev.loop (k := l.length) (fun k st => ∃ i : Nat, st = ((l, l, (i : Int), ()), ()) ∧ k = l.length - i ∧ i ≤ l.length) ?_ ⟨0, rfl, rfl, by omega⟩ hl
  rintro k st again ⟨i, rfl, rfl, hi⟩ ih
  unfold numbers_15_L4
  dsimp only
  refine Ev.dec (fun h => ?_) fun h => Ev.mk rfl
  rw [if_pos (by omega), if_pos (by omega), byB_nef rfl]
  have e1 : IntKind.wrap .i64 ((i : Int) + 1) = ((i + 1 : Nat) : Int) := by rw [w64 (by omega) (by omega)]; omega
  rw [e1]
  exact ih (l.length - (i + 1)) _ (by omega) ⟨i + 1, rfl, rfl, by omega⟩
theorem encL_len (l : List Int) (h : okL l) : (encL l).length ≤ 10 * l.length := by
  induction l with
  | nil => simp [encL]
  | cons x t ih =>
    have := ih fun y hy => h y (List.mem_cons_of_mem _ hy)
    have hx := h x List.mem_cons_self
    have e : encL (x :: t) = encB x.toNat ++ encL t := by rw [encL, List.flatMap_cons, ← encL]
    have h1 := encB_len x.toNat
    have h2 := enc_len (n := x.toNat) (by omega)
    rw [e, List.length_append, List.length_cons]
    omega
theorem encL_app (a b : List Int) : encL (a ++ b) = encL a ++ encL b := by unfold encL; rw [List.flatMap_append]
theorem extract_take (s : ByteArray) (c : Nat) (h : c ≤ s.size) : (s.extract 0 c).data.toList = s.data.toList.take c := by
  rw [ByteArray.data_extract]
  simp [List.extract]
theorem ends_at {N : Nat} (hN : 40000 < N) {a : List Int} (hal : a.length ≤ 500) (ha : okL a) {s : ByteArray} (hs : s.data.toList = encL a) (cut : Int) (h0 : 0 ≤ cut) (h1 : cut ≤ 9223372036854775807) :
    Ev (PackCuts_4_J15 N ((a, cut, true, s, true, true, ()), ())) fun y => y = ((true, ()), ()) := by
  have hsl := size_len s
  have hsl2 := congrArg List.length hs
  have hlen := encL_len a ha
  unfold PackCuts_4_J15
  dsimp only
  refine Ev.beq (fun h => ?_) fun h => ?_
  · rw [byB_true, byB_true]
    exact Ev.mk rfl
  · have hpos : 0 < s.size := by omega
    rw [if_neg (by omega)]
    have ht := Int.tmod_eq_emod_of_nonneg (b := (s.size : Int)) h0
    have ht0 := Int.emod_nonneg cut (b := (s.size : Int)) (by omega)
    have ht1 := Int.emod_lt_of_pos cut (b := (s.size : Int)) (by omega)
    obtain ⟨c, hc⟩ : ∃ c : Nat, cut % (s.size : Int) = c := ⟨(cut % (s.size : Int)).toNat, by omega⟩
    rw [hc] at ht0 ht1 ht
    have hcl : c < s.size := by omega
    simp only [ht]
    rw [if_pos ⟨by omega, by omega, by omega⟩]
    simp only [Int.toNat_natCast]
    have hex := extract_take s c (by omega)
    have hesz : (s.extract 0 c).size = c := by rw [size_len, hex, List.length_take]; omega
    refine Ev.bind (read_at (s := s.extract 0 c) (by rw [hesz]; omega) (by rw [hesz]; omega)) ?_
    rintro y rfl
    dsimp only
    rw [hex, hs]
    unfold ReadS
    have hk : (List.take c (encL a)).length = c := by rw [List.length_take, ← hs]; omega
    rw [hk]
    have hcut := cut_read a c (c + 1) [] ha (by simp; omega) (by rw [← hs]; omega) (by omega)
    rcases hcut with ⟨r, e1, e2, e3⟩ | ⟨e1, e2, e3⟩
    · rw [e1]
      dsimp only
      have e2' : (r.length : Int) ≤ (a.length : Int) := by simp at e2; omega
      refine Ev.beq (fun h => ?_) fun h => ?_
      · rw [byB_true, byB_true, byB_true, show (((0 : Int) == 0) == true) = true from rfl, byB_true, decide_eq_true e2']
        exact Ev.mk rfl
      · have e4 := e3 (by omega)
        have e5 : IntKind.wrap .i64 ((c : Int) - 1) = ((c - 1 : Nat) : Int) := by rw [w64 (by omega) (by omega)]; omega
        have q : 0 ≤ ((c - 1 : Nat) : Int) ∧ (((c - 1 : Nat) : Int)).toNat < s.size := ⟨by omega, by rw [Int.toNat_natCast]; omega⟩
        obtain ⟨b, hb1, hb2⟩ := byte_at (s := s) (c := c - 1) (by omega)
        have hbd : (encL a).getD (c - 1) 0 = b := by
          rw [← hs, drop_getD (d := 0) (by omega)] at *
          simp only [List.cons.injEq] at hb1
          exact hb1.1
        rw [hbd] at e4
        simp only [e5]
        rw [dif_pos q]
        simp only [hb2 q]
        rw [byB_true, byB_true, byB_true, decide_eq_true (show ((b.toNat : Nat) : Int) < 128 by omega), show (((0 : Int) == 0) == true) = true from rfl, byB_true, byB_true, decide_eq_true e2']
        exact Ev.mk rfl
    · rw [e1]
      dsimp only
      rw [byB_eqf (by omega)]
      have e5 : IntKind.wrap .i64 ((c : Int) - 1) = ((c - 1 : Nat) : Int) := by rw [w64 (by omega) (by omega)]; omega
      have q : 0 ≤ ((c - 1 : Nat) : Int) ∧ (((c - 1 : Nat) : Int)).toNat < s.size := ⟨by omega, by rw [Int.toNat_natCast]; omega⟩
      obtain ⟨b, hb1, hb2⟩ := byte_at (s := s) (c := c - 1) (by omega)
      have hbd : (encL a).getD (c - 1) 0 = b := by
        rw [← hs, drop_getD (d := 0) (by omega)] at *
        simp only [List.cons.injEq] at hb1
        exact hb1.1
      rw [hbd] at e3
      simp only [e5]
      rw [dif_pos q]
      simp only [hb2 q]
      rw [byB_true, byB_true, byB_true, decide_eq_false (show ¬ ((b.toNat : Nat) : Int) < 128 by omega), show (((6 : Int) == 0) == false) = true from rfl, byB_true, byB_false, byB_eqt rfl]
      exact Ev.mk (by simp)
theorem PackCuts (y0 : List Int) (y1 : List Int) (y2 : Int) (gy0 : (y0.length * 8 ≤ 140737488351232 ∧ ∀ e0 ∈ y0, (Lit.int .i64 e0).wf = true)) (gy1 : (y1.length * 8 ≤ 140737488351232 ∧ ∀ e0 ∈ y1, (Lit.int .i64 e0).wf = true)) (gy2 : (Lit.int .i64 y2).wf = true) : ∃ N, PackCuts_4 N ((y0, y1, y2, ()), ()) = some ((true, ()), ()) := by
  have g2 := wf64 gy2
  refine ⟨50000, Ev.eq (Q := fun r => r = ((true, ()), ())) ?_ fun _ h => h⟩
  unfold PackCuts_4
  dsimp only
  rw [show examples_10 50000 ((), ()) = some ((true, ()), ()) from by unfold examples_10; rw [if_pos (by omega)], bnd]
  have cutl : ∀ l : List Int, ∃ n : Nat, (if 500 < (l.length : Int) then 500 else (l.length : Int)) = n ∧ n ≤ 500 ∧ n ≤ l.length := fun l => by
    by_cases h : 500 < (l.length : Int)
    · exact ⟨500, by rw [if_pos h]; rfl, by omega, by omega⟩
    · exact ⟨l.length, by rw [if_neg h], by omega, by omega⟩
  obtain ⟨n, hn, hn1, hn2⟩ := cutl y0
  obtain ⟨m, hm, hm1, hm2⟩ := cutl y1
  rw [hn, hm]
  rw [if_pos ⟨by omega, by omega, by omega⟩, if_pos ⟨by omega, by omega, by omega⟩, Int.toNat_natCast, Int.toNat_natCast]
  have wa : ∀ x ∈ y0.take n, (Lit.int .i64 x).wf = true := fun x hx => gy0.2 x (List.mem_of_mem_take hx)
  have wb : ∀ x ∈ y1.take m, (Lit.int .i64 x).wf = true := fun x hx => gy1.2 x (List.mem_of_mem_take hx)
  have la : (y0.take n).length ≤ 500 := by rw [List.length_take]; omega
  have lb : (y1.take m).length ≤ 500 := by rw [List.length_take]; omega
  generalize y0.take n = a at *
  generalize y1.take m = b at *
  refine Ev.bind (write_at (l := a) (by omega) (by omega) wa) ?_
  rintro ⟨⟨s, e, u1⟩, u2⟩ hA
  refine Ev.bind (write_at (l := b) (by omega) (by omega) wb) ?_
  rintro ⟨⟨t, f, u3⟩, u4⟩ hB
  dsimp only at hA hB ⊢
  rw [join_eq]
  have bad : ∀ (z : Bool), z = true → (e = 1 ∨ f = 1) → Ev (PackCuts_4_J7 50000 ((a, b, y2, true, s, e, t, f, z, ()), ())) fun y => y = ((true, ()), ()) := by
    rintro z rfl hef
    unfold PackCuts_4_J7
    dsimp only
    rw [byB_true, byB_true]
    refine Ev.beq (fun h => Ev.mk rfl) fun h => ?_
    rcases hef with h1 | h1
    · exact absurd h1 h
    · exact Ev.mk (by rw [h1]; rfl)
  rcases hA with ⟨oa, rfl, sa⟩ | ⟨_, rfl⟩
  · rcases hB with ⟨ob, rfl, sb⟩ | ⟨_, rfl⟩
    · rw [byB_nef rfl]
      unfold PackCuts_4_J7
      dsimp only
      rw [show ((0 : Int) != 0) = false from rfl, byB_false]
      have h1 := encL_len a oa
      have h2 := encL_len b ob
      have z1 := size_len s
      have z2 := size_len t
      rw [sa] at z1
      rw [sb] at z2
      rw [if_pos (by omega)]
      have sst : (s ++ t).data.toList = encL (a ++ b) := by rw [encL_app, ← sa, ← sb]; simp
      have zst : (s ++ t).size = s.size + t.size := by rw [size_len, sst, encL_app, List.length_append]; omega
      refine Ev.bind (read_at (s := s ++ t) (by omega) (by omega)) ?_
      rintro y rfl
      dsimp only
      have hr : ReadS (s ++ t).data.toList = (a ++ b, 0) := by
        rw [sst]
        unfold ReadS
        have := readS_enc (a ++ b) ((encL (a ++ b)).length + 1) [] (fun x hx => by
          rcases List.mem_append.1 hx with hx | hx
          · exact oa x hx
          · exact ob x hx) (by simp; omega) (by omega)
        rw [this]
        rfl
      rw [hr]
      dsimp only
      rw [join_eq, byB_nef rfl]
      rw [w64 (by omega) (by omega)]
      have hl : (((a ++ b).length : Int) != (a.length : Int) + (b.length : Int)) = false := by rw [List.length_append]; simp
      rw [hl]
      unfold PackCuts_4_J10
      dsimp only
      rw [byB_false, if_pos ⟨by omega, by omega, by rw [List.length_append]; omega⟩]
      have t1 : ((a ++ b).drop 0).take ((a.length : Int) - 0).toNat = a := by
        rw [show ((a.length : Int) - 0).toNat = a.length by omega, List.drop_zero, List.take_left]
      rw [t1]
      refine Ev.bind (numbers_same a (by omega) (by omega)) ?_
      rintro y rfl
      rw [if_pos ⟨by omega, by rw [List.length_append]; omega, by omega⟩]
      have t2 : ((a ++ b).drop ((a.length : Int)).toNat).take (((a ++ b).length : Int) - (a.length : Int)).toNat = b := by
        rw [Int.toNat_natCast, List.drop_left, List.take_of_length_le (by rw [List.length_append]; omega)]
      rw [t2]
      refine Ev.bind (numbers_same b (by omega) (by omega)) ?_
      rintro y rfl
      dsimp only
      rw [join_eq]
      refine Ev.dec (fun h => ?_) fun h => ?_
      · rw [w64 (show -9223372036854775808 ≤ y2 + 1 by omega) (by omega), w64 (by omega) (by omega)]
        exact ends_at (by omega) la oa sa _ (by omega) (by omega)
      · exact ends_at (by omega) la oa sa _ (by omega) (by omega)
    · rw [byB_nef rfl]
      exact bad _ rfl (.inr rfl)
  · rw [byB_net (by omega)]
    exact bad _ rfl (.inl rfl)
end Go.Proofs.Ytecefkenfpbfkaa.Pure
