/- Go functions of the program told as plain functions, and that the code comes to what they tell; written by xprint.py, a program of this session. Conditions: as each theorem states them. -/
import Derived.Test.YtecefkenfpbfkaaPAx0
import Derived.Test.YtecefkenfpbfkaaPAx1
namespace Go.Proofs.Ytecefkenfpbfkaa.PA
open Go.RowKit Go.Proofs.YtecefkenfpbfkaaW.PrintWords Go.Proofs.YtecefkenfpbfkaaW.PrintLast Go.Proofs.YtecefkenfpbfkaaW.PrintMore
attribute [local go_sem] max2_int min2_int max_two min_two max_three min_three max_four min_four   -- for this text's walks alone
set_option linter.unusedVariables false
set_option linter.unusedSimpArgs false

/-! ### tourbillonlaw06_PackSizes: function 5 -/
mutual
def tourbillonlaw06_PackSizes.j0 : Nat → Int → Bool → ByteArray → Int → Bool → Option (Bool)
  | 0, _, _, _, _, _ => none
  | k + 1, x0, x3, x4, x5, x21 => if x21 = true then (if x3 = true then (some (x5 == 1)) else (some false)) else (tourbillonlaw06_PackSizes.l0 k x3 x4 x5 1 (wrap64 (Int.tdiv x0 128)))
def tourbillonlaw06_PackSizes.l0 : Nat → Bool → ByteArray → Int → Int → Int → Option (Bool)
  | 0, _, _, _, _, _ => none
  | k + 1, x3, x4, x5, x6, x7 => if x7 > 0 then (tourbillonlaw06_PackSizes.l0 k x3 x4 x5 (wrap64 (x6 + 1)) (wrap64 (Int.tdiv x7 128))) else (if (x4.size : Int) = x6 then (tourbillonlaw06_PackSizes.j2 k x3 x4 x6 (x5 != 0)) else (tourbillonlaw06_PackSizes.j2 k x3 x4 x6 true))
def tourbillonlaw06_PackSizes.j2 : Nat → Bool → ByteArray → Int → Bool → Option (Bool)
  | 0, _, _, _, _ => none
  | k + 1, x3, x4, x6, x42 => if x42 = true then (some false) else (tourbillonlaw06_PackSizes.l1 k x3 x4 x6 0)
def tourbillonlaw06_PackSizes.l1 : Nat → Bool → ByteArray → Int → Int → Option (Bool)
  | 0, _, _, _, _ => none
  | k + 1, x3, x4, x6, x8 => if x8 < x6 then (if 0 ≤ x8 then (if x8 < (x4.size : Int) then (if ((decide ((bt x4 x8) ≥ 128)) != (decide (x8 < (wrap64 (x6 - 1))))) = true then (some false) else (tourbillonlaw06_PackSizes.l1 k x3 x4 x6 (wrap64 (x8 + 1)))) else (none)) else (none)) else (some x3)
end
def tourbillonlaw06_PackSizes.f (k : Nat) (a0 : Int) : Option (Bool) := (tourbillonlaw06_examples.f k).bind fun t183 => ((pack_Write.f k (([a0] : List Int))).bind fun bt187 => (if a0 < 0 then (tourbillonlaw06_PackSizes.j0 k a0 t183 bt187.1 bt187.2 true) else (tourbillonlaw06_PackSizes.j0 k a0 t183 bt187.1 bt187.2 (decide (a0 > 4611686018427387904)))))
theorem tourbillonlaw06_PackSizes.mono_l : ∀ k, (∀ y0 y1 y2 y3 y4, LeO (tourbillonlaw06_PackSizes.j0 k y0 y1 y2 y3 y4) (tourbillonlaw06_PackSizes.j0 (k + 1) y0 y1 y2 y3 y4)) ∧ (∀ y0 y1 y2 y3 y4, LeO (tourbillonlaw06_PackSizes.l0 k y0 y1 y2 y3 y4) (tourbillonlaw06_PackSizes.l0 (k + 1) y0 y1 y2 y3 y4)) ∧ (∀ y0 y1 y2 y3, LeO (tourbillonlaw06_PackSizes.j2 k y0 y1 y2 y3) (tourbillonlaw06_PackSizes.j2 (k + 1) y0 y1 y2 y3)) ∧ (∀ y0 y1 y2 y3, LeO (tourbillonlaw06_PackSizes.l1 k y0 y1 y2 y3) (tourbillonlaw06_PackSizes.l1 (k + 1) y0 y1 y2 y3))
  | 0 => ⟨fun _ _ _ _ _ r h => by simp [tourbillonlaw06_PackSizes.j0] at h, fun _ _ _ _ _ r h => by simp [tourbillonlaw06_PackSizes.l0] at h, fun _ _ _ _ r h => by simp [tourbillonlaw06_PackSizes.j2] at h, fun _ _ _ _ r h => by simp [tourbillonlaw06_PackSizes.l1] at h⟩
  | k + 1 => by
    obtain ⟨ih0, ih1, ih2, ih3⟩ := tourbillonlaw06_PackSizes.mono_l k
    refine ⟨?_, ?_, ?_, ?_⟩
    · intro y0 y1 y2 y3 y4
      unfold tourbillonlaw06_PackSizes.j0
      repeat' first
      | (with_reducible exact ih0 _ _ _ _ _)
      | (with_reducible exact ih1 _ _ _ _ _)
      | (with_reducible exact ih2 _ _ _ _)
      | (with_reducible exact ih3 _ _ _ _)
      | (with_reducible exact pack_Write.mono _ _)
      | (with_reducible exact tourbillonlaw06_examples.mono _)
      | (with_reducible exact LeO.refl _)
      | (with_reducible exact LeO.none _)
      | (with_reducible refine LeO.ite ?_ ?_)
      | (with_reducible refine LeO.bind ?_ (fun _ => ?_))
      | exact ih0 _ _ _ _ _
      | exact ih1 _ _ _ _ _
      | exact ih2 _ _ _ _
      | exact ih3 _ _ _ _
      | exact pack_Write.mono _ _
      | exact tourbillonlaw06_examples.mono _
      | exact LeO.none _
      | refine LeO.ite ?_ ?_
      | refine LeO.bind ?_ (fun _ => ?_)
    · intro y0 y1 y2 y3 y4
      unfold tourbillonlaw06_PackSizes.l0
      repeat' first
      | (with_reducible exact ih0 _ _ _ _ _)
      | (with_reducible exact ih1 _ _ _ _ _)
      | (with_reducible exact ih2 _ _ _ _)
      | (with_reducible exact ih3 _ _ _ _)
      | (with_reducible exact pack_Write.mono _ _)
      | (with_reducible exact tourbillonlaw06_examples.mono _)
      | (with_reducible exact LeO.refl _)
      | (with_reducible exact LeO.none _)
      | (with_reducible refine LeO.ite ?_ ?_)
      | (with_reducible refine LeO.bind ?_ (fun _ => ?_))
      | exact ih0 _ _ _ _ _
      | exact ih1 _ _ _ _ _
      | exact ih2 _ _ _ _
      | exact ih3 _ _ _ _
      | exact pack_Write.mono _ _
      | exact tourbillonlaw06_examples.mono _
      | exact LeO.none _
      | refine LeO.ite ?_ ?_
      | refine LeO.bind ?_ (fun _ => ?_)
    · intro y0 y1 y2 y3
      unfold tourbillonlaw06_PackSizes.j2
      repeat' first
      | (with_reducible exact ih0 _ _ _ _ _)
      | (with_reducible exact ih1 _ _ _ _ _)
      | (with_reducible exact ih2 _ _ _ _)
      | (with_reducible exact ih3 _ _ _ _)
      | (with_reducible exact pack_Write.mono _ _)
      | (with_reducible exact tourbillonlaw06_examples.mono _)
      | (with_reducible exact LeO.refl _)
      | (with_reducible exact LeO.none _)
      | (with_reducible refine LeO.ite ?_ ?_)
      | (with_reducible refine LeO.bind ?_ (fun _ => ?_))
      | exact ih0 _ _ _ _ _
      | exact ih1 _ _ _ _ _
      | exact ih2 _ _ _ _
      | exact ih3 _ _ _ _
      | exact pack_Write.mono _ _
      | exact tourbillonlaw06_examples.mono _
      | exact LeO.none _
      | refine LeO.ite ?_ ?_
      | refine LeO.bind ?_ (fun _ => ?_)
    · intro y0 y1 y2 y3
      unfold tourbillonlaw06_PackSizes.l1
      repeat' first
      | (with_reducible exact ih0 _ _ _ _ _)
      | (with_reducible exact ih1 _ _ _ _ _)
      | (with_reducible exact ih2 _ _ _ _)
      | (with_reducible exact ih3 _ _ _ _)
      | (with_reducible exact pack_Write.mono _ _)
      | (with_reducible exact tourbillonlaw06_examples.mono _)
      | (with_reducible exact LeO.refl _)
      | (with_reducible exact LeO.none _)
      | (with_reducible refine LeO.ite ?_ ?_)
      | (with_reducible refine LeO.bind ?_ (fun _ => ?_))
      | exact ih0 _ _ _ _ _
      | exact ih1 _ _ _ _ _
      | exact ih2 _ _ _ _
      | exact ih3 _ _ _ _
      | exact pack_Write.mono _ _
      | exact tourbillonlaw06_examples.mono _
      | exact LeO.none _
      | refine LeO.ite ?_ ?_
      | refine LeO.bind ?_ (fun _ => ?_)
theorem tourbillonlaw06_PackSizes.mono : ∀ a0 k, LeO (tourbillonlaw06_PackSizes.f k a0) (tourbillonlaw06_PackSizes.f (k + 1) a0) := by
  intro a0 k
  obtain ⟨ih0, ih1, ih2, ih3⟩ := tourbillonlaw06_PackSizes.mono_l k
  unfold tourbillonlaw06_PackSizes.f
  repeat' first
      | (with_reducible exact ih0 _ _ _ _ _)
      | (with_reducible exact ih1 _ _ _ _ _)
      | (with_reducible exact ih2 _ _ _ _)
      | (with_reducible exact ih3 _ _ _ _)
      | (with_reducible exact pack_Write.mono _ _)
      | (with_reducible exact tourbillonlaw06_examples.mono _)
      | (with_reducible exact LeO.refl _)
      | (with_reducible exact LeO.none _)
      | (with_reducible refine LeO.ite ?_ ?_)
      | (with_reducible refine LeO.bind ?_ (fun _ => ?_))
      | exact ih0 _ _ _ _ _
      | exact ih1 _ _ _ _ _
      | exact ih2 _ _ _ _
      | exact ih3 _ _ _ _
      | exact pack_Write.mono _ _
      | exact tourbillonlaw06_examples.mono _
      | exact LeO.none _
      | refine LeO.ite ?_ ?_
      | refine LeO.bind ?_ (fun _ => ?_)
set_option maxHeartbeats 8000000 in
set_option maxRecDepth 100000 in
theorem tourbillonlaw06_PackSizes.calls (k : Nat) (a0 : Int) (r : Bool) (w : World) (h : tourbillonlaw06_PackSizes.f k a0 = some r) :
    Calls Try.prog 5 #[.int .i64 a0] w fun e w' => e = .returned (.bool r) ∧ Below w.heap.size w w' := by
  have HB := Aside0.mk (Below.refl w.heap.size w)
  have H : ((tourbillonlaw06_examples.f k).bind fun t183 => ((pack_Write.f k (([a0] : List Int))).bind fun bt187 => (if a0 < 0 then (tourbillonlaw06_PackSizes.j0 k a0 t183 bt187.1 bt187.2 true) else (tourbillonlaw06_PackSizes.j0 k a0 t183 bt187.1 bt187.2 (decide (a0 > 4611686018427387904)))))) = some r := h
  clear h
  replace H := Option.bind_eq_some_iff.mp H
  obtain ⟨t183, A20, H⟩ := H
  replace H : ((pack_Write.f k (([a0] : List Int))).bind fun bt187 => (if a0 < 0 then (tourbillonlaw06_PackSizes.j0 k a0 t183 bt187.1 bt187.2 true) else (tourbillonlaw06_PackSizes.j0 k a0 t183 bt187.1 bt187.2 (decide (a0 > 4611686018427387904))))) = some r := H
  have A2 := Aside0.mk A20
  clear A20
  obtain ⟨y184, hy184⟩ : ∃ y_ : List Int, y_ = (([a0] : List Int)) := ⟨_, rfl⟩
  replace H : ((pack_Write.f k y184).bind fun bt187 => (if a0 < 0 then (tourbillonlaw06_PackSizes.j0 k a0 t183 bt187.1 bt187.2 true) else (tourbillonlaw06_PackSizes.j0 k a0 t183 bt187.1 bt187.2 (decide (a0 > 4611686018427387904))))) = some r := by first | (rw [hy184]; with_reducible exact H) | (have H2_ := (Option.bind_some _ _).symm.trans H; rw [hy184]; with_reducible exact H2_) | (have H2_ := (Option.bind_some _ _).symm.trans H; with_reducible exact H2_) | with_reducible exact H | (rw [hy184]; exact H) | exact H
  have Ny184 := Aside0.mk hy184
  clear hy184
  replace H := Option.bind_eq_some_iff.mp H
  obtain ⟨⟨t187, t188⟩, A30, H⟩ := H
  replace H : (if a0 < 0 then (tourbillonlaw06_PackSizes.j0 k a0 t183 t187 t188 true) else (tourbillonlaw06_PackSizes.j0 k a0 t183 t187 t188 (decide (a0 > 4611686018427387904)))) = some r := H
  have A3 := Aside0.mk A30
  clear A30
  have HC4 := Aside0.mk H
  clear H
  go_enter Try.func5, Try.ntmps5
  go_upto_region 3 with (first | ((with_reducible refine gate_callee (f := 10) rfl ?_); refine goesL_ (some 9) rfl rfl Try.func10 (by kernel_rfl) rfl #[] rfl (by (try simp only [List.map_toArray, List.map_cons, List.map_nil]); first | done | rfl | (simp only [List.length_drop, List.length_take]; rfl)) ?_; (with_reducible refine (tourbillonlaw06_examples.calls k  t183 _ A2.out).mono ?_); rintro e w5 ⟨rfl, hb⟩; refine ⟨_, rfl, ?_⟩; have n0_ := Aside0.mk (below_step (by repeat (first | (with_reducible first | exact HB.out | apply below_alloc | apply pw_below_drewN | apply below_drew1) | exact HB.out)) hb); clear HB; have HB := n0_; clear n0_; (try clear hb); (try clear hb2); (try clear hk); (try clear hi)) | ((with_reducible refine gate_dst (N := 12) rfl ?_); refine Kd.R_lit (Kd.int .i64) _ 3 ?hg (N := 12) ?hd (xs := ([a0] : List Int)) (inner := [.int .i64 a0]) (ok := fun _ => True) (okp := fun _ => True) ?hr ?hp (fun _ hk => hk) trivial (Below.refl _ _) (Nat.le_refl _) (by simp) ?_; (case hd => rfl); (case hg => rfl); (case hr => first | (go_simp; done) | (go_simp; rfl)); (case hp => exact (Reps.one (show Kd.M (Kd.int .i64) _ _ _ a0 [.int .i64 a0] from rfl) (Reps.none _ _))); intro v185 w6 ho7 hb hg_ hnew_; clear hg_ hnew_; (first | rw [← Ny184.out] at ho7 | (simp only [Int.reduceToNat] at ho7; rw [← Ny184.out] at ho7)); have n0_ := Aside0.mk (Kd.R_lower ho7 (below_size (by repeat (first | (with_reducible first | exact HB.out | apply below_alloc | apply pw_below_drewN | apply below_drew1) | exact HB.out)))); have n1_ := Aside0.mk (below_step (by repeat (first | (with_reducible first | exact HB.out | apply below_alloc | apply pw_below_drewN | apply below_drew1) | exact HB.out)) hb); clear HB; have HO186 := n0_; have HB := n1_; clear n0_ n1_; clear hb ho7; obtain ⟨Ao8, co8, eo8⟩ := Kd.R_slice HO186.out; subst eo8) | ((with_reducible refine gate_callee (f := 11) rfl ?_); refine goesL_ (some 13) rfl rfl Try.func11 (by kernel_rfl) rfl #[.slice Ao8 y184.length co8] rfl (by (try simp only [List.map_toArray, List.map_cons, List.map_nil]); first | done | rfl | (simp only [List.length_drop, List.length_take]; rfl)) ?_; (with_reducible refine (pack_Write.calls k _ _ y184 t187 t188 _ ?side1 ?side2 A3.out).mono ?_); (case side1 => repeat (first | exact (Kd.R_reads' HO186.out).2.2 | (with_reducible refine Kd.C_alloc ?_ _) | (with_reducible refine Kd.C_drewN ?_ _) | (with_reducible refine Kd.C_drew ?_))); (case side2 => exact (Kd.R_reads' HO186.out).2.1); rintro e w9 ⟨rfl, hb⟩; refine ⟨_, rfl, ?_⟩; have n0_ := Aside0.mk (Kd.R_below (by (with_reducible repeat (first | apply Kd.R_alloc | apply Kd.R_drewN | apply Kd.R_drew)); exact HO186.out) hb); have n1_ := Aside0.mk (below_step (by repeat (first | (with_reducible first | exact HB.out | apply below_alloc | apply pw_below_drewN | apply below_drew1) | exact HB.out)) hb); clear HO186; clear HB; have HO186 := n0_; have HB := n1_; clear n0_ n1_; (try clear hb); (try clear hb2); (try clear hk); (try clear hi)))
  (try simp only [Act.put, List.setIfInBounds_toArray, List.set_cons_zero, List.set_cons_succ])
  go_cut [21] (fun v21 wc => ∃ (kq : Nat) (x21_3 : Bool), v21 = .bool x21_3 ∧ Aside0 (tourbillonlaw06_PackSizes.j0 kq a0 t183 t187 t188 x21_3 = some r) ∧ Aside0 (kq ≤ k) ∧ Aside0 (Below w.heap.size w wc))
  case first =>
    have H := HC4.out
    clear HC4
    by_cases c10 : a0 < 0
    · rw [if_pos c10] at H
      have c10b0 : decide (a0 < 0) = true := decide_eq_true c10
      clear c10
      (first | rw [c10b0] | (simp only [i64_w, i32_w]; rw [c10b0]) | skip)
      have H' := Aside0.mk H
      clear H
      go_wp2
      go_meet
      case rel => exact ⟨_, (true), (by first | rfl | (simp; done) | (simp [*]; done) | (simp only [bne, Bool.not_not]; done)), H', ⟨by first | omega | exact Nat.le_refl _⟩, ⟨by repeat (first | (with_reducible first | exact HB.out | apply below_alloc | apply pw_below_drewN | apply below_drew1) | exact HB.out)⟩⟩
    · rw [if_neg c10] at H
      have c10b0 : decide (a0 < 0) = false := decide_eq_false c10
      clear c10
      (first | rw [c10b0] | (simp only [i64_w, i32_w]; rw [c10b0]) | skip)
      have H' := Aside0.mk H
      clear H
      go_wp2
      go_meet
      case rel => exact ⟨_, (decide (a0 > 4611686018427387904)), (by first | rfl | (simp; done) | (simp [*]; done) | (simp only [bne, Bool.not_not]; done)), H', ⟨by first | omega | exact Nat.le_refl _⟩, ⟨by repeat (first | (with_reducible first | exact HB.out | apply below_alloc | apply pw_below_drewN | apply below_drew1) | exact HB.out)⟩⟩
  case rest =>
    clear HC4
    try clear c1
    try clear p2
    try clear c5
    try clear c10
    try clear c10b0
    obtain ⟨kq, x21_3, rfl, HA, HJ3, HB⟩ := hcut
    cases kq with
    | zero => exact absurd HA.out (by simp [tourbillonlaw06_PackSizes.j0])
    | succ kj3 =>
      have H := HA.out
      clear HA
      simp only [tourbillonlaw06_PackSizes.j0] at H
      by_cases c11 : x21_3 = true
      · subst c11
        have H1 : (if t183 = true then (some (t188 == 1)) else (some false)) = some r := by rw [if_pos rfl] at H; exact H
        clear H
        have H := H1
        clear H1
        by_cases c12 : t183 = true
        · subst c12
          have H1 : (some (t188 == 1)) = some r := by rw [if_pos rfl] at H; exact H
          clear H
          have H := H1
          clear H1
          obtain rfl := Option.some.inj H
          go_wp2
          go_ret
          exact ⟨by first | rfl | (simp [errW_none, errW_some] <;> rfl) | (simp [*, errW_none, errW_some] <;> rfl), by repeat (first | (with_reducible first | exact HB.out | apply below_alloc | apply pw_below_drewN | apply below_drew1) | exact HB.out)⟩
        · replace c12 := Bool.eq_false_iff.mpr c12
          subst c12
          have H1 : (some false) = some r := by rw [if_neg (show ¬ (false = true) by decide)] at H; exact H
          clear H
          have H := H1
          clear H1
          obtain rfl := Option.some.inj H
          go_wp2
          go_ret
          exact ⟨by first | rfl | (simp [errW_none, errW_some] <;> rfl) | (simp [*, errW_none, errW_some] <;> rfl), by repeat (first | (with_reducible first | exact HB.out | apply below_alloc | apply pw_below_drewN | apply below_drew1) | exact HB.out)⟩
      · replace c11 := Bool.eq_false_iff.mpr c11
        subst c11
        have H1 : (tourbillonlaw06_PackSizes.l0 kj3 t183 t187 t188 1 (wrap64 (Int.tdiv a0 128))) = some r := by rw [if_neg (show ¬ (false = true) by decide)] at H; exact H
        clear H
        have H := H1
        clear H1
        have H' := Aside0.mk H
        clear H
        go_wp2
        go_loopg [6, 7] kj3 (fun kq v6 v7 w' => ∃ (x6_2 : Int) (x7_2 : Int), v6 = .int .i64 x6_2 ∧ v7 = .int .i64 x7_2 ∧ Aside0 (tourbillonlaw06_PackSizes.l0 kq t183 t187 t188 x6_2 x7_2 = some r) ∧ Aside0 (kq ≤ kj3) ∧ Aside0 (Below w.heap.size w w'))
        case atStart => exact ⟨(1), (wrap64 (Int.tdiv a0 128)), (by first | rfl | (simp; done) | (simp [*]; done) | (simp only [bne, Bool.not_not]; done)), (by first | rfl | (simp; done) | (simp [*]; done) | (simp only [bne, Bool.not_not]; done)), H', ⟨Nat.le_refl _⟩, ⟨by repeat (first | (with_reducible first | exact HB.out | apply below_alloc | apply pw_below_drewN | apply below_drew1) | exact HB.out)⟩⟩
        case round =>
          clear H'
          try clear c1
          try clear p2
          try clear c5
          try clear p6
          try clear c10
          try clear c10b0
          try clear c11
          try clear c12
          try clear p2
          obtain ⟨x6_2, x7_2, rfl, rfl, HA, HK2, HB⟩ := hrel
          cases gk with
          | zero => exact absurd HA.out (by simp [tourbillonlaw06_PackSizes.l0])
          | succ k2 =>
            have H := HA.out
            clear HA
            simp only [tourbillonlaw06_PackSizes.l0] at H
            by_cases c13 : x7_2 > 0
            · rw [if_pos c13] at H
              have c13b0 : decide (0 < x7_2) = true := decide_eq_true c13
              clear c13
              have H' := Aside0.mk H
              clear H
              go_wp2
              go_roundg k2
              case measure => have := HJ3.out; have := HK2.out; omega
              case rel => exact ⟨(wrap64 (x6_2 + 1)), (wrap64 (Int.tdiv x7_2 128)), (by first | rfl | (simp; done) | (simp [*]; done) | (simp only [bne, Bool.not_not]; done)), (by first | rfl | (simp; done) | (simp [*]; done) | (simp only [bne, Bool.not_not]; done)), H', ⟨by have := HJ3.out; have := HK2.out; omega⟩, ⟨by repeat (first | (with_reducible first | exact HB.out | apply below_alloc | apply pw_below_drewN | apply below_drew1) | exact HB.out)⟩⟩
            · rw [if_neg c13] at H
              have c13b0 : decide (0 < x7_2) = false := decide_eq_false c13
              clear c13
              have HC14 := Aside0.mk H
              clear H
              go_upto_region 10 with (fail)
              go_cut [42] (fun v42 wc => ∃ (kq : Nat) (x42_13 : Bool), v42 = .bool x42_13 ∧ Aside0 (tourbillonlaw06_PackSizes.j2 kq t183 t187 x6_2 x42_13 = some r) ∧ Aside0 (kq ≤ k2) ∧ Aside0 (Below w.heap.size w wc))
              case first =>
                have H := HC14.out
                clear HC14
                by_cases c15 : (t187.size : Int) = x6_2
                · rw [if_pos c15] at H
                  have c15b0 : ((t187.size : Int) == x6_2) = true := beq_iff_eq.mpr c15
                  have c15b1 : ((t187.size : Int) != x6_2) = false := bne_eq_false_iff_eq.mpr c15
                  clear c15
                  (first | rw [c15b0] | (simp only [i64_w, i32_w]; rw [c15b0]) | skip)
                  have H' := Aside0.mk H
                  clear H
                  go_wp2
                  go_meet
                  case rel => exact ⟨_, ((t188 != 0)), (by first | rfl | (simp; done) | (simp [*]; done) | (simp only [bne, Bool.not_not]; done)), H', ⟨by have := HJ3.out; have := HK2.out; first | omega | exact Nat.le_refl _⟩, ⟨by repeat (first | (with_reducible first | exact HB.out | apply below_alloc | apply pw_below_drewN | apply below_drew1) | exact HB.out)⟩⟩
                · rw [if_neg c15] at H
                  have c15b0 : ((t187.size : Int) == x6_2) = false := beq_eq_false_iff_ne.mpr c15
                  have c15b1 : ((t187.size : Int) != x6_2) = true := bne_iff_ne.mpr c15
                  (first | rw [c15b0] | (simp only [i64_w, i32_w]; rw [c15b0]) | skip)
                  have H' := Aside0.mk H
                  clear H
                  go_wp2
                  go_meet
                  case rel => exact ⟨_, (true), (by first | rfl | (simp; done) | (simp [*]; done) | (simp only [bne, Bool.not_not]; done)), H', ⟨by have := HJ3.out; have := HK2.out; first | omega | exact Nat.le_refl _⟩, ⟨by repeat (first | (with_reducible first | exact HB.out | apply below_alloc | apply pw_below_drewN | apply below_drew1) | exact HB.out)⟩⟩
              case rest =>
                clear HC14
                try clear c1
                try clear p2
                try clear c5
                try clear p6
                try clear c10
                try clear c10b0
                try clear c11
                try clear c12
                try clear c13
                try clear c13b0
                try clear c15
                try clear c15b0
                try clear c15b1
                try clear p2
                try clear p6
                obtain ⟨kq, x42_13, rfl, HA, HJ13, HB⟩ := hcut
                cases kq with
                | zero => exact absurd HA.out (by simp [tourbillonlaw06_PackSizes.j2])
                | succ kj13 =>
                  have H := HA.out
                  clear HA
                  simp only [tourbillonlaw06_PackSizes.j2] at H
                  by_cases c16 : x42_13 = true
                  · subst c16
                    have H1 : (some false) = some r := by rw [if_pos rfl] at H; exact H
                    clear H
                    have H := H1
                    clear H1
                    obtain rfl := Option.some.inj H
                    go_wp2
                    go_ret
                    exact ⟨by first | rfl | (simp [errW_none, errW_some] <;> rfl) | (simp [*, errW_none, errW_some] <;> rfl), by repeat (first | (with_reducible first | exact HB.out | apply below_alloc | apply pw_below_drewN | apply below_drew1) | exact HB.out)⟩
                  · replace c16 := Bool.eq_false_iff.mpr c16
                    subst c16
                    have H1 : (tourbillonlaw06_PackSizes.l1 kj13 t183 t187 x6_2 0) = some r := by rw [if_neg (show ¬ (false = true) by decide)] at H; exact H
                    clear H
                    have H := H1
                    clear H1
                    have H' := Aside0.mk H
                    clear H
                    go_wp2
                    go_loopg [8] kj13 (fun kq v8 w' => ∃ (x8_4 : Int), v8 = .int .i64 x8_4 ∧ Aside0 (tourbillonlaw06_PackSizes.l1 kq t183 t187 x6_2 x8_4 = some r) ∧ Aside0 (kq ≤ kj13) ∧ Aside0 (Below w.heap.size w w'))
                    case atStart => exact ⟨(0), (by first | rfl | (simp; done) | (simp [*]; done) | (simp only [bne, Bool.not_not]; done)), H', ⟨Nat.le_refl _⟩, ⟨by repeat (first | (with_reducible first | exact HB.out | apply below_alloc | apply pw_below_drewN | apply below_drew1) | exact HB.out)⟩⟩
                    case round =>
                      clear H'
                      try clear c1
                      try clear p2
                      try clear c5
                      try clear p6
                      try clear c10
                      try clear c10b0
                      try clear c11
                      try clear c12
                      try clear c13
                      try clear c13b0
                      try clear c15
                      try clear c15b0
                      try clear c15b1
                      try clear c16
                      try clear p2
                      try clear p6
                      obtain ⟨x8_4, rfl, HA, HK4, HB⟩ := hrel
                      cases gk with
                      | zero => exact absurd HA.out (by simp [tourbillonlaw06_PackSizes.l1])
                      | succ k4 =>
                        have H := HA.out
                        clear HA
                        simp only [tourbillonlaw06_PackSizes.l1] at H
                        by_cases c17 : x8_4 < x6_2
                        · rw [if_pos c17] at H
                          have c17b0 : decide (x8_4 < x6_2) = true := decide_eq_true c17
                          clear c17
                          by_cases c18 : 0 ≤ x8_4
                          · rw [if_pos c18] at H
                            have c18b0 : decide (0 ≤ x8_4) = true := decide_eq_true c18
                            clear c18
                            by_cases c19 : x8_4 < (t187.size : Int)
                            · rw [if_pos c19] at H
                              have c19b0 : decide (x8_4 < (t187.size : Int)) = true := decide_eq_true c19
                              clear c19
                              by_cases c21 : ((decide ((bt t187 x8_4) ≥ 128)) != (decide (x8_4 < (wrap64 (x6_2 - 1))))) = true
                              · rw [if_pos c21] at H
                                have c21b0 : ((decide ((bt t187 x8_4) ≥ 128)) != (decide (x8_4 < (wrap64 (x6_2 - 1))))) = true := c21
                                (try (have c21b1 : decide ((decide ((bt t187 x8_4) ≥ 128)) = (decide (x8_4 < (wrap64 (x6_2 - 1))))) = false := by simpa using c21))
                                (try (have c21b2 : ((decide ((bt t187 x8_4) ≥ 128)) == (decide (x8_4 < (wrap64 (x6_2 - 1))))) = false := by simpa using c21))
                                (try (have c21b3 : ¬ ((decide ((bt t187 x8_4) ≥ 128)) = (decide (x8_4 < (wrap64 (x6_2 - 1))))) := by simpa using c21))
                                clear c21
                                obtain rfl := Option.some.inj H
                                have p20 : 0 ≤ (x8_4 : Int) := of_decide_eq_true (by first | (with_reducible assumption) | assumption)
                                have q20 : x8_4 < (t187.size : Int) := of_decide_eq_true (by first | (with_reducible assumption) | assumption)
                                have hx20 := bt_at t187 x8_4
                                replace p20 := eq_true p20
                                replace q20 := eq_true q20
                                go_wp2
                                go_ret
                                exact ⟨by first | rfl | (simp [errW_none, errW_some] <;> rfl) | (simp [*, errW_none, errW_some] <;> rfl), by repeat (first | (with_reducible first | exact HB.out | apply below_alloc | apply pw_below_drewN | apply below_drew1) | exact HB.out)⟩
                              · rw [if_neg c21] at H
                                have c21b0 : ((decide ((bt t187 x8_4) ≥ 128)) != (decide (x8_4 < (wrap64 (x6_2 - 1))))) = false := by simpa using c21
                                (try (have c21b1 : decide ((decide ((bt t187 x8_4) ≥ 128)) = (decide (x8_4 < (wrap64 (x6_2 - 1))))) = true := by simpa using c21))
                                (try (have c21b2 : ((decide ((bt t187 x8_4) ≥ 128)) == (decide (x8_4 < (wrap64 (x6_2 - 1))))) = true := by simpa using c21))
                                clear c21
                                have H' := Aside0.mk H
                                clear H
                                have p20 : 0 ≤ (x8_4 : Int) := of_decide_eq_true (by first | (with_reducible assumption) | assumption)
                                have q20 : x8_4 < (t187.size : Int) := of_decide_eq_true (by first | (with_reducible assumption) | assumption)
                                have hx20 := bt_at t187 x8_4
                                replace p20 := eq_true p20
                                replace q20 := eq_true q20
                                go_wp2
                                go_roundg k4
                                case measure => have := HJ3.out; have := HK2.out; have := HJ13.out; have := HK4.out; omega
                                case rel => exact ⟨(wrap64 (x8_4 + 1)), (by first | rfl | (simp; done) | (simp [*]; done) | (simp only [bne, Bool.not_not]; done)), H', ⟨by have := HJ3.out; have := HK2.out; have := HJ13.out; have := HK4.out; omega⟩, ⟨by repeat (first | (with_reducible first | exact HB.out | apply below_alloc | apply pw_below_drewN | apply below_drew1) | exact HB.out)⟩⟩
                            · rw [if_neg c19] at H
                              exact absurd H (by simp)
                          · rw [if_neg c18] at H
                            exact absurd H (by simp)
                        · rw [if_neg c17] at H
                          have c17b0 : decide (x8_4 < x6_2) = false := decide_eq_false c17
                          clear c17
                          obtain rfl := Option.some.inj H
                          go_wp2
                          go_ret
                          exact ⟨by first | rfl | (simp [errW_none, errW_some] <;> rfl) | (simp [*, errW_none, errW_some] <;> rfl), by repeat (first | (with_reducible first | exact HB.out | apply below_alloc | apply pw_below_drewN | apply below_drew1) | exact HB.out)⟩

/-- THE ONE PURE STATEMENT of tourbillonlaw06_PackSizes: yours. -/
def tourbillonlaw06_PackSizes.Pure : Prop := ∀ (a0 : Int), (Lit.int .i64 a0).wf = true → ∃ k, tourbillonlaw06_PackSizes.f k a0 = some true
theorem tourbillonlaw06_PackSizes.walk (P : tourbillonlaw06_PackSizes.Pure) (a0 : Int) (w : World) (w0 : (Lit.int .i64 a0).wf = true) :
    Calls Try.prog 5 #[.int .i64 a0] w fun e w' => e = .returned (.bool true) ∧ Below w.heap.size w w' := by
  obtain ⟨k, h⟩ := P a0 w0
  refine (tourbillonlaw06_PackSizes.calls k a0 true w h).mono ?_
  rintro e w' ⟨rfl, hd⟩
  exact ⟨rfl, hd⟩

end Go.Proofs.Ytecefkenfpbfkaa.PA
