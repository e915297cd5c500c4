/- Go functions of the program told as plain functions, and that the code comes to what they tell; written by xprint.py, a program of this session. Conditions: as each theorem states them. -/
import Derived.Test.YtmopmhhhpcfokaaPAx0
import Derived.Test.YtmopmhhhpcfokaaPAx2
import Derived.Test.YtmopmhhhpcfokaaPAx3
namespace Go.Proofs.Ytmopmhhhpcfokaa.PA
open Go.RowKit Go.Proofs.YtmopmhhhpcfokaaW.PrintWords Go.Proofs.YtmopmhhhpcfokaaW.PrintLast Go.Proofs.YtmopmhhhpcfokaaW.PrintMore
attribute [local go_sem] max2_int min2_int max_two min_two max_three min_three max_four min_four   -- for this text's walks alone
set_option linter.unusedVariables false
set_option linter.unusedSimpArgs false

/-! ### tourbillonlaw01_QarithBack: function 11 -/
mutual
def tourbillonlaw01_QarithBack.j0 : Nat → Int → Int → Bool → Int → Int → Int → Int → Bool → Option (Bool)
  | 0, _, _, _, _, _, _, _, _ => none
  | k + 1, x0, x1, x5, x6, x7, x10, x11, x58 => if x58 = true then (some false) else (if x7 = 0 then ((qarith_Sub.f x6 x1).bind fun bt222 => (if bt222.1 = x0 then (tourbillonlaw01_QarithBack.j1 k x0 x1 x5 x7 x10 x11 (bt222.2 != 0)) else (tourbillonlaw01_QarithBack.j1 k x0 x1 x5 x7 x10 x11 true))) else (if x11 = 0 then (if x1 = 0 then (if x5 = true then (some ((decide (x0 > 0)) == (decide (x1 > 0)))) else (some false)) else (if (wrap64 (Int.tdiv x10 x1)) = x0 then (if (Int.tmod x10 x1) = 0 then (if x5 = true then (some ((decide (x0 > 0)) == (decide (x1 > 0)))) else (some false)) else (some false)) else (some false))) else (if x5 = true then (some ((decide (x0 > 0)) == (decide (x1 > 0)))) else (some false))))
def tourbillonlaw01_QarithBack.j1 : Nat → Int → Int → Bool → Int → Int → Int → Bool → Option (Bool)
  | 0, _, _, _, _, _, _, _ => none
  | k + 1, x0, x1, x5, x7, x10, x11, x73 => if x73 = true then (some false) else (if x11 = 0 then (if x1 = 0 then (if x5 = true then (if x7 = 0 then (some true) else (some ((decide (x0 > 0)) == (decide (x1 > 0))))) else (some false)) else (if (wrap64 (Int.tdiv x10 x1)) = x0 then (if (Int.tmod x10 x1) = 0 then (if x5 = true then (if x7 = 0 then (some true) else (some ((decide (x0 > 0)) == (decide (x1 > 0))))) else (some false)) else (some false)) else (some false))) else (if x5 = true then (if x7 = 0 then (some true) else (some ((decide (x0 > 0)) == (decide (x1 > 0))))) else (some false)))
end
def tourbillonlaw01_QarithBack.f (k : Nat) (a0 : Int) (a1 : Int) : Option (Bool) := (tourbillonlaw01_examples.f k).bind fun t213 => ((qarith_Add.f a0 a1).bind fun bt214 => ((qarith_Add.f a1 a0).bind fun bt216 => ((qarith_Mul.f k a0 a1).bind fun bt218 => ((qarith_Mul.f k a1 a0).bind fun bt220 => (if bt214.1 = bt216.1 then (if bt214.2 = bt216.2 then (if bt218.1 = bt220.1 then (tourbillonlaw01_QarithBack.j0 k a0 a1 t213 bt214.1 bt214.2 bt218.1 bt218.2 (bt218.2 != bt220.2)) else (tourbillonlaw01_QarithBack.j0 k a0 a1 t213 bt214.1 bt214.2 bt218.1 bt218.2 true)) else (tourbillonlaw01_QarithBack.j0 k a0 a1 t213 bt214.1 bt214.2 bt218.1 bt218.2 true)) else (tourbillonlaw01_QarithBack.j0 k a0 a1 t213 bt214.1 bt214.2 bt218.1 bt218.2 true))))))
theorem tourbillonlaw01_QarithBack.mono_l : ∀ k, (∀ y0 y1 y2 y3 y4 y5 y6 y7, LeO (tourbillonlaw01_QarithBack.j0 k y0 y1 y2 y3 y4 y5 y6 y7) (tourbillonlaw01_QarithBack.j0 (k + 1) y0 y1 y2 y3 y4 y5 y6 y7)) ∧ (∀ y0 y1 y2 y3 y4 y5 y6, LeO (tourbillonlaw01_QarithBack.j1 k y0 y1 y2 y3 y4 y5 y6) (tourbillonlaw01_QarithBack.j1 (k + 1) y0 y1 y2 y3 y4 y5 y6))
  | 0 => ⟨fun _ _ _ _ _ _ _ _ r h => by simp [tourbillonlaw01_QarithBack.j0] at h, fun _ _ _ _ _ _ _ r h => by simp [tourbillonlaw01_QarithBack.j1] at h⟩
  | k + 1 => by
    obtain ⟨ih0, ih1⟩ := tourbillonlaw01_QarithBack.mono_l k
    refine ⟨?_, ?_⟩
    · intro y0 y1 y2 y3 y4 y5 y6 y7
      unfold tourbillonlaw01_QarithBack.j0
      repeat' first
      | (with_reducible exact ih0 _ _ _ _ _ _ _ _)
      | (with_reducible exact ih1 _ _ _ _ _ _ _)
      | (with_reducible exact qarith_Mul.mono _ _ _)
      | (with_reducible exact tourbillonlaw01_examples.mono _)
      | (with_reducible exact LeO.refl _)
      | (with_reducible exact LeO.none _)
      | (with_reducible refine LeO.ite ?_ ?_)
      | (with_reducible refine LeO.bind ?_ (fun _ => ?_))
      | exact ih0 _ _ _ _ _ _ _ _
      | exact ih1 _ _ _ _ _ _ _
      | exact qarith_Mul.mono _ _ _
      | exact tourbillonlaw01_examples.mono _
      | exact LeO.none _
      | refine LeO.ite ?_ ?_
      | refine LeO.bind ?_ (fun _ => ?_)
    · intro y0 y1 y2 y3 y4 y5 y6
      unfold tourbillonlaw01_QarithBack.j1
      repeat' first
      | (with_reducible exact ih0 _ _ _ _ _ _ _ _)
      | (with_reducible exact ih1 _ _ _ _ _ _ _)
      | (with_reducible exact qarith_Mul.mono _ _ _)
      | (with_reducible exact tourbillonlaw01_examples.mono _)
      | (with_reducible exact LeO.refl _)
      | (with_reducible exact LeO.none _)
      | (with_reducible refine LeO.ite ?_ ?_)
      | (with_reducible refine LeO.bind ?_ (fun _ => ?_))
      | exact ih0 _ _ _ _ _ _ _ _
      | exact ih1 _ _ _ _ _ _ _
      | exact qarith_Mul.mono _ _ _
      | exact tourbillonlaw01_examples.mono _
      | exact LeO.none _
      | refine LeO.ite ?_ ?_
      | refine LeO.bind ?_ (fun _ => ?_)
theorem tourbillonlaw01_QarithBack.mono : ∀ a0 a1 k, LeO (tourbillonlaw01_QarithBack.f k a0 a1) (tourbillonlaw01_QarithBack.f (k + 1) a0 a1) := by
  intro a0 a1 k
  obtain ⟨ih0, ih1⟩ := tourbillonlaw01_QarithBack.mono_l k
  unfold tourbillonlaw01_QarithBack.f
  repeat' first
      | (with_reducible exact ih0 _ _ _ _ _ _ _ _)
      | (with_reducible exact ih1 _ _ _ _ _ _ _)
      | (with_reducible exact qarith_Mul.mono _ _ _)
      | (with_reducible exact tourbillonlaw01_examples.mono _)
      | (with_reducible exact LeO.refl _)
      | (with_reducible exact LeO.none _)
      | (with_reducible refine LeO.ite ?_ ?_)
      | (with_reducible refine LeO.bind ?_ (fun _ => ?_))
      | exact ih0 _ _ _ _ _ _ _ _
      | exact ih1 _ _ _ _ _ _ _
      | exact qarith_Mul.mono _ _ _
      | exact tourbillonlaw01_examples.mono _
      | exact LeO.none _
      | refine LeO.ite ?_ ?_
      | refine LeO.bind ?_ (fun _ => ?_)
set_option maxHeartbeats 8000000 in
set_option maxRecDepth 100000 in
theorem tourbillonlaw01_QarithBack.calls (k : Nat) (a0 : Int) (a1 : Int) (r : Bool) (w : World) (h : tourbillonlaw01_QarithBack.f k a0 a1 = some r) :
    Calls Try.prog 11 #[.int .i64 a0, .int .i64 a1] w fun e w' => e = .returned (.bool r) ∧ Below w.heap.size w w' := by
  have HB := Aside0.mk (Below.refl w.heap.size w)
  have H : ((tourbillonlaw01_examples.f k).bind fun t213 => ((qarith_Add.f a0 a1).bind fun bt214 => ((qarith_Add.f a1 a0).bind fun bt216 => ((qarith_Mul.f k a0 a1).bind fun bt218 => ((qarith_Mul.f k a1 a0).bind fun bt220 => (if bt214.1 = bt216.1 then (if bt214.2 = bt216.2 then (if bt218.1 = bt220.1 then (tourbillonlaw01_QarithBack.j0 k a0 a1 t213 bt214.1 bt214.2 bt218.1 bt218.2 (bt218.2 != bt220.2)) else (tourbillonlaw01_QarithBack.j0 k a0 a1 t213 bt214.1 bt214.2 bt218.1 bt218.2 true)) else (tourbillonlaw01_QarithBack.j0 k a0 a1 t213 bt214.1 bt214.2 bt218.1 bt218.2 true)) else (tourbillonlaw01_QarithBack.j0 k a0 a1 t213 bt214.1 bt214.2 bt218.1 bt218.2 true))))))) = some r := h
  clear h
  replace H := Option.bind_eq_some_iff.mp H
  obtain ⟨t213, A30, H⟩ := H
  replace H : ((qarith_Add.f a0 a1).bind fun bt214 => ((qarith_Add.f a1 a0).bind fun bt216 => ((qarith_Mul.f k a0 a1).bind fun bt218 => ((qarith_Mul.f k a1 a0).bind fun bt220 => (if bt214.1 = bt216.1 then (if bt214.2 = bt216.2 then (if bt218.1 = bt220.1 then (tourbillonlaw01_QarithBack.j0 k a0 a1 t213 bt214.1 bt214.2 bt218.1 bt218.2 (bt218.2 != bt220.2)) else (tourbillonlaw01_QarithBack.j0 k a0 a1 t213 bt214.1 bt214.2 bt218.1 bt218.2 true)) else (tourbillonlaw01_QarithBack.j0 k a0 a1 t213 bt214.1 bt214.2 bt218.1 bt218.2 true)) else (tourbillonlaw01_QarithBack.j0 k a0 a1 t213 bt214.1 bt214.2 bt218.1 bt218.2 true)))))) = some r := H
  have A3 := Aside0.mk A30
  clear A30
  replace H := Option.bind_eq_some_iff.mp H
  obtain ⟨⟨t214, t215⟩, A40, H⟩ := H
  replace H : ((qarith_Add.f a1 a0).bind fun bt216 => ((qarith_Mul.f k a0 a1).bind fun bt218 => ((qarith_Mul.f k a1 a0).bind fun bt220 => (if t214 = bt216.1 then (if t215 = bt216.2 then (if bt218.1 = bt220.1 then (tourbillonlaw01_QarithBack.j0 k a0 a1 t213 t214 t215 bt218.1 bt218.2 (bt218.2 != bt220.2)) else (tourbillonlaw01_QarithBack.j0 k a0 a1 t213 t214 t215 bt218.1 bt218.2 true)) else (tourbillonlaw01_QarithBack.j0 k a0 a1 t213 t214 t215 bt218.1 bt218.2 true)) else (tourbillonlaw01_QarithBack.j0 k a0 a1 t213 t214 t215 bt218.1 bt218.2 true))))) = some r := H
  have A4 := Aside0.mk A40
  clear A40
  replace H := Option.bind_eq_some_iff.mp H
  obtain ⟨⟨t216, t217⟩, A50, H⟩ := H
  replace H : ((qarith_Mul.f k a0 a1).bind fun bt218 => ((qarith_Mul.f k a1 a0).bind fun bt220 => (if t214 = t216 then (if t215 = t217 then (if bt218.1 = bt220.1 then (tourbillonlaw01_QarithBack.j0 k a0 a1 t213 t214 t215 bt218.1 bt218.2 (bt218.2 != bt220.2)) else (tourbillonlaw01_QarithBack.j0 k a0 a1 t213 t214 t215 bt218.1 bt218.2 true)) else (tourbillonlaw01_QarithBack.j0 k a0 a1 t213 t214 t215 bt218.1 bt218.2 true)) else (tourbillonlaw01_QarithBack.j0 k a0 a1 t213 t214 t215 bt218.1 bt218.2 true)))) = some r := H
  have A5 := Aside0.mk A50
  clear A50
  replace H := Option.bind_eq_some_iff.mp H
  obtain ⟨⟨t218, t219⟩, A60, H⟩ := H
  replace H : ((qarith_Mul.f k a1 a0).bind fun bt220 => (if t214 = t216 then (if t215 = t217 then (if t218 = bt220.1 then (tourbillonlaw01_QarithBack.j0 k a0 a1 t213 t214 t215 t218 t219 (t219 != bt220.2)) else (tourbillonlaw01_QarithBack.j0 k a0 a1 t213 t214 t215 t218 t219 true)) else (tourbillonlaw01_QarithBack.j0 k a0 a1 t213 t214 t215 t218 t219 true)) else (tourbillonlaw01_QarithBack.j0 k a0 a1 t213 t214 t215 t218 t219 true))) = some r := H
  have A6 := Aside0.mk A60
  clear A60
  replace H := Option.bind_eq_some_iff.mp H
  obtain ⟨⟨t220, t221⟩, A70, H⟩ := H
  replace H : (if t214 = t216 then (if t215 = t217 then (if t218 = t220 then (tourbillonlaw01_QarithBack.j0 k a0 a1 t213 t214 t215 t218 t219 (t219 != t221)) else (tourbillonlaw01_QarithBack.j0 k a0 a1 t213 t214 t215 t218 t219 true)) else (tourbillonlaw01_QarithBack.j0 k a0 a1 t213 t214 t215 t218 t219 true)) else (tourbillonlaw01_QarithBack.j0 k a0 a1 t213 t214 t215 t218 t219 true)) = some r := H
  have A7 := Aside0.mk A70
  clear A70
  have HC8 := Aside0.mk H
  clear H
  go_enter Try.func11, Try.ntmps11
  go_upto_region 6 with (first | ((with_reducible refine gate_callee (f := 15) rfl ?_); refine goesL_ (some 16) rfl rfl Try.func15 (by kernel_rfl) rfl #[] rfl (by (try simp only [List.map_toArray, List.map_cons, List.map_nil]); first | done | rfl | (simp only [List.length_drop, List.length_take]; rfl)) ?_; (with_reducible refine (tourbillonlaw01_examples.calls k  t213 _ A3.out).mono ?_); rintro e w9 ⟨rfl, hb⟩; refine ⟨_, rfl, ?_⟩; have n0_ := Aside0.mk (below_step (by repeat (first | (with_reducible first | exact HB.out | apply below_alloc | apply pw_below_drewN | apply below_drew1) | exact HB.out)) hb); clear HB; have HB := n0_; clear n0_; (try clear hb); (try clear hb2); (try clear hk); (try clear hi)) | ((with_reducible refine gate_callee (f := 28) rfl ?_); refine goesL_ (some 20) rfl rfl Try.func28 (by kernel_rfl) rfl #[.int .i64 a0, .int .i64 a1] rfl (by (try simp only [List.map_toArray, List.map_cons, List.map_nil]); first | done | rfl | (simp only [List.length_drop, List.length_take]; rfl)) ?_; (with_reducible refine (qarith_Add.calls a0 a1 t214 t215 _ A4.out).mono ?_); rintro e w' ⟨rfl, ⟨nd, rfl⟩⟩; refine ⟨_, rfl, ?_⟩) | ((with_reducible refine gate_callee (f := 28) rfl ?_); refine goesL_ (some 26) rfl rfl Try.func28 (by kernel_rfl) rfl #[.int .i64 a1, .int .i64 a0] rfl (by (try simp only [List.map_toArray, List.map_cons, List.map_nil]); first | done | rfl | (simp only [List.length_drop, List.length_take]; rfl)) ?_; (with_reducible refine (qarith_Add.calls a1 a0 t216 t217 _ A5.out).mono ?_); rintro e w' ⟨rfl, ⟨nd, rfl⟩⟩; refine ⟨_, rfl, ?_⟩) | ((with_reducible refine gate_callee (f := 27) rfl ?_); refine goesL_ (some 32) rfl rfl Try.func27 (by kernel_rfl) rfl #[.int .i64 a0, .int .i64 a1] rfl (by (try simp only [List.map_toArray, List.map_cons, List.map_nil]); first | done | rfl | (simp only [List.length_drop, List.length_take]; rfl)) ?_; (with_reducible refine (qarith_Mul.calls k a0 a1 t218 t219 _ A6.out).mono ?_); rintro e w10 ⟨rfl, hb⟩; refine ⟨_, rfl, ?_⟩; have n0_ := Aside0.mk (below_step (by repeat (first | (with_reducible first | exact HB.out | apply below_alloc | apply pw_below_drewN | apply below_drew1) | exact HB.out)) hb); clear HB; have HB := n0_; clear n0_; (try clear hb); (try clear hb2); (try clear hk); (try clear hi)) | ((with_reducible refine gate_callee (f := 27) rfl ?_); refine goesL_ (some 38) rfl rfl Try.func27 (by kernel_rfl) rfl #[.int .i64 a1, .int .i64 a0] rfl (by (try simp only [List.map_toArray, List.map_cons, List.map_nil]); first | done | rfl | (simp only [List.length_drop, List.length_take]; rfl)) ?_; (with_reducible refine (qarith_Mul.calls k a1 a0 t220 t221 _ A7.out).mono ?_); rintro e w11 ⟨rfl, hb⟩; refine ⟨_, rfl, ?_⟩; have n0_ := Aside0.mk (below_step (by repeat (first | (with_reducible first | exact HB.out | apply below_alloc | apply pw_below_drewN | apply below_drew1) | exact HB.out)) hb); clear HB; have HB := n0_; clear n0_; (try clear hb); (try clear hb2); (try clear hk); (try clear hi)))
  (try simp only [Act.put, List.setIfInBounds_toArray, List.set_cons_zero, List.set_cons_succ])
  go_cut [58] (fun v58 wc => ∃ (kq : Nat) (x58_7 : Bool), v58 = .bool x58_7 ∧ Aside0 (tourbillonlaw01_QarithBack.j0 kq a0 a1 t213 t214 t215 t218 t219 x58_7 = some r) ∧ Aside0 (kq ≤ k) ∧ Aside0 (Below w.heap.size w wc))
  case first =>
    have H := HC8.out
    clear HC8
    by_cases c12 : t214 = t216
    · rw [if_pos c12] at H
      have c12b0 : (t214 == t216) = true := beq_iff_eq.mpr c12
      have c12b1 : (t214 != t216) = false := bne_eq_false_iff_eq.mpr c12
      clear c12
      (first | rw [c12b0] | (simp only [i64_w, i32_w]; rw [c12b0]) | skip)
      by_cases c13 : t215 = t217
      · rw [if_pos c13] at H
        have c13b0 : (t215 == t217) = true := beq_iff_eq.mpr c13
        have c13b1 : (t215 != t217) = false := bne_eq_false_iff_eq.mpr c13
        clear c13
        by_cases c14 : t218 = t220
        · rw [if_pos c14] at H
          have c14b0 : (t218 == t220) = true := beq_iff_eq.mpr c14
          have c14b1 : (t218 != t220) = false := bne_eq_false_iff_eq.mpr c14
          clear c14
          have H' := Aside0.mk H
          clear H
          go_wp2
          go_meet
          case rel => exact ⟨_, ((t219 != t221)), (by first | rfl | (simp; done) | (simp [*]; done) | (simp only [bne, Bool.not_not]; done)), H', ⟨by first | omega | exact Nat.le_refl _⟩, ⟨by repeat (first | (with_reducible first | exact HB.out | apply below_alloc | apply pw_below_drewN | apply below_drew1) | exact HB.out)⟩⟩
        · rw [if_neg c14] at H
          have c14b0 : (t218 == t220) = false := beq_eq_false_iff_ne.mpr c14
          have c14b1 : (t218 != t220) = true := bne_iff_ne.mpr c14
          have H' := Aside0.mk H
          clear H
          go_wp2
          go_meet
          case rel => exact ⟨_, (true), (by first | rfl | (simp; done) | (simp [*]; done) | (simp only [bne, Bool.not_not]; done)), H', ⟨by first | omega | exact Nat.le_refl _⟩, ⟨by repeat (first | (with_reducible first | exact HB.out | apply below_alloc | apply pw_below_drewN | apply below_drew1) | exact HB.out)⟩⟩
      · rw [if_neg c13] at H
        have c13b0 : (t215 == t217) = false := beq_eq_false_iff_ne.mpr c13
        have c13b1 : (t215 != t217) = true := bne_iff_ne.mpr c13
        have H' := Aside0.mk H
        clear H
        go_wp2
        go_meet
        case rel => exact ⟨_, (true), (by first | rfl | (simp; done) | (simp [*]; done) | (simp only [bne, Bool.not_not]; done)), H', ⟨by first | omega | exact Nat.le_refl _⟩, ⟨by repeat (first | (with_reducible first | exact HB.out | apply below_alloc | apply pw_below_drewN | apply below_drew1) | exact HB.out)⟩⟩
    · rw [if_neg c12] at H
      have c12b0 : (t214 == t216) = false := beq_eq_false_iff_ne.mpr c12
      have c12b1 : (t214 != t216) = true := bne_iff_ne.mpr c12
      (first | rw [c12b0] | (simp only [i64_w, i32_w]; rw [c12b0]) | skip)
      have H' := Aside0.mk H
      clear H
      go_wp2
      go_meet
      case rel => exact ⟨_, (true), (by first | rfl | (simp; done) | (simp [*]; done) | (simp only [bne, Bool.not_not]; done)), H', ⟨by first | omega | exact Nat.le_refl _⟩, ⟨by repeat (first | (with_reducible first | exact HB.out | apply below_alloc | apply pw_below_drewN | apply below_drew1) | exact HB.out)⟩⟩
  case rest =>
    clear HC8
    try clear c1
    try clear c2
    try clear p2
    try clear c11
    try clear c12
    try clear c12b0
    try clear c12b1
    try clear c13
    try clear c13b0
    try clear c13b1
    try clear c14
    try clear c14b0
    try clear c14b1
    obtain ⟨kq, x58_7, rfl, HA, HJ7, HB⟩ := hcut
    cases kq with
    | zero => exact absurd HA.out (by simp [tourbillonlaw01_QarithBack.j0])
    | succ kj7 =>
      have H := HA.out
      clear HA
      simp only [tourbillonlaw01_QarithBack.j0] at H
      by_cases c15 : x58_7 = true
      · subst c15
        have H1 : (some false) = some r := by rw [if_pos rfl] at H; exact H
        clear H
        have H := H1
        clear H1
        obtain rfl := Option.some.inj H
        go_wp2
        go_ret
        exact ⟨by first | rfl | (simp [errW_none, errW_some] <;> rfl) | (simp [*, errW_none, errW_some] <;> rfl), by repeat (first | (with_reducible first | exact HB.out | apply below_alloc | apply pw_below_drewN | apply below_drew1) | exact HB.out)⟩
      · replace c15 := Bool.eq_false_iff.mpr c15
        subst c15
        have H1 : (if t215 = 0 then ((qarith_Sub.f t214 a1).bind fun bt222 => (if bt222.1 = a0 then (tourbillonlaw01_QarithBack.j1 kj7 a0 a1 t213 t215 t218 t219 (bt222.2 != 0)) else (tourbillonlaw01_QarithBack.j1 kj7 a0 a1 t213 t215 t218 t219 true))) else (if t219 = 0 then (if a1 = 0 then (if t213 = true then (some ((decide (a0 > 0)) == (decide (a1 > 0)))) else (some false)) else (if (wrap64 (Int.tdiv t218 a1)) = a0 then (if (Int.tmod t218 a1) = 0 then (if t213 = true then (some ((decide (a0 > 0)) == (decide (a1 > 0)))) else (some false)) else (some false)) else (some false))) else (if t213 = true then (some ((decide (a0 > 0)) == (decide (a1 > 0)))) else (some false)))) = some r := by rw [if_neg (show ¬ (false = true) by decide)] at H; exact H
        clear H
        have H := H1
        clear H1
        by_cases c16 : t215 = 0
        · rw [if_pos c16] at H
          have c16b0 : (t215 == 0) = true := beq_iff_eq.mpr c16
          have c16b1 : (t215 != 0) = false := bne_eq_false_iff_eq.mpr c16
          clear c16
          replace H := Option.bind_eq_some_iff.mp H
          obtain ⟨⟨t222, t223⟩, A170, H⟩ := H
          replace H : (if t222 = a0 then (tourbillonlaw01_QarithBack.j1 kj7 a0 a1 t213 t215 t218 t219 (t223 != 0)) else (tourbillonlaw01_QarithBack.j1 kj7 a0 a1 t213 t215 t218 t219 true)) = some r := H
          have A17 := Aside0.mk A170
          clear A170
          have HC18 := Aside0.mk H
          clear H
          go_upto_region 10 with (first | ((with_reducible refine gate_callee (f := 29) rfl ?_); refine goesL_ (some 64) rfl rfl Try.func29 (by kernel_rfl) rfl #[.int .i64 t214, .int .i64 a1] rfl (by (try simp only [List.map_toArray, List.map_cons, List.map_nil]); first | done | rfl | (simp only [List.length_drop, List.length_take]; rfl)) ?_; (with_reducible refine (qarith_Sub.calls t214 a1 t222 t223 _ A17.out).mono ?_); rintro e w' ⟨rfl, ⟨nd, rfl⟩⟩; refine ⟨_, rfl, ?_⟩))
          (try simp only [Act.put, List.setIfInBounds_toArray, List.set_cons_zero, List.set_cons_succ])
          go_cut [73] (fun v73 wc => ∃ (kq : Nat) (x73_17 : Bool), v73 = .bool x73_17 ∧ Aside0 (tourbillonlaw01_QarithBack.j1 kq a0 a1 t213 t215 t218 t219 x73_17 = some r) ∧ Aside0 (kq ≤ kj7) ∧ Aside0 (Below w.heap.size w wc))
          case first =>
            have H := HC18.out
            clear HC18
            by_cases c19 : t222 = a0
            · rw [if_pos c19] at H
              have c19b0 : (t222 == a0) = true := beq_iff_eq.mpr c19
              have c19b1 : (t222 != a0) = false := bne_eq_false_iff_eq.mpr c19
              clear c19
              (first | rw [c19b0] | (simp only [i64_w, i32_w]; rw [c19b0]) | skip)
              have H' := Aside0.mk H
              clear H
              go_wp2
              go_meet
              case rel => exact ⟨_, ((t223 != 0)), (by first | rfl | (simp; done) | (simp [*]; done) | (simp only [bne, Bool.not_not]; done)), H', ⟨by have := HJ7.out; first | omega | exact Nat.le_refl _⟩, ⟨by repeat (first | (with_reducible first | exact HB.out | apply below_alloc | apply pw_below_drewN | apply below_drew1) | exact HB.out)⟩⟩
            · rw [if_neg c19] at H
              have c19b0 : (t222 == a0) = false := beq_eq_false_iff_ne.mpr c19
              have c19b1 : (t222 != a0) = true := bne_iff_ne.mpr c19
              (first | rw [c19b0] | (simp only [i64_w, i32_w]; rw [c19b0]) | skip)
              have H' := Aside0.mk H
              clear H
              go_wp2
              go_meet
              case rel => exact ⟨_, (true), (by first | rfl | (simp; done) | (simp [*]; done) | (simp only [bne, Bool.not_not]; done)), H', ⟨by have := HJ7.out; first | omega | exact Nat.le_refl _⟩, ⟨by repeat (first | (with_reducible first | exact HB.out | apply below_alloc | apply pw_below_drewN | apply below_drew1) | exact HB.out)⟩⟩
          case rest =>
            clear HC18
            try clear c1
            try clear c2
            try clear p2
            try clear p6
            try clear c11
            try clear c12
            try clear c12b0
            try clear c12b1
            try clear c13
            try clear c13b0
            try clear c13b1
            try clear c14
            try clear c14b0
            try clear c14b1
            try clear c15
            try clear c16
            try clear c16b0
            try clear c16b1
            try clear c19
            try clear c19b0
            try clear c19b1
            try clear p2
            obtain ⟨kq, x73_17, rfl, HA, HJ17, HB⟩ := hcut
            cases kq with
            | zero => exact absurd HA.out (by simp [tourbillonlaw01_QarithBack.j1])
            | succ kj17 =>
              have H := HA.out
              clear HA
              simp only [tourbillonlaw01_QarithBack.j1] at H
              by_cases c20 : x73_17 = true
              · subst c20
                have H1 : (some false) = some r := by rw [if_pos rfl] at H; exact H
                clear H
                have H := H1
                clear H1
                obtain rfl := Option.some.inj H
                go_wp2
                go_ret
                exact ⟨by first | rfl | (simp [errW_none, errW_some] <;> rfl) | (simp [*, errW_none, errW_some] <;> rfl), by repeat (first | (with_reducible first | exact HB.out | apply below_alloc | apply pw_below_drewN | apply below_drew1) | exact HB.out)⟩
              · replace c20 := Bool.eq_false_iff.mpr c20
                subst c20
                have H1 : (if t219 = 0 then (if a1 = 0 then (if t213 = true then (if t215 = 0 then (some true) else (some ((decide (a0 > 0)) == (decide (a1 > 0))))) else (some false)) else (if (wrap64 (Int.tdiv t218 a1)) = a0 then (if (Int.tmod t218 a1) = 0 then (if t213 = true then (if t215 = 0 then (some true) else (some ((decide (a0 > 0)) == (decide (a1 > 0))))) else (some false)) else (some false)) else (some false))) else (if t213 = true then (if t215 = 0 then (some true) else (some ((decide (a0 > 0)) == (decide (a1 > 0))))) else (some false))) = some r := by rw [if_neg (show ¬ (false = true) by decide)] at H; exact H
                clear H
                have H := H1
                clear H1
                by_cases c21 : t219 = 0
                · rw [if_pos c21] at H
                  have c21b0 : (t219 == 0) = true := beq_iff_eq.mpr c21
                  have c21b1 : (t219 != 0) = false := bne_eq_false_iff_eq.mpr c21
                  clear c21
                  by_cases c22 : a1 = 0
                  · rw [if_pos c22] at H
                    have c22b0 : (a1 == 0) = true := beq_iff_eq.mpr c22
                    have c22b1 : (a1 != 0) = false := bne_eq_false_iff_eq.mpr c22
                    clear c22
                    by_cases c23 : t213 = true
                    · subst c23
                      have H1 : (if t215 = 0 then (some true) else (some ((decide (a0 > 0)) == (decide (a1 > 0))))) = some r := by rw [if_pos rfl] at H; exact H
                      clear H
                      have H := H1
                      clear H1
                      by_cases c24 : t215 = 0
                      · rw [if_pos c24] at H
                        have c24b0 : (t215 == 0) = true := beq_iff_eq.mpr c24
                        have c24b1 : (t215 != 0) = false := bne_eq_false_iff_eq.mpr c24
                        clear c24
                        obtain rfl := Option.some.inj H
                        go_wp2
                        go_ret
                        exact ⟨by first | rfl | (simp [errW_none, errW_some] <;> rfl) | (simp [*, errW_none, errW_some] <;> rfl), by repeat (first | (with_reducible first | exact HB.out | apply below_alloc | apply pw_below_drewN | apply below_drew1) | exact HB.out)⟩
                      · rw [if_neg c24] at H
                        have c24b0 : (t215 == 0) = false := beq_eq_false_iff_ne.mpr c24
                        have c24b1 : (t215 != 0) = true := bne_iff_ne.mpr c24
                        obtain rfl := Option.some.inj H
                        go_wp2
                        go_ret
                        exact ⟨by first | rfl | (simp [errW_none, errW_some] <;> rfl) | (simp [*, errW_none, errW_some] <;> rfl), by repeat (first | (with_reducible first | exact HB.out | apply below_alloc | apply pw_below_drewN | apply below_drew1) | exact HB.out)⟩
                    · replace c23 := Bool.eq_false_iff.mpr c23
                      subst c23
                      have H1 : (some false) = some r := by rw [if_neg (show ¬ (false = true) by decide)] at H; exact H
                      clear H
                      have H := H1
                      clear H1
                      obtain rfl := Option.some.inj H
                      go_wp2
                      go_ret
                      exact ⟨by first | rfl | (simp [errW_none, errW_some] <;> rfl) | (simp [*, errW_none, errW_some] <;> rfl), by repeat (first | (with_reducible first | exact HB.out | apply below_alloc | apply pw_below_drewN | apply below_drew1) | exact HB.out)⟩
                  · rw [if_neg c22] at H
                    have c22b0 : (a1 == 0) = false := beq_eq_false_iff_ne.mpr c22
                    have c22b1 : (a1 != 0) = true := bne_iff_ne.mpr c22
                    by_cases c25 : (wrap64 (Int.tdiv t218 a1)) = a0
                    · rw [if_pos c25] at H
                      have c25b0 : ((wrap64 (Int.tdiv t218 a1)) == a0) = true := beq_iff_eq.mpr c25
                      have c25b1 : ((wrap64 (Int.tdiv t218 a1)) != a0) = false := bne_eq_false_iff_eq.mpr c25
                      clear c25
                      by_cases c26 : (Int.tmod t218 a1) = 0
                      · rw [if_pos c26] at H
                        have c26b0 : ((Int.tmod t218 a1) == 0) = true := beq_iff_eq.mpr c26
                        have c26b1 : ((Int.tmod t218 a1) != 0) = false := bne_eq_false_iff_eq.mpr c26
                        clear c26
                        by_cases c27 : t213 = true
                        · subst c27
                          have H1 : (if t215 = 0 then (some true) else (some ((decide (a0 > 0)) == (decide (a1 > 0))))) = some r := by rw [if_pos rfl] at H; exact H
                          clear H
                          have H := H1
                          clear H1
                          by_cases c28 : t215 = 0
                          · rw [if_pos c28] at H
                            have c28b0 : (t215 == 0) = true := beq_iff_eq.mpr c28
                            have c28b1 : (t215 != 0) = false := bne_eq_false_iff_eq.mpr c28
                            clear c28
                            obtain rfl := Option.some.inj H
                            go_wp2
                            go_ret
                            exact ⟨by first | rfl | (simp [errW_none, errW_some] <;> rfl) | (simp [*, errW_none, errW_some] <;> rfl), by repeat (first | (with_reducible first | exact HB.out | apply below_alloc | apply pw_below_drewN | apply below_drew1) | exact HB.out)⟩
                          · rw [if_neg c28] at H
                            have c28b0 : (t215 == 0) = false := beq_eq_false_iff_ne.mpr c28
                            have c28b1 : (t215 != 0) = true := bne_iff_ne.mpr c28
                            obtain rfl := Option.some.inj H
                            go_wp2
                            go_ret
                            exact ⟨by first | rfl | (simp [errW_none, errW_some] <;> rfl) | (simp [*, errW_none, errW_some] <;> rfl), by repeat (first | (with_reducible first | exact HB.out | apply below_alloc | apply pw_below_drewN | apply below_drew1) | exact HB.out)⟩
                        · replace c27 := Bool.eq_false_iff.mpr c27
                          subst c27
                          have H1 : (some false) = some r := by rw [if_neg (show ¬ (false = true) by decide)] at H; exact H
                          clear H
                          have H := H1
                          clear H1
                          obtain rfl := Option.some.inj H
                          go_wp2
                          go_ret
                          exact ⟨by first | rfl | (simp [errW_none, errW_some] <;> rfl) | (simp [*, errW_none, errW_some] <;> rfl), by repeat (first | (with_reducible first | exact HB.out | apply below_alloc | apply pw_below_drewN | apply below_drew1) | exact HB.out)⟩
                      · rw [if_neg c26] at H
                        have c26b0 : ((Int.tmod t218 a1) == 0) = false := beq_eq_false_iff_ne.mpr c26
                        have c26b1 : ((Int.tmod t218 a1) != 0) = true := bne_iff_ne.mpr c26
                        obtain rfl := Option.some.inj H
                        go_wp2
                        go_ret
                        exact ⟨by first | rfl | (simp [errW_none, errW_some] <;> rfl) | (simp [*, errW_none, errW_some] <;> rfl), by repeat (first | (with_reducible first | exact HB.out | apply below_alloc | apply pw_below_drewN | apply below_drew1) | exact HB.out)⟩
                    · rw [if_neg c25] at H
                      have c25b0 : ((wrap64 (Int.tdiv t218 a1)) == a0) = false := beq_eq_false_iff_ne.mpr c25
                      have c25b1 : ((wrap64 (Int.tdiv t218 a1)) != a0) = true := bne_iff_ne.mpr c25
                      obtain rfl := Option.some.inj H
                      go_wp2
                      go_ret
                      exact ⟨by first | rfl | (simp [errW_none, errW_some] <;> rfl) | (simp [*, errW_none, errW_some] <;> rfl), by repeat (first | (with_reducible first | exact HB.out | apply below_alloc | apply pw_below_drewN | apply below_drew1) | exact HB.out)⟩
                · rw [if_neg c21] at H
                  have c21b0 : (t219 == 0) = false := beq_eq_false_iff_ne.mpr c21
                  have c21b1 : (t219 != 0) = true := bne_iff_ne.mpr c21
                  by_cases c29 : t213 = true
                  · subst c29
                    have H1 : (if t215 = 0 then (some true) else (some ((decide (a0 > 0)) == (decide (a1 > 0))))) = some r := by rw [if_pos rfl] at H; exact H
                    clear H
                    have H := H1
                    clear H1
                    by_cases c30 : t215 = 0
                    · rw [if_pos c30] at H
                      have c30b0 : (t215 == 0) = true := beq_iff_eq.mpr c30
                      have c30b1 : (t215 != 0) = false := bne_eq_false_iff_eq.mpr c30
                      clear c30
                      obtain rfl := Option.some.inj H
                      go_wp2
                      go_ret
                      exact ⟨by first | rfl | (simp [errW_none, errW_some] <;> rfl) | (simp [*, errW_none, errW_some] <;> rfl), by repeat (first | (with_reducible first | exact HB.out | apply below_alloc | apply pw_below_drewN | apply below_drew1) | exact HB.out)⟩
                    · rw [if_neg c30] at H
                      have c30b0 : (t215 == 0) = false := beq_eq_false_iff_ne.mpr c30
                      have c30b1 : (t215 != 0) = true := bne_iff_ne.mpr c30
                      obtain rfl := Option.some.inj H
                      go_wp2
                      go_ret
                      exact ⟨by first | rfl | (simp [errW_none, errW_some] <;> rfl) | (simp [*, errW_none, errW_some] <;> rfl), by repeat (first | (with_reducible first | exact HB.out | apply below_alloc | apply pw_below_drewN | apply below_drew1) | exact HB.out)⟩
                  · replace c29 := Bool.eq_false_iff.mpr c29
                    subst c29
                    have H1 : (some false) = some r := by rw [if_neg (show ¬ (false = true) by decide)] at H; exact H
                    clear H
                    have H := H1
                    clear H1
                    obtain rfl := Option.some.inj H
                    go_wp2
                    go_ret
                    exact ⟨by first | rfl | (simp [errW_none, errW_some] <;> rfl) | (simp [*, errW_none, errW_some] <;> rfl), by repeat (first | (with_reducible first | exact HB.out | apply below_alloc | apply pw_below_drewN | apply below_drew1) | exact HB.out)⟩
        · rw [if_neg c16] at H
          have c16b0 : (t215 == 0) = false := beq_eq_false_iff_ne.mpr c16
          have c16b1 : (t215 != 0) = true := bne_iff_ne.mpr c16
          by_cases c31 : t219 = 0
          · rw [if_pos c31] at H
            have c31b0 : (t219 == 0) = true := beq_iff_eq.mpr c31
            have c31b1 : (t219 != 0) = false := bne_eq_false_iff_eq.mpr c31
            clear c31
            by_cases c32 : a1 = 0
            · rw [if_pos c32] at H
              have c32b0 : (a1 == 0) = true := beq_iff_eq.mpr c32
              have c32b1 : (a1 != 0) = false := bne_eq_false_iff_eq.mpr c32
              clear c32
              by_cases c33 : t213 = true
              · subst c33
                have H1 : (some ((decide (a0 > 0)) == (decide (a1 > 0)))) = some r := by rw [if_pos rfl] at H; exact H
                clear H
                have H := H1
                clear H1
                obtain rfl := Option.some.inj H
                go_wp2
                go_ret
                exact ⟨by first | rfl | (simp [errW_none, errW_some] <;> rfl) | (simp [*, errW_none, errW_some] <;> rfl), by repeat (first | (with_reducible first | exact HB.out | apply below_alloc | apply pw_below_drewN | apply below_drew1) | exact HB.out)⟩
              · replace c33 := Bool.eq_false_iff.mpr c33
                subst c33
                have H1 : (some false) = some r := by rw [if_neg (show ¬ (false = true) by decide)] at H; exact H
                clear H
                have H := H1
                clear H1
                obtain rfl := Option.some.inj H
                go_wp2
                go_ret
                exact ⟨by first | rfl | (simp [errW_none, errW_some] <;> rfl) | (simp [*, errW_none, errW_some] <;> rfl), by repeat (first | (with_reducible first | exact HB.out | apply below_alloc | apply pw_below_drewN | apply below_drew1) | exact HB.out)⟩
            · rw [if_neg c32] at H
              have c32b0 : (a1 == 0) = false := beq_eq_false_iff_ne.mpr c32
              have c32b1 : (a1 != 0) = true := bne_iff_ne.mpr c32
              by_cases c34 : (wrap64 (Int.tdiv t218 a1)) = a0
              · rw [if_pos c34] at H
                have c34b0 : ((wrap64 (Int.tdiv t218 a1)) == a0) = true := beq_iff_eq.mpr c34
                have c34b1 : ((wrap64 (Int.tdiv t218 a1)) != a0) = false := bne_eq_false_iff_eq.mpr c34
                clear c34
                by_cases c35 : (Int.tmod t218 a1) = 0
                · rw [if_pos c35] at H
                  have c35b0 : ((Int.tmod t218 a1) == 0) = true := beq_iff_eq.mpr c35
                  have c35b1 : ((Int.tmod t218 a1) != 0) = false := bne_eq_false_iff_eq.mpr c35
                  clear c35
                  by_cases c36 : t213 = true
                  · subst c36
                    have H1 : (some ((decide (a0 > 0)) == (decide (a1 > 0)))) = some r := by rw [if_pos rfl] at H; exact H
                    clear H
                    have H := H1
                    clear H1
                    obtain rfl := Option.some.inj H
                    go_wp2
                    go_ret
                    exact ⟨by first | rfl | (simp [errW_none, errW_some] <;> rfl) | (simp [*, errW_none, errW_some] <;> rfl), by repeat (first | (with_reducible first | exact HB.out | apply below_alloc | apply pw_below_drewN | apply below_drew1) | exact HB.out)⟩
                  · replace c36 := Bool.eq_false_iff.mpr c36
                    subst c36
                    have H1 : (some false) = some r := by rw [if_neg (show ¬ (false = true) by decide)] at H; exact H
                    clear H
                    have H := H1
                    clear H1
                    obtain rfl := Option.some.inj H
                    go_wp2
                    go_ret
                    exact ⟨by first | rfl | (simp [errW_none, errW_some] <;> rfl) | (simp [*, errW_none, errW_some] <;> rfl), by repeat (first | (with_reducible first | exact HB.out | apply below_alloc | apply pw_below_drewN | apply below_drew1) | exact HB.out)⟩
                · rw [if_neg c35] at H
                  have c35b0 : ((Int.tmod t218 a1) == 0) = false := beq_eq_false_iff_ne.mpr c35
                  have c35b1 : ((Int.tmod t218 a1) != 0) = true := bne_iff_ne.mpr c35
                  obtain rfl := Option.some.inj H
                  go_wp2
                  go_ret
                  exact ⟨by first | rfl | (simp [errW_none, errW_some] <;> rfl) | (simp [*, errW_none, errW_some] <;> rfl), by repeat (first | (with_reducible first | exact HB.out | apply below_alloc | apply pw_below_drewN | apply below_drew1) | exact HB.out)⟩
              · rw [if_neg c34] at H
                have c34b0 : ((wrap64 (Int.tdiv t218 a1)) == a0) = false := beq_eq_false_iff_ne.mpr c34
                have c34b1 : ((wrap64 (Int.tdiv t218 a1)) != a0) = true := bne_iff_ne.mpr c34
                obtain rfl := Option.some.inj H
                go_wp2
                go_ret
                exact ⟨by first | rfl | (simp [errW_none, errW_some] <;> rfl) | (simp [*, errW_none, errW_some] <;> rfl), by repeat (first | (with_reducible first | exact HB.out | apply below_alloc | apply pw_below_drewN | apply below_drew1) | exact HB.out)⟩
          · rw [if_neg c31] at H
            have c31b0 : (t219 == 0) = false := beq_eq_false_iff_ne.mpr c31
            have c31b1 : (t219 != 0) = true := bne_iff_ne.mpr c31
            by_cases c37 : t213 = true
            · subst c37
              have H1 : (some ((decide (a0 > 0)) == (decide (a1 > 0)))) = some r := by rw [if_pos rfl] at H; exact H
              clear H
              have H := H1
              clear H1
              obtain rfl := Option.some.inj H
              go_wp2
              go_ret
              exact ⟨by first | rfl | (simp [errW_none, errW_some] <;> rfl) | (simp [*, errW_none, errW_some] <;> rfl), by repeat (first | (with_reducible first | exact HB.out | apply below_alloc | apply pw_below_drewN | apply below_drew1) | exact HB.out)⟩
            · replace c37 := Bool.eq_false_iff.mpr c37
              subst c37
              have H1 : (some false) = some r := by rw [if_neg (show ¬ (false = true) by decide)] at H; exact H
              clear H
              have H := H1
              clear H1
              obtain rfl := Option.some.inj H
              go_wp2
              go_ret
              exact ⟨by first | rfl | (simp [errW_none, errW_some] <;> rfl) | (simp [*, errW_none, errW_some] <;> rfl), by repeat (first | (with_reducible first | exact HB.out | apply below_alloc | apply pw_below_drewN | apply below_drew1) | exact HB.out)⟩

/-- THE ONE PURE STATEMENT of tourbillonlaw01_QarithBack: yours. -/
def tourbillonlaw01_QarithBack.Pure : Prop := ∀ (a0 : Int) (a1 : Int), (Lit.int .i64 a0).wf = true → (Lit.int .i64 a1).wf = true → ∃ k, tourbillonlaw01_QarithBack.f k a0 a1 = some true
theorem tourbillonlaw01_QarithBack.walk (P : tourbillonlaw01_QarithBack.Pure) (a0 : Int) (a1 : Int) (w : World) (w0 : (Lit.int .i64 a0).wf = true) (w1 : (Lit.int .i64 a1).wf = true) :
    Calls Try.prog 11 #[.int .i64 a0, .int .i64 a1] w fun e w' => e = .returned (.bool true) ∧ Below w.heap.size w w' := by
  obtain ⟨k, h⟩ := P a0 a1 w0 w1
  refine (tourbillonlaw01_QarithBack.calls k a0 a1 true w h).mono ?_
  rintro e w' ⟨rfl, hd⟩
  exact ⟨rfl, hd⟩

end Go.Proofs.Ytmopmhhhpcfokaa.PA
