/- Go functions of the program told as plain functions, and that the code comes to what they tell; written by xprint.py, a program of this session. Conditions: as each theorem states them. -/
import Derived.Test.YtflnooigdbhpdaaPAx0
import Derived.Test.YtflnooigdbhpdaaPAx1
import Derived.Test.YtflnooigdbhpdaaPAx4
import Derived.Test.YtflnooigdbhpdaaPAx5
namespace Go.Proofs.Ytflnooigdbhpdaa.PA
open Go.RowKit Go.Proofs.YtflnooigdbhpdaaW.PrintWords Go.Proofs.YtflnooigdbhpdaaW.PrintLast Go.Proofs.YtflnooigdbhpdaaW.PrintMore
open Go.Proofs.YtflnooigdbhpdaaW.PrintWords renaming blk_drewN → bN, blk_drew → bD, blk_alloc → bA, blk_frozen → bF, blk_cell → bC, below_set → bS, pw_below_drewN → bP, below_drew1 → bW, below_alloc → bL, blk_far → bR, blk_below → bB, below_step → bT, below_size → bZ, blk_lt → bQ, box_event → bV
attribute [local go_sem] max2_int min2_int max_two min_two max_three min_three max_four min_four   -- for this text's walks alone
attribute [local go_sem high] fieldA28_0
set_option linter.unusedVariables false
set_option linter.unusedSimpArgs false

attribute [local go_sem high] eqA28
/-! ### tourbillonlaw08_ValidSums: function 5 -/
mutual
def tourbillonlaw08_ValidSums.l0 : Nat → Bool → Int → Int → Int → Int → Int → Int → Int → Int → Int → List (S35) → Option (Bool)
 | 0, _, _, _, _, _, _, _, _, _, _, _ => none
 | k + 1, x3, x4, x159000, x159001, x159002, x159003, x159004, x159005, x159006, x159007, x159008 => if x4 < (x159008.length : Int) then (if 0 ≤ x4 then (tourbillonlaw08_ValidSums.l1 k x3 x4 0 0 x159000 x159001 x159002 x159003 x159004 x159005 x159006 x159007 x159008 ((rd_T35 x159008 x4).f0) ((rd_T35 x159008 x4).f1) ((rd_T35 x159008 x4).f2) ((rd_T35 x159008 x4).f3)) else (none)) else (if x3 = true then (if x159000 ≥ 1 then (if x159000 ≤ 8 then (if x159002 = 1 then (some true) else (some (x159001 == 1))) else (some false)) else (some false)) else (some false))
def tourbillonlaw08_ValidSums.l1 : Nat → Bool → Int → Int → Int → Int → Int → Int → Int → Int → Int → Int → Int → List (S35) → Int → Int → Int → List (S37) → Option (Bool)
 | 0, _, _, _, _, _, _, _, _, _, _, _, _, _, _, _, _, _ => none
 | k + 1, x3, x4, x6, x7, x159000, x159001, x159002, x159003, x159004, x159005, x159006, x159007, x159008, x166000, x166001, x166002, x166003 => if x7 < (x166003.length : Int) then (if 0 ≤ x7 then (if ((rd_T37 x166003 x7).f0) < x6 then (some false) else (if ((rd_T37 x166003 x7).f2) < 1 then (some false) else (if (wrap64 (((rd_T37 x166003 x7).f0) + ((rd_T37 x166003 x7).f2))) > x166002 then (some false) else (if ((rd_T37 x166003 x7).f1) < 0 then (some false) else (if ((rd_T37 x166003 x7).f1) ≥ x159007 then (some false) else (tourbillonlaw08_ValidSums.l1 k x3 x4 (wrap64 (((rd_T37 x166003 x7).f0) + ((rd_T37 x166003 x7).f2))) (wrap64 (x7 + 1)) x159000 x159001 x159002 x159003 x159004 x159005 x159006 x159007 x159008 x166000 x166001 x166002 x166003)))))) else (none)) else (if x166002 < 1 then (some false) else (if x166002 > x166001 then (some false) else (if x166001 > x166000 then (some false) else (if x166000 > 1099511627776 then (some false) else (tourbillonlaw08_ValidSums.l0 k x3 (wrap64 (x4 + 1)) x159000 x159001 x159002 x159003 x159004 x159005 x159006 x159007 x159008)))))
end
def tourbillonlaw08_ValidSums.f (k : Nat) (a0_0 : Int) (a0_1 : Int) (a0_2 : Int) (a0_3 : Int) (a0_4 : Int) (a0_5 : Int) (a0_6 : Int) (a0_7 : Int) (l0_8 : List (S35)) : Option (Bool) := (tourbillonlaw08_examples.f).bind fun t159 => ((valid_Right.f k a0_0 a0_1 a0_2 a0_3 a0_4 a0_5 a0_6 a0_7 l0_8).bind fun t160 => (if t160 = true then (tourbillonlaw08_ValidSums.l0 k t159 0 a0_0 a0_1 a0_2 a0_3 a0_4 a0_5 a0_6 a0_7 l0_8) else (if t159 = true then ((valid_Check.f k a0_0 a0_1 a0_2 a0_3 a0_4 a0_5 a0_6 a0_7 l0_8).bind fun bt161 => (some (bt161.1 == 10))) else (some false))))
theorem tourbillonlaw08_ValidSums.mono_l : ∀ k, (∀ y0 y1 y2 y3 y4 y5 y6 y7 y8 y9 y10, LeO (tourbillonlaw08_ValidSums.l0 k y0 y1 y2 y3 y4 y5 y6 y7 y8 y9 y10) (tourbillonlaw08_ValidSums.l0 (k + 1) y0 y1 y2 y3 y4 y5 y6 y7 y8 y9 y10)) ∧ (∀ y0 y1 y2 y3 y4 y5 y6 y7 y8 y9 y10 y11 y12 y13 y14 y15 y16, LeO (tourbillonlaw08_ValidSums.l1 k y0 y1 y2 y3 y4 y5 y6 y7 y8 y9 y10 y11 y12 y13 y14 y15 y16) (tourbillonlaw08_ValidSums.l1 (k + 1) y0 y1 y2 y3 y4 y5 y6 y7 y8 y9 y10 y11 y12 y13 y14 y15 y16))
 | 0 => ⟨fun _ _ _ _ _ _ _ _ _ _ _ r h => by simp [tourbillonlaw08_ValidSums.l0] at h, fun _ _ _ _ _ _ _ _ _ _ _ _ _ _ _ _ _ r h => by simp [tourbillonlaw08_ValidSums.l1] at h⟩
 | k + 1 => by
  obtain ⟨ih0, ih1⟩ := tourbillonlaw08_ValidSums.mono_l k
  refine ⟨?_, ?_⟩
  ·intro y0 y1 y2 y3 y4 y5 y6 y7 y8 y9 y10
   unfold tourbillonlaw08_ValidSums.l0
   repeat' first
   | (with_reducible exact ih0 _ _ _ _ _ _ _ _ _ _ _)
   | (with_reducible exact ih1 _ _ _ _ _ _ _ _ _ _ _ _ _ _ _ _ _)
   | (with_reducible exact valid_Check.mono _ _ _ _ _ _ _ _ _ _)
   | (with_reducible exact valid_Right.mono _ _ _ _ _ _ _ _ _ _)
   | (with_reducible exact LeO.refl _)
   | (with_reducible exact LeO.none _)
   | (with_reducible refine LeO.ite ?_ ?_)
   | (with_reducible refine LeO.bind ?_ (fun _ => ?_))
   | exact ih0 _ _ _ _ _ _ _ _ _ _ _
   | exact ih1 _ _ _ _ _ _ _ _ _ _ _ _ _ _ _ _ _
   | exact valid_Check.mono _ _ _ _ _ _ _ _ _ _
   | exact valid_Right.mono _ _ _ _ _ _ _ _ _ _
   | exact LeO.none _
   | refine LeO.ite ?_ ?_
   | refine LeO.bind ?_ (fun _ => ?_)
  ·intro y0 y1 y2 y3 y4 y5 y6 y7 y8 y9 y10 y11 y12 y13 y14 y15 y16
   unfold tourbillonlaw08_ValidSums.l1
   repeat' first
   | (with_reducible exact ih0 _ _ _ _ _ _ _ _ _ _ _)
   | (with_reducible exact ih1 _ _ _ _ _ _ _ _ _ _ _ _ _ _ _ _ _)
   | (with_reducible exact valid_Check.mono _ _ _ _ _ _ _ _ _ _)
   | (with_reducible exact valid_Right.mono _ _ _ _ _ _ _ _ _ _)
   | (with_reducible exact LeO.refl _)
   | (with_reducible exact LeO.none _)
   | (with_reducible refine LeO.ite ?_ ?_)
   | (with_reducible refine LeO.bind ?_ (fun _ => ?_))
   | exact ih0 _ _ _ _ _ _ _ _ _ _ _
   | exact ih1 _ _ _ _ _ _ _ _ _ _ _ _ _ _ _ _ _
   | exact valid_Check.mono _ _ _ _ _ _ _ _ _ _
   | exact valid_Right.mono _ _ _ _ _ _ _ _ _ _
   | exact LeO.none _
   | refine LeO.ite ?_ ?_
   | refine LeO.bind ?_ (fun _ => ?_)
theorem tourbillonlaw08_ValidSums.mono : ∀ a0 a1 a2 a3 a4 a5 a6 a7 a8 k, LeO (tourbillonlaw08_ValidSums.f k a0 a1 a2 a3 a4 a5 a6 a7 a8) (tourbillonlaw08_ValidSums.f (k + 1) a0 a1 a2 a3 a4 a5 a6 a7 a8) := by
 intro a0 a1 a2 a3 a4 a5 a6 a7 a8 k
 obtain ⟨ih0, ih1⟩ := tourbillonlaw08_ValidSums.mono_l k
 unfold tourbillonlaw08_ValidSums.f
 repeat' first
   | (with_reducible exact ih0 _ _ _ _ _ _ _ _ _ _ _)
   | (with_reducible exact ih1 _ _ _ _ _ _ _ _ _ _ _ _ _ _ _ _ _)
   | (with_reducible exact valid_Check.mono _ _ _ _ _ _ _ _ _ _)
   | (with_reducible exact valid_Right.mono _ _ _ _ _ _ _ _ _ _)
   | (with_reducible exact LeO.refl _)
   | (with_reducible exact LeO.none _)
   | (with_reducible refine LeO.ite ?_ ?_)
   | (with_reducible refine LeO.bind ?_ (fun _ => ?_))
   | exact ih0 _ _ _ _ _ _ _ _ _ _ _
   | exact ih1 _ _ _ _ _ _ _ _ _ _ _ _ _ _ _ _ _
   | exact valid_Check.mono _ _ _ _ _ _ _ _ _ _
   | exact valid_Right.mono _ _ _ _ _ _ _ _ _ _
   | exact LeO.none _
   | refine LeO.ite ?_ ?_
   | refine LeO.bind ?_ (fun _ => ?_)
set_option maxHeartbeats 8000000 in
set_option maxRecDepth 100000 in
theorem tourbillonlaw08_ValidSums.calls (k : Nat) (a0_0 : Int) (a0_1 : Int) (a0_2 : Int) (a0_3 : Int) (a0_4 : Int) (a0_5 : Int) (a0_6 : Int) (a0_7 : Int) (A0_8 : Option Addr) (c0_8 : Nat) (l0_8 : List (S35)) (r : Bool) (w : World) (hr0_8 : Kd.C k35 w A0_8 l0_8.length l0_8) (hc0_8 : l0_8.length ≤ c0_8) (h : tourbillonlaw08_ValidSums.f k a0_0 a0_1 a0_2 a0_3 a0_4 a0_5 a0_6 a0_7 l0_8 = some r) :
  Calls Try.prog 5 #[.agg #[.int .i64 a0_0, .int .i64 a0_1, .int .i64 a0_2, .int .i64 a0_3, .int .i64 a0_4, .int .i64 a0_5, .int .i64 a0_6, .int .i64 a0_7, .slice A0_8 l0_8.length c0_8]] w fun e w' => e = .returned (.bool r) ∧ Below w.heap.size w w' := by
 have hu24 := Try.underlying24
 have hu28 := Try.underlying28
 have hu35 := Try.underlying35
 have hu37 := Try.underlying37
 have HR0_8 := Aside0.mk hr0_8
 have HC0_8 := Aside0.mk hc0_8
 clear hr0_8 hc0_8
 have HB := Aside0.mk (Below.refl w.heap.size w)
 have H : ((tourbillonlaw08_examples.f).bind fun t159 => ((valid_Right.f k a0_0 a0_1 a0_2 a0_3 a0_4 a0_5 a0_6 a0_7 l0_8).bind fun t160 => (if t160 = true then (tourbillonlaw08_ValidSums.l0 k t159 0 a0_0 a0_1 a0_2 a0_3 a0_4 a0_5 a0_6 a0_7 l0_8) else (if t159 = true then ((valid_Check.f k a0_0 a0_1 a0_2 a0_3 a0_4 a0_5 a0_6 a0_7 l0_8).bind fun bt161 => (some (bt161.1 == 10))) else (some false))))) = some r := h
 clear h
 replace H := Option.bind_eq_some_iff.mp H
 obtain ⟨t159, A20, H⟩ := H
 replace H : ((valid_Right.f k a0_0 a0_1 a0_2 a0_3 a0_4 a0_5 a0_6 a0_7 l0_8).bind fun t160 => (if t160 = true then (tourbillonlaw08_ValidSums.l0 k t159 0 a0_0 a0_1 a0_2 a0_3 a0_4 a0_5 a0_6 a0_7 l0_8) else (if t159 = true then ((valid_Check.f k a0_0 a0_1 a0_2 a0_3 a0_4 a0_5 a0_6 a0_7 l0_8).bind fun bt161 => (some (bt161.1 == 10))) else (some false)))) = some r := H
 have A2 := Aside0.mk A20
 clear A20
 replace H := Option.bind_eq_some_iff.mp H
 obtain ⟨t160, A30, H⟩ := H
 replace H : (if t160 = true then (tourbillonlaw08_ValidSums.l0 k t159 0 a0_0 a0_1 a0_2 a0_3 a0_4 a0_5 a0_6 a0_7 l0_8) else (if t159 = true then ((valid_Check.f k a0_0 a0_1 a0_2 a0_3 a0_4 a0_5 a0_6 a0_7 l0_8).bind fun bt161 => (some (bt161.1 == 10))) else (some false))) = some r := H
 have A3 := Aside0.mk A30
 clear A30
 by_cases c4 : t160 = true
 ·subst c4
  have H1 : (tourbillonlaw08_ValidSums.l0 k t159 0 a0_0 a0_1 a0_2 a0_3 a0_4 a0_5 a0_6 a0_7 l0_8) = some r := by rw [if_pos rfl] at H; exact H
  clear H
  have H := H1
  clear H1
  have H' := Aside0.mk H
  clear H
  go_enter Try.func5, Try.ntmps5
  go_wp2_with (first | ((with_reducible refine gate_dst (N := 1) rfl ?_); refine bV ?hg (N := 1) ?hd (cs := #[.int .i64 a0_0, .int .i64 a0_1, .int .i64 a0_2, .int .i64 a0_3, .int .i64 a0_4, .int .i64 a0_5, .int .i64 a0_6, .int .i64 a0_7, .slice A0_8 l0_8.length c0_8]) (t := 24) ?hr ?_; (case hd => rfl); (case hg => rfl); (case hr => first | (go_simp; done) | (go_simp; rfl)); intro gb158 hg w5 hbox hb; have n0_ := Aside0.mk (bT (by repeat (first | (with_reducible first | exact HB.out | apply bL | apply bP | apply bW) | exact HB.out)) hb); have n1_ := Aside0.mk (hbox); have n2_ := Aside0.mk ((by rw [hg]; exact (bZ (by repeat (first | (with_reducible first | exact HB.out | apply bL | apply bP | apply bW) | exact HB.out))) : w.heap.size ≤ gb158)); have n3_ := Aside0.mk ((by rw [hg]; exact (bZ (by repeat (first | (with_reducible first | exact HB.out | apply bL | apply bP | apply bW) | exact HB.out))) : w.heap.size ≤ gb158)); clear HB; have HB := n0_; have BK158 := n1_; have GW158 := n2_; have GE158 := n3_; clear n0_ n1_ n2_ n3_; clear hb hbox hg) | ((with_reducible refine gate_callee (f := 7) rfl ?_); refine goesL_ (some 9) rfl rfl Try.func7 (by kernel_rfl) rfl #[] rfl (by (try simp only [List.map_toArray, List.map_cons, List.map_nil]); first | done | rfl | (simp only [List.length_drop, List.length_take]; rfl)) ?_; (with_reducible refine (tourbillonlaw08_examples.calls  t159 _ A2.out).mono ?_); rintro e w6 ⟨rfl, hb⟩; refine ⟨_, rfl, ?_⟩; have n0_ := Aside0.mk (bB (g := gb158) (o := .cells #[.int .i64 a0_0, .int .i64 a0_1, .int .i64 a0_2, .int .i64 a0_3, .int .i64 a0_4, .int .i64 a0_5, .int .i64 a0_6, .int .i64 a0_7, .slice A0_8 l0_8.length c0_8] 24 (0, 0)) (by (with_reducible repeat (first | refine bN ?_ _ | refine bD ?_ | refine bA ?_ _)); exact BK158.out) hb); have n1_ := Aside0.mk (bT (by repeat (first | (with_reducible first | exact HB.out | apply bL | apply bP | apply bW | refine bS ?_ GE158.out) | exact HB.out)) hb); clear BK158; clear HB; have BK158 := n0_; have HB := n1_; clear n0_ n1_; (try clear hb); (try clear hb2); (try clear hk); (try clear hi); have hcz7_0 : w6.cell? ⟨gb158, 0, none⟩ = some (.int .i64 a0_0) := (bC BK158.out 0).trans rfl; have hcz7_1 : w6.cell? ⟨gb158, 1, none⟩ = some (.int .i64 a0_1) := (bC BK158.out 1).trans rfl; have hcz7_2 : w6.cell? ⟨gb158, 2, none⟩ = some (.int .i64 a0_2) := (bC BK158.out 2).trans rfl; have hcz7_3 : w6.cell? ⟨gb158, 3, none⟩ = some (.int .i64 a0_3) := (bC BK158.out 3).trans rfl; have hcz7_4 : w6.cell? ⟨gb158, 4, none⟩ = some (.int .i64 a0_4) := (bC BK158.out 4).trans rfl; have hcz7_5 : w6.cell? ⟨gb158, 5, none⟩ = some (.int .i64 a0_5) := (bC BK158.out 5).trans rfl; have hcz7_6 : w6.cell? ⟨gb158, 6, none⟩ = some (.int .i64 a0_6) := (bC BK158.out 6).trans rfl; have hcz7_7 : w6.cell? ⟨gb158, 7, none⟩ = some (.int .i64 a0_7) := (bC BK158.out 7).trans rfl; have hcz7_8 : w6.cell? ⟨gb158, 8, none⟩ = some (.slice A0_8 l0_8.length c0_8) := (bC BK158.out 8).trans rfl; have hfz7_0 := bF BK158.out 0; have hfz7_1 := bF BK158.out 1; have hfz7_2 := bF BK158.out 2; have hfz7_3 := bF BK158.out 3; have hfz7_4 := bF BK158.out 4; have hfz7_5 := bF BK158.out 5; have hfz7_6 := bF BK158.out 6; have hfz7_7 := bF BK158.out 7; have hfz7_8 := bF BK158.out 8) | ((with_reducible refine gate_callee (f := 10) rfl ?_); refine goesL_ (some 11) rfl rfl Try.func10 (by kernel_rfl) rfl #[.agg #[.int .i64 a0_0, .int .i64 a0_1, .int .i64 a0_2, .int .i64 a0_3, .int .i64 a0_4, .int .i64 a0_5, .int .i64 a0_6, .int .i64 a0_7, .slice A0_8 l0_8.length c0_8]] rfl (by (try simp only [List.map_toArray, List.map_cons, List.map_nil]); first | done | rfl | (simp only [List.length_drop, List.length_take]; rfl)) ?_; (with_reducible refine (valid_Right.calls k a0_0 a0_1 a0_2 a0_3 a0_4 a0_5 a0_6 a0_7 _ _ l0_8 true _ ?side1 ?side2 A3.out).mono ?_); (case side1 => repeat (first | exact (Kd.C_below HR0_8.out HB.out) | (with_reducible refine Kd.C_alloc ?_ _) | (with_reducible refine Kd.C_drewN ?_ _) | (with_reducible refine Kd.C_drew ?_))); (case side2 => exact HC0_8.out); rintro e w8 ⟨rfl, hb⟩; refine ⟨_, rfl, ?_⟩; have n0_ := Aside0.mk (bB (g := gb158) (o := .cells #[.int .i64 a0_0, .int .i64 a0_1, .int .i64 a0_2, .int .i64 a0_3, .int .i64 a0_4, .int .i64 a0_5, .int .i64 a0_6, .int .i64 a0_7, .slice A0_8 l0_8.length c0_8] 24 (0, 0)) (by (with_reducible repeat (first | refine bN ?_ _ | refine bD ?_ | refine bA ?_ _)); exact BK158.out) hb); have n1_ := Aside0.mk (bT (by repeat (first | (with_reducible first | exact HB.out | apply bL | apply bP | apply bW | refine bS ?_ GE158.out) | exact HB.out)) hb); clear BK158; clear HB; have BK158 := n0_; have HB := n1_; clear n0_ n1_; (try clear hb); (try clear hb2); (try clear hk); (try clear hi)))
  go_loopg [4] k (fun kq v4 w' => ∃ (x4_1 : Int), v4 = .int .i64 x4_1 ∧ Aside0 (tourbillonlaw08_ValidSums.l0 kq t159 x4_1 a0_0 a0_1 a0_2 a0_3 a0_4 a0_5 a0_6 a0_7 l0_8 = some r) ∧ Aside0 (kq ≤ k) ∧ Aside0 (w'.heap[gb158]? = some (.cells #[.int .i64 a0_0, .int .i64 a0_1, .int .i64 a0_2, .int .i64 a0_3, .int .i64 a0_4, .int .i64 a0_5, .int .i64 a0_6, .int .i64 a0_7, (.slice A0_8 l0_8.length c0_8)] 24 (0, 0))) ∧ Aside0 (Below w.heap.size w w'))
  case atStart => exact ⟨(0), (by first | rfl | (simp; done) | (simp [*]; done) | (simp only [bne, Bool.not_not]; done)), H', ⟨Nat.le_refl _⟩, ⟨by (with_reducible repeat (first | refine bN ?_ _ | refine bD ?_ | refine bA ?_ _)); exact BK158.out⟩, ⟨by repeat (first | (with_reducible first | exact HB.out | apply bL | apply bP | apply bW | refine bS ?_ GE158.out) | exact HB.out)⟩⟩
  case round =>
   clear H'
   try clear c1
   try clear p2
   try clear c4
   try clear c5
   try clear c7
   try clear hcz7_0
   try clear hcz7_1
   try clear hcz7_2
   try clear hcz7_3
   try clear hcz7_4
   try clear hcz7_5
   try clear hcz7_6
   try clear hcz7_7
   try clear hcz7_8
   try clear hfz7_0
   try clear hfz7_1
   try clear hfz7_2
   try clear hfz7_3
   try clear hfz7_4
   try clear hfz7_5
   try clear hfz7_6
   try clear hfz7_7
   try clear hfz7_8
   obtain ⟨x4_1, rfl, HA, HK1, BK158, HB⟩ := hrel
   cases gk with
   | zero => exact absurd HA.out (by simp [tourbillonlaw08_ValidSums.l0])
   | succ k1 =>
    have H := HA.out
    clear HA
    simp only [tourbillonlaw08_ValidSums.l0] at H
    by_cases c9 : x4_1 < (l0_8.length : Int)
    ·rw [if_pos c9] at H
     have c9b0 : decide (x4_1 < (l0_8.length : Int)) = true := decide_eq_true c9
     clear c9
     by_cases c10 : 0 ≤ x4_1
     ·rw [if_pos c10] at H
      have c10b0 : decide (0 ≤ x4_1) = true := decide_eq_true c10
      clear c10
      have H' := Aside0.mk H
      clear H
      have hcz11_0 : wr.cell? ⟨gb158, 0, none⟩ = some (.int .i64 a0_0) := (bC BK158.out 0).trans rfl
      have hcz11_1 : wr.cell? ⟨gb158, 1, none⟩ = some (.int .i64 a0_1) := (bC BK158.out 1).trans rfl
      have hcz11_2 : wr.cell? ⟨gb158, 2, none⟩ = some (.int .i64 a0_2) := (bC BK158.out 2).trans rfl
      have hcz11_3 : wr.cell? ⟨gb158, 3, none⟩ = some (.int .i64 a0_3) := (bC BK158.out 3).trans rfl
      have hcz11_4 : wr.cell? ⟨gb158, 4, none⟩ = some (.int .i64 a0_4) := (bC BK158.out 4).trans rfl
      have hcz11_5 : wr.cell? ⟨gb158, 5, none⟩ = some (.int .i64 a0_5) := (bC BK158.out 5).trans rfl
      have hcz11_6 : wr.cell? ⟨gb158, 6, none⟩ = some (.int .i64 a0_6) := (bC BK158.out 6).trans rfl
      have hcz11_7 : wr.cell? ⟨gb158, 7, none⟩ = some (.int .i64 a0_7) := (bC BK158.out 7).trans rfl
      have hcz11_8 : wr.cell? ⟨gb158, 8, none⟩ = some (.slice A0_8 l0_8.length c0_8) := (bC BK158.out 8).trans rfl
      have hfz11_0 := bF BK158.out 0
      have hfz11_1 := bF BK158.out 1
      have hfz11_2 := bF BK158.out 2
      have hfz11_3 := bF BK158.out 3
      have hfz11_4 := bF BK158.out 4
      have hfz11_5 := bF BK158.out 5
      have hfz11_6 := bF BK158.out 6
      have hfz11_7 := bF BK158.out 7
      have hfz11_8 := bF BK158.out 8
      have p164 : 0 ≤ (x4_1 : Int) := of_decide_eq_true (by first | (with_reducible assumption) | assumption)
      have q164 : x4_1 < (l0_8.length : Int) := of_decide_eq_true (by first | (with_reducible assumption) | assumption)
      obtain ⟨ad164, A164_3, c164_3, e164, hx164_0, hx164_1, hx164_2, hx164_3, hl164_3, hi164_3⟩ := at_T35 HR0_8.out x4_1 p164 q164
      cases e164
      replace hx164_0 := (HB.out.cell (World.block_lt_of_cell? w _ hx164_0)).trans hx164_0
      replace hx164_1 := (HB.out.cell (World.block_lt_of_cell? w _ hx164_1)).trans hx164_1
      replace hx164_2 := (HB.out.cell (World.block_lt_of_cell? w _ hx164_2)).trans hx164_2
      replace hx164_3 := (HB.out.cell (World.block_lt_of_cell? w _ hx164_3)).trans hx164_3
      have HR164_3 := Aside0.mk hi164_3
      have HC164_3 := Aside0.mk hl164_3
      clear hi164_3 hl164_3
      replace p164 := eq_true p164
      replace q164 := eq_true q164
      go_wp2_with (first | ((with_reducible refine gate_dst (N := 5) rfl ?_); refine bV ?hg (N := 5) ?hd (cs := #[.int .i64 0, .int .i64 0, .int .i64 0, .slice none 0 0]) (t := 35) ?hr ?_; (case hd => rfl); (case hg => rfl); (case hr => first | (go_simp; done) | (go_simp; rfl)); intro gb165 hg w12 hbox hb; have n0_ := Aside0.mk (bB (g := gb158) (o := .cells #[.int .i64 a0_0, .int .i64 a0_1, .int .i64 a0_2, .int .i64 a0_3, .int .i64 a0_4, .int .i64 a0_5, .int .i64 a0_6, .int .i64 a0_7, .slice (some ad164) l0_8.length c0_8] 24 (0, 0)) (by (with_reducible repeat (first | refine bN ?_ _ | refine bD ?_ | refine bA ?_ _)); exact BK158.out) hb); have n1_ := Aside0.mk (bT (by repeat (first | (with_reducible first | exact HB.out | apply bL | apply bP | apply bW | refine bS ?_ GE158.out) | exact HB.out)) hb); have n2_ := Aside0.mk (hbox); have n3_ := Aside0.mk ((by rw [hg]; exact (bZ (by repeat (first | (with_reducible first | exact HB.out | apply bL | apply bP | apply bW | refine bS ?_ GE158.out) | exact HB.out))) : w.heap.size ≤ gb165)); have n4_ := Aside0.mk ((by rw [hg]; exact (bZ (by repeat (first | (with_reducible first | exact HB.out | apply bL | apply bP | apply bW | refine bS ?_ GE158.out) | exact HB.out))) : w.heap.size ≤ gb165)); have n5_ := Aside0.mk ((by rw [hg]; exact Nat.ne_of_lt (bQ (g := gb158) (o := .cells #[.int .i64 a0_0, .int .i64 a0_1, .int .i64 a0_2, .int .i64 a0_3, .int .i64 a0_4, .int .i64 a0_5, .int .i64 a0_6, .int .i64 a0_7, .slice (some ad164) l0_8.length c0_8] 24 (0, 0)) (by (with_reducible repeat (first | refine bN ?_ _ | refine bD ?_ | refine bA ?_ _)); exact BK158.out)) : gb158 ≠ gb165)); have n6_ := Aside0.mk ((by rw [hg]; exact Nat.ne_of_gt (bQ (g := gb158) (o := .cells #[.int .i64 a0_0, .int .i64 a0_1, .int .i64 a0_2, .int .i64 a0_3, .int .i64 a0_4, .int .i64 a0_5, .int .i64 a0_6, .int .i64 a0_7, .slice (some ad164) l0_8.length c0_8] 24 (0, 0)) (by (with_reducible repeat (first | refine bN ?_ _ | refine bD ?_ | refine bA ?_ _)); exact BK158.out)) : gb165 ≠ gb158)); clear BK158; clear HB; have BK158 := n0_; have HB := n1_; have BK165 := n2_; have GW165 := n3_; have GE165 := n4_; have NB158_165 := n5_; have NB165_158 := n6_; clear n0_ n1_ n2_ n3_ n4_ n5_ n6_; clear hb hbox hg; have hnb13 := NB165_158.out; have hnc13 := NB158_165.out; have hcz14_0 : w12.cell? ⟨gb165, 0, none⟩ = some (.int .i64 0) := (bC BK165.out 0).trans rfl; have hcz14_1 : w12.cell? ⟨gb165, 1, none⟩ = some (.int .i64 0) := (bC BK165.out 1).trans rfl; have hcz14_2 : w12.cell? ⟨gb165, 2, none⟩ = some (.int .i64 0) := (bC BK165.out 2).trans rfl; have hcz14_3 : w12.cell? ⟨gb165, 3, none⟩ = some (.slice none 0 0) := (bC BK165.out 3).trans rfl; have hfz14_0 := bF BK165.out 0; have hfz14_1 := bF BK165.out 1; have hfz14_2 := bF BK165.out 2; have hfz14_3 := bF BK165.out 3))
      go_loopg [6, 7] k1 (fun kq v6 v7 w' => ∃ (x6_2 : Int) (x7_2 : Int), v6 = .int .i64 x6_2 ∧ v7 = .int .i64 x7_2 ∧ Aside0 (tourbillonlaw08_ValidSums.l1 kq t159 x4_1 x6_2 x7_2 a0_0 a0_1 a0_2 a0_3 a0_4 a0_5 a0_6 a0_7 l0_8 ((rd_T35 l0_8 x4_1).f0) ((rd_T35 l0_8 x4_1).f1) ((rd_T35 l0_8 x4_1).f2) ((rd_T35 l0_8 x4_1).f3) = some r) ∧ Aside0 (kq ≤ k1) ∧ Aside0 (w'.heap[gb158]? = some (.cells #[.int .i64 a0_0, .int .i64 a0_1, .int .i64 a0_2, .int .i64 a0_3, .int .i64 a0_4, .int .i64 a0_5, .int .i64 a0_6, .int .i64 a0_7, (.slice (some ad164) l0_8.length c0_8)] 24 (0, 0))) ∧ Aside0 (w'.heap[gb165]? = some (.cells #[.int .i64 ((rd_T35 l0_8 x4_1).f0), .int .i64 ((rd_T35 l0_8 x4_1).f1), .int .i64 ((rd_T35 l0_8 x4_1).f2), (.slice A164_3 ((rd_T35 l0_8 x4_1).f3).length c164_3)] 35 (0, 0))) ∧ Aside0 (Below w.heap.size w w'))
      case atStart => exact ⟨(0), (0), (by first | rfl | (simp; done) | (simp [*]; done) | (simp only [bne, Bool.not_not]; done)), (by first | rfl | (simp; done) | (simp [*]; done) | (simp only [bne, Bool.not_not]; done)), H', ⟨Nat.le_refl _⟩, ⟨by (with_reducible repeat (first | refine bN ?_ _ | refine bD ?_ | refine bA ?_ _)); refine bR ?_ NB158_165.out _; (with_reducible repeat (first | refine bN ?_ _ | refine bD ?_ | refine bA ?_ _)); refine bR ?_ NB158_165.out _; (with_reducible repeat (first | refine bN ?_ _ | refine bD ?_ | refine bA ?_ _)); refine bR ?_ NB158_165.out _; (with_reducible repeat (first | refine bN ?_ _ | refine bD ?_ | refine bA ?_ _)); refine bR ?_ NB158_165.out _; (with_reducible repeat (first | refine bN ?_ _ | refine bD ?_ | refine bA ?_ _)); exact BK158.out⟩, ⟨by (with_reducible repeat (first | refine bN ?_ _ | refine bD ?_ | refine bA ?_ _)); refine blk_put (cs := #[.int .i64 ((rd_T35 l0_8 x4_1).f0), .int .i64 ((rd_T35 l0_8 x4_1).f1), .int .i64 ((rd_T35 l0_8 x4_1).f2), .slice none 0 0]) ?_ 3 _ rfl; (with_reducible repeat (first | refine bN ?_ _ | refine bD ?_ | refine bA ?_ _)); refine blk_put (cs := #[.int .i64 ((rd_T35 l0_8 x4_1).f0), .int .i64 ((rd_T35 l0_8 x4_1).f1), .int .i64 0, .slice none 0 0]) ?_ 2 _ rfl; (with_reducible repeat (first | refine bN ?_ _ | refine bD ?_ | refine bA ?_ _)); refine blk_put (cs := #[.int .i64 ((rd_T35 l0_8 x4_1).f0), .int .i64 0, .int .i64 0, .slice none 0 0]) ?_ 1 _ rfl; (with_reducible repeat (first | refine bN ?_ _ | refine bD ?_ | refine bA ?_ _)); refine blk_put (cs := #[.int .i64 0, .int .i64 0, .int .i64 0, .slice none 0 0]) ?_ 0 _ rfl; (with_reducible repeat (first | refine bN ?_ _ | refine bD ?_ | refine bA ?_ _)); exact BK165.out⟩, ⟨by repeat (first | (with_reducible first | exact HB.out | apply bL | apply bP | apply bW | refine bS ?_ GE158.out | refine bS ?_ GE165.out) | exact HB.out)⟩⟩
      case round =>
       clear H'
       try clear c1
       try clear p1
       try clear q1
       try clear hx1
       try clear p2
       try clear c4
       try clear c5
       try clear c7
       try clear c9
       try clear c9b0
       try clear c10
       try clear c10b0
       try clear c13
       try clear hcz11_0
       try clear hcz11_1
       try clear hcz11_2
       try clear hcz11_3
       try clear hcz11_4
       try clear hcz11_5
       try clear hcz11_6
       try clear hcz11_7
       try clear hcz11_8
       try clear hcz14_0
       try clear hcz14_1
       try clear hcz14_2
       try clear hcz14_3
       try clear hcz7_0
       try clear hcz7_1
       try clear hcz7_2
       try clear hcz7_3
       try clear hcz7_4
       try clear hcz7_5
       try clear hcz7_6
       try clear hcz7_7
       try clear hcz7_8
       try clear hfz11_0
       try clear hfz11_1
       try clear hfz11_2
       try clear hfz11_3
       try clear hfz11_4
       try clear hfz11_5
       try clear hfz11_6
       try clear hfz11_7
       try clear hfz11_8
       try clear hfz14_0
       try clear hfz14_1
       try clear hfz14_2
       try clear hfz14_3
       try clear hfz7_0
       try clear hfz7_1
       try clear hfz7_2
       try clear hfz7_3
       try clear hfz7_4
       try clear hfz7_5
       try clear hfz7_6
       try clear hfz7_7
       try clear hfz7_8
       try clear hx164_0
       try clear hx164_1
       try clear hx164_2
       try clear hx164_3
       try clear p164
       try clear p2
       try clear q164
       obtain ⟨x6_2, x7_2, rfl, rfl, HA, HK2, BK158, BK165, HB⟩ := hrel
       cases gk with
       | zero => exact absurd HA.out (by simp [tourbillonlaw08_ValidSums.l1])
       | succ k2 =>
        have H := HA.out
        clear HA
        simp only [tourbillonlaw08_ValidSums.l1] at H
        by_cases c15 : x7_2 < (((rd_T35 l0_8 x4_1).f3).length : Int)
        ·rw [if_pos c15] at H
         have c15b0 : decide (x7_2 < (((rd_T35 l0_8 x4_1).f3).length : Int)) = true := decide_eq_true c15
         clear c15
         by_cases c16 : 0 ≤ x7_2
         ·rw [if_pos c16] at H
          have c16b0 : decide (0 ≤ x7_2) = true := decide_eq_true c16
          clear c16
          by_cases c17 : ((rd_T37 ((rd_T35 l0_8 x4_1).f3) x7_2).f0) < x6_2
          ·rw [if_pos c17] at H
           have c17b0 : decide (((rd_T37 ((rd_T35 l0_8 x4_1).f3) x7_2).f0) < x6_2) = true := decide_eq_true c17
           clear c17
           obtain rfl := Option.some.inj H
           have hnb18 := NB165_158.out
           have hnc18 := NB158_165.out
           have hcz19_0 : wr.cell? ⟨gb165, 0, none⟩ = some (.int .i64 ((rd_T35 l0_8 x4_1).f0)) := (bC BK165.out 0).trans rfl
           have hcz19_1 : wr.cell? ⟨gb165, 1, none⟩ = some (.int .i64 ((rd_T35 l0_8 x4_1).f1)) := (bC BK165.out 1).trans rfl
           have hcz19_2 : wr.cell? ⟨gb165, 2, none⟩ = some (.int .i64 ((rd_T35 l0_8 x4_1).f2)) := (bC BK165.out 2).trans rfl
           have hcz19_3 : wr.cell? ⟨gb165, 3, none⟩ = some (.slice A164_3 ((rd_T35 l0_8 x4_1).f3).length c164_3) := (bC BK165.out 3).trans rfl
           have hfz19_0 := bF BK165.out 0
           have hfz19_1 := bF BK165.out 1
           have hfz19_2 := bF BK165.out 2
           have hfz19_3 := bF BK165.out 3
           have p166 : 0 ≤ (x7_2 : Int) := of_decide_eq_true (by first | (with_reducible assumption) | assumption)
           have q166 : x7_2 < (((rd_T35 l0_8 x4_1).f3).length : Int) := of_decide_eq_true (by first | (with_reducible assumption) | assumption)
           obtain ⟨ad166, e166, hx166_0, hx166_1, hx166_2⟩ := at_T37 HR164_3.out x7_2 p166 q166
           cases e166
           replace hx166_0 := (HB.out.cell (World.block_lt_of_cell? w _ hx166_0)).trans hx166_0
           replace hx166_1 := (HB.out.cell (World.block_lt_of_cell? w _ hx166_1)).trans hx166_1
           replace hx166_2 := (HB.out.cell (World.block_lt_of_cell? w _ hx166_2)).trans hx166_2
           replace p166 := eq_true p166
           replace q166 := eq_true q166
           go_wp2_with (first | ((with_reducible refine gate_dst (N := 8) rfl ?_); refine bV ?hg (N := 8) ?hd (cs := #[.int .i64 0, .int .i64 0, .int .i64 0]) (t := 37) ?hr ?_; (case hd => rfl); (case hg => rfl); (case hr => first | (go_simp; done) | (go_simp; rfl)); intro gb167 hg w20 hbox hb; have n0_ := Aside0.mk (bB (g := gb158) (o := .cells #[.int .i64 a0_0, .int .i64 a0_1, .int .i64 a0_2, .int .i64 a0_3, .int .i64 a0_4, .int .i64 a0_5, .int .i64 a0_6, .int .i64 a0_7, .slice (some ad164) l0_8.length c0_8] 24 (0, 0)) (by (with_reducible repeat (first | refine bN ?_ _ | refine bD ?_ | refine bA ?_ _)); exact BK158.out) hb); have n1_ := Aside0.mk (bB (g := gb165) (o := .cells #[.int .i64 ((rd_T35 l0_8 x4_1).f0), .int .i64 ((rd_T35 l0_8 x4_1).f1), .int .i64 ((rd_T35 l0_8 x4_1).f2), .slice (some ad166) ((rd_T35 l0_8 x4_1).f3).length c164_3] 35 (0, 0)) (by (with_reducible repeat (first | refine bN ?_ _ | refine bD ?_ | refine bA ?_ _)); exact BK165.out) hb); have n2_ := Aside0.mk (bT (by repeat (first | (with_reducible first | exact HB.out | apply bL | apply bP | apply bW | refine bS ?_ GE158.out | refine bS ?_ GE165.out) | exact HB.out)) hb); have n3_ := Aside0.mk (hbox); have n4_ := Aside0.mk ((by rw [hg]; exact (bZ (by repeat (first | (with_reducible first | exact HB.out | apply bL | apply bP | apply bW | refine bS ?_ GE158.out | refine bS ?_ GE165.out) | exact HB.out))) : w.heap.size ≤ gb167)); have n5_ := Aside0.mk ((by rw [hg]; exact (bZ (by repeat (first | (with_reducible first | exact HB.out | apply bL | apply bP | apply bW | refine bS ?_ GE158.out | refine bS ?_ GE165.out) | exact HB.out))) : w.heap.size ≤ gb167)); have n6_ := Aside0.mk ((by rw [hg]; exact Nat.ne_of_lt (bQ (g := gb158) (o := .cells #[.int .i64 a0_0, .int .i64 a0_1, .int .i64 a0_2, .int .i64 a0_3, .int .i64 a0_4, .int .i64 a0_5, .int .i64 a0_6, .int .i64 a0_7, .slice (some ad164) l0_8.length c0_8] 24 (0, 0)) (by (with_reducible repeat (first | refine bN ?_ _ | refine bD ?_ | refine bA ?_ _)); exact BK158.out)) : gb158 ≠ gb167)); have n7_ := Aside0.mk ((by rw [hg]; exact Nat.ne_of_gt (bQ (g := gb158) (o := .cells #[.int .i64 a0_0, .int .i64 a0_1, .int .i64 a0_2, .int .i64 a0_3, .int .i64 a0_4, .int .i64 a0_5, .int .i64 a0_6, .int .i64 a0_7, .slice (some ad164) l0_8.length c0_8] 24 (0, 0)) (by (with_reducible repeat (first | refine bN ?_ _ | refine bD ?_ | refine bA ?_ _)); exact BK158.out)) : gb167 ≠ gb158)); have n8_ := Aside0.mk ((by rw [hg]; exact Nat.ne_of_lt (bQ (g := gb165) (o := .cells #[.int .i64 ((rd_T35 l0_8 x4_1).f0), .int .i64 ((rd_T35 l0_8 x4_1).f1), .int .i64 ((rd_T35 l0_8 x4_1).f2), .slice (some ad166) ((rd_T35 l0_8 x4_1).f3).length c164_3] 35 (0, 0)) (by (with_reducible repeat (first | refine bN ?_ _ | refine bD ?_ | refine bA ?_ _)); exact BK165.out)) : gb165 ≠ gb167)); have n9_ := Aside0.mk ((by rw [hg]; exact Nat.ne_of_gt (bQ (g := gb165) (o := .cells #[.int .i64 ((rd_T35 l0_8 x4_1).f0), .int .i64 ((rd_T35 l0_8 x4_1).f1), .int .i64 ((rd_T35 l0_8 x4_1).f2), .slice (some ad166) ((rd_T35 l0_8 x4_1).f3).length c164_3] 35 (0, 0)) (by (with_reducible repeat (first | refine bN ?_ _ | refine bD ?_ | refine bA ?_ _)); exact BK165.out)) : gb167 ≠ gb165)); clear BK158; clear BK165; clear HB; have BK158 := n0_; have BK165 := n1_; have HB := n2_; have BK167 := n3_; have GW167 := n4_; have GE167 := n5_; have NB158_167 := n6_; have NB167_158 := n7_; have NB165_167 := n8_; have NB167_165 := n9_; clear n0_ n1_ n2_ n3_ n4_ n5_ n6_ n7_ n8_ n9_; clear hb hbox hg; have hnb21 := NB167_158.out; have hnc21 := NB158_167.out; have hnb22 := NB167_165.out; have hnc22 := NB165_167.out; have hcz23_0 : w20.cell? ⟨gb167, 0, none⟩ = some (.int .i64 0) := (bC BK167.out 0).trans rfl; have hcz23_1 : w20.cell? ⟨gb167, 1, none⟩ = some (.int .i64 0) := (bC BK167.out 1).trans rfl; have hcz23_2 : w20.cell? ⟨gb167, 2, none⟩ = some (.int .i64 0) := (bC BK167.out 2).trans rfl; have hfz23_0 := bF BK167.out 0; have hfz23_1 := bF BK167.out 1; have hfz23_2 := bF BK167.out 2))
           go_ret
           exact ⟨by first | rfl | (simp [errW_none, errW_some] <;> rfl) | (simp [*, errW_none, errW_some] <;> rfl), by repeat (first | (with_reducible first | exact HB.out | apply bL | apply bP | apply bW | refine bS ?_ GE158.out | refine bS ?_ GE165.out | refine bS ?_ GE167.out) | exact HB.out)⟩
          ·rw [if_neg c17] at H
           have c17b0 : decide (((rd_T37 ((rd_T35 l0_8 x4_1).f3) x7_2).f0) < x6_2) = false := decide_eq_false c17
           clear c17
           by_cases c24 : ((rd_T37 ((rd_T35 l0_8 x4_1).f3) x7_2).f2) < 1
           ·rw [if_pos c24] at H
            have c24b0 : decide (((rd_T37 ((rd_T35 l0_8 x4_1).f3) x7_2).f2) < 1) = true := decide_eq_true c24
            clear c24
            obtain rfl := Option.some.inj H
            have hnb25 := NB165_158.out
            have hnc25 := NB158_165.out
            have hcz26_0 : wr.cell? ⟨gb165, 0, none⟩ = some (.int .i64 ((rd_T35 l0_8 x4_1).f0)) := (bC BK165.out 0).trans rfl
            have hcz26_1 : wr.cell? ⟨gb165, 1, none⟩ = some (.int .i64 ((rd_T35 l0_8 x4_1).f1)) := (bC BK165.out 1).trans rfl
            have hcz26_2 : wr.cell? ⟨gb165, 2, none⟩ = some (.int .i64 ((rd_T35 l0_8 x4_1).f2)) := (bC BK165.out 2).trans rfl
            have hcz26_3 : wr.cell? ⟨gb165, 3, none⟩ = some (.slice A164_3 ((rd_T35 l0_8 x4_1).f3).length c164_3) := (bC BK165.out 3).trans rfl
            have hfz26_0 := bF BK165.out 0
            have hfz26_1 := bF BK165.out 1
            have hfz26_2 := bF BK165.out 2
            have hfz26_3 := bF BK165.out 3
            have p166 : 0 ≤ (x7_2 : Int) := of_decide_eq_true (by first | (with_reducible assumption) | assumption)
            have q166 : x7_2 < (((rd_T35 l0_8 x4_1).f3).length : Int) := of_decide_eq_true (by first | (with_reducible assumption) | assumption)
            obtain ⟨ad166, e166, hx166_0, hx166_1, hx166_2⟩ := at_T37 HR164_3.out x7_2 p166 q166
            cases e166
            replace hx166_0 := (HB.out.cell (World.block_lt_of_cell? w _ hx166_0)).trans hx166_0
            replace hx166_1 := (HB.out.cell (World.block_lt_of_cell? w _ hx166_1)).trans hx166_1
            replace hx166_2 := (HB.out.cell (World.block_lt_of_cell? w _ hx166_2)).trans hx166_2
            replace p166 := eq_true p166
            replace q166 := eq_true q166
            go_wp2_with (first | ((with_reducible refine gate_dst (N := 8) rfl ?_); refine bV ?hg (N := 8) ?hd (cs := #[.int .i64 0, .int .i64 0, .int .i64 0]) (t := 37) ?hr ?_; (case hd => rfl); (case hg => rfl); (case hr => first | (go_simp; done) | (go_simp; rfl)); intro gb167 hg w27 hbox hb; have n0_ := Aside0.mk (bB (g := gb158) (o := .cells #[.int .i64 a0_0, .int .i64 a0_1, .int .i64 a0_2, .int .i64 a0_3, .int .i64 a0_4, .int .i64 a0_5, .int .i64 a0_6, .int .i64 a0_7, .slice (some ad164) l0_8.length c0_8] 24 (0, 0)) (by (with_reducible repeat (first | refine bN ?_ _ | refine bD ?_ | refine bA ?_ _)); exact BK158.out) hb); have n1_ := Aside0.mk (bB (g := gb165) (o := .cells #[.int .i64 ((rd_T35 l0_8 x4_1).f0), .int .i64 ((rd_T35 l0_8 x4_1).f1), .int .i64 ((rd_T35 l0_8 x4_1).f2), .slice (some ad166) ((rd_T35 l0_8 x4_1).f3).length c164_3] 35 (0, 0)) (by (with_reducible repeat (first | refine bN ?_ _ | refine bD ?_ | refine bA ?_ _)); exact BK165.out) hb); have n2_ := Aside0.mk (bT (by repeat (first | (with_reducible first | exact HB.out | apply bL | apply bP | apply bW | refine bS ?_ GE158.out | refine bS ?_ GE165.out) | exact HB.out)) hb); have n3_ := Aside0.mk (hbox); have n4_ := Aside0.mk ((by rw [hg]; exact (bZ (by repeat (first | (with_reducible first | exact HB.out | apply bL | apply bP | apply bW | refine bS ?_ GE158.out | refine bS ?_ GE165.out) | exact HB.out))) : w.heap.size ≤ gb167)); have n5_ := Aside0.mk ((by rw [hg]; exact (bZ (by repeat (first | (with_reducible first | exact HB.out | apply bL | apply bP | apply bW | refine bS ?_ GE158.out | refine bS ?_ GE165.out) | exact HB.out))) : w.heap.size ≤ gb167)); have n6_ := Aside0.mk ((by rw [hg]; exact Nat.ne_of_lt (bQ (g := gb158) (o := .cells #[.int .i64 a0_0, .int .i64 a0_1, .int .i64 a0_2, .int .i64 a0_3, .int .i64 a0_4, .int .i64 a0_5, .int .i64 a0_6, .int .i64 a0_7, .slice (some ad164) l0_8.length c0_8] 24 (0, 0)) (by (with_reducible repeat (first | refine bN ?_ _ | refine bD ?_ | refine bA ?_ _)); exact BK158.out)) : gb158 ≠ gb167)); have n7_ := Aside0.mk ((by rw [hg]; exact Nat.ne_of_gt (bQ (g := gb158) (o := .cells #[.int .i64 a0_0, .int .i64 a0_1, .int .i64 a0_2, .int .i64 a0_3, .int .i64 a0_4, .int .i64 a0_5, .int .i64 a0_6, .int .i64 a0_7, .slice (some ad164) l0_8.length c0_8] 24 (0, 0)) (by (with_reducible repeat (first | refine bN ?_ _ | refine bD ?_ | refine bA ?_ _)); exact BK158.out)) : gb167 ≠ gb158)); have n8_ := Aside0.mk ((by rw [hg]; exact Nat.ne_of_lt (bQ (g := gb165) (o := .cells #[.int .i64 ((rd_T35 l0_8 x4_1).f0), .int .i64 ((rd_T35 l0_8 x4_1).f1), .int .i64 ((rd_T35 l0_8 x4_1).f2), .slice (some ad166) ((rd_T35 l0_8 x4_1).f3).length c164_3] 35 (0, 0)) (by (with_reducible repeat (first | refine bN ?_ _ | refine bD ?_ | refine bA ?_ _)); exact BK165.out)) : gb165 ≠ gb167)); have n9_ := Aside0.mk ((by rw [hg]; exact Nat.ne_of_gt (bQ (g := gb165) (o := .cells #[.int .i64 ((rd_T35 l0_8 x4_1).f0), .int .i64 ((rd_T35 l0_8 x4_1).f1), .int .i64 ((rd_T35 l0_8 x4_1).f2), .slice (some ad166) ((rd_T35 l0_8 x4_1).f3).length c164_3] 35 (0, 0)) (by (with_reducible repeat (first | refine bN ?_ _ | refine bD ?_ | refine bA ?_ _)); exact BK165.out)) : gb167 ≠ gb165)); clear BK158; clear BK165; clear HB; have BK158 := n0_; have BK165 := n1_; have HB := n2_; have BK167 := n3_; have GW167 := n4_; have GE167 := n5_; have NB158_167 := n6_; have NB167_158 := n7_; have NB165_167 := n8_; have NB167_165 := n9_; clear n0_ n1_ n2_ n3_ n4_ n5_ n6_ n7_ n8_ n9_; clear hb hbox hg; have hnb28 := NB167_158.out; have hnc28 := NB158_167.out; have hnb29 := NB167_165.out; have hnc29 := NB165_167.out; have hcz30_0 : w27.cell? ⟨gb167, 0, none⟩ = some (.int .i64 0) := (bC BK167.out 0).trans rfl; have hcz30_1 : w27.cell? ⟨gb167, 1, none⟩ = some (.int .i64 0) := (bC BK167.out 1).trans rfl; have hcz30_2 : w27.cell? ⟨gb167, 2, none⟩ = some (.int .i64 0) := (bC BK167.out 2).trans rfl; have hfz30_0 := bF BK167.out 0; have hfz30_1 := bF BK167.out 1; have hfz30_2 := bF BK167.out 2))
            go_ret
            exact ⟨by first | rfl | (simp [errW_none, errW_some] <;> rfl) | (simp [*, errW_none, errW_some] <;> rfl), by repeat (first | (with_reducible first | exact HB.out | apply bL | apply bP | apply bW | refine bS ?_ GE158.out | refine bS ?_ GE165.out | refine bS ?_ GE167.out) | exact HB.out)⟩
           ·rw [if_neg c24] at H
            have c24b0 : decide (((rd_T37 ((rd_T35 l0_8 x4_1).f3) x7_2).f2) < 1) = false := decide_eq_false c24
            clear c24
            by_cases c31 : (wrap64 (((rd_T37 ((rd_T35 l0_8 x4_1).f3) x7_2).f0) + ((rd_T37 ((rd_T35 l0_8 x4_1).f3) x7_2).f2))) > ((rd_T35 l0_8 x4_1).f2)
            ·rw [if_pos c31] at H
             have c31b0 : decide (((rd_T35 l0_8 x4_1).f2) < (wrap64 (((rd_T37 ((rd_T35 l0_8 x4_1).f3) x7_2).f0) + ((rd_T37 ((rd_T35 l0_8 x4_1).f3) x7_2).f2)))) = true := decide_eq_true c31
             clear c31
             obtain rfl := Option.some.inj H
             have hnb32 := NB165_158.out
             have hnc32 := NB158_165.out
             have hcz33_0 : wr.cell? ⟨gb165, 0, none⟩ = some (.int .i64 ((rd_T35 l0_8 x4_1).f0)) := (bC BK165.out 0).trans rfl
             have hcz33_1 : wr.cell? ⟨gb165, 1, none⟩ = some (.int .i64 ((rd_T35 l0_8 x4_1).f1)) := (bC BK165.out 1).trans rfl
             have hcz33_2 : wr.cell? ⟨gb165, 2, none⟩ = some (.int .i64 ((rd_T35 l0_8 x4_1).f2)) := (bC BK165.out 2).trans rfl
             have hcz33_3 : wr.cell? ⟨gb165, 3, none⟩ = some (.slice A164_3 ((rd_T35 l0_8 x4_1).f3).length c164_3) := (bC BK165.out 3).trans rfl
             have hfz33_0 := bF BK165.out 0
             have hfz33_1 := bF BK165.out 1
             have hfz33_2 := bF BK165.out 2
             have hfz33_3 := bF BK165.out 3
             have p166 : 0 ≤ (x7_2 : Int) := of_decide_eq_true (by first | (with_reducible assumption) | assumption)
             have q166 : x7_2 < (((rd_T35 l0_8 x4_1).f3).length : Int) := of_decide_eq_true (by first | (with_reducible assumption) | assumption)
             obtain ⟨ad166, e166, hx166_0, hx166_1, hx166_2⟩ := at_T37 HR164_3.out x7_2 p166 q166
             cases e166
             replace hx166_0 := (HB.out.cell (World.block_lt_of_cell? w _ hx166_0)).trans hx166_0
             replace hx166_1 := (HB.out.cell (World.block_lt_of_cell? w _ hx166_1)).trans hx166_1
             replace hx166_2 := (HB.out.cell (World.block_lt_of_cell? w _ hx166_2)).trans hx166_2
             replace p166 := eq_true p166
             replace q166 := eq_true q166
             go_wp2_with (first | ((with_reducible refine gate_dst (N := 8) rfl ?_); refine bV ?hg (N := 8) ?hd (cs := #[.int .i64 0, .int .i64 0, .int .i64 0]) (t := 37) ?hr ?_; (case hd => rfl); (case hg => rfl); (case hr => first | (go_simp; done) | (go_simp; rfl)); intro gb167 hg w34 hbox hb; have n0_ := Aside0.mk (bB (g := gb158) (o := .cells #[.int .i64 a0_0, .int .i64 a0_1, .int .i64 a0_2, .int .i64 a0_3, .int .i64 a0_4, .int .i64 a0_5, .int .i64 a0_6, .int .i64 a0_7, .slice (some ad164) l0_8.length c0_8] 24 (0, 0)) (by (with_reducible repeat (first | refine bN ?_ _ | refine bD ?_ | refine bA ?_ _)); exact BK158.out) hb); have n1_ := Aside0.mk (bB (g := gb165) (o := .cells #[.int .i64 ((rd_T35 l0_8 x4_1).f0), .int .i64 ((rd_T35 l0_8 x4_1).f1), .int .i64 ((rd_T35 l0_8 x4_1).f2), .slice (some ad166) ((rd_T35 l0_8 x4_1).f3).length c164_3] 35 (0, 0)) (by (with_reducible repeat (first | refine bN ?_ _ | refine bD ?_ | refine bA ?_ _)); exact BK165.out) hb); have n2_ := Aside0.mk (bT (by repeat (first | (with_reducible first | exact HB.out | apply bL | apply bP | apply bW | refine bS ?_ GE158.out | refine bS ?_ GE165.out) | exact HB.out)) hb); have n3_ := Aside0.mk (hbox); have n4_ := Aside0.mk ((by rw [hg]; exact (bZ (by repeat (first | (with_reducible first | exact HB.out | apply bL | apply bP | apply bW | refine bS ?_ GE158.out | refine bS ?_ GE165.out) | exact HB.out))) : w.heap.size ≤ gb167)); have n5_ := Aside0.mk ((by rw [hg]; exact (bZ (by repeat (first | (with_reducible first | exact HB.out | apply bL | apply bP | apply bW | refine bS ?_ GE158.out | refine bS ?_ GE165.out) | exact HB.out))) : w.heap.size ≤ gb167)); have n6_ := Aside0.mk ((by rw [hg]; exact Nat.ne_of_lt (bQ (g := gb158) (o := .cells #[.int .i64 a0_0, .int .i64 a0_1, .int .i64 a0_2, .int .i64 a0_3, .int .i64 a0_4, .int .i64 a0_5, .int .i64 a0_6, .int .i64 a0_7, .slice (some ad164) l0_8.length c0_8] 24 (0, 0)) (by (with_reducible repeat (first | refine bN ?_ _ | refine bD ?_ | refine bA ?_ _)); exact BK158.out)) : gb158 ≠ gb167)); have n7_ := Aside0.mk ((by rw [hg]; exact Nat.ne_of_gt (bQ (g := gb158) (o := .cells #[.int .i64 a0_0, .int .i64 a0_1, .int .i64 a0_2, .int .i64 a0_3, .int .i64 a0_4, .int .i64 a0_5, .int .i64 a0_6, .int .i64 a0_7, .slice (some ad164) l0_8.length c0_8] 24 (0, 0)) (by (with_reducible repeat (first | refine bN ?_ _ | refine bD ?_ | refine bA ?_ _)); exact BK158.out)) : gb167 ≠ gb158)); have n8_ := Aside0.mk ((by rw [hg]; exact Nat.ne_of_lt (bQ (g := gb165) (o := .cells #[.int .i64 ((rd_T35 l0_8 x4_1).f0), .int .i64 ((rd_T35 l0_8 x4_1).f1), .int .i64 ((rd_T35 l0_8 x4_1).f2), .slice (some ad166) ((rd_T35 l0_8 x4_1).f3).length c164_3] 35 (0, 0)) (by (with_reducible repeat (first | refine bN ?_ _ | refine bD ?_ | refine bA ?_ _)); exact BK165.out)) : gb165 ≠ gb167)); have n9_ := Aside0.mk ((by rw [hg]; exact Nat.ne_of_gt (bQ (g := gb165) (o := .cells #[.int .i64 ((rd_T35 l0_8 x4_1).f0), .int .i64 ((rd_T35 l0_8 x4_1).f1), .int .i64 ((rd_T35 l0_8 x4_1).f2), .slice (some ad166) ((rd_T35 l0_8 x4_1).f3).length c164_3] 35 (0, 0)) (by (with_reducible repeat (first | refine bN ?_ _ | refine bD ?_ | refine bA ?_ _)); exact BK165.out)) : gb167 ≠ gb165)); clear BK158; clear BK165; clear HB; have BK158 := n0_; have BK165 := n1_; have HB := n2_; have BK167 := n3_; have GW167 := n4_; have GE167 := n5_; have NB158_167 := n6_; have NB167_158 := n7_; have NB165_167 := n8_; have NB167_165 := n9_; clear n0_ n1_ n2_ n3_ n4_ n5_ n6_ n7_ n8_ n9_; clear hb hbox hg; have hnb35 := NB167_158.out; have hnc35 := NB158_167.out; have hnb36 := NB167_165.out; have hnc36 := NB165_167.out; have hcz37_0 : w34.cell? ⟨gb167, 0, none⟩ = some (.int .i64 0) := (bC BK167.out 0).trans rfl; have hcz37_1 : w34.cell? ⟨gb167, 1, none⟩ = some (.int .i64 0) := (bC BK167.out 1).trans rfl; have hcz37_2 : w34.cell? ⟨gb167, 2, none⟩ = some (.int .i64 0) := (bC BK167.out 2).trans rfl; have hfz37_0 := bF BK167.out 0; have hfz37_1 := bF BK167.out 1; have hfz37_2 := bF BK167.out 2; have hcz38_0 : w34.cell? ⟨gb165, 0, none⟩ = some (.int .i64 ((rd_T35 l0_8 x4_1).f0)) := (bC BK165.out 0).trans rfl; have hcz38_1 : w34.cell? ⟨gb165, 1, none⟩ = some (.int .i64 ((rd_T35 l0_8 x4_1).f1)) := (bC BK165.out 1).trans rfl; have hcz38_2 : w34.cell? ⟨gb165, 2, none⟩ = some (.int .i64 ((rd_T35 l0_8 x4_1).f2)) := (bC BK165.out 2).trans rfl; have hcz38_3 : w34.cell? ⟨gb165, 3, none⟩ = some (.slice (some ad166) ((rd_T35 l0_8 x4_1).f3).length c164_3) := (bC BK165.out 3).trans rfl; have hfz38_0 := bF BK165.out 0; have hfz38_1 := bF BK165.out 1; have hfz38_2 := bF BK165.out 2; have hfz38_3 := bF BK165.out 3))
             go_ret
             exact ⟨by first | rfl | (simp [errW_none, errW_some] <;> rfl) | (simp [*, errW_none, errW_some] <;> rfl), by repeat (first | (with_reducible first | exact HB.out | apply bL | apply bP | apply bW | refine bS ?_ GE158.out | refine bS ?_ GE165.out | refine bS ?_ GE167.out) | exact HB.out)⟩
            ·rw [if_neg c31] at H
             have c31b0 : decide (((rd_T35 l0_8 x4_1).f2) < (wrap64 (((rd_T37 ((rd_T35 l0_8 x4_1).f3) x7_2).f0) + ((rd_T37 ((rd_T35 l0_8 x4_1).f3) x7_2).f2)))) = false := decide_eq_false c31
             clear c31
             by_cases c39 : ((rd_T37 ((rd_T35 l0_8 x4_1).f3) x7_2).f1) < 0
             ·rw [if_pos c39] at H
              have c39b0 : decide (((rd_T37 ((rd_T35 l0_8 x4_1).f3) x7_2).f1) < 0) = true := decide_eq_true c39
              clear c39
              obtain rfl := Option.some.inj H
              have hnb40 := NB165_158.out
              have hnc40 := NB158_165.out
              have hcz41_0 : wr.cell? ⟨gb165, 0, none⟩ = some (.int .i64 ((rd_T35 l0_8 x4_1).f0)) := (bC BK165.out 0).trans rfl
              have hcz41_1 : wr.cell? ⟨gb165, 1, none⟩ = some (.int .i64 ((rd_T35 l0_8 x4_1).f1)) := (bC BK165.out 1).trans rfl
              have hcz41_2 : wr.cell? ⟨gb165, 2, none⟩ = some (.int .i64 ((rd_T35 l0_8 x4_1).f2)) := (bC BK165.out 2).trans rfl
              have hcz41_3 : wr.cell? ⟨gb165, 3, none⟩ = some (.slice A164_3 ((rd_T35 l0_8 x4_1).f3).length c164_3) := (bC BK165.out 3).trans rfl
              have hfz41_0 := bF BK165.out 0
              have hfz41_1 := bF BK165.out 1
              have hfz41_2 := bF BK165.out 2
              have hfz41_3 := bF BK165.out 3
              have p166 : 0 ≤ (x7_2 : Int) := of_decide_eq_true (by first | (with_reducible assumption) | assumption)
              have q166 : x7_2 < (((rd_T35 l0_8 x4_1).f3).length : Int) := of_decide_eq_true (by first | (with_reducible assumption) | assumption)
              obtain ⟨ad166, e166, hx166_0, hx166_1, hx166_2⟩ := at_T37 HR164_3.out x7_2 p166 q166
              cases e166
              replace hx166_0 := (HB.out.cell (World.block_lt_of_cell? w _ hx166_0)).trans hx166_0
              replace hx166_1 := (HB.out.cell (World.block_lt_of_cell? w _ hx166_1)).trans hx166_1
              replace hx166_2 := (HB.out.cell (World.block_lt_of_cell? w _ hx166_2)).trans hx166_2
              replace p166 := eq_true p166
              replace q166 := eq_true q166
              go_wp2_with (first | ((with_reducible refine gate_dst (N := 8) rfl ?_); refine bV ?hg (N := 8) ?hd (cs := #[.int .i64 0, .int .i64 0, .int .i64 0]) (t := 37) ?hr ?_; (case hd => rfl); (case hg => rfl); (case hr => first | (go_simp; done) | (go_simp; rfl)); intro gb167 hg w42 hbox hb; have n0_ := Aside0.mk (bB (g := gb158) (o := .cells #[.int .i64 a0_0, .int .i64 a0_1, .int .i64 a0_2, .int .i64 a0_3, .int .i64 a0_4, .int .i64 a0_5, .int .i64 a0_6, .int .i64 a0_7, .slice (some ad164) l0_8.length c0_8] 24 (0, 0)) (by (with_reducible repeat (first | refine bN ?_ _ | refine bD ?_ | refine bA ?_ _)); exact BK158.out) hb); have n1_ := Aside0.mk (bB (g := gb165) (o := .cells #[.int .i64 ((rd_T35 l0_8 x4_1).f0), .int .i64 ((rd_T35 l0_8 x4_1).f1), .int .i64 ((rd_T35 l0_8 x4_1).f2), .slice (some ad166) ((rd_T35 l0_8 x4_1).f3).length c164_3] 35 (0, 0)) (by (with_reducible repeat (first | refine bN ?_ _ | refine bD ?_ | refine bA ?_ _)); exact BK165.out) hb); have n2_ := Aside0.mk (bT (by repeat (first | (with_reducible first | exact HB.out | apply bL | apply bP | apply bW | refine bS ?_ GE158.out | refine bS ?_ GE165.out) | exact HB.out)) hb); have n3_ := Aside0.mk (hbox); have n4_ := Aside0.mk ((by rw [hg]; exact (bZ (by repeat (first | (with_reducible first | exact HB.out | apply bL | apply bP | apply bW | refine bS ?_ GE158.out | refine bS ?_ GE165.out) | exact HB.out))) : w.heap.size ≤ gb167)); have n5_ := Aside0.mk ((by rw [hg]; exact (bZ (by repeat (first | (with_reducible first | exact HB.out | apply bL | apply bP | apply bW | refine bS ?_ GE158.out | refine bS ?_ GE165.out) | exact HB.out))) : w.heap.size ≤ gb167)); have n6_ := Aside0.mk ((by rw [hg]; exact Nat.ne_of_lt (bQ (g := gb158) (o := .cells #[.int .i64 a0_0, .int .i64 a0_1, .int .i64 a0_2, .int .i64 a0_3, .int .i64 a0_4, .int .i64 a0_5, .int .i64 a0_6, .int .i64 a0_7, .slice (some ad164) l0_8.length c0_8] 24 (0, 0)) (by (with_reducible repeat (first | refine bN ?_ _ | refine bD ?_ | refine bA ?_ _)); exact BK158.out)) : gb158 ≠ gb167)); have n7_ := Aside0.mk ((by rw [hg]; exact Nat.ne_of_gt (bQ (g := gb158) (o := .cells #[.int .i64 a0_0, .int .i64 a0_1, .int .i64 a0_2, .int .i64 a0_3, .int .i64 a0_4, .int .i64 a0_5, .int .i64 a0_6, .int .i64 a0_7, .slice (some ad164) l0_8.length c0_8] 24 (0, 0)) (by (with_reducible repeat (first | refine bN ?_ _ | refine bD ?_ | refine bA ?_ _)); exact BK158.out)) : gb167 ≠ gb158)); have n8_ := Aside0.mk ((by rw [hg]; exact Nat.ne_of_lt (bQ (g := gb165) (o := .cells #[.int .i64 ((rd_T35 l0_8 x4_1).f0), .int .i64 ((rd_T35 l0_8 x4_1).f1), .int .i64 ((rd_T35 l0_8 x4_1).f2), .slice (some ad166) ((rd_T35 l0_8 x4_1).f3).length c164_3] 35 (0, 0)) (by (with_reducible repeat (first | refine bN ?_ _ | refine bD ?_ | refine bA ?_ _)); exact BK165.out)) : gb165 ≠ gb167)); have n9_ := Aside0.mk ((by rw [hg]; exact Nat.ne_of_gt (bQ (g := gb165) (o := .cells #[.int .i64 ((rd_T35 l0_8 x4_1).f0), .int .i64 ((rd_T35 l0_8 x4_1).f1), .int .i64 ((rd_T35 l0_8 x4_1).f2), .slice (some ad166) ((rd_T35 l0_8 x4_1).f3).length c164_3] 35 (0, 0)) (by (with_reducible repeat (first | refine bN ?_ _ | refine bD ?_ | refine bA ?_ _)); exact BK165.out)) : gb167 ≠ gb165)); clear BK158; clear BK165; clear HB; have BK158 := n0_; have BK165 := n1_; have HB := n2_; have BK167 := n3_; have GW167 := n4_; have GE167 := n5_; have NB158_167 := n6_; have NB167_158 := n7_; have NB165_167 := n8_; have NB167_165 := n9_; clear n0_ n1_ n2_ n3_ n4_ n5_ n6_ n7_ n8_ n9_; clear hb hbox hg; have hnb43 := NB167_158.out; have hnc43 := NB158_167.out; have hnb44 := NB167_165.out; have hnc44 := NB165_167.out; have hcz45_0 : w42.cell? ⟨gb167, 0, none⟩ = some (.int .i64 0) := (bC BK167.out 0).trans rfl; have hcz45_1 : w42.cell? ⟨gb167, 1, none⟩ = some (.int .i64 0) := (bC BK167.out 1).trans rfl; have hcz45_2 : w42.cell? ⟨gb167, 2, none⟩ = some (.int .i64 0) := (bC BK167.out 2).trans rfl; have hfz45_0 := bF BK167.out 0; have hfz45_1 := bF BK167.out 1; have hfz45_2 := bF BK167.out 2; have hcz46_0 : w42.cell? ⟨gb165, 0, none⟩ = some (.int .i64 ((rd_T35 l0_8 x4_1).f0)) := (bC BK165.out 0).trans rfl; have hcz46_1 : w42.cell? ⟨gb165, 1, none⟩ = some (.int .i64 ((rd_T35 l0_8 x4_1).f1)) := (bC BK165.out 1).trans rfl; have hcz46_2 : w42.cell? ⟨gb165, 2, none⟩ = some (.int .i64 ((rd_T35 l0_8 x4_1).f2)) := (bC BK165.out 2).trans rfl; have hcz46_3 : w42.cell? ⟨gb165, 3, none⟩ = some (.slice (some ad166) ((rd_T35 l0_8 x4_1).f3).length c164_3) := (bC BK165.out 3).trans rfl; have hfz46_0 := bF BK165.out 0; have hfz46_1 := bF BK165.out 1; have hfz46_2 := bF BK165.out 2; have hfz46_3 := bF BK165.out 3))
              go_ret
              exact ⟨by first | rfl | (simp [errW_none, errW_some] <;> rfl) | (simp [*, errW_none, errW_some] <;> rfl), by repeat (first | (with_reducible first | exact HB.out | apply bL | apply bP | apply bW | refine bS ?_ GE158.out | refine bS ?_ GE165.out | refine bS ?_ GE167.out) | exact HB.out)⟩
             ·rw [if_neg c39] at H
              have c39b0 : decide (((rd_T37 ((rd_T35 l0_8 x4_1).f3) x7_2).f1) < 0) = false := decide_eq_false c39
              clear c39
              by_cases c47 : ((rd_T37 ((rd_T35 l0_8 x4_1).f3) x7_2).f1) ≥ a0_7
              ·rw [if_pos c47] at H
               have c47b0 : decide (a0_7 ≤ ((rd_T37 ((rd_T35 l0_8 x4_1).f3) x7_2).f1)) = true := decide_eq_true c47
               clear c47
               obtain rfl := Option.some.inj H
               have hnb48 := NB165_158.out
               have hnc48 := NB158_165.out
               have hcz49_0 : wr.cell? ⟨gb165, 0, none⟩ = some (.int .i64 ((rd_T35 l0_8 x4_1).f0)) := (bC BK165.out 0).trans rfl
               have hcz49_1 : wr.cell? ⟨gb165, 1, none⟩ = some (.int .i64 ((rd_T35 l0_8 x4_1).f1)) := (bC BK165.out 1).trans rfl
               have hcz49_2 : wr.cell? ⟨gb165, 2, none⟩ = some (.int .i64 ((rd_T35 l0_8 x4_1).f2)) := (bC BK165.out 2).trans rfl
               have hcz49_3 : wr.cell? ⟨gb165, 3, none⟩ = some (.slice A164_3 ((rd_T35 l0_8 x4_1).f3).length c164_3) := (bC BK165.out 3).trans rfl
               have hfz49_0 := bF BK165.out 0
               have hfz49_1 := bF BK165.out 1
               have hfz49_2 := bF BK165.out 2
               have hfz49_3 := bF BK165.out 3
               have p166 : 0 ≤ (x7_2 : Int) := of_decide_eq_true (by first | (with_reducible assumption) | assumption)
               have q166 : x7_2 < (((rd_T35 l0_8 x4_1).f3).length : Int) := of_decide_eq_true (by first | (with_reducible assumption) | assumption)
               obtain ⟨ad166, e166, hx166_0, hx166_1, hx166_2⟩ := at_T37 HR164_3.out x7_2 p166 q166
               cases e166
               replace hx166_0 := (HB.out.cell (World.block_lt_of_cell? w _ hx166_0)).trans hx166_0
               replace hx166_1 := (HB.out.cell (World.block_lt_of_cell? w _ hx166_1)).trans hx166_1
               replace hx166_2 := (HB.out.cell (World.block_lt_of_cell? w _ hx166_2)).trans hx166_2
               replace p166 := eq_true p166
               replace q166 := eq_true q166
               go_wp2_with (first | ((with_reducible refine gate_dst (N := 8) rfl ?_); refine bV ?hg (N := 8) ?hd (cs := #[.int .i64 0, .int .i64 0, .int .i64 0]) (t := 37) ?hr ?_; (case hd => rfl); (case hg => rfl); (case hr => first | (go_simp; done) | (go_simp; rfl)); intro gb167 hg w50 hbox hb; have n0_ := Aside0.mk (bB (g := gb158) (o := .cells #[.int .i64 a0_0, .int .i64 a0_1, .int .i64 a0_2, .int .i64 a0_3, .int .i64 a0_4, .int .i64 a0_5, .int .i64 a0_6, .int .i64 a0_7, .slice (some ad164) l0_8.length c0_8] 24 (0, 0)) (by (with_reducible repeat (first | refine bN ?_ _ | refine bD ?_ | refine bA ?_ _)); exact BK158.out) hb); have n1_ := Aside0.mk (bB (g := gb165) (o := .cells #[.int .i64 ((rd_T35 l0_8 x4_1).f0), .int .i64 ((rd_T35 l0_8 x4_1).f1), .int .i64 ((rd_T35 l0_8 x4_1).f2), .slice (some ad166) ((rd_T35 l0_8 x4_1).f3).length c164_3] 35 (0, 0)) (by (with_reducible repeat (first | refine bN ?_ _ | refine bD ?_ | refine bA ?_ _)); exact BK165.out) hb); have n2_ := Aside0.mk (bT (by repeat (first | (with_reducible first | exact HB.out | apply bL | apply bP | apply bW | refine bS ?_ GE158.out | refine bS ?_ GE165.out) | exact HB.out)) hb); have n3_ := Aside0.mk (hbox); have n4_ := Aside0.mk ((by rw [hg]; exact (bZ (by repeat (first | (with_reducible first | exact HB.out | apply bL | apply bP | apply bW | refine bS ?_ GE158.out | refine bS ?_ GE165.out) | exact HB.out))) : w.heap.size ≤ gb167)); have n5_ := Aside0.mk ((by rw [hg]; exact (bZ (by repeat (first | (with_reducible first | exact HB.out | apply bL | apply bP | apply bW | refine bS ?_ GE158.out | refine bS ?_ GE165.out) | exact HB.out))) : w.heap.size ≤ gb167)); have n6_ := Aside0.mk ((by rw [hg]; exact Nat.ne_of_lt (bQ (g := gb158) (o := .cells #[.int .i64 a0_0, .int .i64 a0_1, .int .i64 a0_2, .int .i64 a0_3, .int .i64 a0_4, .int .i64 a0_5, .int .i64 a0_6, .int .i64 a0_7, .slice (some ad164) l0_8.length c0_8] 24 (0, 0)) (by (with_reducible repeat (first | refine bN ?_ _ | refine bD ?_ | refine bA ?_ _)); exact BK158.out)) : gb158 ≠ gb167)); have n7_ := Aside0.mk ((by rw [hg]; exact Nat.ne_of_gt (bQ (g := gb158) (o := .cells #[.int .i64 a0_0, .int .i64 a0_1, .int .i64 a0_2, .int .i64 a0_3, .int .i64 a0_4, .int .i64 a0_5, .int .i64 a0_6, .int .i64 a0_7, .slice (some ad164) l0_8.length c0_8] 24 (0, 0)) (by (with_reducible repeat (first | refine bN ?_ _ | refine bD ?_ | refine bA ?_ _)); exact BK158.out)) : gb167 ≠ gb158)); have n8_ := Aside0.mk ((by rw [hg]; exact Nat.ne_of_lt (bQ (g := gb165) (o := .cells #[.int .i64 ((rd_T35 l0_8 x4_1).f0), .int .i64 ((rd_T35 l0_8 x4_1).f1), .int .i64 ((rd_T35 l0_8 x4_1).f2), .slice (some ad166) ((rd_T35 l0_8 x4_1).f3).length c164_3] 35 (0, 0)) (by (with_reducible repeat (first | refine bN ?_ _ | refine bD ?_ | refine bA ?_ _)); exact BK165.out)) : gb165 ≠ gb167)); have n9_ := Aside0.mk ((by rw [hg]; exact Nat.ne_of_gt (bQ (g := gb165) (o := .cells #[.int .i64 ((rd_T35 l0_8 x4_1).f0), .int .i64 ((rd_T35 l0_8 x4_1).f1), .int .i64 ((rd_T35 l0_8 x4_1).f2), .slice (some ad166) ((rd_T35 l0_8 x4_1).f3).length c164_3] 35 (0, 0)) (by (with_reducible repeat (first | refine bN ?_ _ | refine bD ?_ | refine bA ?_ _)); exact BK165.out)) : gb167 ≠ gb165)); clear BK158; clear BK165; clear HB; have BK158 := n0_; have BK165 := n1_; have HB := n2_; have BK167 := n3_; have GW167 := n4_; have GE167 := n5_; have NB158_167 := n6_; have NB167_158 := n7_; have NB165_167 := n8_; have NB167_165 := n9_; clear n0_ n1_ n2_ n3_ n4_ n5_ n6_ n7_ n8_ n9_; clear hb hbox hg; have hnb51 := NB167_158.out; have hnc51 := NB158_167.out; have hnb52 := NB167_165.out; have hnc52 := NB165_167.out; have hcz53_0 : w50.cell? ⟨gb167, 0, none⟩ = some (.int .i64 0) := (bC BK167.out 0).trans rfl; have hcz53_1 : w50.cell? ⟨gb167, 1, none⟩ = some (.int .i64 0) := (bC BK167.out 1).trans rfl; have hcz53_2 : w50.cell? ⟨gb167, 2, none⟩ = some (.int .i64 0) := (bC BK167.out 2).trans rfl; have hfz53_0 := bF BK167.out 0; have hfz53_1 := bF BK167.out 1; have hfz53_2 := bF BK167.out 2; have hcz54_0 : w50.cell? ⟨gb165, 0, none⟩ = some (.int .i64 ((rd_T35 l0_8 x4_1).f0)) := (bC BK165.out 0).trans rfl; have hcz54_1 : w50.cell? ⟨gb165, 1, none⟩ = some (.int .i64 ((rd_T35 l0_8 x4_1).f1)) := (bC BK165.out 1).trans rfl; have hcz54_2 : w50.cell? ⟨gb165, 2, none⟩ = some (.int .i64 ((rd_T35 l0_8 x4_1).f2)) := (bC BK165.out 2).trans rfl; have hcz54_3 : w50.cell? ⟨gb165, 3, none⟩ = some (.slice (some ad166) ((rd_T35 l0_8 x4_1).f3).length c164_3) := (bC BK165.out 3).trans rfl; have hfz54_0 := bF BK165.out 0; have hfz54_1 := bF BK165.out 1; have hfz54_2 := bF BK165.out 2; have hfz54_3 := bF BK165.out 3; have hcz55_0 : w50.cell? ⟨gb158, 0, none⟩ = some (.int .i64 a0_0) := (bC BK158.out 0).trans rfl; have hcz55_1 : w50.cell? ⟨gb158, 1, none⟩ = some (.int .i64 a0_1) := (bC BK158.out 1).trans rfl; have hcz55_2 : w50.cell? ⟨gb158, 2, none⟩ = some (.int .i64 a0_2) := (bC BK158.out 2).trans rfl; have hcz55_3 : w50.cell? ⟨gb158, 3, none⟩ = some (.int .i64 a0_3) := (bC BK158.out 3).trans rfl; have hcz55_4 : w50.cell? ⟨gb158, 4, none⟩ = some (.int .i64 a0_4) := (bC BK158.out 4).trans rfl; have hcz55_5 : w50.cell? ⟨gb158, 5, none⟩ = some (.int .i64 a0_5) := (bC BK158.out 5).trans rfl; have hcz55_6 : w50.cell? ⟨gb158, 6, none⟩ = some (.int .i64 a0_6) := (bC BK158.out 6).trans rfl; have hcz55_7 : w50.cell? ⟨gb158, 7, none⟩ = some (.int .i64 a0_7) := (bC BK158.out 7).trans rfl; have hcz55_8 : w50.cell? ⟨gb158, 8, none⟩ = some (.slice (some ad164) l0_8.length c0_8) := (bC BK158.out 8).trans rfl; have hfz55_0 := bF BK158.out 0; have hfz55_1 := bF BK158.out 1; have hfz55_2 := bF BK158.out 2; have hfz55_3 := bF BK158.out 3; have hfz55_4 := bF BK158.out 4; have hfz55_5 := bF BK158.out 5; have hfz55_6 := bF BK158.out 6; have hfz55_7 := bF BK158.out 7; have hfz55_8 := bF BK158.out 8))
               go_ret
               exact ⟨by first | rfl | (simp [errW_none, errW_some] <;> rfl) | (simp [*, errW_none, errW_some] <;> rfl), by repeat (first | (with_reducible first | exact HB.out | apply bL | apply bP | apply bW | refine bS ?_ GE158.out | refine bS ?_ GE165.out | refine bS ?_ GE167.out) | exact HB.out)⟩
              ·rw [if_neg c47] at H
               have c47b0 : decide (a0_7 ≤ ((rd_T37 ((rd_T35 l0_8 x4_1).f3) x7_2).f1)) = false := decide_eq_false c47
               clear c47
               have H' := Aside0.mk H
               clear H
               have hnb56 := NB165_158.out
               have hnc56 := NB158_165.out
               have hcz57_0 : wr.cell? ⟨gb165, 0, none⟩ = some (.int .i64 ((rd_T35 l0_8 x4_1).f0)) := (bC BK165.out 0).trans rfl
               have hcz57_1 : wr.cell? ⟨gb165, 1, none⟩ = some (.int .i64 ((rd_T35 l0_8 x4_1).f1)) := (bC BK165.out 1).trans rfl
               have hcz57_2 : wr.cell? ⟨gb165, 2, none⟩ = some (.int .i64 ((rd_T35 l0_8 x4_1).f2)) := (bC BK165.out 2).trans rfl
               have hcz57_3 : wr.cell? ⟨gb165, 3, none⟩ = some (.slice A164_3 ((rd_T35 l0_8 x4_1).f3).length c164_3) := (bC BK165.out 3).trans rfl
               have hfz57_0 := bF BK165.out 0
               have hfz57_1 := bF BK165.out 1
               have hfz57_2 := bF BK165.out 2
               have hfz57_3 := bF BK165.out 3
               have p166 : 0 ≤ (x7_2 : Int) := of_decide_eq_true (by first | (with_reducible assumption) | assumption)
               have q166 : x7_2 < (((rd_T35 l0_8 x4_1).f3).length : Int) := of_decide_eq_true (by first | (with_reducible assumption) | assumption)
               obtain ⟨ad166, e166, hx166_0, hx166_1, hx166_2⟩ := at_T37 HR164_3.out x7_2 p166 q166
               cases e166
               replace hx166_0 := (HB.out.cell (World.block_lt_of_cell? w _ hx166_0)).trans hx166_0
               replace hx166_1 := (HB.out.cell (World.block_lt_of_cell? w _ hx166_1)).trans hx166_1
               replace hx166_2 := (HB.out.cell (World.block_lt_of_cell? w _ hx166_2)).trans hx166_2
               replace p166 := eq_true p166
               replace q166 := eq_true q166
               go_wp2_with (first | ((with_reducible refine gate_dst (N := 8) rfl ?_); refine bV ?hg (N := 8) ?hd (cs := #[.int .i64 0, .int .i64 0, .int .i64 0]) (t := 37) ?hr ?_; (case hd => rfl); (case hg => rfl); (case hr => first | (go_simp; done) | (go_simp; rfl)); intro gb167 hg w58 hbox hb; have n0_ := Aside0.mk (bB (g := gb158) (o := .cells #[.int .i64 a0_0, .int .i64 a0_1, .int .i64 a0_2, .int .i64 a0_3, .int .i64 a0_4, .int .i64 a0_5, .int .i64 a0_6, .int .i64 a0_7, .slice (some ad164) l0_8.length c0_8] 24 (0, 0)) (by (with_reducible repeat (first | refine bN ?_ _ | refine bD ?_ | refine bA ?_ _)); exact BK158.out) hb); have n1_ := Aside0.mk (bB (g := gb165) (o := .cells #[.int .i64 ((rd_T35 l0_8 x4_1).f0), .int .i64 ((rd_T35 l0_8 x4_1).f1), .int .i64 ((rd_T35 l0_8 x4_1).f2), .slice (some ad166) ((rd_T35 l0_8 x4_1).f3).length c164_3] 35 (0, 0)) (by (with_reducible repeat (first | refine bN ?_ _ | refine bD ?_ | refine bA ?_ _)); exact BK165.out) hb); have n2_ := Aside0.mk (bT (by repeat (first | (with_reducible first | exact HB.out | apply bL | apply bP | apply bW | refine bS ?_ GE158.out | refine bS ?_ GE165.out) | exact HB.out)) hb); have n3_ := Aside0.mk (hbox); have n4_ := Aside0.mk ((by rw [hg]; exact (bZ (by repeat (first | (with_reducible first | exact HB.out | apply bL | apply bP | apply bW | refine bS ?_ GE158.out | refine bS ?_ GE165.out) | exact HB.out))) : w.heap.size ≤ gb167)); have n5_ := Aside0.mk ((by rw [hg]; exact (bZ (by repeat (first | (with_reducible first | exact HB.out | apply bL | apply bP | apply bW | refine bS ?_ GE158.out | refine bS ?_ GE165.out) | exact HB.out))) : w.heap.size ≤ gb167)); have n6_ := Aside0.mk ((by rw [hg]; exact Nat.ne_of_lt (bQ (g := gb158) (o := .cells #[.int .i64 a0_0, .int .i64 a0_1, .int .i64 a0_2, .int .i64 a0_3, .int .i64 a0_4, .int .i64 a0_5, .int .i64 a0_6, .int .i64 a0_7, .slice (some ad164) l0_8.length c0_8] 24 (0, 0)) (by (with_reducible repeat (first | refine bN ?_ _ | refine bD ?_ | refine bA ?_ _)); exact BK158.out)) : gb158 ≠ gb167)); have n7_ := Aside0.mk ((by rw [hg]; exact Nat.ne_of_gt (bQ (g := gb158) (o := .cells #[.int .i64 a0_0, .int .i64 a0_1, .int .i64 a0_2, .int .i64 a0_3, .int .i64 a0_4, .int .i64 a0_5, .int .i64 a0_6, .int .i64 a0_7, .slice (some ad164) l0_8.length c0_8] 24 (0, 0)) (by (with_reducible repeat (first | refine bN ?_ _ | refine bD ?_ | refine bA ?_ _)); exact BK158.out)) : gb167 ≠ gb158)); have n8_ := Aside0.mk ((by rw [hg]; exact Nat.ne_of_lt (bQ (g := gb165) (o := .cells #[.int .i64 ((rd_T35 l0_8 x4_1).f0), .int .i64 ((rd_T35 l0_8 x4_1).f1), .int .i64 ((rd_T35 l0_8 x4_1).f2), .slice (some ad166) ((rd_T35 l0_8 x4_1).f3).length c164_3] 35 (0, 0)) (by (with_reducible repeat (first | refine bN ?_ _ | refine bD ?_ | refine bA ?_ _)); exact BK165.out)) : gb165 ≠ gb167)); have n9_ := Aside0.mk ((by rw [hg]; exact Nat.ne_of_gt (bQ (g := gb165) (o := .cells #[.int .i64 ((rd_T35 l0_8 x4_1).f0), .int .i64 ((rd_T35 l0_8 x4_1).f1), .int .i64 ((rd_T35 l0_8 x4_1).f2), .slice (some ad166) ((rd_T35 l0_8 x4_1).f3).length c164_3] 35 (0, 0)) (by (with_reducible repeat (first | refine bN ?_ _ | refine bD ?_ | refine bA ?_ _)); exact BK165.out)) : gb167 ≠ gb165)); clear BK158; clear BK165; clear HB; have BK158 := n0_; have BK165 := n1_; have HB := n2_; have BK167 := n3_; have GW167 := n4_; have GE167 := n5_; have NB158_167 := n6_; have NB167_158 := n7_; have NB165_167 := n8_; have NB167_165 := n9_; clear n0_ n1_ n2_ n3_ n4_ n5_ n6_ n7_ n8_ n9_; clear hb hbox hg; have hnb59 := NB167_158.out; have hnc59 := NB158_167.out; have hnb60 := NB167_165.out; have hnc60 := NB165_167.out; have hcz61_0 : w58.cell? ⟨gb167, 0, none⟩ = some (.int .i64 0) := (bC BK167.out 0).trans rfl; have hcz61_1 : w58.cell? ⟨gb167, 1, none⟩ = some (.int .i64 0) := (bC BK167.out 1).trans rfl; have hcz61_2 : w58.cell? ⟨gb167, 2, none⟩ = some (.int .i64 0) := (bC BK167.out 2).trans rfl; have hfz61_0 := bF BK167.out 0; have hfz61_1 := bF BK167.out 1; have hfz61_2 := bF BK167.out 2; have hcz62_0 : w58.cell? ⟨gb165, 0, none⟩ = some (.int .i64 ((rd_T35 l0_8 x4_1).f0)) := (bC BK165.out 0).trans rfl; have hcz62_1 : w58.cell? ⟨gb165, 1, none⟩ = some (.int .i64 ((rd_T35 l0_8 x4_1).f1)) := (bC BK165.out 1).trans rfl; have hcz62_2 : w58.cell? ⟨gb165, 2, none⟩ = some (.int .i64 ((rd_T35 l0_8 x4_1).f2)) := (bC BK165.out 2).trans rfl; have hcz62_3 : w58.cell? ⟨gb165, 3, none⟩ = some (.slice (some ad166) ((rd_T35 l0_8 x4_1).f3).length c164_3) := (bC BK165.out 3).trans rfl; have hfz62_0 := bF BK165.out 0; have hfz62_1 := bF BK165.out 1; have hfz62_2 := bF BK165.out 2; have hfz62_3 := bF BK165.out 3; have hcz63_0 : w58.cell? ⟨gb158, 0, none⟩ = some (.int .i64 a0_0) := (bC BK158.out 0).trans rfl; have hcz63_1 : w58.cell? ⟨gb158, 1, none⟩ = some (.int .i64 a0_1) := (bC BK158.out 1).trans rfl; have hcz63_2 : w58.cell? ⟨gb158, 2, none⟩ = some (.int .i64 a0_2) := (bC BK158.out 2).trans rfl; have hcz63_3 : w58.cell? ⟨gb158, 3, none⟩ = some (.int .i64 a0_3) := (bC BK158.out 3).trans rfl; have hcz63_4 : w58.cell? ⟨gb158, 4, none⟩ = some (.int .i64 a0_4) := (bC BK158.out 4).trans rfl; have hcz63_5 : w58.cell? ⟨gb158, 5, none⟩ = some (.int .i64 a0_5) := (bC BK158.out 5).trans rfl; have hcz63_6 : w58.cell? ⟨gb158, 6, none⟩ = some (.int .i64 a0_6) := (bC BK158.out 6).trans rfl; have hcz63_7 : w58.cell? ⟨gb158, 7, none⟩ = some (.int .i64 a0_7) := (bC BK158.out 7).trans rfl; have hcz63_8 : w58.cell? ⟨gb158, 8, none⟩ = some (.slice (some ad164) l0_8.length c0_8) := (bC BK158.out 8).trans rfl; have hfz63_0 := bF BK158.out 0; have hfz63_1 := bF BK158.out 1; have hfz63_2 := bF BK158.out 2; have hfz63_3 := bF BK158.out 3; have hfz63_4 := bF BK158.out 4; have hfz63_5 := bF BK158.out 5; have hfz63_6 := bF BK158.out 6; have hfz63_7 := bF BK158.out 7; have hfz63_8 := bF BK158.out 8))
               go_roundg k2
               case measure => have := HK1.out; have := HK2.out; omega
               case rel => exact ⟨(wrap64 (((rd_T37 ((rd_T35 l0_8 x4_1).f3) x7_2).f0) + ((rd_T37 ((rd_T35 l0_8 x4_1).f3) x7_2).f2))), (wrap64 (x7_2 + 1)), (by first | rfl | (simp; done) | (simp [*]; done) | (simp only [bne, Bool.not_not]; done)), (by first | rfl | (simp; done) | (simp [*]; done) | (simp only [bne, Bool.not_not]; done)), H', ⟨by have := HK1.out; have := HK2.out; omega⟩, ⟨by (with_reducible repeat (first | refine bN ?_ _ | refine bD ?_ | refine bA ?_ _)); refine bR ?_ NB158_167.out _; (with_reducible repeat (first | refine bN ?_ _ | refine bD ?_ | refine bA ?_ _)); refine bR ?_ NB158_167.out _; (with_reducible repeat (first | refine bN ?_ _ | refine bD ?_ | refine bA ?_ _)); refine bR ?_ NB158_167.out _; (with_reducible repeat (first | refine bN ?_ _ | refine bD ?_ | refine bA ?_ _)); exact BK158.out⟩, ⟨by (with_reducible repeat (first | refine bN ?_ _ | refine bD ?_ | refine bA ?_ _)); refine bR ?_ NB165_167.out _; (with_reducible repeat (first | refine bN ?_ _ | refine bD ?_ | refine bA ?_ _)); refine bR ?_ NB165_167.out _; (with_reducible repeat (first | refine bN ?_ _ | refine bD ?_ | refine bA ?_ _)); refine bR ?_ NB165_167.out _; (with_reducible repeat (first | refine bN ?_ _ | refine bD ?_ | refine bA ?_ _)); exact BK165.out⟩, ⟨by repeat (first | (with_reducible first | exact HB.out | apply bL | apply bP | apply bW | refine bS ?_ GE158.out | refine bS ?_ GE165.out | refine bS ?_ GE167.out) | exact HB.out)⟩⟩
         ·rw [if_neg c16] at H
          exact absurd H (by simp)
        ·rw [if_neg c15] at H
         have c15b0 : decide (x7_2 < (((rd_T35 l0_8 x4_1).f3).length : Int)) = false := decide_eq_false c15
         clear c15
         by_cases c64 : ((rd_T35 l0_8 x4_1).f2) < 1
         ·rw [if_pos c64] at H
          have c64b0 : decide (((rd_T35 l0_8 x4_1).f2) < 1) = true := decide_eq_true c64
          clear c64
          obtain rfl := Option.some.inj H
          have hnb65 := NB165_158.out
          have hnc65 := NB158_165.out
          have hcz66_0 : wr.cell? ⟨gb165, 0, none⟩ = some (.int .i64 ((rd_T35 l0_8 x4_1).f0)) := (bC BK165.out 0).trans rfl
          have hcz66_1 : wr.cell? ⟨gb165, 1, none⟩ = some (.int .i64 ((rd_T35 l0_8 x4_1).f1)) := (bC BK165.out 1).trans rfl
          have hcz66_2 : wr.cell? ⟨gb165, 2, none⟩ = some (.int .i64 ((rd_T35 l0_8 x4_1).f2)) := (bC BK165.out 2).trans rfl
          have hcz66_3 : wr.cell? ⟨gb165, 3, none⟩ = some (.slice A164_3 ((rd_T35 l0_8 x4_1).f3).length c164_3) := (bC BK165.out 3).trans rfl
          have hfz66_0 := bF BK165.out 0
          have hfz66_1 := bF BK165.out 1
          have hfz66_2 := bF BK165.out 2
          have hfz66_3 := bF BK165.out 3
          go_wp2
          go_ret
          exact ⟨by first | rfl | (simp [errW_none, errW_some] <;> rfl) | (simp [*, errW_none, errW_some] <;> rfl), by repeat (first | (with_reducible first | exact HB.out | apply bL | apply bP | apply bW | refine bS ?_ GE158.out | refine bS ?_ GE165.out) | exact HB.out)⟩
         ·rw [if_neg c64] at H
          have c64b0 : decide (((rd_T35 l0_8 x4_1).f2) < 1) = false := decide_eq_false c64
          clear c64
          by_cases c67 : ((rd_T35 l0_8 x4_1).f2) > ((rd_T35 l0_8 x4_1).f1)
          ·rw [if_pos c67] at H
           have c67b0 : decide (((rd_T35 l0_8 x4_1).f1) < ((rd_T35 l0_8 x4_1).f2)) = true := decide_eq_true c67
           clear c67
           obtain rfl := Option.some.inj H
           have hnb68 := NB165_158.out
           have hnc68 := NB158_165.out
           have hcz69_0 : wr.cell? ⟨gb165, 0, none⟩ = some (.int .i64 ((rd_T35 l0_8 x4_1).f0)) := (bC BK165.out 0).trans rfl
           have hcz69_1 : wr.cell? ⟨gb165, 1, none⟩ = some (.int .i64 ((rd_T35 l0_8 x4_1).f1)) := (bC BK165.out 1).trans rfl
           have hcz69_2 : wr.cell? ⟨gb165, 2, none⟩ = some (.int .i64 ((rd_T35 l0_8 x4_1).f2)) := (bC BK165.out 2).trans rfl
           have hcz69_3 : wr.cell? ⟨gb165, 3, none⟩ = some (.slice A164_3 ((rd_T35 l0_8 x4_1).f3).length c164_3) := (bC BK165.out 3).trans rfl
           have hfz69_0 := bF BK165.out 0
           have hfz69_1 := bF BK165.out 1
           have hfz69_2 := bF BK165.out 2
           have hfz69_3 := bF BK165.out 3
           go_wp2
           go_ret
           exact ⟨by first | rfl | (simp [errW_none, errW_some] <;> rfl) | (simp [*, errW_none, errW_some] <;> rfl), by repeat (first | (with_reducible first | exact HB.out | apply bL | apply bP | apply bW | refine bS ?_ GE158.out | refine bS ?_ GE165.out) | exact HB.out)⟩
          ·rw [if_neg c67] at H
           have c67b0 : decide (((rd_T35 l0_8 x4_1).f1) < ((rd_T35 l0_8 x4_1).f2)) = false := decide_eq_false c67
           clear c67
           by_cases c70 : ((rd_T35 l0_8 x4_1).f1) > ((rd_T35 l0_8 x4_1).f0)
           ·rw [if_pos c70] at H
            have c70b0 : decide (((rd_T35 l0_8 x4_1).f0) < ((rd_T35 l0_8 x4_1).f1)) = true := decide_eq_true c70
            clear c70
            obtain rfl := Option.some.inj H
            have hnb71 := NB165_158.out
            have hnc71 := NB158_165.out
            have hcz72_0 : wr.cell? ⟨gb165, 0, none⟩ = some (.int .i64 ((rd_T35 l0_8 x4_1).f0)) := (bC BK165.out 0).trans rfl
            have hcz72_1 : wr.cell? ⟨gb165, 1, none⟩ = some (.int .i64 ((rd_T35 l0_8 x4_1).f1)) := (bC BK165.out 1).trans rfl
            have hcz72_2 : wr.cell? ⟨gb165, 2, none⟩ = some (.int .i64 ((rd_T35 l0_8 x4_1).f2)) := (bC BK165.out 2).trans rfl
            have hcz72_3 : wr.cell? ⟨gb165, 3, none⟩ = some (.slice A164_3 ((rd_T35 l0_8 x4_1).f3).length c164_3) := (bC BK165.out 3).trans rfl
            have hfz72_0 := bF BK165.out 0
            have hfz72_1 := bF BK165.out 1
            have hfz72_2 := bF BK165.out 2
            have hfz72_3 := bF BK165.out 3
            go_wp2
            go_ret
            exact ⟨by first | rfl | (simp [errW_none, errW_some] <;> rfl) | (simp [*, errW_none, errW_some] <;> rfl), by repeat (first | (with_reducible first | exact HB.out | apply bL | apply bP | apply bW | refine bS ?_ GE158.out | refine bS ?_ GE165.out) | exact HB.out)⟩
           ·rw [if_neg c70] at H
            have c70b0 : decide (((rd_T35 l0_8 x4_1).f0) < ((rd_T35 l0_8 x4_1).f1)) = false := decide_eq_false c70
            clear c70
            by_cases c73 : ((rd_T35 l0_8 x4_1).f0) > 1099511627776
            ·rw [if_pos c73] at H
             have c73b0 : decide (1099511627776 < ((rd_T35 l0_8 x4_1).f0)) = true := decide_eq_true c73
             clear c73
             obtain rfl := Option.some.inj H
             have hnb74 := NB165_158.out
             have hnc74 := NB158_165.out
             have hcz75_0 : wr.cell? ⟨gb165, 0, none⟩ = some (.int .i64 ((rd_T35 l0_8 x4_1).f0)) := (bC BK165.out 0).trans rfl
             have hcz75_1 : wr.cell? ⟨gb165, 1, none⟩ = some (.int .i64 ((rd_T35 l0_8 x4_1).f1)) := (bC BK165.out 1).trans rfl
             have hcz75_2 : wr.cell? ⟨gb165, 2, none⟩ = some (.int .i64 ((rd_T35 l0_8 x4_1).f2)) := (bC BK165.out 2).trans rfl
             have hcz75_3 : wr.cell? ⟨gb165, 3, none⟩ = some (.slice A164_3 ((rd_T35 l0_8 x4_1).f3).length c164_3) := (bC BK165.out 3).trans rfl
             have hfz75_0 := bF BK165.out 0
             have hfz75_1 := bF BK165.out 1
             have hfz75_2 := bF BK165.out 2
             have hfz75_3 := bF BK165.out 3
             go_wp2
             go_ret
             exact ⟨by first | rfl | (simp [errW_none, errW_some] <;> rfl) | (simp [*, errW_none, errW_some] <;> rfl), by repeat (first | (with_reducible first | exact HB.out | apply bL | apply bP | apply bW | refine bS ?_ GE158.out | refine bS ?_ GE165.out) | exact HB.out)⟩
            ·rw [if_neg c73] at H
             have c73b0 : decide (1099511627776 < ((rd_T35 l0_8 x4_1).f0)) = false := decide_eq_false c73
             clear c73
             have H' := Aside0.mk H
             clear H
             have hnb76 := NB165_158.out
             have hnc76 := NB158_165.out
             have hcz77_0 : wr.cell? ⟨gb165, 0, none⟩ = some (.int .i64 ((rd_T35 l0_8 x4_1).f0)) := (bC BK165.out 0).trans rfl
             have hcz77_1 : wr.cell? ⟨gb165, 1, none⟩ = some (.int .i64 ((rd_T35 l0_8 x4_1).f1)) := (bC BK165.out 1).trans rfl
             have hcz77_2 : wr.cell? ⟨gb165, 2, none⟩ = some (.int .i64 ((rd_T35 l0_8 x4_1).f2)) := (bC BK165.out 2).trans rfl
             have hcz77_3 : wr.cell? ⟨gb165, 3, none⟩ = some (.slice A164_3 ((rd_T35 l0_8 x4_1).f3).length c164_3) := (bC BK165.out 3).trans rfl
             have hfz77_0 := bF BK165.out 0
             have hfz77_1 := bF BK165.out 1
             have hfz77_2 := bF BK165.out 2
             have hfz77_3 := bF BK165.out 3
             go_wp2
             go_roundg k2
             case measure => have := HK1.out; have := HK2.out; omega
             case rel => exact ⟨(wrap64 (x4_1 + 1)), (by first | rfl | (simp; done) | (simp [*]; done) | (simp only [bne, Bool.not_not]; done)), H', ⟨by have := HK1.out; have := HK2.out; omega⟩, ⟨by (with_reducible repeat (first | refine bN ?_ _ | refine bD ?_ | refine bA ?_ _)); exact BK158.out⟩, ⟨by repeat (first | (with_reducible first | exact HB.out | apply bL | apply bP | apply bW | refine bS ?_ GE158.out | refine bS ?_ GE165.out) | exact HB.out)⟩⟩
     ·rw [if_neg c10] at H
      exact absurd H (by simp)
    ·rw [if_neg c9] at H
     have c9b0 : decide (x4_1 < (l0_8.length : Int)) = false := decide_eq_false c9
     clear c9
     by_cases c78 : t159 = true
     ·subst c78
      have H1 : (if a0_0 ≥ 1 then (if a0_0 ≤ 8 then (if a0_2 = 1 then (some true) else (some (a0_1 == 1))) else (some false)) else (some false)) = some r := by rw [if_pos rfl] at H; exact H
      clear H
      have H := H1
      clear H1
      by_cases c79 : a0_0 ≥ 1
      ·rw [if_pos c79] at H
       have c79b0 : decide (1 ≤ a0_0) = true := decide_eq_true c79
       clear c79
       by_cases c80 : a0_0 ≤ 8
       ·rw [if_pos c80] at H
        have c80b0 : decide (a0_0 ≤ 8) = true := decide_eq_true c80
        clear c80
        by_cases c81 : a0_2 = 1
        ·rw [if_pos c81] at H
         have c81b0 : (a0_2 == 1) = true := beq_iff_eq.mpr c81
         have c81b1 : (a0_2 != 1) = false := bne_eq_false_iff_eq.mpr c81
         clear c81
         obtain rfl := Option.some.inj H
         have hcz82_0 : wr.cell? ⟨gb158, 0, none⟩ = some (.int .i64 a0_0) := (bC BK158.out 0).trans rfl
         have hcz82_1 : wr.cell? ⟨gb158, 1, none⟩ = some (.int .i64 a0_1) := (bC BK158.out 1).trans rfl
         have hcz82_2 : wr.cell? ⟨gb158, 2, none⟩ = some (.int .i64 a0_2) := (bC BK158.out 2).trans rfl
         have hcz82_3 : wr.cell? ⟨gb158, 3, none⟩ = some (.int .i64 a0_3) := (bC BK158.out 3).trans rfl
         have hcz82_4 : wr.cell? ⟨gb158, 4, none⟩ = some (.int .i64 a0_4) := (bC BK158.out 4).trans rfl
         have hcz82_5 : wr.cell? ⟨gb158, 5, none⟩ = some (.int .i64 a0_5) := (bC BK158.out 5).trans rfl
         have hcz82_6 : wr.cell? ⟨gb158, 6, none⟩ = some (.int .i64 a0_6) := (bC BK158.out 6).trans rfl
         have hcz82_7 : wr.cell? ⟨gb158, 7, none⟩ = some (.int .i64 a0_7) := (bC BK158.out 7).trans rfl
         have hcz82_8 : wr.cell? ⟨gb158, 8, none⟩ = some (.slice A0_8 l0_8.length c0_8) := (bC BK158.out 8).trans rfl
         have hfz82_0 := bF BK158.out 0
         have hfz82_1 := bF BK158.out 1
         have hfz82_2 := bF BK158.out 2
         have hfz82_3 := bF BK158.out 3
         have hfz82_4 := bF BK158.out 4
         have hfz82_5 := bF BK158.out 5
         have hfz82_6 := bF BK158.out 6
         have hfz82_7 := bF BK158.out 7
         have hfz82_8 := bF BK158.out 8
         go_wp2
         go_ret
         exact ⟨by first | rfl | (simp [errW_none, errW_some] <;> rfl) | (simp [*, errW_none, errW_some] <;> rfl), by repeat (first | (with_reducible first | exact HB.out | apply bL | apply bP | apply bW | refine bS ?_ GE158.out) | exact HB.out)⟩
        ·rw [if_neg c81] at H
         have c81b0 : (a0_2 == 1) = false := beq_eq_false_iff_ne.mpr c81
         have c81b1 : (a0_2 != 1) = true := bne_iff_ne.mpr c81
         obtain rfl := Option.some.inj H
         have hcz83_0 : wr.cell? ⟨gb158, 0, none⟩ = some (.int .i64 a0_0) := (bC BK158.out 0).trans rfl
         have hcz83_1 : wr.cell? ⟨gb158, 1, none⟩ = some (.int .i64 a0_1) := (bC BK158.out 1).trans rfl
         have hcz83_2 : wr.cell? ⟨gb158, 2, none⟩ = some (.int .i64 a0_2) := (bC BK158.out 2).trans rfl
         have hcz83_3 : wr.cell? ⟨gb158, 3, none⟩ = some (.int .i64 a0_3) := (bC BK158.out 3).trans rfl
         have hcz83_4 : wr.cell? ⟨gb158, 4, none⟩ = some (.int .i64 a0_4) := (bC BK158.out 4).trans rfl
         have hcz83_5 : wr.cell? ⟨gb158, 5, none⟩ = some (.int .i64 a0_5) := (bC BK158.out 5).trans rfl
         have hcz83_6 : wr.cell? ⟨gb158, 6, none⟩ = some (.int .i64 a0_6) := (bC BK158.out 6).trans rfl
         have hcz83_7 : wr.cell? ⟨gb158, 7, none⟩ = some (.int .i64 a0_7) := (bC BK158.out 7).trans rfl
         have hcz83_8 : wr.cell? ⟨gb158, 8, none⟩ = some (.slice A0_8 l0_8.length c0_8) := (bC BK158.out 8).trans rfl
         have hfz83_0 := bF BK158.out 0
         have hfz83_1 := bF BK158.out 1
         have hfz83_2 := bF BK158.out 2
         have hfz83_3 := bF BK158.out 3
         have hfz83_4 := bF BK158.out 4
         have hfz83_5 := bF BK158.out 5
         have hfz83_6 := bF BK158.out 6
         have hfz83_7 := bF BK158.out 7
         have hfz83_8 := bF BK158.out 8
         go_wp2
         go_ret
         exact ⟨by first | rfl | (simp [errW_none, errW_some] <;> rfl) | (simp [*, errW_none, errW_some] <;> rfl), by repeat (first | (with_reducible first | exact HB.out | apply bL | apply bP | apply bW | refine bS ?_ GE158.out) | exact HB.out)⟩
       ·rw [if_neg c80] at H
        have c80b0 : decide (a0_0 ≤ 8) = false := decide_eq_false c80
        clear c80
        obtain rfl := Option.some.inj H
        have hcz84_0 : wr.cell? ⟨gb158, 0, none⟩ = some (.int .i64 a0_0) := (bC BK158.out 0).trans rfl
        have hcz84_1 : wr.cell? ⟨gb158, 1, none⟩ = some (.int .i64 a0_1) := (bC BK158.out 1).trans rfl
        have hcz84_2 : wr.cell? ⟨gb158, 2, none⟩ = some (.int .i64 a0_2) := (bC BK158.out 2).trans rfl
        have hcz84_3 : wr.cell? ⟨gb158, 3, none⟩ = some (.int .i64 a0_3) := (bC BK158.out 3).trans rfl
        have hcz84_4 : wr.cell? ⟨gb158, 4, none⟩ = some (.int .i64 a0_4) := (bC BK158.out 4).trans rfl
        have hcz84_5 : wr.cell? ⟨gb158, 5, none⟩ = some (.int .i64 a0_5) := (bC BK158.out 5).trans rfl
        have hcz84_6 : wr.cell? ⟨gb158, 6, none⟩ = some (.int .i64 a0_6) := (bC BK158.out 6).trans rfl
        have hcz84_7 : wr.cell? ⟨gb158, 7, none⟩ = some (.int .i64 a0_7) := (bC BK158.out 7).trans rfl
        have hcz84_8 : wr.cell? ⟨gb158, 8, none⟩ = some (.slice A0_8 l0_8.length c0_8) := (bC BK158.out 8).trans rfl
        have hfz84_0 := bF BK158.out 0
        have hfz84_1 := bF BK158.out 1
        have hfz84_2 := bF BK158.out 2
        have hfz84_3 := bF BK158.out 3
        have hfz84_4 := bF BK158.out 4
        have hfz84_5 := bF BK158.out 5
        have hfz84_6 := bF BK158.out 6
        have hfz84_7 := bF BK158.out 7
        have hfz84_8 := bF BK158.out 8
        go_wp2
        go_ret
        exact ⟨by first | rfl | (simp [errW_none, errW_some] <;> rfl) | (simp [*, errW_none, errW_some] <;> rfl), by repeat (first | (with_reducible first | exact HB.out | apply bL | apply bP | apply bW | refine bS ?_ GE158.out) | exact HB.out)⟩
      ·rw [if_neg c79] at H
       have c79b0 : decide (1 ≤ a0_0) = false := decide_eq_false c79
       clear c79
       obtain rfl := Option.some.inj H
       have hcz85_0 : wr.cell? ⟨gb158, 0, none⟩ = some (.int .i64 a0_0) := (bC BK158.out 0).trans rfl
       have hcz85_1 : wr.cell? ⟨gb158, 1, none⟩ = some (.int .i64 a0_1) := (bC BK158.out 1).trans rfl
       have hcz85_2 : wr.cell? ⟨gb158, 2, none⟩ = some (.int .i64 a0_2) := (bC BK158.out 2).trans rfl
       have hcz85_3 : wr.cell? ⟨gb158, 3, none⟩ = some (.int .i64 a0_3) := (bC BK158.out 3).trans rfl
       have hcz85_4 : wr.cell? ⟨gb158, 4, none⟩ = some (.int .i64 a0_4) := (bC BK158.out 4).trans rfl
       have hcz85_5 : wr.cell? ⟨gb158, 5, none⟩ = some (.int .i64 a0_5) := (bC BK158.out 5).trans rfl
       have hcz85_6 : wr.cell? ⟨gb158, 6, none⟩ = some (.int .i64 a0_6) := (bC BK158.out 6).trans rfl
       have hcz85_7 : wr.cell? ⟨gb158, 7, none⟩ = some (.int .i64 a0_7) := (bC BK158.out 7).trans rfl
       have hcz85_8 : wr.cell? ⟨gb158, 8, none⟩ = some (.slice A0_8 l0_8.length c0_8) := (bC BK158.out 8).trans rfl
       have hfz85_0 := bF BK158.out 0
       have hfz85_1 := bF BK158.out 1
       have hfz85_2 := bF BK158.out 2
       have hfz85_3 := bF BK158.out 3
       have hfz85_4 := bF BK158.out 4
       have hfz85_5 := bF BK158.out 5
       have hfz85_6 := bF BK158.out 6
       have hfz85_7 := bF BK158.out 7
       have hfz85_8 := bF BK158.out 8
       go_wp2
       go_ret
       exact ⟨by first | rfl | (simp [errW_none, errW_some] <;> rfl) | (simp [*, errW_none, errW_some] <;> rfl), by repeat (first | (with_reducible first | exact HB.out | apply bL | apply bP | apply bW | refine bS ?_ GE158.out) | exact HB.out)⟩
     ·replace c78 := Bool.eq_false_iff.mpr c78
      subst c78
      have H1 : (some false) = some r := by rw [if_neg (show ¬ (false = true) by decide)] at H; exact H
      clear H
      have H := H1
      clear H1
      obtain rfl := Option.some.inj H
      have hcz86_0 : wr.cell? ⟨gb158, 0, none⟩ = some (.int .i64 a0_0) := (bC BK158.out 0).trans rfl
      have hcz86_1 : wr.cell? ⟨gb158, 1, none⟩ = some (.int .i64 a0_1) := (bC BK158.out 1).trans rfl
      have hcz86_2 : wr.cell? ⟨gb158, 2, none⟩ = some (.int .i64 a0_2) := (bC BK158.out 2).trans rfl
      have hcz86_3 : wr.cell? ⟨gb158, 3, none⟩ = some (.int .i64 a0_3) := (bC BK158.out 3).trans rfl
      have hcz86_4 : wr.cell? ⟨gb158, 4, none⟩ = some (.int .i64 a0_4) := (bC BK158.out 4).trans rfl
      have hcz86_5 : wr.cell? ⟨gb158, 5, none⟩ = some (.int .i64 a0_5) := (bC BK158.out 5).trans rfl
      have hcz86_6 : wr.cell? ⟨gb158, 6, none⟩ = some (.int .i64 a0_6) := (bC BK158.out 6).trans rfl
      have hcz86_7 : wr.cell? ⟨gb158, 7, none⟩ = some (.int .i64 a0_7) := (bC BK158.out 7).trans rfl
      have hcz86_8 : wr.cell? ⟨gb158, 8, none⟩ = some (.slice A0_8 l0_8.length c0_8) := (bC BK158.out 8).trans rfl
      have hfz86_0 := bF BK158.out 0
      have hfz86_1 := bF BK158.out 1
      have hfz86_2 := bF BK158.out 2
      have hfz86_3 := bF BK158.out 3
      have hfz86_4 := bF BK158.out 4
      have hfz86_5 := bF BK158.out 5
      have hfz86_6 := bF BK158.out 6
      have hfz86_7 := bF BK158.out 7
      have hfz86_8 := bF BK158.out 8
      go_wp2
      go_ret
      exact ⟨by first | rfl | (simp [errW_none, errW_some] <;> rfl) | (simp [*, errW_none, errW_some] <;> rfl), by repeat (first | (with_reducible first | exact HB.out | apply bL | apply bP | apply bW | refine bS ?_ GE158.out) | exact HB.out)⟩
 ·replace c4 := Bool.eq_false_iff.mpr c4
  subst c4
  have H1 : (if t159 = true then ((valid_Check.f k a0_0 a0_1 a0_2 a0_3 a0_4 a0_5 a0_6 a0_7 l0_8).bind fun bt161 => (some (bt161.1 == 10))) else (some false)) = some r := by rw [if_neg (show ¬ (false = true) by decide)] at H; exact H
  clear H
  have H := H1
  clear H1
  by_cases c87 : t159 = true
  ·subst c87
   have H1 : ((valid_Check.f k a0_0 a0_1 a0_2 a0_3 a0_4 a0_5 a0_6 a0_7 l0_8).bind fun bt161 => (some (bt161.1 == 10))) = some r := by rw [if_pos rfl] at H; exact H
   clear H
   have H := H1
   clear H1
   replace H := Option.bind_eq_some_iff.mp H
   obtain ⟨⟨t161, t162, t163⟩, A880, H⟩ := H
   replace H : (some (t161 == 10)) = some r := H
   have A88 := Aside0.mk A880
   clear A880
   obtain rfl := Option.some.inj H
   go_enter Try.func5, Try.ntmps5
   go_wp2_with (first | ((with_reducible refine gate_dst (N := 1) rfl ?_); refine bV ?hg (N := 1) ?hd (cs := #[.int .i64 a0_0, .int .i64 a0_1, .int .i64 a0_2, .int .i64 a0_3, .int .i64 a0_4, .int .i64 a0_5, .int .i64 a0_6, .int .i64 a0_7, .slice A0_8 l0_8.length c0_8]) (t := 24) ?hr ?_; (case hd => rfl); (case hg => rfl); (case hr => first | (go_simp; done) | (go_simp; rfl)); intro gb158 hg w89 hbox hb; have n0_ := Aside0.mk (bT (by repeat (first | (with_reducible first | exact HB.out | apply bL | apply bP | apply bW) | exact HB.out)) hb); have n1_ := Aside0.mk (hbox); have n2_ := Aside0.mk ((by rw [hg]; exact (bZ (by repeat (first | (with_reducible first | exact HB.out | apply bL | apply bP | apply bW) | exact HB.out))) : w.heap.size ≤ gb158)); have n3_ := Aside0.mk ((by rw [hg]; exact (bZ (by repeat (first | (with_reducible first | exact HB.out | apply bL | apply bP | apply bW) | exact HB.out))) : w.heap.size ≤ gb158)); clear HB; have HB := n0_; have BK158 := n1_; have GW158 := n2_; have GE158 := n3_; clear n0_ n1_ n2_ n3_; clear hb hbox hg) | ((with_reducible refine gate_callee (f := 7) rfl ?_); refine goesL_ (some 9) rfl rfl Try.func7 (by kernel_rfl) rfl #[] rfl (by (try simp only [List.map_toArray, List.map_cons, List.map_nil]); first | done | rfl | (simp only [List.length_drop, List.length_take]; rfl)) ?_; (with_reducible refine (tourbillonlaw08_examples.calls  true _ A2.out).mono ?_); rintro e w90 ⟨rfl, hb⟩; refine ⟨_, rfl, ?_⟩; have n0_ := Aside0.mk (bB (g := gb158) (o := .cells #[.int .i64 a0_0, .int .i64 a0_1, .int .i64 a0_2, .int .i64 a0_3, .int .i64 a0_4, .int .i64 a0_5, .int .i64 a0_6, .int .i64 a0_7, .slice A0_8 l0_8.length c0_8] 24 (0, 0)) (by (with_reducible repeat (first | refine bN ?_ _ | refine bD ?_ | refine bA ?_ _)); exact BK158.out) hb); have n1_ := Aside0.mk (bT (by repeat (first | (with_reducible first | exact HB.out | apply bL | apply bP | apply bW | refine bS ?_ GE158.out) | exact HB.out)) hb); clear BK158; clear HB; have BK158 := n0_; have HB := n1_; clear n0_ n1_; (try clear hb); (try clear hb2); (try clear hk); (try clear hi); have hcz91_0 : w90.cell? ⟨gb158, 0, none⟩ = some (.int .i64 a0_0) := (bC BK158.out 0).trans rfl; have hcz91_1 : w90.cell? ⟨gb158, 1, none⟩ = some (.int .i64 a0_1) := (bC BK158.out 1).trans rfl; have hcz91_2 : w90.cell? ⟨gb158, 2, none⟩ = some (.int .i64 a0_2) := (bC BK158.out 2).trans rfl; have hcz91_3 : w90.cell? ⟨gb158, 3, none⟩ = some (.int .i64 a0_3) := (bC BK158.out 3).trans rfl; have hcz91_4 : w90.cell? ⟨gb158, 4, none⟩ = some (.int .i64 a0_4) := (bC BK158.out 4).trans rfl; have hcz91_5 : w90.cell? ⟨gb158, 5, none⟩ = some (.int .i64 a0_5) := (bC BK158.out 5).trans rfl; have hcz91_6 : w90.cell? ⟨gb158, 6, none⟩ = some (.int .i64 a0_6) := (bC BK158.out 6).trans rfl; have hcz91_7 : w90.cell? ⟨gb158, 7, none⟩ = some (.int .i64 a0_7) := (bC BK158.out 7).trans rfl; have hcz91_8 : w90.cell? ⟨gb158, 8, none⟩ = some (.slice A0_8 l0_8.length c0_8) := (bC BK158.out 8).trans rfl; have hfz91_0 := bF BK158.out 0; have hfz91_1 := bF BK158.out 1; have hfz91_2 := bF BK158.out 2; have hfz91_3 := bF BK158.out 3; have hfz91_4 := bF BK158.out 4; have hfz91_5 := bF BK158.out 5; have hfz91_6 := bF BK158.out 6; have hfz91_7 := bF BK158.out 7; have hfz91_8 := bF BK158.out 8) | ((with_reducible refine gate_callee (f := 10) rfl ?_); refine goesL_ (some 11) rfl rfl Try.func10 (by kernel_rfl) rfl #[.agg #[.int .i64 a0_0, .int .i64 a0_1, .int .i64 a0_2, .int .i64 a0_3, .int .i64 a0_4, .int .i64 a0_5, .int .i64 a0_6, .int .i64 a0_7, .slice A0_8 l0_8.length c0_8]] rfl (by (try simp only [List.map_toArray, List.map_cons, List.map_nil]); first | done | rfl | (simp only [List.length_drop, List.length_take]; rfl)) ?_; (with_reducible refine (valid_Right.calls k a0_0 a0_1 a0_2 a0_3 a0_4 a0_5 a0_6 a0_7 _ _ l0_8 false _ ?side1 ?side2 A3.out).mono ?_); (case side1 => repeat (first | exact (Kd.C_below HR0_8.out HB.out) | (with_reducible refine Kd.C_alloc ?_ _) | (with_reducible refine Kd.C_drewN ?_ _) | (with_reducible refine Kd.C_drew ?_))); (case side2 => exact HC0_8.out); rintro e w92 ⟨rfl, hb⟩; refine ⟨_, rfl, ?_⟩; have n0_ := Aside0.mk (bB (g := gb158) (o := .cells #[.int .i64 a0_0, .int .i64 a0_1, .int .i64 a0_2, .int .i64 a0_3, .int .i64 a0_4, .int .i64 a0_5, .int .i64 a0_6, .int .i64 a0_7, .slice A0_8 l0_8.length c0_8] 24 (0, 0)) (by (with_reducible repeat (first | refine bN ?_ _ | refine bD ?_ | refine bA ?_ _)); exact BK158.out) hb); have n1_ := Aside0.mk (bT (by repeat (first | (with_reducible first | exact HB.out | apply bL | apply bP | apply bW | refine bS ?_ GE158.out) | exact HB.out)) hb); clear BK158; clear HB; have BK158 := n0_; have HB := n1_; clear n0_ n1_; (try clear hb); (try clear hb2); (try clear hk); (try clear hi); have hcz93_0 : w92.cell? ⟨gb158, 0, none⟩ = some (.int .i64 a0_0) := (bC BK158.out 0).trans rfl; have hcz93_1 : w92.cell? ⟨gb158, 1, none⟩ = some (.int .i64 a0_1) := (bC BK158.out 1).trans rfl; have hcz93_2 : w92.cell? ⟨gb158, 2, none⟩ = some (.int .i64 a0_2) := (bC BK158.out 2).trans rfl; have hcz93_3 : w92.cell? ⟨gb158, 3, none⟩ = some (.int .i64 a0_3) := (bC BK158.out 3).trans rfl; have hcz93_4 : w92.cell? ⟨gb158, 4, none⟩ = some (.int .i64 a0_4) := (bC BK158.out 4).trans rfl; have hcz93_5 : w92.cell? ⟨gb158, 5, none⟩ = some (.int .i64 a0_5) := (bC BK158.out 5).trans rfl; have hcz93_6 : w92.cell? ⟨gb158, 6, none⟩ = some (.int .i64 a0_6) := (bC BK158.out 6).trans rfl; have hcz93_7 : w92.cell? ⟨gb158, 7, none⟩ = some (.int .i64 a0_7) := (bC BK158.out 7).trans rfl; have hcz93_8 : w92.cell? ⟨gb158, 8, none⟩ = some (.slice A0_8 l0_8.length c0_8) := (bC BK158.out 8).trans rfl; have hfz93_0 := bF BK158.out 0; have hfz93_1 := bF BK158.out 1; have hfz93_2 := bF BK158.out 2; have hfz93_3 := bF BK158.out 3; have hfz93_4 := bF BK158.out 4; have hfz93_5 := bF BK158.out 5; have hfz93_6 := bF BK158.out 6; have hfz93_7 := bF BK158.out 7; have hfz93_8 := bF BK158.out 8) | (go_at_call 8; (with_reducible refine (valid_Check.calls k a0_0 a0_1 a0_2 a0_3 a0_4 a0_5 a0_6 a0_7 _ _ l0_8 t161 t162 t163 _ ?side1 ?side2 A88.out).mono ?_); (case side1 => repeat (first | exact (Kd.C_below HR0_8.out HB.out) | (with_reducible refine Kd.C_alloc ?_ _) | (with_reducible refine Kd.C_drewN ?_ _) | (with_reducible refine Kd.C_drew ?_))); (case side2 => exact HC0_8.out); rintro e w94 ⟨rfl, hb⟩; have n0_ := Aside0.mk (bB (g := gb158) (o := .cells #[.int .i64 a0_0, .int .i64 a0_1, .int .i64 a0_2, .int .i64 a0_3, .int .i64 a0_4, .int .i64 a0_5, .int .i64 a0_6, .int .i64 a0_7, .slice A0_8 l0_8.length c0_8] 24 (0, 0)) (by (with_reducible repeat (first | refine bN ?_ _ | refine bD ?_ | refine bA ?_ _)); exact BK158.out) hb); have n1_ := Aside0.mk (bT (by repeat (first | (with_reducible first | exact HB.out | apply bL | apply bP | apply bW | refine bS ?_ GE158.out) | exact HB.out)) hb); clear BK158; clear HB; have BK158 := n0_; have HB := n1_; clear n0_ n1_; (try clear hb); (try clear hb2); (try clear hk); (try clear hi)))
   go_ret
   exact ⟨by first | rfl | (simp [errW_none, errW_some] <;> rfl) | (simp [*, errW_none, errW_some] <;> rfl), by repeat (first | (with_reducible first | exact HB.out | apply bL | apply bP | apply bW | refine bS ?_ GE158.out) | exact HB.out)⟩
  ·replace c87 := Bool.eq_false_iff.mpr c87
   subst c87
   have H1 : (some false) = some r := by rw [if_neg (show ¬ (false = true) by decide)] at H; exact H
   clear H
   have H := H1
   clear H1
   obtain rfl := Option.some.inj H
   go_enter Try.func5, Try.ntmps5
   go_wp2_with (first | ((with_reducible refine gate_dst (N := 1) rfl ?_); refine bV ?hg (N := 1) ?hd (cs := #[.int .i64 a0_0, .int .i64 a0_1, .int .i64 a0_2, .int .i64 a0_3, .int .i64 a0_4, .int .i64 a0_5, .int .i64 a0_6, .int .i64 a0_7, .slice A0_8 l0_8.length c0_8]) (t := 24) ?hr ?_; (case hd => rfl); (case hg => rfl); (case hr => first | (go_simp; done) | (go_simp; rfl)); intro gb158 hg w95 hbox hb; have n0_ := Aside0.mk (bT (by repeat (first | (with_reducible first | exact HB.out | apply bL | apply bP | apply bW) | exact HB.out)) hb); have n1_ := Aside0.mk (hbox); have n2_ := Aside0.mk ((by rw [hg]; exact (bZ (by repeat (first | (with_reducible first | exact HB.out | apply bL | apply bP | apply bW) | exact HB.out))) : w.heap.size ≤ gb158)); have n3_ := Aside0.mk ((by rw [hg]; exact (bZ (by repeat (first | (with_reducible first | exact HB.out | apply bL | apply bP | apply bW) | exact HB.out))) : w.heap.size ≤ gb158)); clear HB; have HB := n0_; have BK158 := n1_; have GW158 := n2_; have GE158 := n3_; clear n0_ n1_ n2_ n3_; clear hb hbox hg) | ((with_reducible refine gate_callee (f := 7) rfl ?_); refine goesL_ (some 9) rfl rfl Try.func7 (by kernel_rfl) rfl #[] rfl (by (try simp only [List.map_toArray, List.map_cons, List.map_nil]); first | done | rfl | (simp only [List.length_drop, List.length_take]; rfl)) ?_; (with_reducible refine (tourbillonlaw08_examples.calls  false _ A2.out).mono ?_); rintro e w96 ⟨rfl, hb⟩; refine ⟨_, rfl, ?_⟩; have n0_ := Aside0.mk (bB (g := gb158) (o := .cells #[.int .i64 a0_0, .int .i64 a0_1, .int .i64 a0_2, .int .i64 a0_3, .int .i64 a0_4, .int .i64 a0_5, .int .i64 a0_6, .int .i64 a0_7, .slice A0_8 l0_8.length c0_8] 24 (0, 0)) (by (with_reducible repeat (first | refine bN ?_ _ | refine bD ?_ | refine bA ?_ _)); exact BK158.out) hb); have n1_ := Aside0.mk (bT (by repeat (first | (with_reducible first | exact HB.out | apply bL | apply bP | apply bW | refine bS ?_ GE158.out) | exact HB.out)) hb); clear BK158; clear HB; have BK158 := n0_; have HB := n1_; clear n0_ n1_; (try clear hb); (try clear hb2); (try clear hk); (try clear hi); have hcz97_0 : w96.cell? ⟨gb158, 0, none⟩ = some (.int .i64 a0_0) := (bC BK158.out 0).trans rfl; have hcz97_1 : w96.cell? ⟨gb158, 1, none⟩ = some (.int .i64 a0_1) := (bC BK158.out 1).trans rfl; have hcz97_2 : w96.cell? ⟨gb158, 2, none⟩ = some (.int .i64 a0_2) := (bC BK158.out 2).trans rfl; have hcz97_3 : w96.cell? ⟨gb158, 3, none⟩ = some (.int .i64 a0_3) := (bC BK158.out 3).trans rfl; have hcz97_4 : w96.cell? ⟨gb158, 4, none⟩ = some (.int .i64 a0_4) := (bC BK158.out 4).trans rfl; have hcz97_5 : w96.cell? ⟨gb158, 5, none⟩ = some (.int .i64 a0_5) := (bC BK158.out 5).trans rfl; have hcz97_6 : w96.cell? ⟨gb158, 6, none⟩ = some (.int .i64 a0_6) := (bC BK158.out 6).trans rfl; have hcz97_7 : w96.cell? ⟨gb158, 7, none⟩ = some (.int .i64 a0_7) := (bC BK158.out 7).trans rfl; have hcz97_8 : w96.cell? ⟨gb158, 8, none⟩ = some (.slice A0_8 l0_8.length c0_8) := (bC BK158.out 8).trans rfl; have hfz97_0 := bF BK158.out 0; have hfz97_1 := bF BK158.out 1; have hfz97_2 := bF BK158.out 2; have hfz97_3 := bF BK158.out 3; have hfz97_4 := bF BK158.out 4; have hfz97_5 := bF BK158.out 5; have hfz97_6 := bF BK158.out 6; have hfz97_7 := bF BK158.out 7; have hfz97_8 := bF BK158.out 8) | ((with_reducible refine gate_callee (f := 10) rfl ?_); refine goesL_ (some 11) rfl rfl Try.func10 (by kernel_rfl) rfl #[.agg #[.int .i64 a0_0, .int .i64 a0_1, .int .i64 a0_2, .int .i64 a0_3, .int .i64 a0_4, .int .i64 a0_5, .int .i64 a0_6, .int .i64 a0_7, .slice A0_8 l0_8.length c0_8]] rfl (by (try simp only [List.map_toArray, List.map_cons, List.map_nil]); first | done | rfl | (simp only [List.length_drop, List.length_take]; rfl)) ?_; (with_reducible refine (valid_Right.calls k a0_0 a0_1 a0_2 a0_3 a0_4 a0_5 a0_6 a0_7 _ _ l0_8 false _ ?side1 ?side2 A3.out).mono ?_); (case side1 => repeat (first | exact (Kd.C_below HR0_8.out HB.out) | (with_reducible refine Kd.C_alloc ?_ _) | (with_reducible refine Kd.C_drewN ?_ _) | (with_reducible refine Kd.C_drew ?_))); (case side2 => exact HC0_8.out); rintro e w98 ⟨rfl, hb⟩; refine ⟨_, rfl, ?_⟩; have n0_ := Aside0.mk (bB (g := gb158) (o := .cells #[.int .i64 a0_0, .int .i64 a0_1, .int .i64 a0_2, .int .i64 a0_3, .int .i64 a0_4, .int .i64 a0_5, .int .i64 a0_6, .int .i64 a0_7, .slice A0_8 l0_8.length c0_8] 24 (0, 0)) (by (with_reducible repeat (first | refine bN ?_ _ | refine bD ?_ | refine bA ?_ _)); exact BK158.out) hb); have n1_ := Aside0.mk (bT (by repeat (first | (with_reducible first | exact HB.out | apply bL | apply bP | apply bW | refine bS ?_ GE158.out) | exact HB.out)) hb); clear BK158; clear HB; have BK158 := n0_; have HB := n1_; clear n0_ n1_; (try clear hb); (try clear hb2); (try clear hk); (try clear hi)))
   go_ret
   exact ⟨by first | rfl | (simp [errW_none, errW_some] <;> rfl) | (simp [*, errW_none, errW_some] <;> rfl), by repeat (first | (with_reducible first | exact HB.out | apply bL | apply bP | apply bW | refine bS ?_ GE158.out) | exact HB.out)⟩

/-- THE ONE PURE STATEMENT of tourbillonlaw08_ValidSums: yours. -/
def tourbillonlaw08_ValidSums.GS37 (x : S37) : Prop := (Lit.int .i64 x.f0).wf = true ∧ (Lit.int .i64 x.f1).wf = true ∧ (Lit.int .i64 x.f2).wf = true
def tourbillonlaw08_ValidSums.BS37 (x : S37) : Nat := (1 + (1 + (1))) + 1
def tourbillonlaw08_ValidSums.GS35 (x : S35) : Prop := (Lit.int .i64 x.f0).wf = true ∧ (Lit.int .i64 x.f1).wf = true ∧ (Lit.int .i64 x.f2).wf = true ∧ (x.f3.length * 24 ≤ 140737488351232 ∧ ∀ e0 ∈ x.f3, GS37 e0)
def tourbillonlaw08_ValidSums.BS35 (x : S35) : Nat := (1 + (1 + (1 + (((x.f3.map (fun x => BS37 x)).sum + 1))))) + 1
def tourbillonlaw08_ValidSums.GS24 (x : S24) : Prop := (Lit.int .i64 x.f0).wf = true ∧ (Lit.int .i64 x.f1).wf = true ∧ (Lit.int .i64 x.f2).wf = true ∧ (Lit.int .i64 x.f3).wf = true ∧ (Lit.int .i64 x.f4).wf = true ∧ (Lit.int .i64 x.f5).wf = true ∧ (Lit.int .i64 x.f6).wf = true ∧ (Lit.int .i64 x.f7).wf = true ∧ (x.f8.length * 48 ≤ 140737488351232 ∧ ∀ e0 ∈ x.f8, GS35 e0)
def tourbillonlaw08_ValidSums.BS24 (x : S24) : Nat := (1 + (1 + (1 + (1 + (1 + (1 + (1 + (1 + (((x.f8.map (fun x => BS35 x)).sum + 1)))))))))) + 1
def tourbillonlaw08_ValidSums.Pure : Prop := ∀ (x0 : S24), GS24 x0 → ∃ k, tourbillonlaw08_ValidSums.f k x0.f0 x0.f1 x0.f2 x0.f3 x0.f4 x0.f5 x0.f6 x0.f7 x0.f8 = some true

end Go.Proofs.Ytflnooigdbhpdaa.PA
