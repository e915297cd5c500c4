/- Go functions of the program told as plain functions, and that the code comes to what they tell; written by xprint.py, a program of this session. Conditions: as each theorem states them. -/
import Derived.Test.YtflnooigdbhpdaaPAx0
import Derived.Test.YtflnooigdbhpdaaPAx5
namespace Go.Proofs.Ytflnooigdbhpdaa.PA
open Go.RowKit Go.Proofs.YtflnooigdbhpdaaW.PrintWords Go.Proofs.YtflnooigdbhpdaaW.PrintLast Go.Proofs.YtflnooigdbhpdaaW.PrintMore
open Go.Proofs.YtflnooigdbhpdaaW.PrintWords renaming blk_drewN → bN, blk_drew → bD, blk_alloc → bA, blk_frozen → bF, blk_cell → bC, below_set → bS, pw_below_drewN → bP, below_drew1 → bW, below_alloc → bL, blk_far → bR, blk_below → bB, below_step → bT, below_size → bZ, blk_lt → bQ, box_event → bV
attribute [local go_sem] max2_int min2_int max_two min_two max_three min_three max_four min_four   -- for this text's walks alone
attribute [local go_sem high] fieldA28_0
set_option linter.unusedVariables false
set_option linter.unusedSimpArgs false

/-! ### tourbillonref08_Check: function 9 -/
mutual
def tourbillonref08_Check.l0 : Nat → Int → Int → Int → Int → Int → Int → Int → Int → Int → List (S35) → Option (Bool × Int × Int)
 | 0, _, _, _, _, _, _, _, _, _, _ => none
 | k + 1, x5, x135000, x135001, x135002, x135003, x135004, x135005, x135006, x135007, x135008 => if x5 < (x135008.length : Int) then (if 0 ≤ x5 then ((tourbillonref08_within.f ((rd_T35 x135008 x5).f0) 1 1099511627776).bind fun t138 => (if t138 = true then ((tourbillonref08_within.f ((rd_T35 x135008 x5).f1) 1 ((rd_T35 x135008 x5).f0)).bind fun t139 => (if t139 = true then ((tourbillonref08_within.f ((rd_T35 x135008 x5).f2) 1 ((rd_T35 x135008 x5).f1)).bind fun t140 => (if t140 = true then (tourbillonref08_Check.j1 k x5 (decide ((((rd_T35 x135008 x5).f3).length : Int) > 4)) x135000 x135001 x135002 x135003 x135004 x135005 x135006 x135007 x135008 ((rd_T35 x135008 x5).f0) ((rd_T35 x135008 x5).f1) ((rd_T35 x135008 x5).f2) ((rd_T35 x135008 x5).f3)) else (tourbillonref08_Check.j1 k x5 true x135000 x135001 x135002 x135003 x135004 x135005 x135006 x135007 x135008 ((rd_T35 x135008 x5).f0) ((rd_T35 x135008 x5).f1) ((rd_T35 x135008 x5).f2) ((rd_T35 x135008 x5).f3)))) else (tourbillonref08_Check.j1 k x5 true x135000 x135001 x135002 x135003 x135004 x135005 x135006 x135007 x135008 ((rd_T35 x135008 x5).f0) ((rd_T35 x135008 x5).f1) ((rd_T35 x135008 x5).f2) ((rd_T35 x135008 x5).f3)))) else (tourbillonref08_Check.j1 k x5 true x135000 x135001 x135002 x135003 x135004 x135005 x135006 x135007 x135008 ((rd_T35 x135008 x5).f0) ((rd_T35 x135008 x5).f1) ((rd_T35 x135008 x5).f2) ((rd_T35 x135008 x5).f3)))) else (none)) else (some (false, (-1), (-1)))
def tourbillonref08_Check.j1 : Nat → Int → Bool → Int → Int → Int → Int → Int → Int → Int → Int → List (S35) → Int → Int → Int → List (S37) → Option (Bool × Int × Int)
 | 0, _, _, _, _, _, _, _, _, _, _, _, _, _, _, _ => none
 | k + 1, x5, x50, x135000, x135001, x135002, x135003, x135004, x135005, x135006, x135007, x135008, x138000, x138001, x138002, x138003 => if x50 = true then (some (true, x5, (-1))) else (tourbillonref08_Check.l1 k x5 0 0 x135000 x135001 x135002 x135003 x135004 x135005 x135006 x135007 x135008 x138000 x138001 x138002 x138003)
def tourbillonref08_Check.l1 : Nat → Int → Int → Int → Int → Int → Int → Int → Int → Int → Int → Int → List (S35) → Int → Int → Int → List (S37) → Option (Bool × Int × Int)
 | 0, _, _, _, _, _, _, _, _, _, _, _, _, _, _, _, _ => none
 | k + 1, x5, x7, x8, x135000, x135001, x135002, x135003, x135004, x135005, x135006, x135007, x135008, x138000, x138001, x138002, x138003 => if x8 < (x138003.length : Int) then (if 0 ≤ x8 then ((tourbillonref08_within.f ((rd_T37 x138003 x8).f0) x7 x138002).bind fun t143 => (if t143 = true then ((tourbillonref08_within.f ((rd_T37 x138003 x8).f1) 0 (wrap64 (x135007 - 1))).bind fun t144 => (if t144 = true then ((tourbillonref08_within.f ((rd_T37 x138003 x8).f2) 1 (wrap64 (x138002 - ((rd_T37 x138003 x8).f0)))).bind fun t145 => (if t145 = true then (tourbillonref08_Check.l1 k x5 (wrap64 (((rd_T37 x138003 x8).f0) + ((rd_T37 x138003 x8).f2))) (wrap64 (x8 + 1)) x135000 x135001 x135002 x135003 x135004 x135005 x135006 x135007 x135008 x138000 x138001 x138002 x138003) else (some (true, x5, x8)))) else (some (true, x5, x8)))) else (some (true, x5, x8)))) else (none)) else (tourbillonref08_Check.l0 k (wrap64 (x5 + 1)) x135000 x135001 x135002 x135003 x135004 x135005 x135006 x135007 x135008)
end
def tourbillonref08_Check.f (k : Nat) (a0_0 : Int) (a0_1 : Int) (a0_2 : Int) (a0_3 : Int) (a0_4 : Int) (a0_5 : Int) (a0_6 : Int) (a0_7 : Int) (l0_8 : List (S35)) : Option (Bool × Int × Int) := (tourbillonref08_whole.f k a0_0 a0_1 a0_2 a0_3 a0_4 a0_5 a0_6 a0_7 l0_8).bind fun t135 => (if t135 = true then (tourbillonref08_Check.l0 k 0 a0_0 a0_1 a0_2 a0_3 a0_4 a0_5 a0_6 a0_7 l0_8) else (some (true, (-1), (-1))))
theorem tourbillonref08_Check.mono_l : ∀ k, (∀ y0 y1 y2 y3 y4 y5 y6 y7 y8 y9, LeO (tourbillonref08_Check.l0 k y0 y1 y2 y3 y4 y5 y6 y7 y8 y9) (tourbillonref08_Check.l0 (k + 1) y0 y1 y2 y3 y4 y5 y6 y7 y8 y9)) ∧ (∀ y0 y1 y2 y3 y4 y5 y6 y7 y8 y9 y10 y11 y12 y13 y14, LeO (tourbillonref08_Check.j1 k y0 y1 y2 y3 y4 y5 y6 y7 y8 y9 y10 y11 y12 y13 y14) (tourbillonref08_Check.j1 (k + 1) y0 y1 y2 y3 y4 y5 y6 y7 y8 y9 y10 y11 y12 y13 y14)) ∧ (∀ y0 y1 y2 y3 y4 y5 y6 y7 y8 y9 y10 y11 y12 y13 y14 y15, LeO (tourbillonref08_Check.l1 k y0 y1 y2 y3 y4 y5 y6 y7 y8 y9 y10 y11 y12 y13 y14 y15) (tourbillonref08_Check.l1 (k + 1) y0 y1 y2 y3 y4 y5 y6 y7 y8 y9 y10 y11 y12 y13 y14 y15))
 | 0 => ⟨fun _ _ _ _ _ _ _ _ _ _ r h => by simp [tourbillonref08_Check.l0] at h, fun _ _ _ _ _ _ _ _ _ _ _ _ _ _ _ r h => by simp [tourbillonref08_Check.j1] at h, fun _ _ _ _ _ _ _ _ _ _ _ _ _ _ _ _ r h => by simp [tourbillonref08_Check.l1] at h⟩
 | k + 1 => by
  obtain ⟨ih0, ih1, ih2⟩ := tourbillonref08_Check.mono_l k
  refine ⟨?_, ?_, ?_⟩
  ·intro y0 y1 y2 y3 y4 y5 y6 y7 y8 y9
   unfold tourbillonref08_Check.l0
   repeat' first
   | (with_reducible exact ih0 _ _ _ _ _ _ _ _ _ _)
   | (with_reducible exact ih1 _ _ _ _ _ _ _ _ _ _ _ _ _ _ _)
   | (with_reducible exact ih2 _ _ _ _ _ _ _ _ _ _ _ _ _ _ _ _)
   | (with_reducible exact tourbillonref08_whole.mono _ _ _ _ _ _ _ _ _ _)
   | (with_reducible exact LeO.refl _)
   | (with_reducible exact LeO.none _)
   | (with_reducible refine LeO.ite ?_ ?_)
   | (with_reducible refine LeO.bind ?_ (fun _ => ?_))
   | exact ih0 _ _ _ _ _ _ _ _ _ _
   | exact ih1 _ _ _ _ _ _ _ _ _ _ _ _ _ _ _
   | exact ih2 _ _ _ _ _ _ _ _ _ _ _ _ _ _ _ _
   | exact tourbillonref08_whole.mono _ _ _ _ _ _ _ _ _ _
   | exact LeO.none _
   | refine LeO.ite ?_ ?_
   | refine LeO.bind ?_ (fun _ => ?_)
  ·intro y0 y1 y2 y3 y4 y5 y6 y7 y8 y9 y10 y11 y12 y13 y14
   unfold tourbillonref08_Check.j1
   repeat' first
   | (with_reducible exact ih0 _ _ _ _ _ _ _ _ _ _)
   | (with_reducible exact ih1 _ _ _ _ _ _ _ _ _ _ _ _ _ _ _)
   | (with_reducible exact ih2 _ _ _ _ _ _ _ _ _ _ _ _ _ _ _ _)
   | (with_reducible exact tourbillonref08_whole.mono _ _ _ _ _ _ _ _ _ _)
   | (with_reducible exact LeO.refl _)
   | (with_reducible exact LeO.none _)
   | (with_reducible refine LeO.ite ?_ ?_)
   | (with_reducible refine LeO.bind ?_ (fun _ => ?_))
   | exact ih0 _ _ _ _ _ _ _ _ _ _
   | exact ih1 _ _ _ _ _ _ _ _ _ _ _ _ _ _ _
   | exact ih2 _ _ _ _ _ _ _ _ _ _ _ _ _ _ _ _
   | exact tourbillonref08_whole.mono _ _ _ _ _ _ _ _ _ _
   | exact LeO.none _
   | refine LeO.ite ?_ ?_
   | refine LeO.bind ?_ (fun _ => ?_)
  ·intro y0 y1 y2 y3 y4 y5 y6 y7 y8 y9 y10 y11 y12 y13 y14 y15
   unfold tourbillonref08_Check.l1
   repeat' first
   | (with_reducible exact ih0 _ _ _ _ _ _ _ _ _ _)
   | (with_reducible exact ih1 _ _ _ _ _ _ _ _ _ _ _ _ _ _ _)
   | (with_reducible exact ih2 _ _ _ _ _ _ _ _ _ _ _ _ _ _ _ _)
   | (with_reducible exact tourbillonref08_whole.mono _ _ _ _ _ _ _ _ _ _)
   | (with_reducible exact LeO.refl _)
   | (with_reducible exact LeO.none _)
   | (with_reducible refine LeO.ite ?_ ?_)
   | (with_reducible refine LeO.bind ?_ (fun _ => ?_))
   | exact ih0 _ _ _ _ _ _ _ _ _ _
   | exact ih1 _ _ _ _ _ _ _ _ _ _ _ _ _ _ _
   | exact ih2 _ _ _ _ _ _ _ _ _ _ _ _ _ _ _ _
   | exact tourbillonref08_whole.mono _ _ _ _ _ _ _ _ _ _
   | exact LeO.none _
   | refine LeO.ite ?_ ?_
   | refine LeO.bind ?_ (fun _ => ?_)
theorem tourbillonref08_Check.mono : ∀ a0 a1 a2 a3 a4 a5 a6 a7 a8 k, LeO (tourbillonref08_Check.f k a0 a1 a2 a3 a4 a5 a6 a7 a8) (tourbillonref08_Check.f (k + 1) a0 a1 a2 a3 a4 a5 a6 a7 a8) := by
 intro a0 a1 a2 a3 a4 a5 a6 a7 a8 k
 obtain ⟨ih0, ih1, ih2⟩ := tourbillonref08_Check.mono_l k
 unfold tourbillonref08_Check.f
 repeat' first
   | (with_reducible exact ih0 _ _ _ _ _ _ _ _ _ _)
   | (with_reducible exact ih1 _ _ _ _ _ _ _ _ _ _ _ _ _ _ _)
   | (with_reducible exact ih2 _ _ _ _ _ _ _ _ _ _ _ _ _ _ _ _)
   | (with_reducible exact tourbillonref08_whole.mono _ _ _ _ _ _ _ _ _ _)
   | (with_reducible exact LeO.refl _)
   | (with_reducible exact LeO.none _)
   | (with_reducible refine LeO.ite ?_ ?_)
   | (with_reducible refine LeO.bind ?_ (fun _ => ?_))
   | exact ih0 _ _ _ _ _ _ _ _ _ _
   | exact ih1 _ _ _ _ _ _ _ _ _ _ _ _ _ _ _
   | exact ih2 _ _ _ _ _ _ _ _ _ _ _ _ _ _ _ _
   | exact tourbillonref08_whole.mono _ _ _ _ _ _ _ _ _ _
   | exact LeO.none _
   | refine LeO.ite ?_ ?_
   | refine LeO.bind ?_ (fun _ => ?_)
set_option maxHeartbeats 8000000 in
set_option maxRecDepth 100000 in
theorem tourbillonref08_Check.calls (k : Nat) (a0_0 : Int) (a0_1 : Int) (a0_2 : Int) (a0_3 : Int) (a0_4 : Int) (a0_5 : Int) (a0_6 : Int) (a0_7 : Int) (A0_8 : Option Addr) (c0_8 : Nat) (l0_8 : List (S35)) (r1 : Bool) (r2 : Int) (r3 : Int) (w : World) (hr0_8 : Kd.C k35 w A0_8 l0_8.length l0_8) (hc0_8 : l0_8.length ≤ c0_8) (h : tourbillonref08_Check.f k a0_0 a0_1 a0_2 a0_3 a0_4 a0_5 a0_6 a0_7 l0_8 = some (r1, r2, r3)) :
  Calls Try.prog 9 #[.agg #[.int .i64 a0_0, .int .i64 a0_1, .int .i64 a0_2, .int .i64 a0_3, .int .i64 a0_4, .int .i64 a0_5, .int .i64 a0_6, .int .i64 a0_7, .slice A0_8 l0_8.length c0_8]] w fun e w' => e = .returned (.tuple #[.bool r1, .int .i64 r2, .int .i64 r3]) ∧ Below w.heap.size w w' := by
 have hu24 := Try.underlying24
 have hu35 := Try.underlying35
 have hu37 := Try.underlying37
 have HR0_8 := Aside0.mk hr0_8
 have HC0_8 := Aside0.mk hc0_8
 clear hr0_8 hc0_8
 have HB := Aside0.mk (Below.refl w.heap.size w)
 have H : ((tourbillonref08_whole.f k a0_0 a0_1 a0_2 a0_3 a0_4 a0_5 a0_6 a0_7 l0_8).bind fun t135 => (if t135 = true then (tourbillonref08_Check.l0 k 0 a0_0 a0_1 a0_2 a0_3 a0_4 a0_5 a0_6 a0_7 l0_8) else (some (true, (-1), (-1))))) = some (r1, r2, r3) := h
 clear h
 replace H := Option.bind_eq_some_iff.mp H
 obtain ⟨t135, A20, H⟩ := H
 replace H : (if t135 = true then (tourbillonref08_Check.l0 k 0 a0_0 a0_1 a0_2 a0_3 a0_4 a0_5 a0_6 a0_7 l0_8) else (some (true, (-1), (-1)))) = some (r1, r2, r3) := H
 have A2 := Aside0.mk A20
 clear A20
 by_cases c3 : t135 = true
 ·subst c3
  have H1 : (tourbillonref08_Check.l0 k 0 a0_0 a0_1 a0_2 a0_3 a0_4 a0_5 a0_6 a0_7 l0_8) = some (r1, r2, r3) := by rw [if_pos rfl] at H; exact H
  clear H
  have H := H1
  clear H1
  have H' := Aside0.mk H
  clear H
  go_enter Try.func9, Try.ntmps9
  go_wp2_with (first | ((with_reducible refine gate_dst (N := 1) rfl ?_); (try (refine gate_guard (by rfl) ?_; dsimp only)); refine bV ?hg (N := 1) ?hd (cs := #[.int .i64 a0_0, .int .i64 a0_1, .int .i64 a0_2, .int .i64 a0_3, .int .i64 a0_4, .int .i64 a0_5, .int .i64 a0_6, .int .i64 a0_7, .slice A0_8 l0_8.length c0_8]) (t := 24) ?hr ?_; (case hd => rfl); (case hg => rfl); (case hr => first | (go_simp; done) | (go_simp; rfl)); intro gb134 hg w4 hbox hb; have n0_ := Aside0.mk (bT (by repeat (first | (with_reducible first | exact HB.out | apply bL | apply bP | apply bW) | exact HB.out)) hb); have n1_ := Aside0.mk (hbox); have n2_ := Aside0.mk ((by rw [hg]; exact (bZ (by repeat (first | (with_reducible first | exact HB.out | apply bL | apply bP | apply bW) | exact HB.out))) : w.heap.size ≤ gb134)); have n3_ := Aside0.mk ((by rw [hg]; exact (bZ (by repeat (first | (with_reducible first | exact HB.out | apply bL | apply bP | apply bW) | exact HB.out))) : w.heap.size ≤ gb134)); clear HB; have HB := n0_; have BK134 := n1_; have GW134 := n2_; have GE134 := n3_; clear n0_ n1_ n2_ n3_; clear hb hbox hg; have hcz5_0 : w4.cell? ⟨gb134, 0, none⟩ = some (.int .i64 a0_0) := (bC BK134.out 0).trans rfl; have hcz5_1 : w4.cell? ⟨gb134, 1, none⟩ = some (.int .i64 a0_1) := (bC BK134.out 1).trans rfl; have hcz5_2 : w4.cell? ⟨gb134, 2, none⟩ = some (.int .i64 a0_2) := (bC BK134.out 2).trans rfl; have hcz5_3 : w4.cell? ⟨gb134, 3, none⟩ = some (.int .i64 a0_3) := (bC BK134.out 3).trans rfl; have hcz5_4 : w4.cell? ⟨gb134, 4, none⟩ = some (.int .i64 a0_4) := (bC BK134.out 4).trans rfl; have hcz5_5 : w4.cell? ⟨gb134, 5, none⟩ = some (.int .i64 a0_5) := (bC BK134.out 5).trans rfl; have hcz5_6 : w4.cell? ⟨gb134, 6, none⟩ = some (.int .i64 a0_6) := (bC BK134.out 6).trans rfl; have hcz5_7 : w4.cell? ⟨gb134, 7, none⟩ = some (.int .i64 a0_7) := (bC BK134.out 7).trans rfl; have hcz5_8 : w4.cell? ⟨gb134, 8, none⟩ = some (.slice A0_8 l0_8.length c0_8) := (bC BK134.out 8).trans rfl; have hfz5_0 := bF BK134.out 0; have hfz5_1 := bF BK134.out 1; have hfz5_2 := bF BK134.out 2; have hfz5_3 := bF BK134.out 3; have hfz5_4 := bF BK134.out 4; have hfz5_5 := bF BK134.out 5; have hfz5_6 := bF BK134.out 6; have hfz5_7 := bF BK134.out 7; have hfz5_8 := bF BK134.out 8) | ((with_reducible refine gate_callee (f := 14) rfl ?_); refine goesL_ (some 11) rfl rfl Try.func14 (by kernel_rfl) rfl #[.agg #[.int .i64 a0_0, .int .i64 a0_1, .int .i64 a0_2, .int .i64 a0_3, .int .i64 a0_4, .int .i64 a0_5, .int .i64 a0_6, .int .i64 a0_7, .slice A0_8 l0_8.length c0_8]] rfl (by (try simp only [List.map_toArray, List.map_cons, List.map_nil]); first | done | rfl | (simp only [List.length_drop, List.length_take]; rfl)) ?_; (with_reducible refine (tourbillonref08_whole.calls k a0_0 a0_1 a0_2 a0_3 a0_4 a0_5 a0_6 a0_7 _ _ l0_8 true _ ?side1 ?side2 A2.out).mono ?_); (case side1 => repeat (first | exact (Kd.C_below HR0_8.out HB.out) | (with_reducible refine Kd.C_alloc ?_ _) | (with_reducible refine Kd.C_drewN ?_ _) | (with_reducible refine Kd.C_drew ?_))); (case side2 => exact HC0_8.out); rintro e w6 ⟨rfl, hb⟩; refine ⟨_, rfl, ?_⟩; have n0_ := Aside0.mk (bB (g := gb134) (o := .cells #[.int .i64 a0_0, .int .i64 a0_1, .int .i64 a0_2, .int .i64 a0_3, .int .i64 a0_4, .int .i64 a0_5, .int .i64 a0_6, .int .i64 a0_7, .slice A0_8 l0_8.length c0_8] 24 (0, 0)) (by (with_reducible repeat (first | refine bN ?_ _ | refine bD ?_ | refine bA ?_ _)); exact BK134.out) hb); have n1_ := Aside0.mk (bT (by repeat (first | (with_reducible first | exact HB.out | apply bL | apply bP | apply bW | refine bS ?_ GE134.out) | exact HB.out)) hb); clear BK134; clear HB; have BK134 := n0_; have HB := n1_; clear n0_ n1_; (try clear hb); (try clear hb2); (try clear hk); (try clear hi)))
  go_loopg [5] k (fun kq v5 w' => ∃ (x5_1 : Int), v5 = .int .i64 x5_1 ∧ Aside0 (tourbillonref08_Check.l0 kq x5_1 a0_0 a0_1 a0_2 a0_3 a0_4 a0_5 a0_6 a0_7 l0_8 = some (r1, r2, r3)) ∧ Aside0 (kq ≤ k) ∧ Aside0 (w'.heap[gb134]? = some (.cells #[.int .i64 a0_0, .int .i64 a0_1, .int .i64 a0_2, .int .i64 a0_3, .int .i64 a0_4, .int .i64 a0_5, .int .i64 a0_6, .int .i64 a0_7, (.slice A0_8 l0_8.length c0_8)] 24 (0, 0))) ∧ Aside0 (Below w.heap.size w w'))
  case atStart => exact ⟨(0), (by first | rfl | (simp; done) | (simp [*]; done) | (simp only [bne, Bool.not_not]; done)), H', ⟨Nat.le_refl _⟩, ⟨by (with_reducible repeat (first | refine bN ?_ _ | refine bD ?_ | refine bA ?_ _)); exact BK134.out⟩, ⟨by repeat (first | (with_reducible first | exact HB.out | apply bL | apply bP | apply bW | refine bS ?_ GE134.out) | exact HB.out)⟩⟩
  case round =>
   clear H'
   try clear c1
   try clear p2
   try clear c3
   try clear hcz5_0
   try clear hcz5_1
   try clear hcz5_2
   try clear hcz5_3
   try clear hcz5_4
   try clear hcz5_5
   try clear hcz5_6
   try clear hcz5_7
   try clear hcz5_8
   try clear hfz5_0
   try clear hfz5_1
   try clear hfz5_2
   try clear hfz5_3
   try clear hfz5_4
   try clear hfz5_5
   try clear hfz5_6
   try clear hfz5_7
   try clear hfz5_8
   obtain ⟨x5_1, rfl, HA, HK1, BK134, HB⟩ := hrel
   cases gk with
   | zero => exact absurd HA.out (by simp [tourbillonref08_Check.l0])
   | succ k1 =>
    have H := HA.out
    clear HA
    simp only [tourbillonref08_Check.l0] at H
    by_cases c7 : x5_1 < (l0_8.length : Int)
    ·rw [if_pos c7] at H
     have c7b0 : decide (x5_1 < (l0_8.length : Int)) = true := decide_eq_true c7
     clear c7
     by_cases c8 : 0 ≤ x5_1
     ·rw [if_pos c8] at H
      have c8b0 : decide (0 ≤ x5_1) = true := decide_eq_true c8
      clear c8
      have HC9 := Aside0.mk H
      clear H
      have hcz10_0 : wr.cell? ⟨gb134, 0, none⟩ = some (.int .i64 a0_0) := (bC BK134.out 0).trans rfl
      have hcz10_1 : wr.cell? ⟨gb134, 1, none⟩ = some (.int .i64 a0_1) := (bC BK134.out 1).trans rfl
      have hcz10_2 : wr.cell? ⟨gb134, 2, none⟩ = some (.int .i64 a0_2) := (bC BK134.out 2).trans rfl
      have hcz10_3 : wr.cell? ⟨gb134, 3, none⟩ = some (.int .i64 a0_3) := (bC BK134.out 3).trans rfl
      have hcz10_4 : wr.cell? ⟨gb134, 4, none⟩ = some (.int .i64 a0_4) := (bC BK134.out 4).trans rfl
      have hcz10_5 : wr.cell? ⟨gb134, 5, none⟩ = some (.int .i64 a0_5) := (bC BK134.out 5).trans rfl
      have hcz10_6 : wr.cell? ⟨gb134, 6, none⟩ = some (.int .i64 a0_6) := (bC BK134.out 6).trans rfl
      have hcz10_7 : wr.cell? ⟨gb134, 7, none⟩ = some (.int .i64 a0_7) := (bC BK134.out 7).trans rfl
      have hcz10_8 : wr.cell? ⟨gb134, 8, none⟩ = some (.slice A0_8 l0_8.length c0_8) := (bC BK134.out 8).trans rfl
      have hfz10_0 := bF BK134.out 0
      have hfz10_1 := bF BK134.out 1
      have hfz10_2 := bF BK134.out 2
      have hfz10_3 := bF BK134.out 3
      have hfz10_4 := bF BK134.out 4
      have hfz10_5 := bF BK134.out 5
      have hfz10_6 := bF BK134.out 6
      have hfz10_7 := bF BK134.out 7
      have hfz10_8 := bF BK134.out 8
      have p136 : 0 ≤ (x5_1 : Int) := of_decide_eq_true (by first | (with_reducible assumption) | assumption)
      have q136 : x5_1 < (l0_8.length : Int) := of_decide_eq_true (by first | (with_reducible assumption) | assumption)
      obtain ⟨ad136, A136_3, c136_3, e136, hx136_0, hx136_1, hx136_2, hx136_3, hl136_3, hi136_3⟩ := at_T35 HR0_8.out x5_1 p136 q136
      cases e136
      replace hx136_0 := (HB.out.cell (World.block_lt_of_cell? w _ hx136_0)).trans hx136_0
      replace hx136_1 := (HB.out.cell (World.block_lt_of_cell? w _ hx136_1)).trans hx136_1
      replace hx136_2 := (HB.out.cell (World.block_lt_of_cell? w _ hx136_2)).trans hx136_2
      replace hx136_3 := (HB.out.cell (World.block_lt_of_cell? w _ hx136_3)).trans hx136_3
      have HR136_3 := Aside0.mk hi136_3
      have HC136_3 := Aside0.mk hl136_3
      clear hi136_3 hl136_3
      replace p136 := eq_true p136
      replace q136 := eq_true q136
      go_upto_region 7 with (first | ((with_reducible refine gate_dst (N := 6) rfl ?_); (try (refine gate_guard (by rfl) ?_; dsimp only)); refine bV ?hg (N := 6) ?hd (cs := #[.int .i64 0, .int .i64 0, .int .i64 0, .slice none 0 0]) (t := 35) ?hr ?_; (case hd => rfl); (case hg => rfl); (case hr => first | (go_simp; done) | (go_simp; rfl)); intro gb137 hg w11 hbox hb; have n0_ := Aside0.mk (bB (g := gb134) (o := .cells #[.int .i64 a0_0, .int .i64 a0_1, .int .i64 a0_2, .int .i64 a0_3, .int .i64 a0_4, .int .i64 a0_5, .int .i64 a0_6, .int .i64 a0_7, .slice (some ad136) l0_8.length c0_8] 24 (0, 0)) (by (with_reducible repeat (first | refine bN ?_ _ | refine bD ?_ | refine bA ?_ _)); exact BK134.out) hb); have n1_ := Aside0.mk (bT (by repeat (first | (with_reducible first | exact HB.out | apply bL | apply bP | apply bW | refine bS ?_ GE134.out) | exact HB.out)) hb); have n2_ := Aside0.mk (hbox); have n3_ := Aside0.mk ((by rw [hg]; exact (bZ (by repeat (first | (with_reducible first | exact HB.out | apply bL | apply bP | apply bW | refine bS ?_ GE134.out) | exact HB.out))) : w.heap.size ≤ gb137)); have n4_ := Aside0.mk ((by rw [hg]; exact (bZ (by repeat (first | (with_reducible first | exact HB.out | apply bL | apply bP | apply bW | refine bS ?_ GE134.out) | exact HB.out))) : w.heap.size ≤ gb137)); have n5_ := Aside0.mk ((by rw [hg]; exact Nat.ne_of_lt (bQ (g := gb134) (o := .cells #[.int .i64 a0_0, .int .i64 a0_1, .int .i64 a0_2, .int .i64 a0_3, .int .i64 a0_4, .int .i64 a0_5, .int .i64 a0_6, .int .i64 a0_7, .slice (some ad136) l0_8.length c0_8] 24 (0, 0)) (by (with_reducible repeat (first | refine bN ?_ _ | refine bD ?_ | refine bA ?_ _)); exact BK134.out)) : gb134 ≠ gb137)); have n6_ := Aside0.mk ((by rw [hg]; exact Nat.ne_of_gt (bQ (g := gb134) (o := .cells #[.int .i64 a0_0, .int .i64 a0_1, .int .i64 a0_2, .int .i64 a0_3, .int .i64 a0_4, .int .i64 a0_5, .int .i64 a0_6, .int .i64 a0_7, .slice (some ad136) l0_8.length c0_8] 24 (0, 0)) (by (with_reducible repeat (first | refine bN ?_ _ | refine bD ?_ | refine bA ?_ _)); exact BK134.out)) : gb137 ≠ gb134)); clear BK134; clear HB; have BK134 := n0_; have HB := n1_; have BK137 := n2_; have GW137 := n3_; have GE137 := n4_; have NB134_137 := n5_; have NB137_134 := n6_; clear n0_ n1_ n2_ n3_ n4_ n5_ n6_; clear hb hbox hg; have hnb12 := NB137_134.out; have hnc12 := NB134_137.out; have hcz13_0 : w11.cell? ⟨gb137, 0, none⟩ = some (.int .i64 0) := (bC BK137.out 0).trans rfl; have hcz13_1 : w11.cell? ⟨gb137, 1, none⟩ = some (.int .i64 0) := (bC BK137.out 1).trans rfl; have hcz13_2 : w11.cell? ⟨gb137, 2, none⟩ = some (.int .i64 0) := (bC BK137.out 2).trans rfl; have hcz13_3 : w11.cell? ⟨gb137, 3, none⟩ = some (.slice none 0 0) := (bC BK137.out 3).trans rfl; have hfz13_0 := bF BK137.out 0; have hfz13_1 := bF BK137.out 1; have hfz13_2 := bF BK137.out 2; have hfz13_3 := bF BK137.out 3))
      (try simp only [Act.put, List.setIfInBounds_toArray, List.set_cons_zero, List.set_cons_succ])
      go_cut [50] (fun v50 wc => ∃ (kq : Nat) (x50_8 : Bool), v50 = .bool x50_8 ∧ Aside0 (tourbillonref08_Check.j1 kq x5_1 x50_8 a0_0 a0_1 a0_2 a0_3 a0_4 a0_5 a0_6 a0_7 l0_8 ((rd_T35 l0_8 x5_1).f0) ((rd_T35 l0_8 x5_1).f1) ((rd_T35 l0_8 x5_1).f2) ((rd_T35 l0_8 x5_1).f3) = some (r1, r2, r3)) ∧ Aside0 (kq ≤ k1) ∧ Aside0 (wc.heap[gb134]? = some (.cells #[.int .i64 a0_0, .int .i64 a0_1, .int .i64 a0_2, .int .i64 a0_3, .int .i64 a0_4, .int .i64 a0_5, .int .i64 a0_6, .int .i64 a0_7, (.slice (some ad136) l0_8.length c0_8)] 24 (0, 0))) ∧ Aside0 (wc.heap[gb137]? = some (.cells #[.int .i64 ((rd_T35 l0_8 x5_1).f0), .int .i64 ((rd_T35 l0_8 x5_1).f1), .int .i64 ((rd_T35 l0_8 x5_1).f2), (.slice A136_3 ((rd_T35 l0_8 x5_1).f3).length c136_3)] 35 (0, 0))) ∧ Aside0 (Below w.heap.size w wc))
      case first =>
       have H := HC9.out
       clear HC9
       replace H := Option.bind_eq_some_iff.mp H
       obtain ⟨t138, A140, H⟩ := H
       replace H : (if t138 = true then ((tourbillonref08_within.f ((rd_T35 l0_8 x5_1).f1) 1 ((rd_T35 l0_8 x5_1).f0)).bind fun t139 => (if t139 = true then ((tourbillonref08_within.f ((rd_T35 l0_8 x5_1).f2) 1 ((rd_T35 l0_8 x5_1).f1)).bind fun t140 => (if t140 = true then (tourbillonref08_Check.j1 k1 x5_1 (decide ((((rd_T35 l0_8 x5_1).f3).length : Int) > 4)) a0_0 a0_1 a0_2 a0_3 a0_4 a0_5 a0_6 a0_7 l0_8 ((rd_T35 l0_8 x5_1).f0) ((rd_T35 l0_8 x5_1).f1) ((rd_T35 l0_8 x5_1).f2) ((rd_T35 l0_8 x5_1).f3)) else (tourbillonref08_Check.j1 k1 x5_1 true a0_0 a0_1 a0_2 a0_3 a0_4 a0_5 a0_6 a0_7 l0_8 ((rd_T35 l0_8 x5_1).f0) ((rd_T35 l0_8 x5_1).f1) ((rd_T35 l0_8 x5_1).f2) ((rd_T35 l0_8 x5_1).f3)))) else (tourbillonref08_Check.j1 k1 x5_1 true a0_0 a0_1 a0_2 a0_3 a0_4 a0_5 a0_6 a0_7 l0_8 ((rd_T35 l0_8 x5_1).f0) ((rd_T35 l0_8 x5_1).f1) ((rd_T35 l0_8 x5_1).f2) ((rd_T35 l0_8 x5_1).f3)))) else (tourbillonref08_Check.j1 k1 x5_1 true a0_0 a0_1 a0_2 a0_3 a0_4 a0_5 a0_6 a0_7 l0_8 ((rd_T35 l0_8 x5_1).f0) ((rd_T35 l0_8 x5_1).f1) ((rd_T35 l0_8 x5_1).f2) ((rd_T35 l0_8 x5_1).f3))) = some (r1, r2, r3) := H
       have A14 := Aside0.mk A140
       clear A140
       by_cases c15 : t138 = true
       ·subst c15
        have H1 : ((tourbillonref08_within.f ((rd_T35 l0_8 x5_1).f1) 1 ((rd_T35 l0_8 x5_1).f0)).bind fun t139 => (if t139 = true then ((tourbillonref08_within.f ((rd_T35 l0_8 x5_1).f2) 1 ((rd_T35 l0_8 x5_1).f1)).bind fun t140 => (if t140 = true then (tourbillonref08_Check.j1 k1 x5_1 (decide ((((rd_T35 l0_8 x5_1).f3).length : Int) > 4)) a0_0 a0_1 a0_2 a0_3 a0_4 a0_5 a0_6 a0_7 l0_8 ((rd_T35 l0_8 x5_1).f0) ((rd_T35 l0_8 x5_1).f1) ((rd_T35 l0_8 x5_1).f2) ((rd_T35 l0_8 x5_1).f3)) else (tourbillonref08_Check.j1 k1 x5_1 true a0_0 a0_1 a0_2 a0_3 a0_4 a0_5 a0_6 a0_7 l0_8 ((rd_T35 l0_8 x5_1).f0) ((rd_T35 l0_8 x5_1).f1) ((rd_T35 l0_8 x5_1).f2) ((rd_T35 l0_8 x5_1).f3)))) else (tourbillonref08_Check.j1 k1 x5_1 true a0_0 a0_1 a0_2 a0_3 a0_4 a0_5 a0_6 a0_7 l0_8 ((rd_T35 l0_8 x5_1).f0) ((rd_T35 l0_8 x5_1).f1) ((rd_T35 l0_8 x5_1).f2) ((rd_T35 l0_8 x5_1).f3)))) = some (r1, r2, r3) := by rw [if_pos rfl] at H; exact H
        clear H
        have H := H1
        clear H1
        replace H := Option.bind_eq_some_iff.mp H
        obtain ⟨t139, A160, H⟩ := H
        replace H : (if t139 = true then ((tourbillonref08_within.f ((rd_T35 l0_8 x5_1).f2) 1 ((rd_T35 l0_8 x5_1).f1)).bind fun t140 => (if t140 = true then (tourbillonref08_Check.j1 k1 x5_1 (decide ((((rd_T35 l0_8 x5_1).f3).length : Int) > 4)) a0_0 a0_1 a0_2 a0_3 a0_4 a0_5 a0_6 a0_7 l0_8 ((rd_T35 l0_8 x5_1).f0) ((rd_T35 l0_8 x5_1).f1) ((rd_T35 l0_8 x5_1).f2) ((rd_T35 l0_8 x5_1).f3)) else (tourbillonref08_Check.j1 k1 x5_1 true a0_0 a0_1 a0_2 a0_3 a0_4 a0_5 a0_6 a0_7 l0_8 ((rd_T35 l0_8 x5_1).f0) ((rd_T35 l0_8 x5_1).f1) ((rd_T35 l0_8 x5_1).f2) ((rd_T35 l0_8 x5_1).f3)))) else (tourbillonref08_Check.j1 k1 x5_1 true a0_0 a0_1 a0_2 a0_3 a0_4 a0_5 a0_6 a0_7 l0_8 ((rd_T35 l0_8 x5_1).f0) ((rd_T35 l0_8 x5_1).f1) ((rd_T35 l0_8 x5_1).f2) ((rd_T35 l0_8 x5_1).f3))) = some (r1, r2, r3) := H
        have A16 := Aside0.mk A160
        clear A160
        by_cases c17 : t139 = true
        ·subst c17
         have H1 : ((tourbillonref08_within.f ((rd_T35 l0_8 x5_1).f2) 1 ((rd_T35 l0_8 x5_1).f1)).bind fun t140 => (if t140 = true then (tourbillonref08_Check.j1 k1 x5_1 (decide ((((rd_T35 l0_8 x5_1).f3).length : Int) > 4)) a0_0 a0_1 a0_2 a0_3 a0_4 a0_5 a0_6 a0_7 l0_8 ((rd_T35 l0_8 x5_1).f0) ((rd_T35 l0_8 x5_1).f1) ((rd_T35 l0_8 x5_1).f2) ((rd_T35 l0_8 x5_1).f3)) else (tourbillonref08_Check.j1 k1 x5_1 true a0_0 a0_1 a0_2 a0_3 a0_4 a0_5 a0_6 a0_7 l0_8 ((rd_T35 l0_8 x5_1).f0) ((rd_T35 l0_8 x5_1).f1) ((rd_T35 l0_8 x5_1).f2) ((rd_T35 l0_8 x5_1).f3)))) = some (r1, r2, r3) := by rw [if_pos rfl] at H; exact H
         clear H
         have H := H1
         clear H1
         replace H := Option.bind_eq_some_iff.mp H
         obtain ⟨t140, A180, H⟩ := H
         replace H : (if t140 = true then (tourbillonref08_Check.j1 k1 x5_1 (decide ((((rd_T35 l0_8 x5_1).f3).length : Int) > 4)) a0_0 a0_1 a0_2 a0_3 a0_4 a0_5 a0_6 a0_7 l0_8 ((rd_T35 l0_8 x5_1).f0) ((rd_T35 l0_8 x5_1).f1) ((rd_T35 l0_8 x5_1).f2) ((rd_T35 l0_8 x5_1).f3)) else (tourbillonref08_Check.j1 k1 x5_1 true a0_0 a0_1 a0_2 a0_3 a0_4 a0_5 a0_6 a0_7 l0_8 ((rd_T35 l0_8 x5_1).f0) ((rd_T35 l0_8 x5_1).f1) ((rd_T35 l0_8 x5_1).f2) ((rd_T35 l0_8 x5_1).f3))) = some (r1, r2, r3) := H
         have A18 := Aside0.mk A180
         clear A180
         by_cases c19 : t140 = true
         ·subst c19
          have H1 : (tourbillonref08_Check.j1 k1 x5_1 (decide ((((rd_T35 l0_8 x5_1).f3).length : Int) > 4)) a0_0 a0_1 a0_2 a0_3 a0_4 a0_5 a0_6 a0_7 l0_8 ((rd_T35 l0_8 x5_1).f0) ((rd_T35 l0_8 x5_1).f1) ((rd_T35 l0_8 x5_1).f2) ((rd_T35 l0_8 x5_1).f3)) = some (r1, r2, r3) := by rw [if_pos rfl] at H; exact H
          clear H
          have H := H1
          clear H1
          have H' := Aside0.mk H
          clear H
          have hnb20 := NB137_134.out
          have hnc20 := NB134_137.out
          have hcz21_0 : w11.cell? ⟨gb137, 0, none⟩ = some (.int .i64 0) := (bC BK137.out 0).trans rfl
          have hcz21_1 : w11.cell? ⟨gb137, 1, none⟩ = some (.int .i64 0) := (bC BK137.out 1).trans rfl
          have hcz21_2 : w11.cell? ⟨gb137, 2, none⟩ = some (.int .i64 0) := (bC BK137.out 2).trans rfl
          have hcz21_3 : w11.cell? ⟨gb137, 3, none⟩ = some (.slice none 0 0) := (bC BK137.out 3).trans rfl
          have hfz21_0 := bF BK137.out 0
          have hfz21_1 := bF BK137.out 1
          have hfz21_2 := bF BK137.out 2
          have hfz21_3 := bF BK137.out 3
          go_wp2_with (first | ((with_reducible refine gate_callee (f := 15) rfl ?_); refine goesL_ (some 27) rfl rfl Try.func15 (by kernel_rfl) rfl #[.int .i64 ((rd_T35 l0_8 x5_1).f0), .int .i64 1, .int .i64 1099511627776] rfl (by (try simp only [List.map_toArray, List.map_cons, List.map_nil]); first | done | rfl | (simp only [List.length_drop, List.length_take]; rfl)) ?_; (with_reducible refine (tourbillonref08_within.calls ((rd_T35 l0_8 x5_1).f0) 1 1099511627776 true _ A14.out).mono ?_); rintro e w' ⟨rfl, ⟨nd, rfl⟩⟩; refine ⟨_, rfl, ?_⟩) | (go_at_call 15; (with_reducible refine (tourbillonref08_within.calls ((rd_T35 l0_8 x5_1).f1) 1 ((rd_T35 l0_8 x5_1).f0) true _ A16.out).mono ?_); rintro e w' ⟨rfl, ⟨nd, rfl⟩⟩) | (go_at_call 15; (with_reducible refine (tourbillonref08_within.calls ((rd_T35 l0_8 x5_1).f2) 1 ((rd_T35 l0_8 x5_1).f1) true _ A18.out).mono ?_); rintro e w' ⟨rfl, ⟨nd, rfl⟩⟩))
          go_meet
          case rel => exact ⟨_, (decide ((((rd_T35 l0_8 x5_1).f3).length : Int) > 4)), (by first | rfl | (simp; done) | (simp [*]; done) | (simp only [bne, Bool.not_not]; done)), H', ⟨by have := HK1.out; first | omega | exact Nat.le_refl _⟩, ⟨by (with_reducible repeat (first | refine bN ?_ _ | refine bD ?_ | refine bA ?_ _)); refine bR ?_ NB134_137.out _; (with_reducible repeat (first | refine bN ?_ _ | refine bD ?_ | refine bA ?_ _)); refine bR ?_ NB134_137.out _; (with_reducible repeat (first | refine bN ?_ _ | refine bD ?_ | refine bA ?_ _)); refine bR ?_ NB134_137.out _; (with_reducible repeat (first | refine bN ?_ _ | refine bD ?_ | refine bA ?_ _)); refine bR ?_ NB134_137.out _; (with_reducible repeat (first | refine bN ?_ _ | refine bD ?_ | refine bA ?_ _)); exact BK134.out⟩, ⟨by (with_reducible repeat (first | refine bN ?_ _ | refine bD ?_ | refine bA ?_ _)); refine blk_put (cs := #[.int .i64 ((rd_T35 l0_8 x5_1).f0), .int .i64 ((rd_T35 l0_8 x5_1).f1), .int .i64 ((rd_T35 l0_8 x5_1).f2), .slice none 0 0]) ?_ 3 _ rfl; (with_reducible repeat (first | refine bN ?_ _ | refine bD ?_ | refine bA ?_ _)); refine blk_put (cs := #[.int .i64 ((rd_T35 l0_8 x5_1).f0), .int .i64 ((rd_T35 l0_8 x5_1).f1), .int .i64 0, .slice none 0 0]) ?_ 2 _ rfl; (with_reducible repeat (first | refine bN ?_ _ | refine bD ?_ | refine bA ?_ _)); refine blk_put (cs := #[.int .i64 ((rd_T35 l0_8 x5_1).f0), .int .i64 0, .int .i64 0, .slice none 0 0]) ?_ 1 _ rfl; (with_reducible repeat (first | refine bN ?_ _ | refine bD ?_ | refine bA ?_ _)); refine blk_put (cs := #[.int .i64 0, .int .i64 0, .int .i64 0, .slice none 0 0]) ?_ 0 _ rfl; (with_reducible repeat (first | refine bN ?_ _ | refine bD ?_ | refine bA ?_ _)); exact BK137.out⟩, ⟨by repeat (first | (with_reducible first | exact HB.out | apply bL | apply bP | apply bW | refine bS ?_ GE134.out | refine bS ?_ GE137.out) | exact HB.out)⟩⟩
         ·replace c19 := Bool.eq_false_iff.mpr c19
          subst c19
          have H1 : (tourbillonref08_Check.j1 k1 x5_1 true a0_0 a0_1 a0_2 a0_3 a0_4 a0_5 a0_6 a0_7 l0_8 ((rd_T35 l0_8 x5_1).f0) ((rd_T35 l0_8 x5_1).f1) ((rd_T35 l0_8 x5_1).f2) ((rd_T35 l0_8 x5_1).f3)) = some (r1, r2, r3) := by rw [if_neg (show ¬ (false = true) by decide)] at H; exact H
          clear H
          have H := H1
          clear H1
          have H' := Aside0.mk H
          clear H
          have hnb22 := NB137_134.out
          have hnc22 := NB134_137.out
          have hcz23_0 : w11.cell? ⟨gb137, 0, none⟩ = some (.int .i64 0) := (bC BK137.out 0).trans rfl
          have hcz23_1 : w11.cell? ⟨gb137, 1, none⟩ = some (.int .i64 0) := (bC BK137.out 1).trans rfl
          have hcz23_2 : w11.cell? ⟨gb137, 2, none⟩ = some (.int .i64 0) := (bC BK137.out 2).trans rfl
          have hcz23_3 : w11.cell? ⟨gb137, 3, none⟩ = some (.slice none 0 0) := (bC BK137.out 3).trans rfl
          have hfz23_0 := bF BK137.out 0
          have hfz23_1 := bF BK137.out 1
          have hfz23_2 := bF BK137.out 2
          have hfz23_3 := bF BK137.out 3
          go_wp2_with (first | ((with_reducible refine gate_callee (f := 15) rfl ?_); refine goesL_ (some 27) rfl rfl Try.func15 (by kernel_rfl) rfl #[.int .i64 ((rd_T35 l0_8 x5_1).f0), .int .i64 1, .int .i64 1099511627776] rfl (by (try simp only [List.map_toArray, List.map_cons, List.map_nil]); first | done | rfl | (simp only [List.length_drop, List.length_take]; rfl)) ?_; (with_reducible refine (tourbillonref08_within.calls ((rd_T35 l0_8 x5_1).f0) 1 1099511627776 true _ A14.out).mono ?_); rintro e w' ⟨rfl, ⟨nd, rfl⟩⟩; refine ⟨_, rfl, ?_⟩) | (go_at_call 15; (with_reducible refine (tourbillonref08_within.calls ((rd_T35 l0_8 x5_1).f1) 1 ((rd_T35 l0_8 x5_1).f0) true _ A16.out).mono ?_); rintro e w' ⟨rfl, ⟨nd, rfl⟩⟩) | (go_at_call 15; (with_reducible refine (tourbillonref08_within.calls ((rd_T35 l0_8 x5_1).f2) 1 ((rd_T35 l0_8 x5_1).f1) false _ A18.out).mono ?_); rintro e w' ⟨rfl, ⟨nd, rfl⟩⟩))
          go_meet
          case rel => exact ⟨_, (true), (by first | rfl | (simp; done) | (simp [*]; done) | (simp only [bne, Bool.not_not]; done)), H', ⟨by have := HK1.out; first | omega | exact Nat.le_refl _⟩, ⟨by (with_reducible repeat (first | refine bN ?_ _ | refine bD ?_ | refine bA ?_ _)); refine bR ?_ NB134_137.out _; (with_reducible repeat (first | refine bN ?_ _ | refine bD ?_ | refine bA ?_ _)); refine bR ?_ NB134_137.out _; (with_reducible repeat (first | refine bN ?_ _ | refine bD ?_ | refine bA ?_ _)); refine bR ?_ NB134_137.out _; (with_reducible repeat (first | refine bN ?_ _ | refine bD ?_ | refine bA ?_ _)); refine bR ?_ NB134_137.out _; (with_reducible repeat (first | refine bN ?_ _ | refine bD ?_ | refine bA ?_ _)); exact BK134.out⟩, ⟨by (with_reducible repeat (first | refine bN ?_ _ | refine bD ?_ | refine bA ?_ _)); refine blk_put (cs := #[.int .i64 ((rd_T35 l0_8 x5_1).f0), .int .i64 ((rd_T35 l0_8 x5_1).f1), .int .i64 ((rd_T35 l0_8 x5_1).f2), .slice none 0 0]) ?_ 3 _ rfl; (with_reducible repeat (first | refine bN ?_ _ | refine bD ?_ | refine bA ?_ _)); refine blk_put (cs := #[.int .i64 ((rd_T35 l0_8 x5_1).f0), .int .i64 ((rd_T35 l0_8 x5_1).f1), .int .i64 0, .slice none 0 0]) ?_ 2 _ rfl; (with_reducible repeat (first | refine bN ?_ _ | refine bD ?_ | refine bA ?_ _)); refine blk_put (cs := #[.int .i64 ((rd_T35 l0_8 x5_1).f0), .int .i64 0, .int .i64 0, .slice none 0 0]) ?_ 1 _ rfl; (with_reducible repeat (first | refine bN ?_ _ | refine bD ?_ | refine bA ?_ _)); refine blk_put (cs := #[.int .i64 0, .int .i64 0, .int .i64 0, .slice none 0 0]) ?_ 0 _ rfl; (with_reducible repeat (first | refine bN ?_ _ | refine bD ?_ | refine bA ?_ _)); exact BK137.out⟩, ⟨by repeat (first | (with_reducible first | exact HB.out | apply bL | apply bP | apply bW | refine bS ?_ GE134.out | refine bS ?_ GE137.out) | exact HB.out)⟩⟩
        ·replace c17 := Bool.eq_false_iff.mpr c17
         subst c17
         have H1 : (tourbillonref08_Check.j1 k1 x5_1 true a0_0 a0_1 a0_2 a0_3 a0_4 a0_5 a0_6 a0_7 l0_8 ((rd_T35 l0_8 x5_1).f0) ((rd_T35 l0_8 x5_1).f1) ((rd_T35 l0_8 x5_1).f2) ((rd_T35 l0_8 x5_1).f3)) = some (r1, r2, r3) := by rw [if_neg (show ¬ (false = true) by decide)] at H; exact H
         clear H
         have H := H1
         clear H1
         have H' := Aside0.mk H
         clear H
         have hnb24 := NB137_134.out
         have hnc24 := NB134_137.out
         have hcz25_0 : w11.cell? ⟨gb137, 0, none⟩ = some (.int .i64 0) := (bC BK137.out 0).trans rfl
         have hcz25_1 : w11.cell? ⟨gb137, 1, none⟩ = some (.int .i64 0) := (bC BK137.out 1).trans rfl
         have hcz25_2 : w11.cell? ⟨gb137, 2, none⟩ = some (.int .i64 0) := (bC BK137.out 2).trans rfl
         have hcz25_3 : w11.cell? ⟨gb137, 3, none⟩ = some (.slice none 0 0) := (bC BK137.out 3).trans rfl
         have hfz25_0 := bF BK137.out 0
         have hfz25_1 := bF BK137.out 1
         have hfz25_2 := bF BK137.out 2
         have hfz25_3 := bF BK137.out 3
         go_wp2_with (first | ((with_reducible refine gate_callee (f := 15) rfl ?_); refine goesL_ (some 27) rfl rfl Try.func15 (by kernel_rfl) rfl #[.int .i64 ((rd_T35 l0_8 x5_1).f0), .int .i64 1, .int .i64 1099511627776] rfl (by (try simp only [List.map_toArray, List.map_cons, List.map_nil]); first | done | rfl | (simp only [List.length_drop, List.length_take]; rfl)) ?_; (with_reducible refine (tourbillonref08_within.calls ((rd_T35 l0_8 x5_1).f0) 1 1099511627776 true _ A14.out).mono ?_); rintro e w' ⟨rfl, ⟨nd, rfl⟩⟩; refine ⟨_, rfl, ?_⟩) | (go_at_call 15; (with_reducible refine (tourbillonref08_within.calls ((rd_T35 l0_8 x5_1).f1) 1 ((rd_T35 l0_8 x5_1).f0) false _ A16.out).mono ?_); rintro e w' ⟨rfl, ⟨nd, rfl⟩⟩))
         go_meet
         case rel => exact ⟨_, (true), (by first | rfl | (simp; done) | (simp [*]; done) | (simp only [bne, Bool.not_not]; done)), H', ⟨by have := HK1.out; first | omega | exact Nat.le_refl _⟩, ⟨by (with_reducible repeat (first | refine bN ?_ _ | refine bD ?_ | refine bA ?_ _)); refine bR ?_ NB134_137.out _; (with_reducible repeat (first | refine bN ?_ _ | refine bD ?_ | refine bA ?_ _)); refine bR ?_ NB134_137.out _; (with_reducible repeat (first | refine bN ?_ _ | refine bD ?_ | refine bA ?_ _)); refine bR ?_ NB134_137.out _; (with_reducible repeat (first | refine bN ?_ _ | refine bD ?_ | refine bA ?_ _)); refine bR ?_ NB134_137.out _; (with_reducible repeat (first | refine bN ?_ _ | refine bD ?_ | refine bA ?_ _)); exact BK134.out⟩, ⟨by (with_reducible repeat (first | refine bN ?_ _ | refine bD ?_ | refine bA ?_ _)); refine blk_put (cs := #[.int .i64 ((rd_T35 l0_8 x5_1).f0), .int .i64 ((rd_T35 l0_8 x5_1).f1), .int .i64 ((rd_T35 l0_8 x5_1).f2), .slice none 0 0]) ?_ 3 _ rfl; (with_reducible repeat (first | refine bN ?_ _ | refine bD ?_ | refine bA ?_ _)); refine blk_put (cs := #[.int .i64 ((rd_T35 l0_8 x5_1).f0), .int .i64 ((rd_T35 l0_8 x5_1).f1), .int .i64 0, .slice none 0 0]) ?_ 2 _ rfl; (with_reducible repeat (first | refine bN ?_ _ | refine bD ?_ | refine bA ?_ _)); refine blk_put (cs := #[.int .i64 ((rd_T35 l0_8 x5_1).f0), .int .i64 0, .int .i64 0, .slice none 0 0]) ?_ 1 _ rfl; (with_reducible repeat (first | refine bN ?_ _ | refine bD ?_ | refine bA ?_ _)); refine blk_put (cs := #[.int .i64 0, .int .i64 0, .int .i64 0, .slice none 0 0]) ?_ 0 _ rfl; (with_reducible repeat (first | refine bN ?_ _ | refine bD ?_ | refine bA ?_ _)); exact BK137.out⟩, ⟨by repeat (first | (with_reducible first | exact HB.out | apply bL | apply bP | apply bW | refine bS ?_ GE134.out | refine bS ?_ GE137.out) | exact HB.out)⟩⟩
       ·replace c15 := Bool.eq_false_iff.mpr c15
        subst c15
        have H1 : (tourbillonref08_Check.j1 k1 x5_1 true a0_0 a0_1 a0_2 a0_3 a0_4 a0_5 a0_6 a0_7 l0_8 ((rd_T35 l0_8 x5_1).f0) ((rd_T35 l0_8 x5_1).f1) ((rd_T35 l0_8 x5_1).f2) ((rd_T35 l0_8 x5_1).f3)) = some (r1, r2, r3) := by rw [if_neg (show ¬ (false = true) by decide)] at H; exact H
        clear H
        have H := H1
        clear H1
        have H' := Aside0.mk H
        clear H
        have hnb26 := NB137_134.out
        have hnc26 := NB134_137.out
        have hcz27_0 : w11.cell? ⟨gb137, 0, none⟩ = some (.int .i64 0) := (bC BK137.out 0).trans rfl
        have hcz27_1 : w11.cell? ⟨gb137, 1, none⟩ = some (.int .i64 0) := (bC BK137.out 1).trans rfl
        have hcz27_2 : w11.cell? ⟨gb137, 2, none⟩ = some (.int .i64 0) := (bC BK137.out 2).trans rfl
        have hcz27_3 : w11.cell? ⟨gb137, 3, none⟩ = some (.slice none 0 0) := (bC BK137.out 3).trans rfl
        have hfz27_0 := bF BK137.out 0
        have hfz27_1 := bF BK137.out 1
        have hfz27_2 := bF BK137.out 2
        have hfz27_3 := bF BK137.out 3
        go_wp2_with (first | ((with_reducible refine gate_callee (f := 15) rfl ?_); refine goesL_ (some 27) rfl rfl Try.func15 (by kernel_rfl) rfl #[.int .i64 ((rd_T35 l0_8 x5_1).f0), .int .i64 1, .int .i64 1099511627776] rfl (by (try simp only [List.map_toArray, List.map_cons, List.map_nil]); first | done | rfl | (simp only [List.length_drop, List.length_take]; rfl)) ?_; (with_reducible refine (tourbillonref08_within.calls ((rd_T35 l0_8 x5_1).f0) 1 1099511627776 false _ A14.out).mono ?_); rintro e w' ⟨rfl, ⟨nd, rfl⟩⟩; refine ⟨_, rfl, ?_⟩))
        go_meet
        case rel => exact ⟨_, (true), (by first | rfl | (simp; done) | (simp [*]; done) | (simp only [bne, Bool.not_not]; done)), H', ⟨by have := HK1.out; first | omega | exact Nat.le_refl _⟩, ⟨by (with_reducible repeat (first | refine bN ?_ _ | refine bD ?_ | refine bA ?_ _)); refine bR ?_ NB134_137.out _; (with_reducible repeat (first | refine bN ?_ _ | refine bD ?_ | refine bA ?_ _)); refine bR ?_ NB134_137.out _; (with_reducible repeat (first | refine bN ?_ _ | refine bD ?_ | refine bA ?_ _)); refine bR ?_ NB134_137.out _; (with_reducible repeat (first | refine bN ?_ _ | refine bD ?_ | refine bA ?_ _)); refine bR ?_ NB134_137.out _; (with_reducible repeat (first | refine bN ?_ _ | refine bD ?_ | refine bA ?_ _)); exact BK134.out⟩, ⟨by (with_reducible repeat (first | refine bN ?_ _ | refine bD ?_ | refine bA ?_ _)); refine blk_put (cs := #[.int .i64 ((rd_T35 l0_8 x5_1).f0), .int .i64 ((rd_T35 l0_8 x5_1).f1), .int .i64 ((rd_T35 l0_8 x5_1).f2), .slice none 0 0]) ?_ 3 _ rfl; (with_reducible repeat (first | refine bN ?_ _ | refine bD ?_ | refine bA ?_ _)); refine blk_put (cs := #[.int .i64 ((rd_T35 l0_8 x5_1).f0), .int .i64 ((rd_T35 l0_8 x5_1).f1), .int .i64 0, .slice none 0 0]) ?_ 2 _ rfl; (with_reducible repeat (first | refine bN ?_ _ | refine bD ?_ | refine bA ?_ _)); refine blk_put (cs := #[.int .i64 ((rd_T35 l0_8 x5_1).f0), .int .i64 0, .int .i64 0, .slice none 0 0]) ?_ 1 _ rfl; (with_reducible repeat (first | refine bN ?_ _ | refine bD ?_ | refine bA ?_ _)); refine blk_put (cs := #[.int .i64 0, .int .i64 0, .int .i64 0, .slice none 0 0]) ?_ 0 _ rfl; (with_reducible repeat (first | refine bN ?_ _ | refine bD ?_ | refine bA ?_ _)); exact BK137.out⟩, ⟨by repeat (first | (with_reducible first | exact HB.out | apply bL | apply bP | apply bW | refine bS ?_ GE134.out | refine bS ?_ GE137.out) | exact HB.out)⟩⟩
      case rest =>
       clear HC9
       try clear c1
       try clear p1
       try clear q1
       try clear hx1
       try clear c2
       try clear p2
       try clear c3
       try clear c7
       try clear c7b0
       try clear c8
       try clear c8b0
       try clear c9
       try clear c12
       try clear c13
       try clear p13
       try clear q13
       try clear hx13
       try clear c14
       try clear c15
       try clear c17
       try clear c19
       try clear c20
       try clear c22
       try clear c24
       try clear c26
       try clear hcz10_0
       try clear hcz10_1
       try clear hcz10_2
       try clear hcz10_3
       try clear hcz10_4
       try clear hcz10_5
       try clear hcz10_6
       try clear hcz10_7
       try clear hcz10_8
       try clear hcz13_0
       try clear hcz13_1
       try clear hcz13_2
       try clear hcz13_3
       try clear hcz21_0
       try clear hcz21_1
       try clear hcz21_2
       try clear hcz21_3
       try clear hcz23_0
       try clear hcz23_1
       try clear hcz23_2
       try clear hcz23_3
       try clear hcz25_0
       try clear hcz25_1
       try clear hcz25_2
       try clear hcz25_3
       try clear hcz27_0
       try clear hcz27_1
       try clear hcz27_2
       try clear hcz27_3
       try clear hcz5_0
       try clear hcz5_1
       try clear hcz5_2
       try clear hcz5_3
       try clear hcz5_4
       try clear hcz5_5
       try clear hcz5_6
       try clear hcz5_7
       try clear hcz5_8
       try clear hfz10_0
       try clear hfz10_1
       try clear hfz10_2
       try clear hfz10_3
       try clear hfz10_4
       try clear hfz10_5
       try clear hfz10_6
       try clear hfz10_7
       try clear hfz10_8
       try clear hfz13_0
       try clear hfz13_1
       try clear hfz13_2
       try clear hfz13_3
       try clear hfz21_0
       try clear hfz21_1
       try clear hfz21_2
       try clear hfz21_3
       try clear hfz23_0
       try clear hfz23_1
       try clear hfz23_2
       try clear hfz23_3
       try clear hfz25_0
       try clear hfz25_1
       try clear hfz25_2
       try clear hfz25_3
       try clear hfz27_0
       try clear hfz27_1
       try clear hfz27_2
       try clear hfz27_3
       try clear hfz5_0
       try clear hfz5_1
       try clear hfz5_2
       try clear hfz5_3
       try clear hfz5_4
       try clear hfz5_5
       try clear hfz5_6
       try clear hfz5_7
       try clear hfz5_8
       try clear hx136_0
       try clear hx136_1
       try clear hx136_2
       try clear hx136_3
       try clear p136
       try clear p2
       try clear q136
       obtain ⟨kq, x50_8, rfl, HA, HJ8, BK134, BK137, HB⟩ := hcut
       cases kq with
       | zero => exact absurd HA.out (by simp [tourbillonref08_Check.j1])
       | succ kj8 =>
        have H := HA.out
        clear HA
        simp only [tourbillonref08_Check.j1] at H
        by_cases c28 : x50_8 = true
        ·subst c28
         have H1 : (some (true, x5_1, (-1))) = some (r1, r2, r3) := by rw [if_pos rfl] at H; exact H
         clear H
         have H := H1
         clear H1
         simp only [Option.some.injEq, Prod.mk.injEq] at H
         obtain ⟨rfl, rfl, rfl⟩ := H
         go_wp2
         go_ret3
         exact ⟨by first | rfl | (simp [errW_none, errW_some] <;> rfl) | (simp [*, errW_none, errW_some] <;> rfl), by repeat (first | (with_reducible first | exact HB.out | apply bL | apply bP | apply bW | refine bS ?_ GE134.out | refine bS ?_ GE137.out) | exact HB.out)⟩
        ·replace c28 := Bool.eq_false_iff.mpr c28
         subst c28
         have H1 : (tourbillonref08_Check.l1 kj8 x5_1 0 0 a0_0 a0_1 a0_2 a0_3 a0_4 a0_5 a0_6 a0_7 l0_8 ((rd_T35 l0_8 x5_1).f0) ((rd_T35 l0_8 x5_1).f1) ((rd_T35 l0_8 x5_1).f2) ((rd_T35 l0_8 x5_1).f3)) = some (r1, r2, r3) := by rw [if_neg (show ¬ (false = true) by decide)] at H; exact H
         clear H
         have H := H1
         clear H1
         have H' := Aside0.mk H
         clear H
         go_wp2
         go_loopg [7, 8] kj8 (fun kq v7 v8 w' => ∃ (x7_3 : Int) (x8_3 : Int), v7 = .int .i64 x7_3 ∧ v8 = .int .i64 x8_3 ∧ Aside0 (tourbillonref08_Check.l1 kq x5_1 x7_3 x8_3 a0_0 a0_1 a0_2 a0_3 a0_4 a0_5 a0_6 a0_7 l0_8 ((rd_T35 l0_8 x5_1).f0) ((rd_T35 l0_8 x5_1).f1) ((rd_T35 l0_8 x5_1).f2) ((rd_T35 l0_8 x5_1).f3) = some (r1, r2, r3)) ∧ Aside0 (kq ≤ kj8) ∧ Aside0 (w'.heap[gb134]? = some (.cells #[.int .i64 a0_0, .int .i64 a0_1, .int .i64 a0_2, .int .i64 a0_3, .int .i64 a0_4, .int .i64 a0_5, .int .i64 a0_6, .int .i64 a0_7, (.slice (some ad136) l0_8.length c0_8)] 24 (0, 0))) ∧ Aside0 (w'.heap[gb137]? = some (.cells #[.int .i64 ((rd_T35 l0_8 x5_1).f0), .int .i64 ((rd_T35 l0_8 x5_1).f1), .int .i64 ((rd_T35 l0_8 x5_1).f2), (.slice A136_3 ((rd_T35 l0_8 x5_1).f3).length c136_3)] 35 (0, 0))) ∧ Aside0 (Below w.heap.size w w'))
         case atStart => exact ⟨(0), (0), (by first | rfl | (simp; done) | (simp [*]; done) | (simp only [bne, Bool.not_not]; done)), (by first | rfl | (simp; done) | (simp [*]; done) | (simp only [bne, Bool.not_not]; done)), H', ⟨Nat.le_refl _⟩, ⟨by (with_reducible repeat (first | refine bN ?_ _ | refine bD ?_ | refine bA ?_ _)); exact BK134.out⟩, ⟨by (with_reducible repeat (first | refine bN ?_ _ | refine bD ?_ | refine bA ?_ _)); exact BK137.out⟩, ⟨by repeat (first | (with_reducible first | exact HB.out | apply bL | apply bP | apply bW | refine bS ?_ GE134.out | refine bS ?_ GE137.out) | exact HB.out)⟩⟩
         case round =>
          clear H'
          try clear c1
          try clear p1
          try clear q1
          try clear hx1
          try clear c2
          try clear p2
          try clear c3
          try clear c7
          try clear c7b0
          try clear c8
          try clear c8b0
          try clear c9
          try clear c12
          try clear c13
          try clear p13
          try clear q13
          try clear hx13
          try clear c14
          try clear c15
          try clear c17
          try clear c19
          try clear c20
          try clear c22
          try clear c24
          try clear c26
          try clear c28
          try clear hcz10_0
          try clear hcz10_1
          try clear hcz10_2
          try clear hcz10_3
          try clear hcz10_4
          try clear hcz10_5
          try clear hcz10_6
          try clear hcz10_7
          try clear hcz10_8
          try clear hcz13_0
          try clear hcz13_1
          try clear hcz13_2
          try clear hcz13_3
          try clear hcz21_0
          try clear hcz21_1
          try clear hcz21_2
          try clear hcz21_3
          try clear hcz23_0
          try clear hcz23_1
          try clear hcz23_2
          try clear hcz23_3
          try clear hcz25_0
          try clear hcz25_1
          try clear hcz25_2
          try clear hcz25_3
          try clear hcz27_0
          try clear hcz27_1
          try clear hcz27_2
          try clear hcz27_3
          try clear hcz5_0
          try clear hcz5_1
          try clear hcz5_2
          try clear hcz5_3
          try clear hcz5_4
          try clear hcz5_5
          try clear hcz5_6
          try clear hcz5_7
          try clear hcz5_8
          try clear hfz10_0
          try clear hfz10_1
          try clear hfz10_2
          try clear hfz10_3
          try clear hfz10_4
          try clear hfz10_5
          try clear hfz10_6
          try clear hfz10_7
          try clear hfz10_8
          try clear hfz13_0
          try clear hfz13_1
          try clear hfz13_2
          try clear hfz13_3
          try clear hfz21_0
          try clear hfz21_1
          try clear hfz21_2
          try clear hfz21_3
          try clear hfz23_0
          try clear hfz23_1
          try clear hfz23_2
          try clear hfz23_3
          try clear hfz25_0
          try clear hfz25_1
          try clear hfz25_2
          try clear hfz25_3
          try clear hfz27_0
          try clear hfz27_1
          try clear hfz27_2
          try clear hfz27_3
          try clear hfz5_0
          try clear hfz5_1
          try clear hfz5_2
          try clear hfz5_3
          try clear hfz5_4
          try clear hfz5_5
          try clear hfz5_6
          try clear hfz5_7
          try clear hfz5_8
          try clear hx136_0
          try clear hx136_1
          try clear hx136_2
          try clear hx136_3
          try clear p1
          try clear p13
          try clear p136
          try clear p2
          try clear q1
          try clear q13
          try clear q136
          obtain ⟨x7_3, x8_3, rfl, rfl, HA, HK3, BK134, BK137, HB⟩ := hrel
          cases gk with
          | zero => exact absurd HA.out (by simp [tourbillonref08_Check.l1])
          | succ k3 =>
           have H := HA.out
           clear HA
           simp only [tourbillonref08_Check.l1] at H
           by_cases c29 : x8_3 < (((rd_T35 l0_8 x5_1).f3).length : Int)
           ·rw [if_pos c29] at H
            have c29b0 : decide (x8_3 < (((rd_T35 l0_8 x5_1).f3).length : Int)) = true := decide_eq_true c29
            clear c29
            by_cases c30 : 0 ≤ x8_3
            ·rw [if_pos c30] at H
             have c30b0 : decide (0 ≤ x8_3) = true := decide_eq_true c30
             clear c30
             replace H := Option.bind_eq_some_iff.mp H
             obtain ⟨t143, A310, H⟩ := H
             replace H : (if t143 = true then ((tourbillonref08_within.f ((rd_T37 ((rd_T35 l0_8 x5_1).f3) x8_3).f1) 0 (wrap64 (a0_7 - 1))).bind fun t144 => (if t144 = true then ((tourbillonref08_within.f ((rd_T37 ((rd_T35 l0_8 x5_1).f3) x8_3).f2) 1 (wrap64 (((rd_T35 l0_8 x5_1).f2) - ((rd_T37 ((rd_T35 l0_8 x5_1).f3) x8_3).f0)))).bind fun t145 => (if t145 = true then (tourbillonref08_Check.l1 k3 x5_1 (wrap64 (((rd_T37 ((rd_T35 l0_8 x5_1).f3) x8_3).f0) + ((rd_T37 ((rd_T35 l0_8 x5_1).f3) x8_3).f2))) (wrap64 (x8_3 + 1)) a0_0 a0_1 a0_2 a0_3 a0_4 a0_5 a0_6 a0_7 l0_8 ((rd_T35 l0_8 x5_1).f0) ((rd_T35 l0_8 x5_1).f1) ((rd_T35 l0_8 x5_1).f2) ((rd_T35 l0_8 x5_1).f3)) else (some (true, x5_1, x8_3)))) else (some (true, x5_1, x8_3)))) else (some (true, x5_1, x8_3))) = some (r1, r2, r3) := H
             have A31 := Aside0.mk A310
             clear A310
             by_cases c32 : t143 = true
             ·subst c32
              have H1 : ((tourbillonref08_within.f ((rd_T37 ((rd_T35 l0_8 x5_1).f3) x8_3).f1) 0 (wrap64 (a0_7 - 1))).bind fun t144 => (if t144 = true then ((tourbillonref08_within.f ((rd_T37 ((rd_T35 l0_8 x5_1).f3) x8_3).f2) 1 (wrap64 (((rd_T35 l0_8 x5_1).f2) - ((rd_T37 ((rd_T35 l0_8 x5_1).f3) x8_3).f0)))).bind fun t145 => (if t145 = true then (tourbillonref08_Check.l1 k3 x5_1 (wrap64 (((rd_T37 ((rd_T35 l0_8 x5_1).f3) x8_3).f0) + ((rd_T37 ((rd_T35 l0_8 x5_1).f3) x8_3).f2))) (wrap64 (x8_3 + 1)) a0_0 a0_1 a0_2 a0_3 a0_4 a0_5 a0_6 a0_7 l0_8 ((rd_T35 l0_8 x5_1).f0) ((rd_T35 l0_8 x5_1).f1) ((rd_T35 l0_8 x5_1).f2) ((rd_T35 l0_8 x5_1).f3)) else (some (true, x5_1, x8_3)))) else (some (true, x5_1, x8_3)))) = some (r1, r2, r3) := by rw [if_pos rfl] at H; exact H
              clear H
              have H := H1
              clear H1
              replace H := Option.bind_eq_some_iff.mp H
              obtain ⟨t144, A330, H⟩ := H
              replace H : (if t144 = true then ((tourbillonref08_within.f ((rd_T37 ((rd_T35 l0_8 x5_1).f3) x8_3).f2) 1 (wrap64 (((rd_T35 l0_8 x5_1).f2) - ((rd_T37 ((rd_T35 l0_8 x5_1).f3) x8_3).f0)))).bind fun t145 => (if t145 = true then (tourbillonref08_Check.l1 k3 x5_1 (wrap64 (((rd_T37 ((rd_T35 l0_8 x5_1).f3) x8_3).f0) + ((rd_T37 ((rd_T35 l0_8 x5_1).f3) x8_3).f2))) (wrap64 (x8_3 + 1)) a0_0 a0_1 a0_2 a0_3 a0_4 a0_5 a0_6 a0_7 l0_8 ((rd_T35 l0_8 x5_1).f0) ((rd_T35 l0_8 x5_1).f1) ((rd_T35 l0_8 x5_1).f2) ((rd_T35 l0_8 x5_1).f3)) else (some (true, x5_1, x8_3)))) else (some (true, x5_1, x8_3))) = some (r1, r2, r3) := H
              have A33 := Aside0.mk A330
              clear A330
              by_cases c34 : t144 = true
              ·subst c34
               have H1 : ((tourbillonref08_within.f ((rd_T37 ((rd_T35 l0_8 x5_1).f3) x8_3).f2) 1 (wrap64 (((rd_T35 l0_8 x5_1).f2) - ((rd_T37 ((rd_T35 l0_8 x5_1).f3) x8_3).f0)))).bind fun t145 => (if t145 = true then (tourbillonref08_Check.l1 k3 x5_1 (wrap64 (((rd_T37 ((rd_T35 l0_8 x5_1).f3) x8_3).f0) + ((rd_T37 ((rd_T35 l0_8 x5_1).f3) x8_3).f2))) (wrap64 (x8_3 + 1)) a0_0 a0_1 a0_2 a0_3 a0_4 a0_5 a0_6 a0_7 l0_8 ((rd_T35 l0_8 x5_1).f0) ((rd_T35 l0_8 x5_1).f1) ((rd_T35 l0_8 x5_1).f2) ((rd_T35 l0_8 x5_1).f3)) else (some (true, x5_1, x8_3)))) = some (r1, r2, r3) := by rw [if_pos rfl] at H; exact H
               clear H
               have H := H1
               clear H1
               replace H := Option.bind_eq_some_iff.mp H
               obtain ⟨t145, A350, H⟩ := H
               replace H : (if t145 = true then (tourbillonref08_Check.l1 k3 x5_1 (wrap64 (((rd_T37 ((rd_T35 l0_8 x5_1).f3) x8_3).f0) + ((rd_T37 ((rd_T35 l0_8 x5_1).f3) x8_3).f2))) (wrap64 (x8_3 + 1)) a0_0 a0_1 a0_2 a0_3 a0_4 a0_5 a0_6 a0_7 l0_8 ((rd_T35 l0_8 x5_1).f0) ((rd_T35 l0_8 x5_1).f1) ((rd_T35 l0_8 x5_1).f2) ((rd_T35 l0_8 x5_1).f3)) else (some (true, x5_1, x8_3))) = some (r1, r2, r3) := H
               have A35 := Aside0.mk A350
               clear A350
               by_cases c36 : t145 = true
               ·subst c36
                have H1 : (tourbillonref08_Check.l1 k3 x5_1 (wrap64 (((rd_T37 ((rd_T35 l0_8 x5_1).f3) x8_3).f0) + ((rd_T37 ((rd_T35 l0_8 x5_1).f3) x8_3).f2))) (wrap64 (x8_3 + 1)) a0_0 a0_1 a0_2 a0_3 a0_4 a0_5 a0_6 a0_7 l0_8 ((rd_T35 l0_8 x5_1).f0) ((rd_T35 l0_8 x5_1).f1) ((rd_T35 l0_8 x5_1).f2) ((rd_T35 l0_8 x5_1).f3)) = some (r1, r2, r3) := by rw [if_pos rfl] at H; exact H
                clear H
                have H := H1
                clear H1
                have H' := Aside0.mk H
                clear H
                have hnb37 := NB137_134.out
                have hnc37 := NB134_137.out
                have hcz38_0 : wr.cell? ⟨gb137, 0, none⟩ = some (.int .i64 ((rd_T35 l0_8 x5_1).f0)) := (bC BK137.out 0).trans rfl
                have hcz38_1 : wr.cell? ⟨gb137, 1, none⟩ = some (.int .i64 ((rd_T35 l0_8 x5_1).f1)) := (bC BK137.out 1).trans rfl
                have hcz38_2 : wr.cell? ⟨gb137, 2, none⟩ = some (.int .i64 ((rd_T35 l0_8 x5_1).f2)) := (bC BK137.out 2).trans rfl
                have hcz38_3 : wr.cell? ⟨gb137, 3, none⟩ = some (.slice A136_3 ((rd_T35 l0_8 x5_1).f3).length c136_3) := (bC BK137.out 3).trans rfl
                have hfz38_0 := bF BK137.out 0
                have hfz38_1 := bF BK137.out 1
                have hfz38_2 := bF BK137.out 2
                have hfz38_3 := bF BK137.out 3
                have p141 : 0 ≤ (x8_3 : Int) := of_decide_eq_true (by first | (with_reducible assumption) | assumption)
                have q141 : x8_3 < (((rd_T35 l0_8 x5_1).f3).length : Int) := of_decide_eq_true (by first | (with_reducible assumption) | assumption)
                obtain ⟨ad141, e141, hx141_0, hx141_1, hx141_2⟩ := at_T37 HR136_3.out x8_3 p141 q141
                cases e141
                replace hx141_0 := (HB.out.cell (World.block_lt_of_cell? w _ hx141_0)).trans hx141_0
                replace hx141_1 := (HB.out.cell (World.block_lt_of_cell? w _ hx141_1)).trans hx141_1
                replace hx141_2 := (HB.out.cell (World.block_lt_of_cell? w _ hx141_2)).trans hx141_2
                replace p141 := eq_true p141
                replace q141 := eq_true q141
                go_wp2_with (first | ((with_reducible refine gate_dst (N := 9) rfl ?_); (try (refine gate_guard (by rfl) ?_; dsimp only)); refine bV ?hg (N := 9) ?hd (cs := #[.int .i64 0, .int .i64 0, .int .i64 0]) (t := 37) ?hr ?_; (case hd => rfl); (case hg => rfl); (case hr => first | (go_simp; done) | (go_simp; rfl)); intro gb142 hg w39 hbox hb; have n0_ := Aside0.mk (bB (g := gb134) (o := .cells #[.int .i64 a0_0, .int .i64 a0_1, .int .i64 a0_2, .int .i64 a0_3, .int .i64 a0_4, .int .i64 a0_5, .int .i64 a0_6, .int .i64 a0_7, .slice (some ad136) l0_8.length c0_8] 24 (0, 0)) (by (with_reducible repeat (first | refine bN ?_ _ | refine bD ?_ | refine bA ?_ _)); exact BK134.out) hb); have n1_ := Aside0.mk (bB (g := gb137) (o := .cells #[.int .i64 ((rd_T35 l0_8 x5_1).f0), .int .i64 ((rd_T35 l0_8 x5_1).f1), .int .i64 ((rd_T35 l0_8 x5_1).f2), .slice (some ad141) ((rd_T35 l0_8 x5_1).f3).length c136_3] 35 (0, 0)) (by (with_reducible repeat (first | refine bN ?_ _ | refine bD ?_ | refine bA ?_ _)); exact BK137.out) hb); have n2_ := Aside0.mk (bT (by repeat (first | (with_reducible first | exact HB.out | apply bL | apply bP | apply bW | refine bS ?_ GE134.out | refine bS ?_ GE137.out) | exact HB.out)) hb); have n3_ := Aside0.mk (hbox); have n4_ := Aside0.mk ((by rw [hg]; exact (bZ (by repeat (first | (with_reducible first | exact HB.out | apply bL | apply bP | apply bW | refine bS ?_ GE134.out | refine bS ?_ GE137.out) | exact HB.out))) : w.heap.size ≤ gb142)); have n5_ := Aside0.mk ((by rw [hg]; exact (bZ (by repeat (first | (with_reducible first | exact HB.out | apply bL | apply bP | apply bW | refine bS ?_ GE134.out | refine bS ?_ GE137.out) | exact HB.out))) : w.heap.size ≤ gb142)); have n6_ := Aside0.mk ((by rw [hg]; exact Nat.ne_of_lt (bQ (g := gb134) (o := .cells #[.int .i64 a0_0, .int .i64 a0_1, .int .i64 a0_2, .int .i64 a0_3, .int .i64 a0_4, .int .i64 a0_5, .int .i64 a0_6, .int .i64 a0_7, .slice (some ad136) l0_8.length c0_8] 24 (0, 0)) (by (with_reducible repeat (first | refine bN ?_ _ | refine bD ?_ | refine bA ?_ _)); exact BK134.out)) : gb134 ≠ gb142)); have n7_ := Aside0.mk ((by rw [hg]; exact Nat.ne_of_gt (bQ (g := gb134) (o := .cells #[.int .i64 a0_0, .int .i64 a0_1, .int .i64 a0_2, .int .i64 a0_3, .int .i64 a0_4, .int .i64 a0_5, .int .i64 a0_6, .int .i64 a0_7, .slice (some ad136) l0_8.length c0_8] 24 (0, 0)) (by (with_reducible repeat (first | refine bN ?_ _ | refine bD ?_ | refine bA ?_ _)); exact BK134.out)) : gb142 ≠ gb134)); have n8_ := Aside0.mk ((by rw [hg]; exact Nat.ne_of_lt (bQ (g := gb137) (o := .cells #[.int .i64 ((rd_T35 l0_8 x5_1).f0), .int .i64 ((rd_T35 l0_8 x5_1).f1), .int .i64 ((rd_T35 l0_8 x5_1).f2), .slice (some ad141) ((rd_T35 l0_8 x5_1).f3).length c136_3] 35 (0, 0)) (by (with_reducible repeat (first | refine bN ?_ _ | refine bD ?_ | refine bA ?_ _)); exact BK137.out)) : gb137 ≠ gb142)); have n9_ := Aside0.mk ((by rw [hg]; exact Nat.ne_of_gt (bQ (g := gb137) (o := .cells #[.int .i64 ((rd_T35 l0_8 x5_1).f0), .int .i64 ((rd_T35 l0_8 x5_1).f1), .int .i64 ((rd_T35 l0_8 x5_1).f2), .slice (some ad141) ((rd_T35 l0_8 x5_1).f3).length c136_3] 35 (0, 0)) (by (with_reducible repeat (first | refine bN ?_ _ | refine bD ?_ | refine bA ?_ _)); exact BK137.out)) : gb142 ≠ gb137)); clear BK134; clear BK137; clear HB; have BK134 := n0_; have BK137 := n1_; have HB := n2_; have BK142 := n3_; have GW142 := n4_; have GE142 := n5_; have NB134_142 := n6_; have NB142_134 := n7_; have NB137_142 := n8_; have NB142_137 := n9_; clear n0_ n1_ n2_ n3_ n4_ n5_ n6_ n7_ n8_ n9_; clear hb hbox hg; have hnb40 := NB142_134.out; have hnc40 := NB134_142.out; have hnb41 := NB142_137.out; have hnc41 := NB137_142.out; have hcz42_0 : w39.cell? ⟨gb142, 0, none⟩ = some (.int .i64 0) := (bC BK142.out 0).trans rfl; have hcz42_1 : w39.cell? ⟨gb142, 1, none⟩ = some (.int .i64 0) := (bC BK142.out 1).trans rfl; have hcz42_2 : w39.cell? ⟨gb142, 2, none⟩ = some (.int .i64 0) := (bC BK142.out 2).trans rfl; have hfz42_0 := bF BK142.out 0; have hfz42_1 := bF BK142.out 1; have hfz42_2 := bF BK142.out 2; have hcz43_0 : w39.cell? ⟨gb137, 0, none⟩ = some (.int .i64 ((rd_T35 l0_8 x5_1).f0)) := (bC BK137.out 0).trans rfl; have hcz43_1 : w39.cell? ⟨gb137, 1, none⟩ = some (.int .i64 ((rd_T35 l0_8 x5_1).f1)) := (bC BK137.out 1).trans rfl; have hcz43_2 : w39.cell? ⟨gb137, 2, none⟩ = some (.int .i64 ((rd_T35 l0_8 x5_1).f2)) := (bC BK137.out 2).trans rfl; have hcz43_3 : w39.cell? ⟨gb137, 3, none⟩ = some (.slice (some ad141) ((rd_T35 l0_8 x5_1).f3).length c136_3) := (bC BK137.out 3).trans rfl; have hfz43_0 := bF BK137.out 0; have hfz43_1 := bF BK137.out 1; have hfz43_2 := bF BK137.out 2; have hfz43_3 := bF BK137.out 3) | ((with_reducible refine gate_callee (f := 15) rfl ?_); refine goesL_ (some 69) rfl rfl Try.func15 (by kernel_rfl) rfl #[.int .i64 ((rd_T37 ((rd_T35 l0_8 x5_1).f3) x8_3).f0), .int .i64 x7_3, .int .i64 ((rd_T35 l0_8 x5_1).f2)] rfl (by (try simp only [List.map_toArray, List.map_cons, List.map_nil]); first | done | rfl | (simp only [List.length_drop, List.length_take]; rfl)) ?_; (with_reducible refine (tourbillonref08_within.calls ((rd_T37 ((rd_T35 l0_8 x5_1).f3) x8_3).f0) x7_3 ((rd_T35 l0_8 x5_1).f2) true _ A31.out).mono ?_); rintro e w' ⟨rfl, ⟨nd, rfl⟩⟩; refine ⟨_, rfl, ?_⟩; have hcz44_0 : w39.cell? ⟨gb134, 0, none⟩ = some (.int .i64 a0_0) := (bC BK134.out 0).trans rfl; have hcz44_1 : w39.cell? ⟨gb134, 1, none⟩ = some (.int .i64 a0_1) := (bC BK134.out 1).trans rfl; have hcz44_2 : w39.cell? ⟨gb134, 2, none⟩ = some (.int .i64 a0_2) := (bC BK134.out 2).trans rfl; have hcz44_3 : w39.cell? ⟨gb134, 3, none⟩ = some (.int .i64 a0_3) := (bC BK134.out 3).trans rfl; have hcz44_4 : w39.cell? ⟨gb134, 4, none⟩ = some (.int .i64 a0_4) := (bC BK134.out 4).trans rfl; have hcz44_5 : w39.cell? ⟨gb134, 5, none⟩ = some (.int .i64 a0_5) := (bC BK134.out 5).trans rfl; have hcz44_6 : w39.cell? ⟨gb134, 6, none⟩ = some (.int .i64 a0_6) := (bC BK134.out 6).trans rfl; have hcz44_7 : w39.cell? ⟨gb134, 7, none⟩ = some (.int .i64 a0_7) := (bC BK134.out 7).trans rfl; have hcz44_8 : w39.cell? ⟨gb134, 8, none⟩ = some (.slice (some ad136) l0_8.length c0_8) := (bC BK134.out 8).trans rfl; have hfz44_0 := bF BK134.out 0; have hfz44_1 := bF BK134.out 1; have hfz44_2 := bF BK134.out 2; have hfz44_3 := bF BK134.out 3; have hfz44_4 := bF BK134.out 4; have hfz44_5 := bF BK134.out 5; have hfz44_6 := bF BK134.out 6; have hfz44_7 := bF BK134.out 7; have hfz44_8 := bF BK134.out 8) | (go_at_call 15; (with_reducible refine (tourbillonref08_within.calls ((rd_T37 ((rd_T35 l0_8 x5_1).f3) x8_3).f1) 0 (wrap64 (a0_7 - 1)) true _ A33.out).mono ?_); rintro e w' ⟨rfl, ⟨nd, rfl⟩⟩) | (go_at_call 15; (with_reducible refine (tourbillonref08_within.calls ((rd_T37 ((rd_T35 l0_8 x5_1).f3) x8_3).f2) 1 (wrap64 (((rd_T35 l0_8 x5_1).f2) - ((rd_T37 ((rd_T35 l0_8 x5_1).f3) x8_3).f0))) true _ A35.out).mono ?_); rintro e w' ⟨rfl, ⟨nd, rfl⟩⟩))
                go_roundg k3
                case measure => have := HK1.out; have := HJ8.out; have := HK3.out; omega
                case rel => exact ⟨(wrap64 (((rd_T37 ((rd_T35 l0_8 x5_1).f3) x8_3).f0) + ((rd_T37 ((rd_T35 l0_8 x5_1).f3) x8_3).f2))), (wrap64 (x8_3 + 1)), (by first | rfl | (simp; done) | (simp [*]; done) | (simp only [bne, Bool.not_not]; done)), (by first | rfl | (simp; done) | (simp [*]; done) | (simp only [bne, Bool.not_not]; done)), H', ⟨by have := HK1.out; have := HJ8.out; have := HK3.out; omega⟩, ⟨by (with_reducible repeat (first | refine bN ?_ _ | refine bD ?_ | refine bA ?_ _)); refine bR ?_ NB134_142.out _; (with_reducible repeat (first | refine bN ?_ _ | refine bD ?_ | refine bA ?_ _)); refine bR ?_ NB134_142.out _; (with_reducible repeat (first | refine bN ?_ _ | refine bD ?_ | refine bA ?_ _)); refine bR ?_ NB134_142.out _; (with_reducible repeat (first | refine bN ?_ _ | refine bD ?_ | refine bA ?_ _)); exact BK134.out⟩, ⟨by (with_reducible repeat (first | refine bN ?_ _ | refine bD ?_ | refine bA ?_ _)); refine bR ?_ NB137_142.out _; (with_reducible repeat (first | refine bN ?_ _ | refine bD ?_ | refine bA ?_ _)); refine bR ?_ NB137_142.out _; (with_reducible repeat (first | refine bN ?_ _ | refine bD ?_ | refine bA ?_ _)); refine bR ?_ NB137_142.out _; (with_reducible repeat (first | refine bN ?_ _ | refine bD ?_ | refine bA ?_ _)); exact BK137.out⟩, ⟨by repeat (first | (with_reducible first | exact HB.out | apply bL | apply bP | apply bW | refine bS ?_ GE134.out | refine bS ?_ GE137.out | refine bS ?_ GE142.out) | exact HB.out)⟩⟩
               ·replace c36 := Bool.eq_false_iff.mpr c36
                subst c36
                have H1 : (some (true, x5_1, x8_3)) = some (r1, r2, r3) := by rw [if_neg (show ¬ (false = true) by decide)] at H; exact H
                clear H
                have H := H1
                clear H1
                simp only [Option.some.injEq, Prod.mk.injEq] at H
                obtain ⟨rfl, rfl, rfl⟩ := H
                have hnb45 := NB137_134.out
                have hnc45 := NB134_137.out
                have hcz46_0 : wr.cell? ⟨gb137, 0, none⟩ = some (.int .i64 ((rd_T35 l0_8 x5_1).f0)) := (bC BK137.out 0).trans rfl
                have hcz46_1 : wr.cell? ⟨gb137, 1, none⟩ = some (.int .i64 ((rd_T35 l0_8 x5_1).f1)) := (bC BK137.out 1).trans rfl
                have hcz46_2 : wr.cell? ⟨gb137, 2, none⟩ = some (.int .i64 ((rd_T35 l0_8 x5_1).f2)) := (bC BK137.out 2).trans rfl
                have hcz46_3 : wr.cell? ⟨gb137, 3, none⟩ = some (.slice A136_3 ((rd_T35 l0_8 x5_1).f3).length c136_3) := (bC BK137.out 3).trans rfl
                have hfz46_0 := bF BK137.out 0
                have hfz46_1 := bF BK137.out 1
                have hfz46_2 := bF BK137.out 2
                have hfz46_3 := bF BK137.out 3
                have p141 : 0 ≤ (x8_3 : Int) := of_decide_eq_true (by first | (with_reducible assumption) | assumption)
                have q141 : x8_3 < (((rd_T35 l0_8 x5_1).f3).length : Int) := of_decide_eq_true (by first | (with_reducible assumption) | assumption)
                obtain ⟨ad141, e141, hx141_0, hx141_1, hx141_2⟩ := at_T37 HR136_3.out x8_3 p141 q141
                cases e141
                replace hx141_0 := (HB.out.cell (World.block_lt_of_cell? w _ hx141_0)).trans hx141_0
                replace hx141_1 := (HB.out.cell (World.block_lt_of_cell? w _ hx141_1)).trans hx141_1
                replace hx141_2 := (HB.out.cell (World.block_lt_of_cell? w _ hx141_2)).trans hx141_2
                replace p141 := eq_true p141
                replace q141 := eq_true q141
                go_wp2_with (first | ((with_reducible refine gate_dst (N := 9) rfl ?_); (try (refine gate_guard (by rfl) ?_; dsimp only)); refine bV ?hg (N := 9) ?hd (cs := #[.int .i64 0, .int .i64 0, .int .i64 0]) (t := 37) ?hr ?_; (case hd => rfl); (case hg => rfl); (case hr => first | (go_simp; done) | (go_simp; rfl)); intro gb142 hg w47 hbox hb; have n0_ := Aside0.mk (bB (g := gb134) (o := .cells #[.int .i64 a0_0, .int .i64 a0_1, .int .i64 a0_2, .int .i64 a0_3, .int .i64 a0_4, .int .i64 a0_5, .int .i64 a0_6, .int .i64 a0_7, .slice (some ad136) l0_8.length c0_8] 24 (0, 0)) (by (with_reducible repeat (first | refine bN ?_ _ | refine bD ?_ | refine bA ?_ _)); exact BK134.out) hb); have n1_ := Aside0.mk (bB (g := gb137) (o := .cells #[.int .i64 ((rd_T35 l0_8 x5_1).f0), .int .i64 ((rd_T35 l0_8 x5_1).f1), .int .i64 ((rd_T35 l0_8 x5_1).f2), .slice (some ad141) ((rd_T35 l0_8 x5_1).f3).length c136_3] 35 (0, 0)) (by (with_reducible repeat (first | refine bN ?_ _ | refine bD ?_ | refine bA ?_ _)); exact BK137.out) hb); have n2_ := Aside0.mk (bT (by repeat (first | (with_reducible first | exact HB.out | apply bL | apply bP | apply bW | refine bS ?_ GE134.out | refine bS ?_ GE137.out) | exact HB.out)) hb); have n3_ := Aside0.mk (hbox); have n4_ := Aside0.mk ((by rw [hg]; exact (bZ (by repeat (first | (with_reducible first | exact HB.out | apply bL | apply bP | apply bW | refine bS ?_ GE134.out | refine bS ?_ GE137.out) | exact HB.out))) : w.heap.size ≤ gb142)); have n5_ := Aside0.mk ((by rw [hg]; exact (bZ (by repeat (first | (with_reducible first | exact HB.out | apply bL | apply bP | apply bW | refine bS ?_ GE134.out | refine bS ?_ GE137.out) | exact HB.out))) : w.heap.size ≤ gb142)); have n6_ := Aside0.mk ((by rw [hg]; exact Nat.ne_of_lt (bQ (g := gb134) (o := .cells #[.int .i64 a0_0, .int .i64 a0_1, .int .i64 a0_2, .int .i64 a0_3, .int .i64 a0_4, .int .i64 a0_5, .int .i64 a0_6, .int .i64 a0_7, .slice (some ad136) l0_8.length c0_8] 24 (0, 0)) (by (with_reducible repeat (first | refine bN ?_ _ | refine bD ?_ | refine bA ?_ _)); exact BK134.out)) : gb134 ≠ gb142)); have n7_ := Aside0.mk ((by rw [hg]; exact Nat.ne_of_gt (bQ (g := gb134) (o := .cells #[.int .i64 a0_0, .int .i64 a0_1, .int .i64 a0_2, .int .i64 a0_3, .int .i64 a0_4, .int .i64 a0_5, .int .i64 a0_6, .int .i64 a0_7, .slice (some ad136) l0_8.length c0_8] 24 (0, 0)) (by (with_reducible repeat (first | refine bN ?_ _ | refine bD ?_ | refine bA ?_ _)); exact BK134.out)) : gb142 ≠ gb134)); have n8_ := Aside0.mk ((by rw [hg]; exact Nat.ne_of_lt (bQ (g := gb137) (o := .cells #[.int .i64 ((rd_T35 l0_8 x5_1).f0), .int .i64 ((rd_T35 l0_8 x5_1).f1), .int .i64 ((rd_T35 l0_8 x5_1).f2), .slice (some ad141) ((rd_T35 l0_8 x5_1).f3).length c136_3] 35 (0, 0)) (by (with_reducible repeat (first | refine bN ?_ _ | refine bD ?_ | refine bA ?_ _)); exact BK137.out)) : gb137 ≠ gb142)); have n9_ := Aside0.mk ((by rw [hg]; exact Nat.ne_of_gt (bQ (g := gb137) (o := .cells #[.int .i64 ((rd_T35 l0_8 x5_1).f0), .int .i64 ((rd_T35 l0_8 x5_1).f1), .int .i64 ((rd_T35 l0_8 x5_1).f2), .slice (some ad141) ((rd_T35 l0_8 x5_1).f3).length c136_3] 35 (0, 0)) (by (with_reducible repeat (first | refine bN ?_ _ | refine bD ?_ | refine bA ?_ _)); exact BK137.out)) : gb142 ≠ gb137)); clear BK134; clear BK137; clear HB; have BK134 := n0_; have BK137 := n1_; have HB := n2_; have BK142 := n3_; have GW142 := n4_; have GE142 := n5_; have NB134_142 := n6_; have NB142_134 := n7_; have NB137_142 := n8_; have NB142_137 := n9_; clear n0_ n1_ n2_ n3_ n4_ n5_ n6_ n7_ n8_ n9_; clear hb hbox hg; have hnb48 := NB142_134.out; have hnc48 := NB134_142.out; have hnb49 := NB142_137.out; have hnc49 := NB137_142.out; have hcz50_0 : w47.cell? ⟨gb142, 0, none⟩ = some (.int .i64 0) := (bC BK142.out 0).trans rfl; have hcz50_1 : w47.cell? ⟨gb142, 1, none⟩ = some (.int .i64 0) := (bC BK142.out 1).trans rfl; have hcz50_2 : w47.cell? ⟨gb142, 2, none⟩ = some (.int .i64 0) := (bC BK142.out 2).trans rfl; have hfz50_0 := bF BK142.out 0; have hfz50_1 := bF BK142.out 1; have hfz50_2 := bF BK142.out 2; have hcz51_0 : w47.cell? ⟨gb137, 0, none⟩ = some (.int .i64 ((rd_T35 l0_8 x5_1).f0)) := (bC BK137.out 0).trans rfl; have hcz51_1 : w47.cell? ⟨gb137, 1, none⟩ = some (.int .i64 ((rd_T35 l0_8 x5_1).f1)) := (bC BK137.out 1).trans rfl; have hcz51_2 : w47.cell? ⟨gb137, 2, none⟩ = some (.int .i64 ((rd_T35 l0_8 x5_1).f2)) := (bC BK137.out 2).trans rfl; have hcz51_3 : w47.cell? ⟨gb137, 3, none⟩ = some (.slice (some ad141) ((rd_T35 l0_8 x5_1).f3).length c136_3) := (bC BK137.out 3).trans rfl; have hfz51_0 := bF BK137.out 0; have hfz51_1 := bF BK137.out 1; have hfz51_2 := bF BK137.out 2; have hfz51_3 := bF BK137.out 3) | ((with_reducible refine gate_callee (f := 15) rfl ?_); refine goesL_ (some 69) rfl rfl Try.func15 (by kernel_rfl) rfl #[.int .i64 ((rd_T37 ((rd_T35 l0_8 x5_1).f3) x8_3).f0), .int .i64 x7_3, .int .i64 ((rd_T35 l0_8 x5_1).f2)] rfl (by (try simp only [List.map_toArray, List.map_cons, List.map_nil]); first | done | rfl | (simp only [List.length_drop, List.length_take]; rfl)) ?_; (with_reducible refine (tourbillonref08_within.calls ((rd_T37 ((rd_T35 l0_8 x5_1).f3) x8_3).f0) x7_3 ((rd_T35 l0_8 x5_1).f2) true _ A31.out).mono ?_); rintro e w' ⟨rfl, ⟨nd, rfl⟩⟩; refine ⟨_, rfl, ?_⟩; have hcz52_0 : w47.cell? ⟨gb134, 0, none⟩ = some (.int .i64 a0_0) := (bC BK134.out 0).trans rfl; have hcz52_1 : w47.cell? ⟨gb134, 1, none⟩ = some (.int .i64 a0_1) := (bC BK134.out 1).trans rfl; have hcz52_2 : w47.cell? ⟨gb134, 2, none⟩ = some (.int .i64 a0_2) := (bC BK134.out 2).trans rfl; have hcz52_3 : w47.cell? ⟨gb134, 3, none⟩ = some (.int .i64 a0_3) := (bC BK134.out 3).trans rfl; have hcz52_4 : w47.cell? ⟨gb134, 4, none⟩ = some (.int .i64 a0_4) := (bC BK134.out 4).trans rfl; have hcz52_5 : w47.cell? ⟨gb134, 5, none⟩ = some (.int .i64 a0_5) := (bC BK134.out 5).trans rfl; have hcz52_6 : w47.cell? ⟨gb134, 6, none⟩ = some (.int .i64 a0_6) := (bC BK134.out 6).trans rfl; have hcz52_7 : w47.cell? ⟨gb134, 7, none⟩ = some (.int .i64 a0_7) := (bC BK134.out 7).trans rfl; have hcz52_8 : w47.cell? ⟨gb134, 8, none⟩ = some (.slice (some ad136) l0_8.length c0_8) := (bC BK134.out 8).trans rfl; have hfz52_0 := bF BK134.out 0; have hfz52_1 := bF BK134.out 1; have hfz52_2 := bF BK134.out 2; have hfz52_3 := bF BK134.out 3; have hfz52_4 := bF BK134.out 4; have hfz52_5 := bF BK134.out 5; have hfz52_6 := bF BK134.out 6; have hfz52_7 := bF BK134.out 7; have hfz52_8 := bF BK134.out 8) | (go_at_call 15; (with_reducible refine (tourbillonref08_within.calls ((rd_T37 ((rd_T35 l0_8 x5_1).f3) x8_3).f1) 0 (wrap64 (a0_7 - 1)) true _ A33.out).mono ?_); rintro e w' ⟨rfl, ⟨nd, rfl⟩⟩) | (go_at_call 15; (with_reducible refine (tourbillonref08_within.calls ((rd_T37 ((rd_T35 l0_8 x5_1).f3) x8_3).f2) 1 (wrap64 (((rd_T35 l0_8 x5_1).f2) - ((rd_T37 ((rd_T35 l0_8 x5_1).f3) x8_3).f0))) false _ A35.out).mono ?_); rintro e w' ⟨rfl, ⟨nd, rfl⟩⟩))
                go_ret3
                exact ⟨by first | rfl | (simp [errW_none, errW_some] <;> rfl) | (simp [*, errW_none, errW_some] <;> rfl), by repeat (first | (with_reducible first | exact HB.out | apply bL | apply bP | apply bW | refine bS ?_ GE134.out | refine bS ?_ GE137.out | refine bS ?_ GE142.out) | exact HB.out)⟩
              ·replace c34 := Bool.eq_false_iff.mpr c34
               subst c34
               have H1 : (some (true, x5_1, x8_3)) = some (r1, r2, r3) := by rw [if_neg (show ¬ (false = true) by decide)] at H; exact H
               clear H
               have H := H1
               clear H1
               simp only [Option.some.injEq, Prod.mk.injEq] at H
               obtain ⟨rfl, rfl, rfl⟩ := H
               have hnb53 := NB137_134.out
               have hnc53 := NB134_137.out
               have hcz54_0 : wr.cell? ⟨gb137, 0, none⟩ = some (.int .i64 ((rd_T35 l0_8 x5_1).f0)) := (bC BK137.out 0).trans rfl
               have hcz54_1 : wr.cell? ⟨gb137, 1, none⟩ = some (.int .i64 ((rd_T35 l0_8 x5_1).f1)) := (bC BK137.out 1).trans rfl
               have hcz54_2 : wr.cell? ⟨gb137, 2, none⟩ = some (.int .i64 ((rd_T35 l0_8 x5_1).f2)) := (bC BK137.out 2).trans rfl
               have hcz54_3 : wr.cell? ⟨gb137, 3, none⟩ = some (.slice A136_3 ((rd_T35 l0_8 x5_1).f3).length c136_3) := (bC BK137.out 3).trans rfl
               have hfz54_0 := bF BK137.out 0
               have hfz54_1 := bF BK137.out 1
               have hfz54_2 := bF BK137.out 2
               have hfz54_3 := bF BK137.out 3
               have p141 : 0 ≤ (x8_3 : Int) := of_decide_eq_true (by first | (with_reducible assumption) | assumption)
               have q141 : x8_3 < (((rd_T35 l0_8 x5_1).f3).length : Int) := of_decide_eq_true (by first | (with_reducible assumption) | assumption)
               obtain ⟨ad141, e141, hx141_0, hx141_1, hx141_2⟩ := at_T37 HR136_3.out x8_3 p141 q141
               cases e141
               replace hx141_0 := (HB.out.cell (World.block_lt_of_cell? w _ hx141_0)).trans hx141_0
               replace hx141_1 := (HB.out.cell (World.block_lt_of_cell? w _ hx141_1)).trans hx141_1
               replace hx141_2 := (HB.out.cell (World.block_lt_of_cell? w _ hx141_2)).trans hx141_2
               replace p141 := eq_true p141
               replace q141 := eq_true q141
               go_wp2_with (first | ((with_reducible refine gate_dst (N := 9) rfl ?_); (try (refine gate_guard (by rfl) ?_; dsimp only)); refine bV ?hg (N := 9) ?hd (cs := #[.int .i64 0, .int .i64 0, .int .i64 0]) (t := 37) ?hr ?_; (case hd => rfl); (case hg => rfl); (case hr => first | (go_simp; done) | (go_simp; rfl)); intro gb142 hg w55 hbox hb; have n0_ := Aside0.mk (bB (g := gb134) (o := .cells #[.int .i64 a0_0, .int .i64 a0_1, .int .i64 a0_2, .int .i64 a0_3, .int .i64 a0_4, .int .i64 a0_5, .int .i64 a0_6, .int .i64 a0_7, .slice (some ad136) l0_8.length c0_8] 24 (0, 0)) (by (with_reducible repeat (first | refine bN ?_ _ | refine bD ?_ | refine bA ?_ _)); exact BK134.out) hb); have n1_ := Aside0.mk (bB (g := gb137) (o := .cells #[.int .i64 ((rd_T35 l0_8 x5_1).f0), .int .i64 ((rd_T35 l0_8 x5_1).f1), .int .i64 ((rd_T35 l0_8 x5_1).f2), .slice (some ad141) ((rd_T35 l0_8 x5_1).f3).length c136_3] 35 (0, 0)) (by (with_reducible repeat (first | refine bN ?_ _ | refine bD ?_ | refine bA ?_ _)); exact BK137.out) hb); have n2_ := Aside0.mk (bT (by repeat (first | (with_reducible first | exact HB.out | apply bL | apply bP | apply bW | refine bS ?_ GE134.out | refine bS ?_ GE137.out) | exact HB.out)) hb); have n3_ := Aside0.mk (hbox); have n4_ := Aside0.mk ((by rw [hg]; exact (bZ (by repeat (first | (with_reducible first | exact HB.out | apply bL | apply bP | apply bW | refine bS ?_ GE134.out | refine bS ?_ GE137.out) | exact HB.out))) : w.heap.size ≤ gb142)); have n5_ := Aside0.mk ((by rw [hg]; exact (bZ (by repeat (first | (with_reducible first | exact HB.out | apply bL | apply bP | apply bW | refine bS ?_ GE134.out | refine bS ?_ GE137.out) | exact HB.out))) : w.heap.size ≤ gb142)); have n6_ := Aside0.mk ((by rw [hg]; exact Nat.ne_of_lt (bQ (g := gb134) (o := .cells #[.int .i64 a0_0, .int .i64 a0_1, .int .i64 a0_2, .int .i64 a0_3, .int .i64 a0_4, .int .i64 a0_5, .int .i64 a0_6, .int .i64 a0_7, .slice (some ad136) l0_8.length c0_8] 24 (0, 0)) (by (with_reducible repeat (first | refine bN ?_ _ | refine bD ?_ | refine bA ?_ _)); exact BK134.out)) : gb134 ≠ gb142)); have n7_ := Aside0.mk ((by rw [hg]; exact Nat.ne_of_gt (bQ (g := gb134) (o := .cells #[.int .i64 a0_0, .int .i64 a0_1, .int .i64 a0_2, .int .i64 a0_3, .int .i64 a0_4, .int .i64 a0_5, .int .i64 a0_6, .int .i64 a0_7, .slice (some ad136) l0_8.length c0_8] 24 (0, 0)) (by (with_reducible repeat (first | refine bN ?_ _ | refine bD ?_ | refine bA ?_ _)); exact BK134.out)) : gb142 ≠ gb134)); have n8_ := Aside0.mk ((by rw [hg]; exact Nat.ne_of_lt (bQ (g := gb137) (o := .cells #[.int .i64 ((rd_T35 l0_8 x5_1).f0), .int .i64 ((rd_T35 l0_8 x5_1).f1), .int .i64 ((rd_T35 l0_8 x5_1).f2), .slice (some ad141) ((rd_T35 l0_8 x5_1).f3).length c136_3] 35 (0, 0)) (by (with_reducible repeat (first | refine bN ?_ _ | refine bD ?_ | refine bA ?_ _)); exact BK137.out)) : gb137 ≠ gb142)); have n9_ := Aside0.mk ((by rw [hg]; exact Nat.ne_of_gt (bQ (g := gb137) (o := .cells #[.int .i64 ((rd_T35 l0_8 x5_1).f0), .int .i64 ((rd_T35 l0_8 x5_1).f1), .int .i64 ((rd_T35 l0_8 x5_1).f2), .slice (some ad141) ((rd_T35 l0_8 x5_1).f3).length c136_3] 35 (0, 0)) (by (with_reducible repeat (first | refine bN ?_ _ | refine bD ?_ | refine bA ?_ _)); exact BK137.out)) : gb142 ≠ gb137)); clear BK134; clear BK137; clear HB; have BK134 := n0_; have BK137 := n1_; have HB := n2_; have BK142 := n3_; have GW142 := n4_; have GE142 := n5_; have NB134_142 := n6_; have NB142_134 := n7_; have NB137_142 := n8_; have NB142_137 := n9_; clear n0_ n1_ n2_ n3_ n4_ n5_ n6_ n7_ n8_ n9_; clear hb hbox hg; have hnb56 := NB142_134.out; have hnc56 := NB134_142.out; have hnb57 := NB142_137.out; have hnc57 := NB137_142.out; have hcz58_0 : w55.cell? ⟨gb142, 0, none⟩ = some (.int .i64 0) := (bC BK142.out 0).trans rfl; have hcz58_1 : w55.cell? ⟨gb142, 1, none⟩ = some (.int .i64 0) := (bC BK142.out 1).trans rfl; have hcz58_2 : w55.cell? ⟨gb142, 2, none⟩ = some (.int .i64 0) := (bC BK142.out 2).trans rfl; have hfz58_0 := bF BK142.out 0; have hfz58_1 := bF BK142.out 1; have hfz58_2 := bF BK142.out 2; have hcz59_0 : w55.cell? ⟨gb137, 0, none⟩ = some (.int .i64 ((rd_T35 l0_8 x5_1).f0)) := (bC BK137.out 0).trans rfl; have hcz59_1 : w55.cell? ⟨gb137, 1, none⟩ = some (.int .i64 ((rd_T35 l0_8 x5_1).f1)) := (bC BK137.out 1).trans rfl; have hcz59_2 : w55.cell? ⟨gb137, 2, none⟩ = some (.int .i64 ((rd_T35 l0_8 x5_1).f2)) := (bC BK137.out 2).trans rfl; have hcz59_3 : w55.cell? ⟨gb137, 3, none⟩ = some (.slice (some ad141) ((rd_T35 l0_8 x5_1).f3).length c136_3) := (bC BK137.out 3).trans rfl; have hfz59_0 := bF BK137.out 0; have hfz59_1 := bF BK137.out 1; have hfz59_2 := bF BK137.out 2; have hfz59_3 := bF BK137.out 3) | ((with_reducible refine gate_callee (f := 15) rfl ?_); refine goesL_ (some 69) rfl rfl Try.func15 (by kernel_rfl) rfl #[.int .i64 ((rd_T37 ((rd_T35 l0_8 x5_1).f3) x8_3).f0), .int .i64 x7_3, .int .i64 ((rd_T35 l0_8 x5_1).f2)] rfl (by (try simp only [List.map_toArray, List.map_cons, List.map_nil]); first | done | rfl | (simp only [List.length_drop, List.length_take]; rfl)) ?_; (with_reducible refine (tourbillonref08_within.calls ((rd_T37 ((rd_T35 l0_8 x5_1).f3) x8_3).f0) x7_3 ((rd_T35 l0_8 x5_1).f2) true _ A31.out).mono ?_); rintro e w' ⟨rfl, ⟨nd, rfl⟩⟩; refine ⟨_, rfl, ?_⟩; have hcz60_0 : w55.cell? ⟨gb134, 0, none⟩ = some (.int .i64 a0_0) := (bC BK134.out 0).trans rfl; have hcz60_1 : w55.cell? ⟨gb134, 1, none⟩ = some (.int .i64 a0_1) := (bC BK134.out 1).trans rfl; have hcz60_2 : w55.cell? ⟨gb134, 2, none⟩ = some (.int .i64 a0_2) := (bC BK134.out 2).trans rfl; have hcz60_3 : w55.cell? ⟨gb134, 3, none⟩ = some (.int .i64 a0_3) := (bC BK134.out 3).trans rfl; have hcz60_4 : w55.cell? ⟨gb134, 4, none⟩ = some (.int .i64 a0_4) := (bC BK134.out 4).trans rfl; have hcz60_5 : w55.cell? ⟨gb134, 5, none⟩ = some (.int .i64 a0_5) := (bC BK134.out 5).trans rfl; have hcz60_6 : w55.cell? ⟨gb134, 6, none⟩ = some (.int .i64 a0_6) := (bC BK134.out 6).trans rfl; have hcz60_7 : w55.cell? ⟨gb134, 7, none⟩ = some (.int .i64 a0_7) := (bC BK134.out 7).trans rfl; have hcz60_8 : w55.cell? ⟨gb134, 8, none⟩ = some (.slice (some ad136) l0_8.length c0_8) := (bC BK134.out 8).trans rfl; have hfz60_0 := bF BK134.out 0; have hfz60_1 := bF BK134.out 1; have hfz60_2 := bF BK134.out 2; have hfz60_3 := bF BK134.out 3; have hfz60_4 := bF BK134.out 4; have hfz60_5 := bF BK134.out 5; have hfz60_6 := bF BK134.out 6; have hfz60_7 := bF BK134.out 7; have hfz60_8 := bF BK134.out 8) | (go_at_call 15; (with_reducible refine (tourbillonref08_within.calls ((rd_T37 ((rd_T35 l0_8 x5_1).f3) x8_3).f1) 0 (wrap64 (a0_7 - 1)) false _ A33.out).mono ?_); rintro e w' ⟨rfl, ⟨nd, rfl⟩⟩))
               go_ret3
               exact ⟨by first | rfl | (simp [errW_none, errW_some] <;> rfl) | (simp [*, errW_none, errW_some] <;> rfl), by repeat (first | (with_reducible first | exact HB.out | apply bL | apply bP | apply bW | refine bS ?_ GE134.out | refine bS ?_ GE137.out | refine bS ?_ GE142.out) | exact HB.out)⟩
             ·replace c32 := Bool.eq_false_iff.mpr c32
              subst c32
              have H1 : (some (true, x5_1, x8_3)) = some (r1, r2, r3) := by rw [if_neg (show ¬ (false = true) by decide)] at H; exact H
              clear H
              have H := H1
              clear H1
              simp only [Option.some.injEq, Prod.mk.injEq] at H
              obtain ⟨rfl, rfl, rfl⟩ := H
              have hnb61 := NB137_134.out
              have hnc61 := NB134_137.out
              have hcz62_0 : wr.cell? ⟨gb137, 0, none⟩ = some (.int .i64 ((rd_T35 l0_8 x5_1).f0)) := (bC BK137.out 0).trans rfl
              have hcz62_1 : wr.cell? ⟨gb137, 1, none⟩ = some (.int .i64 ((rd_T35 l0_8 x5_1).f1)) := (bC BK137.out 1).trans rfl
              have hcz62_2 : wr.cell? ⟨gb137, 2, none⟩ = some (.int .i64 ((rd_T35 l0_8 x5_1).f2)) := (bC BK137.out 2).trans rfl
              have hcz62_3 : wr.cell? ⟨gb137, 3, none⟩ = some (.slice A136_3 ((rd_T35 l0_8 x5_1).f3).length c136_3) := (bC BK137.out 3).trans rfl
              have hfz62_0 := bF BK137.out 0
              have hfz62_1 := bF BK137.out 1
              have hfz62_2 := bF BK137.out 2
              have hfz62_3 := bF BK137.out 3
              have p141 : 0 ≤ (x8_3 : Int) := of_decide_eq_true (by first | (with_reducible assumption) | assumption)
              have q141 : x8_3 < (((rd_T35 l0_8 x5_1).f3).length : Int) := of_decide_eq_true (by first | (with_reducible assumption) | assumption)
              obtain ⟨ad141, e141, hx141_0, hx141_1, hx141_2⟩ := at_T37 HR136_3.out x8_3 p141 q141
              cases e141
              replace hx141_0 := (HB.out.cell (World.block_lt_of_cell? w _ hx141_0)).trans hx141_0
              replace hx141_1 := (HB.out.cell (World.block_lt_of_cell? w _ hx141_1)).trans hx141_1
              replace hx141_2 := (HB.out.cell (World.block_lt_of_cell? w _ hx141_2)).trans hx141_2
              replace p141 := eq_true p141
              replace q141 := eq_true q141
              go_wp2_with (first | ((with_reducible refine gate_dst (N := 9) rfl ?_); (try (refine gate_guard (by rfl) ?_; dsimp only)); refine bV ?hg (N := 9) ?hd (cs := #[.int .i64 0, .int .i64 0, .int .i64 0]) (t := 37) ?hr ?_; (case hd => rfl); (case hg => rfl); (case hr => first | (go_simp; done) | (go_simp; rfl)); intro gb142 hg w63 hbox hb; have n0_ := Aside0.mk (bB (g := gb134) (o := .cells #[.int .i64 a0_0, .int .i64 a0_1, .int .i64 a0_2, .int .i64 a0_3, .int .i64 a0_4, .int .i64 a0_5, .int .i64 a0_6, .int .i64 a0_7, .slice (some ad136) l0_8.length c0_8] 24 (0, 0)) (by (with_reducible repeat (first | refine bN ?_ _ | refine bD ?_ | refine bA ?_ _)); exact BK134.out) hb); have n1_ := Aside0.mk (bB (g := gb137) (o := .cells #[.int .i64 ((rd_T35 l0_8 x5_1).f0), .int .i64 ((rd_T35 l0_8 x5_1).f1), .int .i64 ((rd_T35 l0_8 x5_1).f2), .slice (some ad141) ((rd_T35 l0_8 x5_1).f3).length c136_3] 35 (0, 0)) (by (with_reducible repeat (first | refine bN ?_ _ | refine bD ?_ | refine bA ?_ _)); exact BK137.out) hb); have n2_ := Aside0.mk (bT (by repeat (first | (with_reducible first | exact HB.out | apply bL | apply bP | apply bW | refine bS ?_ GE134.out | refine bS ?_ GE137.out) | exact HB.out)) hb); have n3_ := Aside0.mk (hbox); have n4_ := Aside0.mk ((by rw [hg]; exact (bZ (by repeat (first | (with_reducible first | exact HB.out | apply bL | apply bP | apply bW | refine bS ?_ GE134.out | refine bS ?_ GE137.out) | exact HB.out))) : w.heap.size ≤ gb142)); have n5_ := Aside0.mk ((by rw [hg]; exact (bZ (by repeat (first | (with_reducible first | exact HB.out | apply bL | apply bP | apply bW | refine bS ?_ GE134.out | refine bS ?_ GE137.out) | exact HB.out))) : w.heap.size ≤ gb142)); have n6_ := Aside0.mk ((by rw [hg]; exact Nat.ne_of_lt (bQ (g := gb134) (o := .cells #[.int .i64 a0_0, .int .i64 a0_1, .int .i64 a0_2, .int .i64 a0_3, .int .i64 a0_4, .int .i64 a0_5, .int .i64 a0_6, .int .i64 a0_7, .slice (some ad136) l0_8.length c0_8] 24 (0, 0)) (by (with_reducible repeat (first | refine bN ?_ _ | refine bD ?_ | refine bA ?_ _)); exact BK134.out)) : gb134 ≠ gb142)); have n7_ := Aside0.mk ((by rw [hg]; exact Nat.ne_of_gt (bQ (g := gb134) (o := .cells #[.int .i64 a0_0, .int .i64 a0_1, .int .i64 a0_2, .int .i64 a0_3, .int .i64 a0_4, .int .i64 a0_5, .int .i64 a0_6, .int .i64 a0_7, .slice (some ad136) l0_8.length c0_8] 24 (0, 0)) (by (with_reducible repeat (first | refine bN ?_ _ | refine bD ?_ | refine bA ?_ _)); exact BK134.out)) : gb142 ≠ gb134)); have n8_ := Aside0.mk ((by rw [hg]; exact Nat.ne_of_lt (bQ (g := gb137) (o := .cells #[.int .i64 ((rd_T35 l0_8 x5_1).f0), .int .i64 ((rd_T35 l0_8 x5_1).f1), .int .i64 ((rd_T35 l0_8 x5_1).f2), .slice (some ad141) ((rd_T35 l0_8 x5_1).f3).length c136_3] 35 (0, 0)) (by (with_reducible repeat (first | refine bN ?_ _ | refine bD ?_ | refine bA ?_ _)); exact BK137.out)) : gb137 ≠ gb142)); have n9_ := Aside0.mk ((by rw [hg]; exact Nat.ne_of_gt (bQ (g := gb137) (o := .cells #[.int .i64 ((rd_T35 l0_8 x5_1).f0), .int .i64 ((rd_T35 l0_8 x5_1).f1), .int .i64 ((rd_T35 l0_8 x5_1).f2), .slice (some ad141) ((rd_T35 l0_8 x5_1).f3).length c136_3] 35 (0, 0)) (by (with_reducible repeat (first | refine bN ?_ _ | refine bD ?_ | refine bA ?_ _)); exact BK137.out)) : gb142 ≠ gb137)); clear BK134; clear BK137; clear HB; have BK134 := n0_; have BK137 := n1_; have HB := n2_; have BK142 := n3_; have GW142 := n4_; have GE142 := n5_; have NB134_142 := n6_; have NB142_134 := n7_; have NB137_142 := n8_; have NB142_137 := n9_; clear n0_ n1_ n2_ n3_ n4_ n5_ n6_ n7_ n8_ n9_; clear hb hbox hg; have hnb64 := NB142_134.out; have hnc64 := NB134_142.out; have hnb65 := NB142_137.out; have hnc65 := NB137_142.out; have hcz66_0 : w63.cell? ⟨gb142, 0, none⟩ = some (.int .i64 0) := (bC BK142.out 0).trans rfl; have hcz66_1 : w63.cell? ⟨gb142, 1, none⟩ = some (.int .i64 0) := (bC BK142.out 1).trans rfl; have hcz66_2 : w63.cell? ⟨gb142, 2, none⟩ = some (.int .i64 0) := (bC BK142.out 2).trans rfl; have hfz66_0 := bF BK142.out 0; have hfz66_1 := bF BK142.out 1; have hfz66_2 := bF BK142.out 2; have hcz67_0 : w63.cell? ⟨gb137, 0, none⟩ = some (.int .i64 ((rd_T35 l0_8 x5_1).f0)) := (bC BK137.out 0).trans rfl; have hcz67_1 : w63.cell? ⟨gb137, 1, none⟩ = some (.int .i64 ((rd_T35 l0_8 x5_1).f1)) := (bC BK137.out 1).trans rfl; have hcz67_2 : w63.cell? ⟨gb137, 2, none⟩ = some (.int .i64 ((rd_T35 l0_8 x5_1).f2)) := (bC BK137.out 2).trans rfl; have hcz67_3 : w63.cell? ⟨gb137, 3, none⟩ = some (.slice (some ad141) ((rd_T35 l0_8 x5_1).f3).length c136_3) := (bC BK137.out 3).trans rfl; have hfz67_0 := bF BK137.out 0; have hfz67_1 := bF BK137.out 1; have hfz67_2 := bF BK137.out 2; have hfz67_3 := bF BK137.out 3) | ((with_reducible refine gate_callee (f := 15) rfl ?_); refine goesL_ (some 69) rfl rfl Try.func15 (by kernel_rfl) rfl #[.int .i64 ((rd_T37 ((rd_T35 l0_8 x5_1).f3) x8_3).f0), .int .i64 x7_3, .int .i64 ((rd_T35 l0_8 x5_1).f2)] rfl (by (try simp only [List.map_toArray, List.map_cons, List.map_nil]); first | done | rfl | (simp only [List.length_drop, List.length_take]; rfl)) ?_; (with_reducible refine (tourbillonref08_within.calls ((rd_T37 ((rd_T35 l0_8 x5_1).f3) x8_3).f0) x7_3 ((rd_T35 l0_8 x5_1).f2) false _ A31.out).mono ?_); rintro e w' ⟨rfl, ⟨nd, rfl⟩⟩; refine ⟨_, rfl, ?_⟩))
              go_ret3
              exact ⟨by first | rfl | (simp [errW_none, errW_some] <;> rfl) | (simp [*, errW_none, errW_some] <;> rfl), by repeat (first | (with_reducible first | exact HB.out | apply bL | apply bP | apply bW | refine bS ?_ GE134.out | refine bS ?_ GE137.out | refine bS ?_ GE142.out) | exact HB.out)⟩
            ·rw [if_neg c30] at H
             exact absurd H (by simp)
           ·rw [if_neg c29] at H
            have c29b0 : decide (x8_3 < (((rd_T35 l0_8 x5_1).f3).length : Int)) = false := decide_eq_false c29
            clear c29
            have H' := Aside0.mk H
            clear H
            have hnb68 := NB137_134.out
            have hnc68 := NB134_137.out
            have hcz69_0 : wr.cell? ⟨gb137, 0, none⟩ = some (.int .i64 ((rd_T35 l0_8 x5_1).f0)) := (bC BK137.out 0).trans rfl
            have hcz69_1 : wr.cell? ⟨gb137, 1, none⟩ = some (.int .i64 ((rd_T35 l0_8 x5_1).f1)) := (bC BK137.out 1).trans rfl
            have hcz69_2 : wr.cell? ⟨gb137, 2, none⟩ = some (.int .i64 ((rd_T35 l0_8 x5_1).f2)) := (bC BK137.out 2).trans rfl
            have hcz69_3 : wr.cell? ⟨gb137, 3, none⟩ = some (.slice A136_3 ((rd_T35 l0_8 x5_1).f3).length c136_3) := (bC BK137.out 3).trans rfl
            have hfz69_0 := bF BK137.out 0
            have hfz69_1 := bF BK137.out 1
            have hfz69_2 := bF BK137.out 2
            have hfz69_3 := bF BK137.out 3
            go_wp2
            go_roundg k3
            case measure => have := HK1.out; have := HJ8.out; have := HK3.out; omega
            case rel => exact ⟨(wrap64 (x5_1 + 1)), (by first | rfl | (simp; done) | (simp [*]; done) | (simp only [bne, Bool.not_not]; done)), H', ⟨by have := HK1.out; have := HJ8.out; have := HK3.out; omega⟩, ⟨by (with_reducible repeat (first | refine bN ?_ _ | refine bD ?_ | refine bA ?_ _)); exact BK134.out⟩, ⟨by repeat (first | (with_reducible first | exact HB.out | apply bL | apply bP | apply bW | refine bS ?_ GE134.out | refine bS ?_ GE137.out) | exact HB.out)⟩⟩
     ·rw [if_neg c8] at H
      exact absurd H (by simp)
    ·rw [if_neg c7] at H
     have c7b0 : decide (x5_1 < (l0_8.length : Int)) = false := decide_eq_false c7
     clear c7
     simp only [Option.some.injEq, Prod.mk.injEq] at H
     obtain ⟨rfl, rfl, rfl⟩ := H
     have hcz70_0 : wr.cell? ⟨gb134, 0, none⟩ = some (.int .i64 a0_0) := (bC BK134.out 0).trans rfl
     have hcz70_1 : wr.cell? ⟨gb134, 1, none⟩ = some (.int .i64 a0_1) := (bC BK134.out 1).trans rfl
     have hcz70_2 : wr.cell? ⟨gb134, 2, none⟩ = some (.int .i64 a0_2) := (bC BK134.out 2).trans rfl
     have hcz70_3 : wr.cell? ⟨gb134, 3, none⟩ = some (.int .i64 a0_3) := (bC BK134.out 3).trans rfl
     have hcz70_4 : wr.cell? ⟨gb134, 4, none⟩ = some (.int .i64 a0_4) := (bC BK134.out 4).trans rfl
     have hcz70_5 : wr.cell? ⟨gb134, 5, none⟩ = some (.int .i64 a0_5) := (bC BK134.out 5).trans rfl
     have hcz70_6 : wr.cell? ⟨gb134, 6, none⟩ = some (.int .i64 a0_6) := (bC BK134.out 6).trans rfl
     have hcz70_7 : wr.cell? ⟨gb134, 7, none⟩ = some (.int .i64 a0_7) := (bC BK134.out 7).trans rfl
     have hcz70_8 : wr.cell? ⟨gb134, 8, none⟩ = some (.slice A0_8 l0_8.length c0_8) := (bC BK134.out 8).trans rfl
     have hfz70_0 := bF BK134.out 0
     have hfz70_1 := bF BK134.out 1
     have hfz70_2 := bF BK134.out 2
     have hfz70_3 := bF BK134.out 3
     have hfz70_4 := bF BK134.out 4
     have hfz70_5 := bF BK134.out 5
     have hfz70_6 := bF BK134.out 6
     have hfz70_7 := bF BK134.out 7
     have hfz70_8 := bF BK134.out 8
     go_wp2
     go_ret3
     exact ⟨by first | rfl | (simp [errW_none, errW_some] <;> rfl) | (simp [*, errW_none, errW_some] <;> rfl), by repeat (first | (with_reducible first | exact HB.out | apply bL | apply bP | apply bW | refine bS ?_ GE134.out) | exact HB.out)⟩
 ·replace c3 := Bool.eq_false_iff.mpr c3
  subst c3
  have H1 : (some (true, (-1), (-1))) = some (r1, r2, r3) := by rw [if_neg (show ¬ (false = true) by decide)] at H; exact H
  clear H
  have H := H1
  clear H1
  simp only [Option.some.injEq, Prod.mk.injEq] at H
  obtain ⟨rfl, rfl, rfl⟩ := H
  go_enter Try.func9, Try.ntmps9
  go_wp2_with (first | ((with_reducible refine gate_dst (N := 1) rfl ?_); (try (refine gate_guard (by rfl) ?_; dsimp only)); refine bV ?hg (N := 1) ?hd (cs := #[.int .i64 a0_0, .int .i64 a0_1, .int .i64 a0_2, .int .i64 a0_3, .int .i64 a0_4, .int .i64 a0_5, .int .i64 a0_6, .int .i64 a0_7, .slice A0_8 l0_8.length c0_8]) (t := 24) ?hr ?_; (case hd => rfl); (case hg => rfl); (case hr => first | (go_simp; done) | (go_simp; rfl)); intro gb134 hg w71 hbox hb; have n0_ := Aside0.mk (bT (by repeat (first | (with_reducible first | exact HB.out | apply bL | apply bP | apply bW) | exact HB.out)) hb); have n1_ := Aside0.mk (hbox); have n2_ := Aside0.mk ((by rw [hg]; exact (bZ (by repeat (first | (with_reducible first | exact HB.out | apply bL | apply bP | apply bW) | exact HB.out))) : w.heap.size ≤ gb134)); have n3_ := Aside0.mk ((by rw [hg]; exact (bZ (by repeat (first | (with_reducible first | exact HB.out | apply bL | apply bP | apply bW) | exact HB.out))) : w.heap.size ≤ gb134)); clear HB; have HB := n0_; have BK134 := n1_; have GW134 := n2_; have GE134 := n3_; clear n0_ n1_ n2_ n3_; clear hb hbox hg; have hcz72_0 : w71.cell? ⟨gb134, 0, none⟩ = some (.int .i64 a0_0) := (bC BK134.out 0).trans rfl; have hcz72_1 : w71.cell? ⟨gb134, 1, none⟩ = some (.int .i64 a0_1) := (bC BK134.out 1).trans rfl; have hcz72_2 : w71.cell? ⟨gb134, 2, none⟩ = some (.int .i64 a0_2) := (bC BK134.out 2).trans rfl; have hcz72_3 : w71.cell? ⟨gb134, 3, none⟩ = some (.int .i64 a0_3) := (bC BK134.out 3).trans rfl; have hcz72_4 : w71.cell? ⟨gb134, 4, none⟩ = some (.int .i64 a0_4) := (bC BK134.out 4).trans rfl; have hcz72_5 : w71.cell? ⟨gb134, 5, none⟩ = some (.int .i64 a0_5) := (bC BK134.out 5).trans rfl; have hcz72_6 : w71.cell? ⟨gb134, 6, none⟩ = some (.int .i64 a0_6) := (bC BK134.out 6).trans rfl; have hcz72_7 : w71.cell? ⟨gb134, 7, none⟩ = some (.int .i64 a0_7) := (bC BK134.out 7).trans rfl; have hcz72_8 : w71.cell? ⟨gb134, 8, none⟩ = some (.slice A0_8 l0_8.length c0_8) := (bC BK134.out 8).trans rfl; have hfz72_0 := bF BK134.out 0; have hfz72_1 := bF BK134.out 1; have hfz72_2 := bF BK134.out 2; have hfz72_3 := bF BK134.out 3; have hfz72_4 := bF BK134.out 4; have hfz72_5 := bF BK134.out 5; have hfz72_6 := bF BK134.out 6; have hfz72_7 := bF BK134.out 7; have hfz72_8 := bF BK134.out 8) | ((with_reducible refine gate_callee (f := 14) rfl ?_); refine goesL_ (some 11) rfl rfl Try.func14 (by kernel_rfl) rfl #[.agg #[.int .i64 a0_0, .int .i64 a0_1, .int .i64 a0_2, .int .i64 a0_3, .int .i64 a0_4, .int .i64 a0_5, .int .i64 a0_6, .int .i64 a0_7, .slice A0_8 l0_8.length c0_8]] rfl (by (try simp only [List.map_toArray, List.map_cons, List.map_nil]); first | done | rfl | (simp only [List.length_drop, List.length_take]; rfl)) ?_; (with_reducible refine (tourbillonref08_whole.calls k a0_0 a0_1 a0_2 a0_3 a0_4 a0_5 a0_6 a0_7 _ _ l0_8 false _ ?side1 ?side2 A2.out).mono ?_); (case side1 => repeat (first | exact (Kd.C_below HR0_8.out HB.out) | (with_reducible refine Kd.C_alloc ?_ _) | (with_reducible refine Kd.C_drewN ?_ _) | (with_reducible refine Kd.C_drew ?_))); (case side2 => exact HC0_8.out); rintro e w73 ⟨rfl, hb⟩; refine ⟨_, rfl, ?_⟩; have n0_ := Aside0.mk (bB (g := gb134) (o := .cells #[.int .i64 a0_0, .int .i64 a0_1, .int .i64 a0_2, .int .i64 a0_3, .int .i64 a0_4, .int .i64 a0_5, .int .i64 a0_6, .int .i64 a0_7, .slice A0_8 l0_8.length c0_8] 24 (0, 0)) (by (with_reducible repeat (first | refine bN ?_ _ | refine bD ?_ | refine bA ?_ _)); exact BK134.out) hb); have n1_ := Aside0.mk (bT (by repeat (first | (with_reducible first | exact HB.out | apply bL | apply bP | apply bW | refine bS ?_ GE134.out) | exact HB.out)) hb); clear BK134; clear HB; have BK134 := n0_; have HB := n1_; clear n0_ n1_; (try clear hb); (try clear hb2); (try clear hk); (try clear hi)))
  go_ret3
  exact ⟨by first | rfl | (simp [errW_none, errW_some] <;> rfl) | (simp [*, errW_none, errW_some] <;> rfl), by repeat (first | (with_reducible first | exact HB.out | apply bL | apply bP | apply bW | refine bS ?_ GE134.out) | exact HB.out)⟩

end Go.Proofs.Ytflnooigdbhpdaa.PA
