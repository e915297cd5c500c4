/- Go functions of the program told as plain functions, and that the code comes to what they tell; written by xprint.py, a program of this session. Conditions: as each theorem states them. -/
import Derived.Test.YtflnooigdbhpdaaMEx
import Derived.Test.YtflnooigdbhpdaaPAx0
import Derived.Test.YtflnooigdbhpdaaPAx4
namespace Go.Proofs.Ytflnooigdbhpdaa.PA
open Go.RowKit Go.Proofs.YtflnooigdbhpdaaW.PrintWords Go.Proofs.YtflnooigdbhpdaaW.PrintLast Go.Proofs.YtflnooigdbhpdaaW.PrintMore
open Go.Proofs.YtflnooigdbhpdaaW.PrintWords renaming blk_drewN → bN, blk_drew → bD, blk_alloc → bA, blk_frozen → bF, blk_cell → bC, below_set → bS, pw_below_drewN → bP, below_drew1 → bW, below_alloc → bL, blk_far → bR, blk_below → bB, below_step → bT, below_size → bZ, blk_lt → bQ, box_event → bV
attribute [local go_sem] max2_int min2_int max_two min_two max_three min_three max_four min_four   -- for this text's walks alone
set_option linter.unusedVariables false
set_option linter.unusedSimpArgs false

theorem fieldA28_0 (w : World) (x0 x1 x2 : Int) : (Instr.field 28 (.agg #[.int .i64 x0, .int .i64 x1, .int .i64 x2]) 0).run Try.prog w = .ok (.int .i64 x0) w := by
 have hu28 := Try.underlying28
 have hu26 := Try.underlying26
 unfold Instr.field
 go_simp
 rfl
attribute [local go_sem high] fieldA28_0
/-! ### valid_Right: function 10 -/
def valid_Right.f (k : Nat) (a0_0 : Int) (a0_1 : Int) (a0_2 : Int) (a0_3 : Int) (a0_4 : Int) (a0_5 : Int) (a0_6 : Int) (a0_7 : Int) (l0_8 : List (S35)) : Option (Bool) := (valid_Check.f k a0_0 a0_1 a0_2 a0_3 a0_4 a0_5 a0_6 a0_7 l0_8).bind fun bt121 => (some (bt121.1 == 0))
theorem valid_Right.mono : ∀ a0 a1 a2 a3 a4 a5 a6 a7 a8 k, LeO (valid_Right.f k a0 a1 a2 a3 a4 a5 a6 a7 a8) (valid_Right.f (k + 1) a0 a1 a2 a3 a4 a5 a6 a7 a8) := by
 intro a0 a1 a2 a3 a4 a5 a6 a7 a8 k
 unfold valid_Right.f
 repeat' first
   | (with_reducible exact valid_Check.mono _ _ _ _ _ _ _ _ _ _)
   | (with_reducible exact LeO.refl _)
   | (with_reducible exact LeO.none _)
   | (with_reducible refine LeO.ite ?_ ?_)
   | (with_reducible refine LeO.bind ?_ (fun _ => ?_))
   | exact valid_Check.mono _ _ _ _ _ _ _ _ _ _
   | exact LeO.none _
   | refine LeO.ite ?_ ?_
   | refine LeO.bind ?_ (fun _ => ?_)
set_option maxHeartbeats 8000000 in
set_option maxRecDepth 100000 in
theorem valid_Right.calls (k : Nat) (a0_0 : Int) (a0_1 : Int) (a0_2 : Int) (a0_3 : Int) (a0_4 : Int) (a0_5 : Int) (a0_6 : Int) (a0_7 : Int) (A0_8 : Option Addr) (c0_8 : Nat) (l0_8 : List (S35)) (r : Bool) (w : World) (hr0_8 : Kd.C k35 w A0_8 l0_8.length l0_8) (hc0_8 : l0_8.length ≤ c0_8) (h : valid_Right.f k a0_0 a0_1 a0_2 a0_3 a0_4 a0_5 a0_6 a0_7 l0_8 = some r) :
  Calls Try.prog 10 #[.agg #[.int .i64 a0_0, .int .i64 a0_1, .int .i64 a0_2, .int .i64 a0_3, .int .i64 a0_4, .int .i64 a0_5, .int .i64 a0_6, .int .i64 a0_7, .slice A0_8 l0_8.length c0_8]] w fun e w' => e = .returned (.bool r) ∧ Below w.heap.size w w' := by
 have hu24 := Try.underlying24
 have hu28 := Try.underlying28
 have HR0_8 := Aside0.mk hr0_8
 have HC0_8 := Aside0.mk hc0_8
 clear hr0_8 hc0_8
 have HB := Aside0.mk (Below.refl w.heap.size w)
 have H : ((valid_Check.f k a0_0 a0_1 a0_2 a0_3 a0_4 a0_5 a0_6 a0_7 l0_8).bind fun bt121 => (some (bt121.1 == 0))) = some r := h
 clear h
 replace H := Option.bind_eq_some_iff.mp H
 obtain ⟨⟨t121, t122, t123⟩, A20, H⟩ := H
 replace H : (some (t121 == 0)) = some r := H
 have A2 := Aside0.mk A20
 clear A20
 obtain rfl := Option.some.inj H
 go_enter Try.func10, Try.ntmps10
 go_wp2_with (first | ((with_reducible refine gate_dst (N := 1) rfl ?_); refine bV ?hg (N := 1) ?hd (cs := #[.int .i64 a0_0, .int .i64 a0_1, .int .i64 a0_2, .int .i64 a0_3, .int .i64 a0_4, .int .i64 a0_5, .int .i64 a0_6, .int .i64 a0_7, .slice A0_8 l0_8.length c0_8]) (t := 24) ?hr ?_; (case hd => rfl); (case hg => rfl); (case hr => first | (go_simp; done) | (go_simp; rfl)); intro gb120 hg w3 hbox hb; have n0_ := Aside0.mk (bT (by repeat (first | (with_reducible first | exact HB.out | apply bL | apply bP | apply bW) | exact HB.out)) hb); have n1_ := Aside0.mk (hbox); have n2_ := Aside0.mk ((by rw [hg]; exact (bZ (by repeat (first | (with_reducible first | exact HB.out | apply bL | apply bP | apply bW) | exact HB.out))) : w.heap.size ≤ gb120)); have n3_ := Aside0.mk ((by rw [hg]; exact (bZ (by repeat (first | (with_reducible first | exact HB.out | apply bL | apply bP | apply bW) | exact HB.out))) : w.heap.size ≤ gb120)); clear HB; have HB := n0_; have BK120 := n1_; have GW120 := n2_; have GE120 := n3_; clear n0_ n1_ n2_ n3_; clear hb hbox hg; have hcz4_0 : w3.cell? ⟨gb120, 0, none⟩ = some (.int .i64 a0_0) := (bC BK120.out 0).trans rfl; have hcz4_1 : w3.cell? ⟨gb120, 1, none⟩ = some (.int .i64 a0_1) := (bC BK120.out 1).trans rfl; have hcz4_2 : w3.cell? ⟨gb120, 2, none⟩ = some (.int .i64 a0_2) := (bC BK120.out 2).trans rfl; have hcz4_3 : w3.cell? ⟨gb120, 3, none⟩ = some (.int .i64 a0_3) := (bC BK120.out 3).trans rfl; have hcz4_4 : w3.cell? ⟨gb120, 4, none⟩ = some (.int .i64 a0_4) := (bC BK120.out 4).trans rfl; have hcz4_5 : w3.cell? ⟨gb120, 5, none⟩ = some (.int .i64 a0_5) := (bC BK120.out 5).trans rfl; have hcz4_6 : w3.cell? ⟨gb120, 6, none⟩ = some (.int .i64 a0_6) := (bC BK120.out 6).trans rfl; have hcz4_7 : w3.cell? ⟨gb120, 7, none⟩ = some (.int .i64 a0_7) := (bC BK120.out 7).trans rfl; have hcz4_8 : w3.cell? ⟨gb120, 8, none⟩ = some (.slice A0_8 l0_8.length c0_8) := (bC BK120.out 8).trans rfl; have hfz4_0 := bF BK120.out 0; have hfz4_1 := bF BK120.out 1; have hfz4_2 := bF BK120.out 2; have hfz4_3 := bF BK120.out 3; have hfz4_4 := bF BK120.out 4; have hfz4_5 := bF BK120.out 5; have hfz4_6 := bF BK120.out 6; have hfz4_7 := bF BK120.out 7; have hfz4_8 := bF BK120.out 8) | ((with_reducible refine gate_callee (f := 8) rfl ?_); refine goesL_ (some 4) rfl rfl Try.func8 (by kernel_rfl) rfl #[.agg #[.int .i64 a0_0, .int .i64 a0_1, .int .i64 a0_2, .int .i64 a0_3, .int .i64 a0_4, .int .i64 a0_5, .int .i64 a0_6, .int .i64 a0_7, .slice A0_8 l0_8.length c0_8]] rfl (by (try simp only [List.map_toArray, List.map_cons, List.map_nil]); first | done | rfl | (simp only [List.length_drop, List.length_take]; rfl)) ?_; (with_reducible refine (valid_Check.calls k a0_0 a0_1 a0_2 a0_3 a0_4 a0_5 a0_6 a0_7 _ _ l0_8 t121 t122 t123 _ ?side1 ?side2 A2.out).mono ?_); (case side1 => repeat (first | exact (Kd.C_below HR0_8.out HB.out) | (with_reducible refine Kd.C_alloc ?_ _) | (with_reducible refine Kd.C_drewN ?_ _) | (with_reducible refine Kd.C_drew ?_))); (case side2 => exact HC0_8.out); rintro e w5 ⟨rfl, hb⟩; refine ⟨_, rfl, ?_⟩; have n0_ := Aside0.mk (bB (g := gb120) (o := .cells #[.int .i64 a0_0, .int .i64 a0_1, .int .i64 a0_2, .int .i64 a0_3, .int .i64 a0_4, .int .i64 a0_5, .int .i64 a0_6, .int .i64 a0_7, .slice A0_8 l0_8.length c0_8] 24 (0, 0)) (by (with_reducible repeat (first | refine bN ?_ _ | refine bD ?_ | refine bA ?_ _)); exact BK120.out) hb); have n1_ := Aside0.mk (bT (by repeat (first | (with_reducible first | exact HB.out | apply bL | apply bP | apply bW | refine bS ?_ GE120.out) | exact HB.out)) hb); clear BK120; clear HB; have BK120 := n0_; have HB := n1_; clear n0_ n1_; (try clear hb); (try clear hb2); (try clear hk); (try clear hi)))
 go_ret
 exact ⟨by first | rfl | (simp [errW_none, errW_some] <;> rfl) | (simp [*, errW_none, errW_some] <;> rfl), by repeat (first | (with_reducible first | exact HB.out | apply bL | apply bP | apply bW | refine bS ?_ GE120.out) | exact HB.out)⟩

/-! ### tourbillonlaw08_small: function 11 -/
-- (told with the examples)

/-! ### tourbillonlaw08_examples: function 7 -/
def tourbillonlaw08_examples.f : Option Bool := some true
theorem tourbillonlaw08_examples.calls (r : Bool) (w : World) (h : tourbillonlaw08_examples.f = some r) :
  Calls Try.prog 7 #[] w fun e w' => e = .returned (.bool r) ∧ Below w.heap.size w w' := by
 cases h
 exact Go.Proofs.YtflnooigdbhpdaaMEx.examples_calls w

/-! ### tourbillonref08_within: function 15 -/
def tourbillonref08_within.f (a0 : Int) (a1 : Int) (a2 : Int) : Option (Bool) := if a0 ≥ a1 then (some (decide (a0 ≤ a2))) else (some false)
set_option maxHeartbeats 8000000 in
set_option maxRecDepth 100000 in
theorem tourbillonref08_within.calls (a0 : Int) (a1 : Int) (a2 : Int) (r : Bool) (w : World) (h : tourbillonref08_within.f a0 a1 a2 = some r) :
  Calls Try.prog 15 #[.int .i64 a0, .int .i64 a1, .int .i64 a2] w fun e w' => e = .returned (.bool r) ∧ Drawn0 w w' := by
 have H : (if a0 ≥ a1 then (some (decide (a0 ≤ a2))) else (some false)) = some r := h
 clear h
 by_cases c4 : a0 ≥ a1
 ·rw [if_pos c4] at H
  have c4b0 : decide (a1 ≤ a0) = true := decide_eq_true c4
  clear c4
  obtain rfl := Option.some.inj H
  go_enter Try.func15, Try.ntmps15
  go_wp2
  go_ret
  exact ⟨by first | rfl | (simp; done) | (simp [*]; done), by repeat (first | exact Drawn0.refl _ | apply Drawn0.step)⟩
 ·rw [if_neg c4] at H
  have c4b0 : decide (a1 ≤ a0) = false := decide_eq_false c4
  clear c4
  obtain rfl := Option.some.inj H
  go_enter Try.func15, Try.ntmps15
  go_wp2
  go_ret
  exact ⟨by first | rfl | (simp; done) | (simp [*]; done), by repeat (first | exact Drawn0.refl _ | apply Drawn0.step)⟩

/-! ### tourbillonref08_whole: function 14 -/
def tourbillonref08_whole.j0 : Nat → Bool → Int → Int → Int → Int → Int → Int → Int → Int → List (S35) → Option (Bool)
 | 0, _, _, _, _, _, _, _, _, _, _ => none
 | k + 1, x28, x125000, x125001, x125002, x125003, x125004, x125005, x125006, x125007, x125008 => if x28 = true then (some false) else ((tourbillonref08_within.f x125003 0 50).bind fun t128 => (if t128 = true then ((tourbillonref08_within.f x125004 0 50).bind fun t129 => (if t129 = true then ((tourbillonref08_within.f x125005 0 50).bind fun t130 => (if t130 = true then ((tourbillonref08_within.f x125006 1 50).bind fun t131 => (if t131 = true then ((tourbillonref08_within.f x125007 0 8).bind fun t132 => (if t132 = true then ((tourbillonref08_within.f (x125008.length : Int) 1 24).bind fun t133 => (some t133)) else (some false))) else (some false))) else (some false))) else (some false))) else (some false)))
def tourbillonref08_whole.f (k : Nat) (a0_0 : Int) (a0_1 : Int) (a0_2 : Int) (a0_3 : Int) (a0_4 : Int) (a0_5 : Int) (a0_6 : Int) (a0_7 : Int) (l0_8 : List (S35)) : Option (Bool) := (tourbillonref08_within.f a0_0 1 8).bind fun t125 => (if t125 = true then ((tourbillonref08_within.f a0_1 1 2).bind fun t126 => (if t126 = true then ((tourbillonref08_within.f a0_2 1 2).bind fun t127 => (if t127 = true then (if a0_2 = 2 then (tourbillonref08_whole.j0 k (a0_1 != 1) a0_0 a0_1 a0_2 a0_3 a0_4 a0_5 a0_6 a0_7 l0_8) else (tourbillonref08_whole.j0 k false a0_0 a0_1 a0_2 a0_3 a0_4 a0_5 a0_6 a0_7 l0_8)) else (tourbillonref08_whole.j0 k true a0_0 a0_1 a0_2 a0_3 a0_4 a0_5 a0_6 a0_7 l0_8))) else (tourbillonref08_whole.j0 k true a0_0 a0_1 a0_2 a0_3 a0_4 a0_5 a0_6 a0_7 l0_8))) else (tourbillonref08_whole.j0 k true a0_0 a0_1 a0_2 a0_3 a0_4 a0_5 a0_6 a0_7 l0_8))
theorem tourbillonref08_whole.mono_l : ∀ k, (∀ y0 y1 y2 y3 y4 y5 y6 y7 y8 y9, LeO (tourbillonref08_whole.j0 k y0 y1 y2 y3 y4 y5 y6 y7 y8 y9) (tourbillonref08_whole.j0 (k + 1) y0 y1 y2 y3 y4 y5 y6 y7 y8 y9))
 | 0 => fun _ _ _ _ _ _ _ _ _ _ r h => by simp [tourbillonref08_whole.j0] at h
 | k + 1 => by
  have ih0 := tourbillonref08_whole.mono_l k
  ·intro y0 y1 y2 y3 y4 y5 y6 y7 y8 y9
   unfold tourbillonref08_whole.j0
   repeat' first
   | (with_reducible exact ih0 _ _ _ _ _ _ _ _ _ _)
   | (with_reducible exact LeO.refl _)
   | (with_reducible exact LeO.none _)
   | (with_reducible refine LeO.ite ?_ ?_)
   | (with_reducible refine LeO.bind ?_ (fun _ => ?_))
   | exact ih0 _ _ _ _ _ _ _ _ _ _
   | exact LeO.none _
   | refine LeO.ite ?_ ?_
   | refine LeO.bind ?_ (fun _ => ?_)
theorem tourbillonref08_whole.mono : ∀ a0 a1 a2 a3 a4 a5 a6 a7 a8 k, LeO (tourbillonref08_whole.f k a0 a1 a2 a3 a4 a5 a6 a7 a8) (tourbillonref08_whole.f (k + 1) a0 a1 a2 a3 a4 a5 a6 a7 a8) := by
 intro a0 a1 a2 a3 a4 a5 a6 a7 a8 k
 have ih0 := tourbillonref08_whole.mono_l k
 unfold tourbillonref08_whole.f
 repeat' first
   | (with_reducible exact ih0 _ _ _ _ _ _ _ _ _ _)
   | (with_reducible exact LeO.refl _)
   | (with_reducible exact LeO.none _)
   | (with_reducible refine LeO.ite ?_ ?_)
   | (with_reducible refine LeO.bind ?_ (fun _ => ?_))
   | exact ih0 _ _ _ _ _ _ _ _ _ _
   | exact LeO.none _
   | refine LeO.ite ?_ ?_
   | refine LeO.bind ?_ (fun _ => ?_)
set_option maxHeartbeats 8000000 in
set_option maxRecDepth 100000 in
theorem tourbillonref08_whole.calls (k : Nat) (a0_0 : Int) (a0_1 : Int) (a0_2 : Int) (a0_3 : Int) (a0_4 : Int) (a0_5 : Int) (a0_6 : Int) (a0_7 : Int) (A0_8 : Option Addr) (c0_8 : Nat) (l0_8 : List (S35)) (r : Bool) (w : World) (hr0_8 : Kd.C k35 w A0_8 l0_8.length l0_8) (hc0_8 : l0_8.length ≤ c0_8) (h : tourbillonref08_whole.f k a0_0 a0_1 a0_2 a0_3 a0_4 a0_5 a0_6 a0_7 l0_8 = some r) :
  Calls Try.prog 14 #[.agg #[.int .i64 a0_0, .int .i64 a0_1, .int .i64 a0_2, .int .i64 a0_3, .int .i64 a0_4, .int .i64 a0_5, .int .i64 a0_6, .int .i64 a0_7, .slice A0_8 l0_8.length c0_8]] w fun e w' => e = .returned (.bool r) ∧ Below w.heap.size w w' := by
 have hu24 := Try.underlying24
 have HR0_8 := Aside0.mk hr0_8
 have HC0_8 := Aside0.mk hc0_8
 clear hr0_8 hc0_8
 have HB := Aside0.mk (Below.refl w.heap.size w)
 have H : ((tourbillonref08_within.f a0_0 1 8).bind fun t125 => (if t125 = true then ((tourbillonref08_within.f a0_1 1 2).bind fun t126 => (if t126 = true then ((tourbillonref08_within.f a0_2 1 2).bind fun t127 => (if t127 = true then (if a0_2 = 2 then (tourbillonref08_whole.j0 k (a0_1 != 1) a0_0 a0_1 a0_2 a0_3 a0_4 a0_5 a0_6 a0_7 l0_8) else (tourbillonref08_whole.j0 k false a0_0 a0_1 a0_2 a0_3 a0_4 a0_5 a0_6 a0_7 l0_8)) else (tourbillonref08_whole.j0 k true a0_0 a0_1 a0_2 a0_3 a0_4 a0_5 a0_6 a0_7 l0_8))) else (tourbillonref08_whole.j0 k true a0_0 a0_1 a0_2 a0_3 a0_4 a0_5 a0_6 a0_7 l0_8))) else (tourbillonref08_whole.j0 k true a0_0 a0_1 a0_2 a0_3 a0_4 a0_5 a0_6 a0_7 l0_8))) = some r := h
 clear h
 have HC2 := Aside0.mk H
 clear H
 go_enter Try.func14, Try.ntmps14
 go_upto_region 1 with (first | ((with_reducible refine gate_dst (N := 1) rfl ?_); (try (refine gate_guard (by rfl) ?_; dsimp only)); refine bV ?hg (N := 1) ?hd (cs := #[.int .i64 a0_0, .int .i64 a0_1, .int .i64 a0_2, .int .i64 a0_3, .int .i64 a0_4, .int .i64 a0_5, .int .i64 a0_6, .int .i64 a0_7, .slice A0_8 l0_8.length c0_8]) (t := 24) ?hr ?_; (case hd => rfl); (case hg => rfl); (case hr => first | (go_simp; done) | (go_simp; rfl)); intro gb124 hg w3 hbox hb; have n0_ := Aside0.mk (bT (by repeat (first | (with_reducible first | exact HB.out | apply bL | apply bP | apply bW) | exact HB.out)) hb); have n1_ := Aside0.mk (hbox); have n2_ := Aside0.mk ((by rw [hg]; exact (bZ (by repeat (first | (with_reducible first | exact HB.out | apply bL | apply bP | apply bW) | exact HB.out))) : w.heap.size ≤ gb124)); have n3_ := Aside0.mk ((by rw [hg]; exact (bZ (by repeat (first | (with_reducible first | exact HB.out | apply bL | apply bP | apply bW) | exact HB.out))) : w.heap.size ≤ gb124)); clear HB; have HB := n0_; have BK124 := n1_; have GW124 := n2_; have GE124 := n3_; clear n0_ n1_ n2_ n3_; clear hb hbox hg))
 (try simp only [Act.put, List.setIfInBounds_toArray, List.set_cons_zero, List.set_cons_succ])
 go_cut [28] (fun v28 wc => ∃ (kq : Nat) (x28_1 : Bool), v28 = .bool x28_1 ∧ Aside0 (tourbillonref08_whole.j0 kq x28_1 a0_0 a0_1 a0_2 a0_3 a0_4 a0_5 a0_6 a0_7 l0_8 = some r) ∧ Aside0 (kq ≤ k) ∧ Aside0 (wc.heap[gb124]? = some (.cells #[.int .i64 a0_0, .int .i64 a0_1, .int .i64 a0_2, .int .i64 a0_3, .int .i64 a0_4, .int .i64 a0_5, .int .i64 a0_6, .int .i64 a0_7, (.slice A0_8 l0_8.length c0_8)] 24 (0, 0))) ∧ Aside0 (Below w.heap.size w wc))
 case first =>
  have H := HC2.out
  clear HC2
  replace H := Option.bind_eq_some_iff.mp H
  obtain ⟨t125, A40, H⟩ := H
  replace H : (if t125 = true then ((tourbillonref08_within.f a0_1 1 2).bind fun t126 => (if t126 = true then ((tourbillonref08_within.f a0_2 1 2).bind fun t127 => (if t127 = true then (if a0_2 = 2 then (tourbillonref08_whole.j0 k (a0_1 != 1) a0_0 a0_1 a0_2 a0_3 a0_4 a0_5 a0_6 a0_7 l0_8) else (tourbillonref08_whole.j0 k false a0_0 a0_1 a0_2 a0_3 a0_4 a0_5 a0_6 a0_7 l0_8)) else (tourbillonref08_whole.j0 k true a0_0 a0_1 a0_2 a0_3 a0_4 a0_5 a0_6 a0_7 l0_8))) else (tourbillonref08_whole.j0 k true a0_0 a0_1 a0_2 a0_3 a0_4 a0_5 a0_6 a0_7 l0_8))) else (tourbillonref08_whole.j0 k true a0_0 a0_1 a0_2 a0_3 a0_4 a0_5 a0_6 a0_7 l0_8)) = some r := H
  have A4 := Aside0.mk A40
  clear A40
  by_cases c5 : t125 = true
  ·subst c5
   have H1 : ((tourbillonref08_within.f a0_1 1 2).bind fun t126 => (if t126 = true then ((tourbillonref08_within.f a0_2 1 2).bind fun t127 => (if t127 = true then (if a0_2 = 2 then (tourbillonref08_whole.j0 k (a0_1 != 1) a0_0 a0_1 a0_2 a0_3 a0_4 a0_5 a0_6 a0_7 l0_8) else (tourbillonref08_whole.j0 k false a0_0 a0_1 a0_2 a0_3 a0_4 a0_5 a0_6 a0_7 l0_8)) else (tourbillonref08_whole.j0 k true a0_0 a0_1 a0_2 a0_3 a0_4 a0_5 a0_6 a0_7 l0_8))) else (tourbillonref08_whole.j0 k true a0_0 a0_1 a0_2 a0_3 a0_4 a0_5 a0_6 a0_7 l0_8))) = some r := by rw [if_pos rfl] at H; exact H
   clear H
   have H := H1
   clear H1
   replace H := Option.bind_eq_some_iff.mp H
   obtain ⟨t126, A60, H⟩ := H
   replace H : (if t126 = true then ((tourbillonref08_within.f a0_2 1 2).bind fun t127 => (if t127 = true then (if a0_2 = 2 then (tourbillonref08_whole.j0 k (a0_1 != 1) a0_0 a0_1 a0_2 a0_3 a0_4 a0_5 a0_6 a0_7 l0_8) else (tourbillonref08_whole.j0 k false a0_0 a0_1 a0_2 a0_3 a0_4 a0_5 a0_6 a0_7 l0_8)) else (tourbillonref08_whole.j0 k true a0_0 a0_1 a0_2 a0_3 a0_4 a0_5 a0_6 a0_7 l0_8))) else (tourbillonref08_whole.j0 k true a0_0 a0_1 a0_2 a0_3 a0_4 a0_5 a0_6 a0_7 l0_8)) = some r := H
   have A6 := Aside0.mk A60
   clear A60
   by_cases c7 : t126 = true
   ·subst c7
    have H1 : ((tourbillonref08_within.f a0_2 1 2).bind fun t127 => (if t127 = true then (if a0_2 = 2 then (tourbillonref08_whole.j0 k (a0_1 != 1) a0_0 a0_1 a0_2 a0_3 a0_4 a0_5 a0_6 a0_7 l0_8) else (tourbillonref08_whole.j0 k false a0_0 a0_1 a0_2 a0_3 a0_4 a0_5 a0_6 a0_7 l0_8)) else (tourbillonref08_whole.j0 k true a0_0 a0_1 a0_2 a0_3 a0_4 a0_5 a0_6 a0_7 l0_8))) = some r := by rw [if_pos rfl] at H; exact H
    clear H
    have H := H1
    clear H1
    replace H := Option.bind_eq_some_iff.mp H
    obtain ⟨t127, A80, H⟩ := H
    replace H : (if t127 = true then (if a0_2 = 2 then (tourbillonref08_whole.j0 k (a0_1 != 1) a0_0 a0_1 a0_2 a0_3 a0_4 a0_5 a0_6 a0_7 l0_8) else (tourbillonref08_whole.j0 k false a0_0 a0_1 a0_2 a0_3 a0_4 a0_5 a0_6 a0_7 l0_8)) else (tourbillonref08_whole.j0 k true a0_0 a0_1 a0_2 a0_3 a0_4 a0_5 a0_6 a0_7 l0_8)) = some r := H
    have A8 := Aside0.mk A80
    clear A80
    by_cases c9 : t127 = true
    ·subst c9
     have H1 : (if a0_2 = 2 then (tourbillonref08_whole.j0 k (a0_1 != 1) a0_0 a0_1 a0_2 a0_3 a0_4 a0_5 a0_6 a0_7 l0_8) else (tourbillonref08_whole.j0 k false a0_0 a0_1 a0_2 a0_3 a0_4 a0_5 a0_6 a0_7 l0_8)) = some r := by rw [if_pos rfl] at H; exact H
     clear H
     have H := H1
     clear H1
     by_cases c10 : a0_2 = 2
     ·rw [if_pos c10] at H
      have c10b0 : (a0_2 == 2) = true := beq_iff_eq.mpr c10
      have c10b1 : (a0_2 != 2) = false := bne_eq_false_iff_eq.mpr c10
      clear c10
      (first | rw [c10b0] | (simp only [i64_w, i32_w]; rw [c10b0]) | skip)
      have H' := Aside0.mk H
      clear H
      have hcz11_0 : w3.cell? ⟨gb124, 0, none⟩ = some (.int .i64 a0_0) := (bC BK124.out 0).trans rfl
      have hcz11_1 : w3.cell? ⟨gb124, 1, none⟩ = some (.int .i64 a0_1) := (bC BK124.out 1).trans rfl
      have hcz11_2 : w3.cell? ⟨gb124, 2, none⟩ = some (.int .i64 a0_2) := (bC BK124.out 2).trans rfl
      have hcz11_3 : w3.cell? ⟨gb124, 3, none⟩ = some (.int .i64 a0_3) := (bC BK124.out 3).trans rfl
      have hcz11_4 : w3.cell? ⟨gb124, 4, none⟩ = some (.int .i64 a0_4) := (bC BK124.out 4).trans rfl
      have hcz11_5 : w3.cell? ⟨gb124, 5, none⟩ = some (.int .i64 a0_5) := (bC BK124.out 5).trans rfl
      have hcz11_6 : w3.cell? ⟨gb124, 6, none⟩ = some (.int .i64 a0_6) := (bC BK124.out 6).trans rfl
      have hcz11_7 : w3.cell? ⟨gb124, 7, none⟩ = some (.int .i64 a0_7) := (bC BK124.out 7).trans rfl
      have hcz11_8 : w3.cell? ⟨gb124, 8, none⟩ = some (.slice A0_8 l0_8.length c0_8) := (bC BK124.out 8).trans rfl
      have hfz11_0 := bF BK124.out 0
      have hfz11_1 := bF BK124.out 1
      have hfz11_2 := bF BK124.out 2
      have hfz11_3 := bF BK124.out 3
      have hfz11_4 := bF BK124.out 4
      have hfz11_5 := bF BK124.out 5
      have hfz11_6 := bF BK124.out 6
      have hfz11_7 := bF BK124.out 7
      have hfz11_8 := bF BK124.out 8
      go_wp2_with (first | ((with_reducible refine gate_callee (f := 15) rfl ?_); refine goesL_ (some 5) rfl rfl Try.func15 (by kernel_rfl) rfl #[.int .i64 a0_0, .int .i64 1, .int .i64 8] rfl (by (try simp only [List.map_toArray, List.map_cons, List.map_nil]); first | done | rfl | (simp only [List.length_drop, List.length_take]; rfl)) ?_; (with_reducible refine (tourbillonref08_within.calls a0_0 1 8 true _ A4.out).mono ?_); rintro e w' ⟨rfl, ⟨nd, rfl⟩⟩; refine ⟨_, rfl, ?_⟩) | (go_at_call 15; (with_reducible refine (tourbillonref08_within.calls a0_1 1 2 true _ A6.out).mono ?_); rintro e w' ⟨rfl, ⟨nd, rfl⟩⟩) | (go_at_call 15; (with_reducible refine (tourbillonref08_within.calls a0_2 1 2 true _ A8.out).mono ?_); rintro e w' ⟨rfl, ⟨nd, rfl⟩⟩))
      go_meet
      case rel => exact ⟨_, ((a0_1 != 1)), (by first | rfl | (simp; done) | (simp [*]; done) | (simp only [bne, Bool.not_not]; done)), H', ⟨by first | omega | exact Nat.le_refl _⟩, ⟨by (with_reducible repeat (first | refine bN ?_ _ | refine bD ?_ | refine bA ?_ _)); exact BK124.out⟩, ⟨by repeat (first | (with_reducible first | exact HB.out | apply bL | apply bP | apply bW | refine bS ?_ GE124.out) | exact HB.out)⟩⟩
     ·rw [if_neg c10] at H
      have c10b0 : (a0_2 == 2) = false := beq_eq_false_iff_ne.mpr c10
      have c10b1 : (a0_2 != 2) = true := bne_iff_ne.mpr c10
      (first | rw [c10b0] | (simp only [i64_w, i32_w]; rw [c10b0]) | skip)
      have H' := Aside0.mk H
      clear H
      have hcz12_0 : w3.cell? ⟨gb124, 0, none⟩ = some (.int .i64 a0_0) := (bC BK124.out 0).trans rfl
      have hcz12_1 : w3.cell? ⟨gb124, 1, none⟩ = some (.int .i64 a0_1) := (bC BK124.out 1).trans rfl
      have hcz12_2 : w3.cell? ⟨gb124, 2, none⟩ = some (.int .i64 a0_2) := (bC BK124.out 2).trans rfl
      have hcz12_3 : w3.cell? ⟨gb124, 3, none⟩ = some (.int .i64 a0_3) := (bC BK124.out 3).trans rfl
      have hcz12_4 : w3.cell? ⟨gb124, 4, none⟩ = some (.int .i64 a0_4) := (bC BK124.out 4).trans rfl
      have hcz12_5 : w3.cell? ⟨gb124, 5, none⟩ = some (.int .i64 a0_5) := (bC BK124.out 5).trans rfl
      have hcz12_6 : w3.cell? ⟨gb124, 6, none⟩ = some (.int .i64 a0_6) := (bC BK124.out 6).trans rfl
      have hcz12_7 : w3.cell? ⟨gb124, 7, none⟩ = some (.int .i64 a0_7) := (bC BK124.out 7).trans rfl
      have hcz12_8 : w3.cell? ⟨gb124, 8, none⟩ = some (.slice A0_8 l0_8.length c0_8) := (bC BK124.out 8).trans rfl
      have hfz12_0 := bF BK124.out 0
      have hfz12_1 := bF BK124.out 1
      have hfz12_2 := bF BK124.out 2
      have hfz12_3 := bF BK124.out 3
      have hfz12_4 := bF BK124.out 4
      have hfz12_5 := bF BK124.out 5
      have hfz12_6 := bF BK124.out 6
      have hfz12_7 := bF BK124.out 7
      have hfz12_8 := bF BK124.out 8
      go_wp2_with (first | ((with_reducible refine gate_callee (f := 15) rfl ?_); refine goesL_ (some 5) rfl rfl Try.func15 (by kernel_rfl) rfl #[.int .i64 a0_0, .int .i64 1, .int .i64 8] rfl (by (try simp only [List.map_toArray, List.map_cons, List.map_nil]); first | done | rfl | (simp only [List.length_drop, List.length_take]; rfl)) ?_; (with_reducible refine (tourbillonref08_within.calls a0_0 1 8 true _ A4.out).mono ?_); rintro e w' ⟨rfl, ⟨nd, rfl⟩⟩; refine ⟨_, rfl, ?_⟩) | (go_at_call 15; (with_reducible refine (tourbillonref08_within.calls a0_1 1 2 true _ A6.out).mono ?_); rintro e w' ⟨rfl, ⟨nd, rfl⟩⟩) | (go_at_call 15; (with_reducible refine (tourbillonref08_within.calls a0_2 1 2 true _ A8.out).mono ?_); rintro e w' ⟨rfl, ⟨nd, rfl⟩⟩))
      go_meet
      case rel => exact ⟨_, (false), (by first | rfl | (simp; done) | (simp [*]; done) | (simp only [bne, Bool.not_not]; done)), H', ⟨by first | omega | exact Nat.le_refl _⟩, ⟨by (with_reducible repeat (first | refine bN ?_ _ | refine bD ?_ | refine bA ?_ _)); exact BK124.out⟩, ⟨by repeat (first | (with_reducible first | exact HB.out | apply bL | apply bP | apply bW | refine bS ?_ GE124.out) | exact HB.out)⟩⟩
    ·replace c9 := Bool.eq_false_iff.mpr c9
     subst c9
     have H1 : (tourbillonref08_whole.j0 k true a0_0 a0_1 a0_2 a0_3 a0_4 a0_5 a0_6 a0_7 l0_8) = some r := by rw [if_neg (show ¬ (false = true) by decide)] at H; exact H
     clear H
     have H := H1
     clear H1
     have H' := Aside0.mk H
     clear H
     have hcz13_0 : w3.cell? ⟨gb124, 0, none⟩ = some (.int .i64 a0_0) := (bC BK124.out 0).trans rfl
     have hcz13_1 : w3.cell? ⟨gb124, 1, none⟩ = some (.int .i64 a0_1) := (bC BK124.out 1).trans rfl
     have hcz13_2 : w3.cell? ⟨gb124, 2, none⟩ = some (.int .i64 a0_2) := (bC BK124.out 2).trans rfl
     have hcz13_3 : w3.cell? ⟨gb124, 3, none⟩ = some (.int .i64 a0_3) := (bC BK124.out 3).trans rfl
     have hcz13_4 : w3.cell? ⟨gb124, 4, none⟩ = some (.int .i64 a0_4) := (bC BK124.out 4).trans rfl
     have hcz13_5 : w3.cell? ⟨gb124, 5, none⟩ = some (.int .i64 a0_5) := (bC BK124.out 5).trans rfl
     have hcz13_6 : w3.cell? ⟨gb124, 6, none⟩ = some (.int .i64 a0_6) := (bC BK124.out 6).trans rfl
     have hcz13_7 : w3.cell? ⟨gb124, 7, none⟩ = some (.int .i64 a0_7) := (bC BK124.out 7).trans rfl
     have hcz13_8 : w3.cell? ⟨gb124, 8, none⟩ = some (.slice A0_8 l0_8.length c0_8) := (bC BK124.out 8).trans rfl
     have hfz13_0 := bF BK124.out 0
     have hfz13_1 := bF BK124.out 1
     have hfz13_2 := bF BK124.out 2
     have hfz13_3 := bF BK124.out 3
     have hfz13_4 := bF BK124.out 4
     have hfz13_5 := bF BK124.out 5
     have hfz13_6 := bF BK124.out 6
     have hfz13_7 := bF BK124.out 7
     have hfz13_8 := bF BK124.out 8
     go_wp2_with (first | ((with_reducible refine gate_callee (f := 15) rfl ?_); refine goesL_ (some 5) rfl rfl Try.func15 (by kernel_rfl) rfl #[.int .i64 a0_0, .int .i64 1, .int .i64 8] rfl (by (try simp only [List.map_toArray, List.map_cons, List.map_nil]); first | done | rfl | (simp only [List.length_drop, List.length_take]; rfl)) ?_; (with_reducible refine (tourbillonref08_within.calls a0_0 1 8 true _ A4.out).mono ?_); rintro e w' ⟨rfl, ⟨nd, rfl⟩⟩; refine ⟨_, rfl, ?_⟩) | (go_at_call 15; (with_reducible refine (tourbillonref08_within.calls a0_1 1 2 true _ A6.out).mono ?_); rintro e w' ⟨rfl, ⟨nd, rfl⟩⟩) | (go_at_call 15; (with_reducible refine (tourbillonref08_within.calls a0_2 1 2 false _ A8.out).mono ?_); rintro e w' ⟨rfl, ⟨nd, rfl⟩⟩))
     go_meet
     case rel => exact ⟨_, (true), (by first | rfl | (simp; done) | (simp [*]; done) | (simp only [bne, Bool.not_not]; done)), H', ⟨by first | omega | exact Nat.le_refl _⟩, ⟨by (with_reducible repeat (first | refine bN ?_ _ | refine bD ?_ | refine bA ?_ _)); exact BK124.out⟩, ⟨by repeat (first | (with_reducible first | exact HB.out | apply bL | apply bP | apply bW | refine bS ?_ GE124.out) | exact HB.out)⟩⟩
   ·replace c7 := Bool.eq_false_iff.mpr c7
    subst c7
    have H1 : (tourbillonref08_whole.j0 k true a0_0 a0_1 a0_2 a0_3 a0_4 a0_5 a0_6 a0_7 l0_8) = some r := by rw [if_neg (show ¬ (false = true) by decide)] at H; exact H
    clear H
    have H := H1
    clear H1
    have H' := Aside0.mk H
    clear H
    have hcz14_0 : w3.cell? ⟨gb124, 0, none⟩ = some (.int .i64 a0_0) := (bC BK124.out 0).trans rfl
    have hcz14_1 : w3.cell? ⟨gb124, 1, none⟩ = some (.int .i64 a0_1) := (bC BK124.out 1).trans rfl
    have hcz14_2 : w3.cell? ⟨gb124, 2, none⟩ = some (.int .i64 a0_2) := (bC BK124.out 2).trans rfl
    have hcz14_3 : w3.cell? ⟨gb124, 3, none⟩ = some (.int .i64 a0_3) := (bC BK124.out 3).trans rfl
    have hcz14_4 : w3.cell? ⟨gb124, 4, none⟩ = some (.int .i64 a0_4) := (bC BK124.out 4).trans rfl
    have hcz14_5 : w3.cell? ⟨gb124, 5, none⟩ = some (.int .i64 a0_5) := (bC BK124.out 5).trans rfl
    have hcz14_6 : w3.cell? ⟨gb124, 6, none⟩ = some (.int .i64 a0_6) := (bC BK124.out 6).trans rfl
    have hcz14_7 : w3.cell? ⟨gb124, 7, none⟩ = some (.int .i64 a0_7) := (bC BK124.out 7).trans rfl
    have hcz14_8 : w3.cell? ⟨gb124, 8, none⟩ = some (.slice A0_8 l0_8.length c0_8) := (bC BK124.out 8).trans rfl
    have hfz14_0 := bF BK124.out 0
    have hfz14_1 := bF BK124.out 1
    have hfz14_2 := bF BK124.out 2
    have hfz14_3 := bF BK124.out 3
    have hfz14_4 := bF BK124.out 4
    have hfz14_5 := bF BK124.out 5
    have hfz14_6 := bF BK124.out 6
    have hfz14_7 := bF BK124.out 7
    have hfz14_8 := bF BK124.out 8
    go_wp2_with (first | ((with_reducible refine gate_callee (f := 15) rfl ?_); refine goesL_ (some 5) rfl rfl Try.func15 (by kernel_rfl) rfl #[.int .i64 a0_0, .int .i64 1, .int .i64 8] rfl (by (try simp only [List.map_toArray, List.map_cons, List.map_nil]); first | done | rfl | (simp only [List.length_drop, List.length_take]; rfl)) ?_; (with_reducible refine (tourbillonref08_within.calls a0_0 1 8 true _ A4.out).mono ?_); rintro e w' ⟨rfl, ⟨nd, rfl⟩⟩; refine ⟨_, rfl, ?_⟩) | (go_at_call 15; (with_reducible refine (tourbillonref08_within.calls a0_1 1 2 false _ A6.out).mono ?_); rintro e w' ⟨rfl, ⟨nd, rfl⟩⟩))
    go_meet
    case rel => exact ⟨_, (true), (by first | rfl | (simp; done) | (simp [*]; done) | (simp only [bne, Bool.not_not]; done)), H', ⟨by first | omega | exact Nat.le_refl _⟩, ⟨by (with_reducible repeat (first | refine bN ?_ _ | refine bD ?_ | refine bA ?_ _)); exact BK124.out⟩, ⟨by repeat (first | (with_reducible first | exact HB.out | apply bL | apply bP | apply bW | refine bS ?_ GE124.out) | exact HB.out)⟩⟩
  ·replace c5 := Bool.eq_false_iff.mpr c5
   subst c5
   have H1 : (tourbillonref08_whole.j0 k true a0_0 a0_1 a0_2 a0_3 a0_4 a0_5 a0_6 a0_7 l0_8) = some r := by rw [if_neg (show ¬ (false = true) by decide)] at H; exact H
   clear H
   have H := H1
   clear H1
   have H' := Aside0.mk H
   clear H
   have hcz15_0 : w3.cell? ⟨gb124, 0, none⟩ = some (.int .i64 a0_0) := (bC BK124.out 0).trans rfl
   have hcz15_1 : w3.cell? ⟨gb124, 1, none⟩ = some (.int .i64 a0_1) := (bC BK124.out 1).trans rfl
   have hcz15_2 : w3.cell? ⟨gb124, 2, none⟩ = some (.int .i64 a0_2) := (bC BK124.out 2).trans rfl
   have hcz15_3 : w3.cell? ⟨gb124, 3, none⟩ = some (.int .i64 a0_3) := (bC BK124.out 3).trans rfl
   have hcz15_4 : w3.cell? ⟨gb124, 4, none⟩ = some (.int .i64 a0_4) := (bC BK124.out 4).trans rfl
   have hcz15_5 : w3.cell? ⟨gb124, 5, none⟩ = some (.int .i64 a0_5) := (bC BK124.out 5).trans rfl
   have hcz15_6 : w3.cell? ⟨gb124, 6, none⟩ = some (.int .i64 a0_6) := (bC BK124.out 6).trans rfl
   have hcz15_7 : w3.cell? ⟨gb124, 7, none⟩ = some (.int .i64 a0_7) := (bC BK124.out 7).trans rfl
   have hcz15_8 : w3.cell? ⟨gb124, 8, none⟩ = some (.slice A0_8 l0_8.length c0_8) := (bC BK124.out 8).trans rfl
   have hfz15_0 := bF BK124.out 0
   have hfz15_1 := bF BK124.out 1
   have hfz15_2 := bF BK124.out 2
   have hfz15_3 := bF BK124.out 3
   have hfz15_4 := bF BK124.out 4
   have hfz15_5 := bF BK124.out 5
   have hfz15_6 := bF BK124.out 6
   have hfz15_7 := bF BK124.out 7
   have hfz15_8 := bF BK124.out 8
   go_wp2_with (first | ((with_reducible refine gate_callee (f := 15) rfl ?_); refine goesL_ (some 5) rfl rfl Try.func15 (by kernel_rfl) rfl #[.int .i64 a0_0, .int .i64 1, .int .i64 8] rfl (by (try simp only [List.map_toArray, List.map_cons, List.map_nil]); first | done | rfl | (simp only [List.length_drop, List.length_take]; rfl)) ?_; (with_reducible refine (tourbillonref08_within.calls a0_0 1 8 false _ A4.out).mono ?_); rintro e w' ⟨rfl, ⟨nd, rfl⟩⟩; refine ⟨_, rfl, ?_⟩))
   go_meet
   case rel => exact ⟨_, (true), (by first | rfl | (simp; done) | (simp [*]; done) | (simp only [bne, Bool.not_not]; done)), H', ⟨by first | omega | exact Nat.le_refl _⟩, ⟨by (with_reducible repeat (first | refine bN ?_ _ | refine bD ?_ | refine bA ?_ _)); exact BK124.out⟩, ⟨by repeat (first | (with_reducible first | exact HB.out | apply bL | apply bP | apply bW | refine bS ?_ GE124.out) | exact HB.out)⟩⟩
 case rest =>
  clear HC2
  try clear c1
  try clear p2
  try clear c5
  try clear c7
  try clear c9
  try clear c10
  try clear c10b0
  try clear c10b1
  try clear c14
  try clear c15
  try clear hcz11_0
  try clear hcz11_1
  try clear hcz11_2
  try clear hcz11_3
  try clear hcz11_4
  try clear hcz11_5
  try clear hcz11_6
  try clear hcz11_7
  try clear hcz11_8
  try clear hcz12_0
  try clear hcz12_1
  try clear hcz12_2
  try clear hcz12_3
  try clear hcz12_4
  try clear hcz12_5
  try clear hcz12_6
  try clear hcz12_7
  try clear hcz12_8
  try clear hcz13_0
  try clear hcz13_1
  try clear hcz13_2
  try clear hcz13_3
  try clear hcz13_4
  try clear hcz13_5
  try clear hcz13_6
  try clear hcz13_7
  try clear hcz13_8
  try clear hcz14_0
  try clear hcz14_1
  try clear hcz14_2
  try clear hcz14_3
  try clear hcz14_4
  try clear hcz14_5
  try clear hcz14_6
  try clear hcz14_7
  try clear hcz14_8
  try clear hcz15_0
  try clear hcz15_1
  try clear hcz15_2
  try clear hcz15_3
  try clear hcz15_4
  try clear hcz15_5
  try clear hcz15_6
  try clear hcz15_7
  try clear hcz15_8
  try clear hfz11_0
  try clear hfz11_1
  try clear hfz11_2
  try clear hfz11_3
  try clear hfz11_4
  try clear hfz11_5
  try clear hfz11_6
  try clear hfz11_7
  try clear hfz11_8
  try clear hfz12_0
  try clear hfz12_1
  try clear hfz12_2
  try clear hfz12_3
  try clear hfz12_4
  try clear hfz12_5
  try clear hfz12_6
  try clear hfz12_7
  try clear hfz12_8
  try clear hfz13_0
  try clear hfz13_1
  try clear hfz13_2
  try clear hfz13_3
  try clear hfz13_4
  try clear hfz13_5
  try clear hfz13_6
  try clear hfz13_7
  try clear hfz13_8
  try clear hfz14_0
  try clear hfz14_1
  try clear hfz14_2
  try clear hfz14_3
  try clear hfz14_4
  try clear hfz14_5
  try clear hfz14_6
  try clear hfz14_7
  try clear hfz14_8
  try clear hfz15_0
  try clear hfz15_1
  try clear hfz15_2
  try clear hfz15_3
  try clear hfz15_4
  try clear hfz15_5
  try clear hfz15_6
  try clear hfz15_7
  try clear hfz15_8
  obtain ⟨kq, x28_1, rfl, HA, HJ1, BK124, HB⟩ := hcut
  cases kq with
  | zero => exact absurd HA.out (by simp [tourbillonref08_whole.j0])
  | succ kj1 =>
   have H := HA.out
   clear HA
   simp only [tourbillonref08_whole.j0] at H
   by_cases c16 : x28_1 = true
   ·subst c16
    have H1 : (some false) = some r := by rw [if_pos rfl] at H; exact H
    clear H
    have H := H1
    clear H1
    obtain rfl := Option.some.inj H
    go_wp2
    go_ret
    exact ⟨by first | rfl | (simp [errW_none, errW_some] <;> rfl) | (simp [*, errW_none, errW_some] <;> rfl), by repeat (first | (with_reducible first | exact HB.out | apply bL | apply bP | apply bW | refine bS ?_ GE124.out) | exact HB.out)⟩
   ·replace c16 := Bool.eq_false_iff.mpr c16
    subst c16
    have H1 : ((tourbillonref08_within.f a0_3 0 50).bind fun t128 => (if t128 = true then ((tourbillonref08_within.f a0_4 0 50).bind fun t129 => (if t129 = true then ((tourbillonref08_within.f a0_5 0 50).bind fun t130 => (if t130 = true then ((tourbillonref08_within.f a0_6 1 50).bind fun t131 => (if t131 = true then ((tourbillonref08_within.f a0_7 0 8).bind fun t132 => (if t132 = true then ((tourbillonref08_within.f (l0_8.length : Int) 1 24).bind fun t133 => (some t133)) else (some false))) else (some false))) else (some false))) else (some false))) else (some false))) = some r := by rw [if_neg (show ¬ (false = true) by decide)] at H; exact H
    clear H
    have H := H1
    clear H1
    replace H := Option.bind_eq_some_iff.mp H
    obtain ⟨t128, A170, H⟩ := H
    replace H : (if t128 = true then ((tourbillonref08_within.f a0_4 0 50).bind fun t129 => (if t129 = true then ((tourbillonref08_within.f a0_5 0 50).bind fun t130 => (if t130 = true then ((tourbillonref08_within.f a0_6 1 50).bind fun t131 => (if t131 = true then ((tourbillonref08_within.f a0_7 0 8).bind fun t132 => (if t132 = true then ((tourbillonref08_within.f (l0_8.length : Int) 1 24).bind fun t133 => (some t133)) else (some false))) else (some false))) else (some false))) else (some false))) else (some false)) = some r := H
    have A17 := Aside0.mk A170
    clear A170
    by_cases c18 : t128 = true
    ·subst c18
     have H1 : ((tourbillonref08_within.f a0_4 0 50).bind fun t129 => (if t129 = true then ((tourbillonref08_within.f a0_5 0 50).bind fun t130 => (if t130 = true then ((tourbillonref08_within.f a0_6 1 50).bind fun t131 => (if t131 = true then ((tourbillonref08_within.f a0_7 0 8).bind fun t132 => (if t132 = true then ((tourbillonref08_within.f (l0_8.length : Int) 1 24).bind fun t133 => (some t133)) else (some false))) else (some false))) else (some false))) else (some false))) = some r := by rw [if_pos rfl] at H; exact H
     clear H
     have H := H1
     clear H1
     replace H := Option.bind_eq_some_iff.mp H
     obtain ⟨t129, A190, H⟩ := H
     replace H : (if t129 = true then ((tourbillonref08_within.f a0_5 0 50).bind fun t130 => (if t130 = true then ((tourbillonref08_within.f a0_6 1 50).bind fun t131 => (if t131 = true then ((tourbillonref08_within.f a0_7 0 8).bind fun t132 => (if t132 = true then ((tourbillonref08_within.f (l0_8.length : Int) 1 24).bind fun t133 => (some t133)) else (some false))) else (some false))) else (some false))) else (some false)) = some r := H
     have A19 := Aside0.mk A190
     clear A190
     by_cases c20 : t129 = true
     ·subst c20
      have H1 : ((tourbillonref08_within.f a0_5 0 50).bind fun t130 => (if t130 = true then ((tourbillonref08_within.f a0_6 1 50).bind fun t131 => (if t131 = true then ((tourbillonref08_within.f a0_7 0 8).bind fun t132 => (if t132 = true then ((tourbillonref08_within.f (l0_8.length : Int) 1 24).bind fun t133 => (some t133)) else (some false))) else (some false))) else (some false))) = some r := by rw [if_pos rfl] at H; exact H
      clear H
      have H := H1
      clear H1
      replace H := Option.bind_eq_some_iff.mp H
      obtain ⟨t130, A210, H⟩ := H
      replace H : (if t130 = true then ((tourbillonref08_within.f a0_6 1 50).bind fun t131 => (if t131 = true then ((tourbillonref08_within.f a0_7 0 8).bind fun t132 => (if t132 = true then ((tourbillonref08_within.f (l0_8.length : Int) 1 24).bind fun t133 => (some t133)) else (some false))) else (some false))) else (some false)) = some r := H
      have A21 := Aside0.mk A210
      clear A210
      by_cases c22 : t130 = true
      ·subst c22
       have H1 : ((tourbillonref08_within.f a0_6 1 50).bind fun t131 => (if t131 = true then ((tourbillonref08_within.f a0_7 0 8).bind fun t132 => (if t132 = true then ((tourbillonref08_within.f (l0_8.length : Int) 1 24).bind fun t133 => (some t133)) else (some false))) else (some false))) = some r := by rw [if_pos rfl] at H; exact H
       clear H
       have H := H1
       clear H1
       replace H := Option.bind_eq_some_iff.mp H
       obtain ⟨t131, A230, H⟩ := H
       replace H : (if t131 = true then ((tourbillonref08_within.f a0_7 0 8).bind fun t132 => (if t132 = true then ((tourbillonref08_within.f (l0_8.length : Int) 1 24).bind fun t133 => (some t133)) else (some false))) else (some false)) = some r := H
       have A23 := Aside0.mk A230
       clear A230
       by_cases c24 : t131 = true
       ·subst c24
        have H1 : ((tourbillonref08_within.f a0_7 0 8).bind fun t132 => (if t132 = true then ((tourbillonref08_within.f (l0_8.length : Int) 1 24).bind fun t133 => (some t133)) else (some false))) = some r := by rw [if_pos rfl] at H; exact H
        clear H
        have H := H1
        clear H1
        replace H := Option.bind_eq_some_iff.mp H
        obtain ⟨t132, A250, H⟩ := H
        replace H : (if t132 = true then ((tourbillonref08_within.f (l0_8.length : Int) 1 24).bind fun t133 => (some t133)) else (some false)) = some r := H
        have A25 := Aside0.mk A250
        clear A250
        by_cases c26 : t132 = true
        ·subst c26
         have H1 : ((tourbillonref08_within.f (l0_8.length : Int) 1 24).bind fun t133 => (some t133)) = some r := by rw [if_pos rfl] at H; exact H
         clear H
         have H := H1
         clear H1
         replace H := Option.bind_eq_some_iff.mp H
         obtain ⟨t133, A270, H⟩ := H
         replace H : (some t133) = some r := H
         have A27 := Aside0.mk A270
         clear A270
         obtain rfl := Option.some.inj H
         have hcz28_0 : wc.cell? ⟨gb124, 0, none⟩ = some (.int .i64 a0_0) := (bC BK124.out 0).trans rfl
         have hcz28_1 : wc.cell? ⟨gb124, 1, none⟩ = some (.int .i64 a0_1) := (bC BK124.out 1).trans rfl
         have hcz28_2 : wc.cell? ⟨gb124, 2, none⟩ = some (.int .i64 a0_2) := (bC BK124.out 2).trans rfl
         have hcz28_3 : wc.cell? ⟨gb124, 3, none⟩ = some (.int .i64 a0_3) := (bC BK124.out 3).trans rfl
         have hcz28_4 : wc.cell? ⟨gb124, 4, none⟩ = some (.int .i64 a0_4) := (bC BK124.out 4).trans rfl
         have hcz28_5 : wc.cell? ⟨gb124, 5, none⟩ = some (.int .i64 a0_5) := (bC BK124.out 5).trans rfl
         have hcz28_6 : wc.cell? ⟨gb124, 6, none⟩ = some (.int .i64 a0_6) := (bC BK124.out 6).trans rfl
         have hcz28_7 : wc.cell? ⟨gb124, 7, none⟩ = some (.int .i64 a0_7) := (bC BK124.out 7).trans rfl
         have hcz28_8 : wc.cell? ⟨gb124, 8, none⟩ = some (.slice A0_8 l0_8.length c0_8) := (bC BK124.out 8).trans rfl
         have hfz28_0 := bF BK124.out 0
         have hfz28_1 := bF BK124.out 1
         have hfz28_2 := bF BK124.out 2
         have hfz28_3 := bF BK124.out 3
         have hfz28_4 := bF BK124.out 4
         have hfz28_5 := bF BK124.out 5
         have hfz28_6 := bF BK124.out 6
         have hfz28_7 := bF BK124.out 7
         have hfz28_8 := bF BK124.out 8
         go_wp2_with (first | ((with_reducible refine gate_callee (f := 15) rfl ?_); refine goesL_ (some 31) rfl rfl Try.func15 (by kernel_rfl) rfl #[.int .i64 a0_3, .int .i64 0, .int .i64 50] rfl (by (try simp only [List.map_toArray, List.map_cons, List.map_nil]); first | done | rfl | (simp only [List.length_drop, List.length_take]; rfl)) ?_; (with_reducible refine (tourbillonref08_within.calls a0_3 0 50 true _ A17.out).mono ?_); rintro e w' ⟨rfl, ⟨nd, rfl⟩⟩; refine ⟨_, rfl, ?_⟩) | (go_at_call 15; (with_reducible refine (tourbillonref08_within.calls a0_4 0 50 true _ A19.out).mono ?_); rintro e w' ⟨rfl, ⟨nd, rfl⟩⟩) | (go_at_call 15; (with_reducible refine (tourbillonref08_within.calls a0_5 0 50 true _ A21.out).mono ?_); rintro e w' ⟨rfl, ⟨nd, rfl⟩⟩) | (go_at_call 15; (with_reducible refine (tourbillonref08_within.calls a0_6 1 50 true _ A23.out).mono ?_); rintro e w' ⟨rfl, ⟨nd, rfl⟩⟩) | (go_at_call 15; (with_reducible refine (tourbillonref08_within.calls a0_7 0 8 true _ A25.out).mono ?_); rintro e w' ⟨rfl, ⟨nd, rfl⟩⟩) | (go_at_call 15; (with_reducible refine (tourbillonref08_within.calls (l0_8.length : Int) 1 24 t133 _ A27.out).mono ?_); rintro e w' ⟨rfl, ⟨nd, rfl⟩⟩))
         go_ret
         exact ⟨by first | rfl | (simp [errW_none, errW_some] <;> rfl) | (simp [*, errW_none, errW_some] <;> rfl), by repeat (first | (with_reducible first | exact HB.out | apply bL | apply bP | apply bW | refine bS ?_ GE124.out) | exact HB.out)⟩
        ·replace c26 := Bool.eq_false_iff.mpr c26
         subst c26
         have H1 : (some false) = some r := by rw [if_neg (show ¬ (false = true) by decide)] at H; exact H
         clear H
         have H := H1
         clear H1
         obtain rfl := Option.some.inj H
         have hcz29_0 : wc.cell? ⟨gb124, 0, none⟩ = some (.int .i64 a0_0) := (bC BK124.out 0).trans rfl
         have hcz29_1 : wc.cell? ⟨gb124, 1, none⟩ = some (.int .i64 a0_1) := (bC BK124.out 1).trans rfl
         have hcz29_2 : wc.cell? ⟨gb124, 2, none⟩ = some (.int .i64 a0_2) := (bC BK124.out 2).trans rfl
         have hcz29_3 : wc.cell? ⟨gb124, 3, none⟩ = some (.int .i64 a0_3) := (bC BK124.out 3).trans rfl
         have hcz29_4 : wc.cell? ⟨gb124, 4, none⟩ = some (.int .i64 a0_4) := (bC BK124.out 4).trans rfl
         have hcz29_5 : wc.cell? ⟨gb124, 5, none⟩ = some (.int .i64 a0_5) := (bC BK124.out 5).trans rfl
         have hcz29_6 : wc.cell? ⟨gb124, 6, none⟩ = some (.int .i64 a0_6) := (bC BK124.out 6).trans rfl
         have hcz29_7 : wc.cell? ⟨gb124, 7, none⟩ = some (.int .i64 a0_7) := (bC BK124.out 7).trans rfl
         have hcz29_8 : wc.cell? ⟨gb124, 8, none⟩ = some (.slice A0_8 l0_8.length c0_8) := (bC BK124.out 8).trans rfl
         have hfz29_0 := bF BK124.out 0
         have hfz29_1 := bF BK124.out 1
         have hfz29_2 := bF BK124.out 2
         have hfz29_3 := bF BK124.out 3
         have hfz29_4 := bF BK124.out 4
         have hfz29_5 := bF BK124.out 5
         have hfz29_6 := bF BK124.out 6
         have hfz29_7 := bF BK124.out 7
         have hfz29_8 := bF BK124.out 8
         go_wp2_with (first | ((with_reducible refine gate_callee (f := 15) rfl ?_); refine goesL_ (some 31) rfl rfl Try.func15 (by kernel_rfl) rfl #[.int .i64 a0_3, .int .i64 0, .int .i64 50] rfl (by (try simp only [List.map_toArray, List.map_cons, List.map_nil]); first | done | rfl | (simp only [List.length_drop, List.length_take]; rfl)) ?_; (with_reducible refine (tourbillonref08_within.calls a0_3 0 50 true _ A17.out).mono ?_); rintro e w' ⟨rfl, ⟨nd, rfl⟩⟩; refine ⟨_, rfl, ?_⟩) | (go_at_call 15; (with_reducible refine (tourbillonref08_within.calls a0_4 0 50 true _ A19.out).mono ?_); rintro e w' ⟨rfl, ⟨nd, rfl⟩⟩) | (go_at_call 15; (with_reducible refine (tourbillonref08_within.calls a0_5 0 50 true _ A21.out).mono ?_); rintro e w' ⟨rfl, ⟨nd, rfl⟩⟩) | (go_at_call 15; (with_reducible refine (tourbillonref08_within.calls a0_6 1 50 true _ A23.out).mono ?_); rintro e w' ⟨rfl, ⟨nd, rfl⟩⟩) | (go_at_call 15; (with_reducible refine (tourbillonref08_within.calls a0_7 0 8 false _ A25.out).mono ?_); rintro e w' ⟨rfl, ⟨nd, rfl⟩⟩))
         go_ret
         exact ⟨by first | rfl | (simp [errW_none, errW_some] <;> rfl) | (simp [*, errW_none, errW_some] <;> rfl), by repeat (first | (with_reducible first | exact HB.out | apply bL | apply bP | apply bW | refine bS ?_ GE124.out) | exact HB.out)⟩
       ·replace c24 := Bool.eq_false_iff.mpr c24
        subst c24
        have H1 : (some false) = some r := by rw [if_neg (show ¬ (false = true) by decide)] at H; exact H
        clear H
        have H := H1
        clear H1
        obtain rfl := Option.some.inj H
        have hcz30_0 : wc.cell? ⟨gb124, 0, none⟩ = some (.int .i64 a0_0) := (bC BK124.out 0).trans rfl
        have hcz30_1 : wc.cell? ⟨gb124, 1, none⟩ = some (.int .i64 a0_1) := (bC BK124.out 1).trans rfl
        have hcz30_2 : wc.cell? ⟨gb124, 2, none⟩ = some (.int .i64 a0_2) := (bC BK124.out 2).trans rfl
        have hcz30_3 : wc.cell? ⟨gb124, 3, none⟩ = some (.int .i64 a0_3) := (bC BK124.out 3).trans rfl
        have hcz30_4 : wc.cell? ⟨gb124, 4, none⟩ = some (.int .i64 a0_4) := (bC BK124.out 4).trans rfl
        have hcz30_5 : wc.cell? ⟨gb124, 5, none⟩ = some (.int .i64 a0_5) := (bC BK124.out 5).trans rfl
        have hcz30_6 : wc.cell? ⟨gb124, 6, none⟩ = some (.int .i64 a0_6) := (bC BK124.out 6).trans rfl
        have hcz30_7 : wc.cell? ⟨gb124, 7, none⟩ = some (.int .i64 a0_7) := (bC BK124.out 7).trans rfl
        have hcz30_8 : wc.cell? ⟨gb124, 8, none⟩ = some (.slice A0_8 l0_8.length c0_8) := (bC BK124.out 8).trans rfl
        have hfz30_0 := bF BK124.out 0
        have hfz30_1 := bF BK124.out 1
        have hfz30_2 := bF BK124.out 2
        have hfz30_3 := bF BK124.out 3
        have hfz30_4 := bF BK124.out 4
        have hfz30_5 := bF BK124.out 5
        have hfz30_6 := bF BK124.out 6
        have hfz30_7 := bF BK124.out 7
        have hfz30_8 := bF BK124.out 8
        go_wp2_with (first | ((with_reducible refine gate_callee (f := 15) rfl ?_); refine goesL_ (some 31) rfl rfl Try.func15 (by kernel_rfl) rfl #[.int .i64 a0_3, .int .i64 0, .int .i64 50] rfl (by (try simp only [List.map_toArray, List.map_cons, List.map_nil]); first | done | rfl | (simp only [List.length_drop, List.length_take]; rfl)) ?_; (with_reducible refine (tourbillonref08_within.calls a0_3 0 50 true _ A17.out).mono ?_); rintro e w' ⟨rfl, ⟨nd, rfl⟩⟩; refine ⟨_, rfl, ?_⟩) | (go_at_call 15; (with_reducible refine (tourbillonref08_within.calls a0_4 0 50 true _ A19.out).mono ?_); rintro e w' ⟨rfl, ⟨nd, rfl⟩⟩) | (go_at_call 15; (with_reducible refine (tourbillonref08_within.calls a0_5 0 50 true _ A21.out).mono ?_); rintro e w' ⟨rfl, ⟨nd, rfl⟩⟩) | (go_at_call 15; (with_reducible refine (tourbillonref08_within.calls a0_6 1 50 false _ A23.out).mono ?_); rintro e w' ⟨rfl, ⟨nd, rfl⟩⟩))
        go_ret
        exact ⟨by first | rfl | (simp [errW_none, errW_some] <;> rfl) | (simp [*, errW_none, errW_some] <;> rfl), by repeat (first | (with_reducible first | exact HB.out | apply bL | apply bP | apply bW | refine bS ?_ GE124.out) | exact HB.out)⟩
      ·replace c22 := Bool.eq_false_iff.mpr c22
       subst c22
       have H1 : (some false) = some r := by rw [if_neg (show ¬ (false = true) by decide)] at H; exact H
       clear H
       have H := H1
       clear H1
       obtain rfl := Option.some.inj H
       have hcz31_0 : wc.cell? ⟨gb124, 0, none⟩ = some (.int .i64 a0_0) := (bC BK124.out 0).trans rfl
       have hcz31_1 : wc.cell? ⟨gb124, 1, none⟩ = some (.int .i64 a0_1) := (bC BK124.out 1).trans rfl
       have hcz31_2 : wc.cell? ⟨gb124, 2, none⟩ = some (.int .i64 a0_2) := (bC BK124.out 2).trans rfl
       have hcz31_3 : wc.cell? ⟨gb124, 3, none⟩ = some (.int .i64 a0_3) := (bC BK124.out 3).trans rfl
       have hcz31_4 : wc.cell? ⟨gb124, 4, none⟩ = some (.int .i64 a0_4) := (bC BK124.out 4).trans rfl
       have hcz31_5 : wc.cell? ⟨gb124, 5, none⟩ = some (.int .i64 a0_5) := (bC BK124.out 5).trans rfl
       have hcz31_6 : wc.cell? ⟨gb124, 6, none⟩ = some (.int .i64 a0_6) := (bC BK124.out 6).trans rfl
       have hcz31_7 : wc.cell? ⟨gb124, 7, none⟩ = some (.int .i64 a0_7) := (bC BK124.out 7).trans rfl
       have hcz31_8 : wc.cell? ⟨gb124, 8, none⟩ = some (.slice A0_8 l0_8.length c0_8) := (bC BK124.out 8).trans rfl
       have hfz31_0 := bF BK124.out 0
       have hfz31_1 := bF BK124.out 1
       have hfz31_2 := bF BK124.out 2
       have hfz31_3 := bF BK124.out 3
       have hfz31_4 := bF BK124.out 4
       have hfz31_5 := bF BK124.out 5
       have hfz31_6 := bF BK124.out 6
       have hfz31_7 := bF BK124.out 7
       have hfz31_8 := bF BK124.out 8
       go_wp2_with (first | ((with_reducible refine gate_callee (f := 15) rfl ?_); refine goesL_ (some 31) rfl rfl Try.func15 (by kernel_rfl) rfl #[.int .i64 a0_3, .int .i64 0, .int .i64 50] rfl (by (try simp only [List.map_toArray, List.map_cons, List.map_nil]); first | done | rfl | (simp only [List.length_drop, List.length_take]; rfl)) ?_; (with_reducible refine (tourbillonref08_within.calls a0_3 0 50 true _ A17.out).mono ?_); rintro e w' ⟨rfl, ⟨nd, rfl⟩⟩; refine ⟨_, rfl, ?_⟩) | (go_at_call 15; (with_reducible refine (tourbillonref08_within.calls a0_4 0 50 true _ A19.out).mono ?_); rintro e w' ⟨rfl, ⟨nd, rfl⟩⟩) | (go_at_call 15; (with_reducible refine (tourbillonref08_within.calls a0_5 0 50 false _ A21.out).mono ?_); rintro e w' ⟨rfl, ⟨nd, rfl⟩⟩))
       go_ret
       exact ⟨by first | rfl | (simp [errW_none, errW_some] <;> rfl) | (simp [*, errW_none, errW_some] <;> rfl), by repeat (first | (with_reducible first | exact HB.out | apply bL | apply bP | apply bW | refine bS ?_ GE124.out) | exact HB.out)⟩
     ·replace c20 := Bool.eq_false_iff.mpr c20
      subst c20
      have H1 : (some false) = some r := by rw [if_neg (show ¬ (false = true) by decide)] at H; exact H
      clear H
      have H := H1
      clear H1
      obtain rfl := Option.some.inj H
      have hcz32_0 : wc.cell? ⟨gb124, 0, none⟩ = some (.int .i64 a0_0) := (bC BK124.out 0).trans rfl
      have hcz32_1 : wc.cell? ⟨gb124, 1, none⟩ = some (.int .i64 a0_1) := (bC BK124.out 1).trans rfl
      have hcz32_2 : wc.cell? ⟨gb124, 2, none⟩ = some (.int .i64 a0_2) := (bC BK124.out 2).trans rfl
      have hcz32_3 : wc.cell? ⟨gb124, 3, none⟩ = some (.int .i64 a0_3) := (bC BK124.out 3).trans rfl
      have hcz32_4 : wc.cell? ⟨gb124, 4, none⟩ = some (.int .i64 a0_4) := (bC BK124.out 4).trans rfl
      have hcz32_5 : wc.cell? ⟨gb124, 5, none⟩ = some (.int .i64 a0_5) := (bC BK124.out 5).trans rfl
      have hcz32_6 : wc.cell? ⟨gb124, 6, none⟩ = some (.int .i64 a0_6) := (bC BK124.out 6).trans rfl
      have hcz32_7 : wc.cell? ⟨gb124, 7, none⟩ = some (.int .i64 a0_7) := (bC BK124.out 7).trans rfl
      have hcz32_8 : wc.cell? ⟨gb124, 8, none⟩ = some (.slice A0_8 l0_8.length c0_8) := (bC BK124.out 8).trans rfl
      have hfz32_0 := bF BK124.out 0
      have hfz32_1 := bF BK124.out 1
      have hfz32_2 := bF BK124.out 2
      have hfz32_3 := bF BK124.out 3
      have hfz32_4 := bF BK124.out 4
      have hfz32_5 := bF BK124.out 5
      have hfz32_6 := bF BK124.out 6
      have hfz32_7 := bF BK124.out 7
      have hfz32_8 := bF BK124.out 8
      go_wp2_with (first | ((with_reducible refine gate_callee (f := 15) rfl ?_); refine goesL_ (some 31) rfl rfl Try.func15 (by kernel_rfl) rfl #[.int .i64 a0_3, .int .i64 0, .int .i64 50] rfl (by (try simp only [List.map_toArray, List.map_cons, List.map_nil]); first | done | rfl | (simp only [List.length_drop, List.length_take]; rfl)) ?_; (with_reducible refine (tourbillonref08_within.calls a0_3 0 50 true _ A17.out).mono ?_); rintro e w' ⟨rfl, ⟨nd, rfl⟩⟩; refine ⟨_, rfl, ?_⟩) | (go_at_call 15; (with_reducible refine (tourbillonref08_within.calls a0_4 0 50 false _ A19.out).mono ?_); rintro e w' ⟨rfl, ⟨nd, rfl⟩⟩))
      go_ret
      exact ⟨by first | rfl | (simp [errW_none, errW_some] <;> rfl) | (simp [*, errW_none, errW_some] <;> rfl), by repeat (first | (with_reducible first | exact HB.out | apply bL | apply bP | apply bW | refine bS ?_ GE124.out) | exact HB.out)⟩
    ·replace c18 := Bool.eq_false_iff.mpr c18
     subst c18
     have H1 : (some false) = some r := by rw [if_neg (show ¬ (false = true) by decide)] at H; exact H
     clear H
     have H := H1
     clear H1
     obtain rfl := Option.some.inj H
     have hcz33_0 : wc.cell? ⟨gb124, 0, none⟩ = some (.int .i64 a0_0) := (bC BK124.out 0).trans rfl
     have hcz33_1 : wc.cell? ⟨gb124, 1, none⟩ = some (.int .i64 a0_1) := (bC BK124.out 1).trans rfl
     have hcz33_2 : wc.cell? ⟨gb124, 2, none⟩ = some (.int .i64 a0_2) := (bC BK124.out 2).trans rfl
     have hcz33_3 : wc.cell? ⟨gb124, 3, none⟩ = some (.int .i64 a0_3) := (bC BK124.out 3).trans rfl
     have hcz33_4 : wc.cell? ⟨gb124, 4, none⟩ = some (.int .i64 a0_4) := (bC BK124.out 4).trans rfl
     have hcz33_5 : wc.cell? ⟨gb124, 5, none⟩ = some (.int .i64 a0_5) := (bC BK124.out 5).trans rfl
     have hcz33_6 : wc.cell? ⟨gb124, 6, none⟩ = some (.int .i64 a0_6) := (bC BK124.out 6).trans rfl
     have hcz33_7 : wc.cell? ⟨gb124, 7, none⟩ = some (.int .i64 a0_7) := (bC BK124.out 7).trans rfl
     have hcz33_8 : wc.cell? ⟨gb124, 8, none⟩ = some (.slice A0_8 l0_8.length c0_8) := (bC BK124.out 8).trans rfl
     have hfz33_0 := bF BK124.out 0
     have hfz33_1 := bF BK124.out 1
     have hfz33_2 := bF BK124.out 2
     have hfz33_3 := bF BK124.out 3
     have hfz33_4 := bF BK124.out 4
     have hfz33_5 := bF BK124.out 5
     have hfz33_6 := bF BK124.out 6
     have hfz33_7 := bF BK124.out 7
     have hfz33_8 := bF BK124.out 8
     go_wp2_with (first | ((with_reducible refine gate_callee (f := 15) rfl ?_); refine goesL_ (some 31) rfl rfl Try.func15 (by kernel_rfl) rfl #[.int .i64 a0_3, .int .i64 0, .int .i64 50] rfl (by (try simp only [List.map_toArray, List.map_cons, List.map_nil]); first | done | rfl | (simp only [List.length_drop, List.length_take]; rfl)) ?_; (with_reducible refine (tourbillonref08_within.calls a0_3 0 50 false _ A17.out).mono ?_); rintro e w' ⟨rfl, ⟨nd, rfl⟩⟩; refine ⟨_, rfl, ?_⟩))
     go_ret
     exact ⟨by first | rfl | (simp [errW_none, errW_some] <;> rfl) | (simp [*, errW_none, errW_some] <;> rfl), by repeat (first | (with_reducible first | exact HB.out | apply bL | apply bP | apply bW | refine bS ?_ GE124.out) | exact HB.out)⟩

end Go.Proofs.Ytflnooigdbhpdaa.PA
