/- The law ResponseNothing: what it is that its code comes to, and the plain law, put together. Conditions: none. -/
import Derived.Test.YtmpccpcalijnpaaRows
import Derived.Test.YtmpccpcalijnpaaMRd
import Derived.Test.YtmpccpcalijnpaaPureResponseNothing
import Derived.WalkKit
import Derived.ProofKit
import Derived.OpenShut
import Derived.ShutString
import Derived.ChangeOld
import Derived.Below
import Derived.SizedLaws
namespace Go.Proofs.Ytmpccpcalijnpaa.responseNothing
open Go.ChangeShapes Go.WideShapes Go.ChangeAt Go.RowKit Go.Proofs.YtmpccpcalijnpaaM Go.Proofs.YtmpccpcalijnpaaX Go.Proofs.Ytmpccpcalijnpaa
open Go.ChangeMaps (open_string shut_string)
set_option linter.unusedVariables false
theorem own : ownKnob Try.prog.godebug = none := by kernel_rfl
theorem laidOut : laidOutB Try.prog = true := by kernel_rfl
theorem rdr33 : Rdr Try.prog 33 (.pair (.int .i64) (.pair (.int .i64) (.int .i64))) (fun x => ((Lit.int .i64 x.1).wf = true ∧ ((Lit.int .i64 x.2.1).wf = true ∧ (Lit.int .i64 x.2.2).wf = true))) (fun x => ((1 + (1 + 1)) + 1)) := Rdr.struct Try.underlying33 (by kernel_rfl) (Rdrs.cons rfl rfl (Rdr.int Try.underlying3 (by kernel_rfl)) (Rdrs.cons rfl rfl (Rdr.int Try.underlying3 (by kernel_rfl)) (Rdrs.one rfl rfl (Rdr.int Try.underlying3 (by kernel_rfl)))))
set_option maxRecDepth 100000 in
set_option maxHeartbeats 1000000 in
theorem lifted (os : Os) (started : os.Started) (H : Type) (enc : TypeId × Value → H) :
    ReturnsInHanded {} Try.checked os 8 .any (Rows.responseNothingSpec.pre6 enc Try.prog Try.f8 Rows.responseNothingRow.domain false) (Rows.responseNothingSpec.post enc Try.prog Try.f8 false true false false) := by
  refine returnsInHanded_of_change_sized (C := Try.checked) own started (by kernel_rfl) Try.func8
    (ChangeSpec.witness6 (enc := enc) (C := Try.checked) false ⟨#[], #[.int .i64 0, .int .i64 0, .slice none 0 0, .slice none 0 0, .int .i64 0, .int .i64 0], []⟩ 8 (by kernel_rfl) (by kernel_rfl) (by kernel_rfl) (by kernel_rfl)) ?_
  intro W base args ds gs before hval0 hW hcnd hsz0 _
  have hsz : (DataW.weightsEach Try.prog (Try.f8.params.toList ++ Rows.responseNothingSpec.plain.varTypes Try.prog) (ds ++ gs)).all (· ≤ reachBytes) = true := hsz0
  have hval : ∀ (j : Nat) t v, Try.f8.params[j]? = some t → args[j]? = some v → Value.okWide Try.prog W .any base t v := hval0
  have hW' := hW
  obtain ⟨p, q, hA0, hV, rfl, hfz, hnd⟩ := hW
  have hA : DataW.TrodAll enc Try.prog W 0 (fun _ => true) true Try.f8.params.toList args.toList ds p := hA0
  rw [Try.params8] at hA hval hsz
  obtain ⟨v0, vs0, d0, ds0, p0, q0, hargs, rfl, rfl, h0, r0⟩ := trodAll_cons hA
  obtain ⟨v1, vs1, d1, ds1, p1, q1, rfl, rfl, rfl, h1, r1⟩ := trodAll_cons r0
  obtain ⟨v2, vs2, d2, ds2, p2, q2, rfl, rfl, rfl, h2, r2⟩ := trodAll_cons r1
  obtain ⟨v3, vs3, d3, ds3, p3, q3, rfl, rfl, rfl, h3, r3⟩ := trodAll_cons r2
  obtain ⟨v4, vs4, d4, ds4, p4, q4, rfl, rfl, rfl, h4, r4⟩ := trodAll_cons r3
  obtain ⟨v5, vs5, d5, ds5, p5, q5, rfl, rfl, rfl, h5, r5⟩ := trodAll_cons r4
  obtain ⟨rfl, rfl, rfl⟩ := trodAll_nil r5
  obtain rfl : args = #[v0, v1, v2, v3, v4, v5] := by cases args; simp_all
  obtain ⟨rfl, rfl⟩ := trodVars_none hV
  have lt0 : ∀ x ∈ p0, x.block < W.heap.size := by have k := h0; obtain ⟨m, hm⟩ := k; exact DataW.trod_lt m _ _ _ hm
  obtain ⟨y0, V0, G0, B0⟩ := ((Rdr.int Try.underlying3 (by kernel_rfl))).arg_one (one_int Try.underlying3 (hval 0 3 v0 rfl rfl)) h0 (weights_of hsz (j := 0) rfl rfl)
  have lt1 : ∀ x ∈ p1, x.block < W.heap.size := by have k := h1; obtain ⟨m, hm⟩ := k; exact DataW.trod_lt m _ _ _ hm
  obtain ⟨y1, V1, G1, B1⟩ := ((Rdr.int Try.underlying3 (by kernel_rfl))).arg_one (one_int Try.underlying3 (hval 1 3 v1 rfl rfl)) h1 (weights_of hsz (j := 1) rfl rfl)
  have lt2 : ∀ x ∈ p2, x.block < W.heap.size := by have k := h2; obtain ⟨m, hm⟩ := k; exact DataW.trod_lt m _ _ _ hm
  obtain ⟨y2, V2, G2, B2⟩ := ((Rdr.slice (B := 24) Try.underlying22 (by kernel_rfl) (by kernel_rfl) (by decide) rdr33)).arg_one (one_slice Try.underlying22 (hval 2 22 v2 rfl rfl)) h2 (weights_of hsz (j := 2) rfl rfl)
  have lt3 : ∀ x ∈ p3, x.block < W.heap.size := by have k := h3; obtain ⟨m, hm⟩ := k; exact DataW.trod_lt m _ _ _ hm
  obtain ⟨y3, V3, G3, B3⟩ := ((Rdr.slice (B := 24) Try.underlying22 (by kernel_rfl) (by kernel_rfl) (by decide) rdr33)).arg_one (one_slice Try.underlying22 (hval 3 22 v3 rfl rfl)) h3 (weights_of hsz (j := 3) rfl rfl)
  have lt4 : ∀ x ∈ p4, x.block < W.heap.size := by have k := h4; obtain ⟨m, hm⟩ := k; exact DataW.trod_lt m _ _ _ hm
  obtain ⟨y4, V4, G4, B4⟩ := ((Rdr.int Try.underlying3 (by kernel_rfl))).arg_one (one_int Try.underlying3 (hval 4 3 v4 rfl rfl)) h4 (weights_of hsz (j := 4) rfl rfl)
  have lt5 : ∀ x ∈ p5, x.block < W.heap.size := by have k := h5; obtain ⟨m, hm⟩ := k; exact DataW.trod_lt m _ _ _ hm
  obtain ⟨y5, V5, G5, B5⟩ := ((Rdr.int Try.underlying3 (by kernel_rfl))).arg_one (one_int Try.underlying3 (hval 5 3 v5 rfl rfl)) h5 (weights_of hsz (j := 5) rfl rfl)
  clear hA0 hval0 hsz0 hsz
  obtain ⟨N, h⟩ := Pure.ResponseNothing y0 y1 y2 y3 y4 y5 G0 G1 G2 G3 G4 G5
  have ok := ok_ResponseNothing_8 N
  unfold sp_ResponseNothing_8 at ok
  generalize ResponseNothing_8 N = fn at ok h
  refine (ok.calls (A := fun _ => False) (fun _ h => h.elim) (args := [.one (.int .i64 y0), .one (.int .i64 y1), .one (.ro (.pair (.int .i64) (.pair (.int .i64) (.int .i64))) y2), .one (.ro (.pair (.int .i64) (.pair (.int .i64) (.int .i64))) y3), .one (.int .i64 y4), .one (.int .i64 y5)]) (x := ((true, ()), ())) (specOf_imp (x := ((y0, y1, y2, y3, y4, y5, ()), ())) (by kernel_rfl) h) (fun j => (All2.cons (V0 _ rfl j) (All2.cons (V1 _ rfl j) (All2.cons (V2 _ rfl j) (All2.cons (V3 _ rfl j) (All2.cons (V4 _ rfl j) (All2.cons (V5 _ rfl j) All2.nil)))))))).mono fun e W' hp => ?_
  obtain ⟨V, j', N', he, bel, hr⟩ := hp
  obtain rfl := bool_rel0 hr
  subst he
  exact ⟨_, rfl, _, _, _, [], _, [], hW', trodAll_mk1 (shut_bool Try.underlying4 _), (trodAll_cons_mk (Below.trod laidOut (by kernel_rfl) (of_decide_eq_true (by kernel_rfl)) h0 bel lt0) (trodAll_cons_mk (Below.trod laidOut (by kernel_rfl) (of_decide_eq_true (by kernel_rfl)) h1 bel lt1) (trodAll_cons_mk (Below.trod laidOut (by kernel_rfl) (of_decide_eq_true (by kernel_rfl)) h2 bel lt2) (trodAll_cons_mk (Below.trod laidOut (by kernel_rfl) (of_decide_eq_true (by kernel_rfl)) h3 bel lt3) (trodAll_cons_mk (Below.trod laidOut (by kernel_rfl) (of_decide_eq_true (by kernel_rfl)) h4 bel lt4) (trodAll_cons_mk (Below.trod laidOut (by kernel_rfl) (of_decide_eq_true (by kernel_rfl)) h5 bel lt5) trodAll_mk0)))))), rfl, bel.frame _, fun h => by cases h⟩
theorem over : Rows.responseNothingRow.holds Try.pinned (OpenSpec.ofChange Rows.responseNothingSpec) :=
  OpenClaim.holds_of_wide 8 Try.f8 rfl rfl rfl rfl rfl rfl rfl ⟨rfl, rfl, rfl, rfl, rfl⟩ rfl rfl rfl rfl rfl (by kernel_rfl) Try.func8 (by kernel_rfl)
    (of_decide_eq_true (by kernel_rfl)) (by unfold Func.isWrapper; first | (rw [if_pos (by decide +kernel)]; kernel_rfl) | (rw [if_neg (by decide +kernel)]; exact ⟨rfl, rfl⟩))
    (fun os started H enc _ => lifted os started H enc)
theorem proved : Rows.ResponseNothingSaid := over
#print axioms proved
end Go.Proofs.Ytmpccpcalijnpaa.responseNothing
namespace Go.Proofs.Ytmpccpcalijnpaa
/-- The row, under a short name, for the claim. -/
theorem responseNothing_holds : Rows.ResponseNothingSaid := responseNothing.proved
end Go.Proofs.Ytmpccpcalijnpaa
