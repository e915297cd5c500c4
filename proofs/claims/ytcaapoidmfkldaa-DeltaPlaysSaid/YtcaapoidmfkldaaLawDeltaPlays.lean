/- The law DeltaPlays: what it is that its code comes to, and the plain law, put together. Conditions: none. -/
import Derived.Test.YtcaapoidmfkldaaRows
import Derived.Test.YtcaapoidmfkldaaMRd
import Derived.Test.YtcaapoidmfkldaaPureDeltaPlays
import Derived.WalkKit
import Derived.ProofKit
import Derived.OpenShut
import Derived.ShutString
import Derived.ChangeOld
import Derived.Below
import Derived.SizedLaws
namespace Go.Proofs.Ytcaapoidmfkldaa.deltaPlays
open Go.ChangeShapes Go.WideShapes Go.ChangeAt Go.RowKit Go.Proofs.YtcaapoidmfkldaaM Go.Proofs.YtcaapoidmfkldaaX Go.Proofs.Ytcaapoidmfkldaa
open Go.ChangeMaps (open_string shut_string)
set_option linter.unusedVariables false
set_option linter.unusedSimpArgs false
theorem own : ownKnob Try.prog.godebug = none := by kernel_rfl
theorem laidOut : laidOutB Try.prog = true := by kernel_rfl
theorem rdr43 : Rdr Try.prog 43 (.pair (.int .i64) (.pair (.int .i64) (.int .i64))) (fun x => ((Lit.int .i64 x.1).wf = true ∧ ((Lit.int .i64 x.2.1).wf = true ∧ (Lit.int .i64 x.2.2).wf = true))) (fun x => ((1 + (1 + 1)) + 1)) := Rdr.struct Try.underlying43 (by kernel_rfl) (Rdrs.cons rfl rfl (Rdr.int Try.underlying3 (by kernel_rfl)) (Rdrs.cons rfl rfl (Rdr.int Try.underlying3 (by kernel_rfl)) (Rdrs.one rfl rfl (Rdr.int Try.underlying3 (by kernel_rfl)))))
set_option maxRecDepth 100000 in
set_option maxHeartbeats 1000000 in
theorem lifted (os : Os) (started : os.Started) (H : Type) (enc : TypeId × Value → H) :
    ReturnsInHanded {} Try.checked os 5 .any (Rows.deltaPlaysSpec.pre6 enc Try.prog Try.f5 Rows.deltaPlaysRow.domain false) (Rows.deltaPlaysSpec.post enc Try.prog Try.f5 false true false false) := by
  refine returnsInHanded_of_change_sized (C := Try.checked) own started (by kernel_rfl) Try.func5
    (ChangeSpec.witness6 (enc := enc) (C := Try.checked) false ⟨#[], #[.int .i64 0, .slice none 0 0], []⟩ 8 (by kernel_rfl) (by kernel_rfl) (by kernel_rfl) (by kernel_rfl)) ?_
  intro W base args ds gs before hval0 hW hcnd hsz0 _
  have hsz : (DataW.weightsEach Try.prog (Try.f5.params.toList ++ Rows.deltaPlaysSpec.plain.varTypes Try.prog) (ds ++ gs)).all (· ≤ reachBytes) = true := hsz0
  have hval : ∀ (j : Nat) t v, Try.f5.params[j]? = some t → args[j]? = some v → Value.okWide Try.prog W .any base t v := hval0
  have hW' := hW
  obtain ⟨p, q, hA0, hV, rfl, hfz, hnd⟩ := hW
  have hA : DataW.TrodAll enc Try.prog W 0 (fun _ => true) true Try.f5.params.toList args.toList ds p := hA0
  rw [Try.params5] at hA hval hsz
  obtain ⟨v0, vs0, d0, ds0, p0, q0, hargs, rfl, rfl, h0, r0⟩ := trodAll_cons hA
  obtain ⟨v1, vs1, d1, ds1, p1, q1, rfl, rfl, rfl, h1, r1⟩ := trodAll_cons r0
  obtain ⟨rfl, rfl, rfl⟩ := trodAll_nil r1
  obtain rfl : args = #[v0, v1] := by cases args; simp_all
  obtain ⟨rfl, rfl⟩ := trodVars_none hV
  have lt0 : ∀ x ∈ p0, x.block < W.heap.size := by have k := h0; obtain ⟨m, hm⟩ := k; exact DataW.trod_lt m _ _ _ hm
  obtain ⟨y0, V0, G0, B0⟩ := ((Rdr.int Try.underlying3 (by kernel_rfl))).arg_one (one_int Try.underlying3 (hval 0 3 v0 rfl rfl)) h0 (weights_of hsz (j := 0) rfl rfl)
  have lt1 : ∀ x ∈ p1, x.block < W.heap.size := by have k := h1; obtain ⟨m, hm⟩ := k; exact DataW.trod_lt m _ _ _ hm
  obtain ⟨y1, V1, G1, B1⟩ := ((Rdr.slice (B := 24) Try.underlying39 (by kernel_rfl) (by kernel_rfl) (by decide) rdr43)).arg_one (one_slice Try.underlying39 (hval 1 39 v1 rfl rfl)) h1 (weights_of hsz (j := 1) rfl rfl)
  clear hA0 hval0 hsz0 hsz
  obtain ⟨N, h⟩ := Pure.DeltaPlays y0 y1 G0 G1
  have ok := ok_DeltaPlays_5 N
  unfold sp_DeltaPlays_5 at ok
  generalize DeltaPlays_5 N = fn at ok h
  refine (ok.calls (A := fun _ => False) (fun _ h => h.elim) (args := [.one (.int .i64 y0), .one (.ro (.pair (.int .i64) (.pair (.int .i64) (.int .i64))) y1)]) (x := ((true, ()), ())) (specOf_imp (x := ((y0, y1, ()), ())) (by kernel_rfl) h) (fun j => (All2.cons (V0 _ rfl j) (All2.cons (V1 _ rfl j) All2.nil))) (hG := fun g h => absurd (h.symm.trans (show Try.prog.globals.findIdx? (fun x => x.name == "math/bits.deBruijn64tab") = none by kernel_rfl)) (by simp))).mono fun e W' hp => ?_
  obtain ⟨V, j', N', he, bel, hr⟩ := hp
  obtain rfl := bool_rel0 hr
  subst he
  exact ⟨_, rfl, _, _, _, [], _, [], hW', trodAll_mk1 (shut_bool Try.underlying4 _), (trodAll_cons_mk (Below.trod laidOut (by kernel_rfl) (of_decide_eq_true (by kernel_rfl)) h0 bel lt0) (trodAll_cons_mk (Below.trod laidOut (by kernel_rfl) (of_decide_eq_true (by kernel_rfl)) h1 bel lt1) trodAll_mk0)), rfl, bel.frame _, fun h => by cases h⟩
theorem over : Rows.deltaPlaysRow.holds Try.pinned (OpenSpec.ofChange Rows.deltaPlaysSpec) :=
  OpenClaim.holds_of_wide 5 Try.f5 rfl rfl rfl rfl rfl rfl rfl ⟨rfl, rfl, rfl, rfl, rfl⟩ rfl rfl rfl rfl rfl (by kernel_rfl) Try.func5 (by kernel_rfl)
    (of_decide_eq_true (by kernel_rfl)) (by unfold Func.isWrapper; first | (rw [if_pos (by decide +kernel)]; kernel_rfl) | (rw [if_neg (by decide +kernel)]; exact ⟨rfl, rfl⟩))
    (fun os started H enc _ => lifted os started H enc)
theorem proved : Rows.DeltaPlaysSaid := over
#print axioms proved
end Go.Proofs.Ytcaapoidmfkldaa.deltaPlays
namespace Go.Proofs.Ytcaapoidmfkldaa
/-- The row, under a short name, for the claim. -/
theorem deltaPlays_holds : Rows.DeltaPlaysSaid := deltaPlays.proved
end Go.Proofs.Ytcaapoidmfkldaa
