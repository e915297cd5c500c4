/- The law TasksetReads: what it is that its code comes to, and the plain law, put together. Conditions: none. -/
import Derived.Test.YtcdnofemnpafhaaRows
import Derived.Test.YtcdnofemnpafhaaMRd
import Derived.Test.YtcdnofemnpafhaaPureTasksetReads
import Derived.WalkKit
import Derived.ProofKit
import Derived.OpenShut
import Derived.ShutString
import Derived.ChangeOld
import Derived.Below
import Derived.SizedLaws
import Derived.JoinedCond
import Derived.Deep.CondSized
namespace Go.Proofs.Ytcdnofemnpafhaa.tasksetReads
open Go.ChangeShapes Go.WideShapes Go.ChangeAt Go.RowKit Go.Proofs.YtcdnofemnpafhaaM Go.Proofs.YtcdnofemnpafhaaX Go.Proofs.Ytcdnofemnpafhaa
open Go.ChangeMaps (open_string shut_string)
set_option linter.unusedVariables false
set_option linter.unusedSimpArgs false
theorem own : ownKnob Try.prog.godebug = none := by kernel_rfl
theorem laidOut : laidOutB Try.prog = true := by kernel_rfl
theorem rdr41 : Rdr Try.prog 41 (.pair (.int .i64) (.pair (.int .i64) (.int .i64))) (fun x => ((Lit.int .i64 x.1).wf = true ∧ ((Lit.int .i64 x.2.1).wf = true ∧ (Lit.int .i64 x.2.2).wf = true))) (fun x => ((1 + (1 + 1)) + 1)) := Rdr.struct Try.underlying41 (by kernel_rfl) (Rdrs.cons rfl rfl (Rdr.int Try.underlying3 (by kernel_rfl)) (Rdrs.cons rfl rfl (Rdr.int Try.underlying3 (by kernel_rfl)) (Rdrs.one rfl rfl (Rdr.int Try.underlying3 (by kernel_rfl)))))
theorem rdr39 : Rdr Try.prog 39 (.pair (.int .i64) (.pair (.int .i64) (.pair (.int .i64) (.ro (.pair (.int .i64) (.pair (.int .i64) (.int .i64))))))) (fun x => ((Lit.int .i64 x.1).wf = true ∧ ((Lit.int .i64 x.2.1).wf = true ∧ ((Lit.int .i64 x.2.2.1).wf = true ∧ (x.2.2.2.length * 24 ≤ 140737488351232 ∧ ∀ e0 ∈ x.2.2.2, ((Lit.int .i64 e0.1).wf = true ∧ ((Lit.int .i64 e0.2.1).wf = true ∧ (Lit.int .i64 e0.2.2).wf = true))))))) (fun x => ((1 + (1 + (1 + ((x.2.2.2.map (fun x => ((1 + (1 + 1)) + 1))).sum + 1)))) + 1)) := Rdr.struct Try.underlying39 (by kernel_rfl) (Rdrs.cons rfl rfl (Rdr.int Try.underlying3 (by kernel_rfl)) (Rdrs.cons rfl rfl (Rdr.int Try.underlying3 (by kernel_rfl)) (Rdrs.cons rfl rfl (Rdr.int Try.underlying3 (by kernel_rfl)) (Rdrs.one rfl rfl (Rdr.slice (B := 24) Try.underlying37 (by kernel_rfl) (by kernel_rfl) (by decide) rdr41)))))
theorem rdr24 : Rdr Try.prog 24 (.pair (.int .i64) (.pair (.int .i64) (.pair (.int .i64) (.pair (.int .i64) (.pair (.int .i64) (.pair (.int .i64) (.pair (.int .i64) (.pair (.int .i64) (.ro (.pair (.int .i64) (.pair (.int .i64) (.pair (.int .i64) (.ro (.pair (.int .i64) (.pair (.int .i64) (.int .i64)))))))))))))))) (fun x => ((Lit.int .i64 x.1).wf = true ∧ ((Lit.int .i64 x.2.1).wf = true ∧ ((Lit.int .i64 x.2.2.1).wf = true ∧ ((Lit.int .i64 x.2.2.2.1).wf = true ∧ ((Lit.int .i64 x.2.2.2.2.1).wf = true ∧ ((Lit.int .i64 x.2.2.2.2.2.1).wf = true ∧ ((Lit.int .i64 x.2.2.2.2.2.2.1).wf = true ∧ ((Lit.int .i64 x.2.2.2.2.2.2.2.1).wf = true ∧ (x.2.2.2.2.2.2.2.2.length * 48 ≤ 140737488351232 ∧ ∀ e0 ∈ x.2.2.2.2.2.2.2.2, ((Lit.int .i64 e0.1).wf = true ∧ ((Lit.int .i64 e0.2.1).wf = true ∧ ((Lit.int .i64 e0.2.2.1).wf = true ∧ (e0.2.2.2.length * 24 ≤ 140737488351232 ∧ ∀ e1 ∈ e0.2.2.2, ((Lit.int .i64 e1.1).wf = true ∧ ((Lit.int .i64 e1.2.1).wf = true ∧ (Lit.int .i64 e1.2.2).wf = true)))))))))))))))) (fun x => ((1 + (1 + (1 + (1 + (1 + (1 + (1 + (1 + ((x.2.2.2.2.2.2.2.2.map (fun x => ((1 + (1 + (1 + ((x.2.2.2.map (fun x => ((1 + (1 + 1)) + 1))).sum + 1)))) + 1))).sum + 1))))))))) + 1)) := Rdr.struct Try.underlying24 (by kernel_rfl) (Rdrs.cons rfl rfl (Rdr.int Try.underlying3 (by kernel_rfl)) (Rdrs.cons rfl rfl (Rdr.int Try.underlying3 (by kernel_rfl)) (Rdrs.cons rfl rfl (Rdr.int Try.underlying3 (by kernel_rfl)) (Rdrs.cons rfl rfl (Rdr.int Try.underlying3 (by kernel_rfl)) (Rdrs.cons rfl rfl (Rdr.int Try.underlying3 (by kernel_rfl)) (Rdrs.cons rfl rfl (Rdr.int Try.underlying3 (by kernel_rfl)) (Rdrs.cons rfl rfl (Rdr.int Try.underlying3 (by kernel_rfl)) (Rdrs.cons rfl rfl (Rdr.int Try.underlying3 (by kernel_rfl)) (Rdrs.one rfl rfl (Rdr.slice (B := 48) Try.underlying22 (by kernel_rfl) (by kernel_rfl) (by decide) rdr39))))))))))
set_option maxRecDepth 100000 in
set_option maxHeartbeats 1000000 in
theorem lifted (os : Os) (started : os.Started) (H : Type) (enc : TypeId × Value → H) (F : Stop.Interp) :
    ReturnsInHanded {} Try.checked os 4 .any ((Rows.OpenSpec.upto Rows.tasksetReadsSpec).pre6 enc Try.prog Try.f4 Rows.tasksetReadsUptoRow.domain false) (((Rows.OpenSpec.upto Rows.tasksetReadsSpec).at F).post enc Try.prog Try.f4 false true false false) := by
  refine returnsInHanded_of_cond_sized (C := Try.checked) (s := (Rows.OpenSpec.upto Rows.tasksetReadsSpec)) (k := Rows.uptoSmall) rfl own started (by kernel_rfl) Try.func4
    (OpenSpec.witness (enc := enc) (C := Try.checked) (s := (Rows.OpenSpec.upto Rows.tasksetReadsSpec)) (k := Rows.uptoSmall) rfl false ⟨#[], #[.string .empty, .agg #[.int .i64 0, .int .i64 0, .int .i64 0, .int .i64 0, .int .i64 0, .int .i64 0, .int .i64 0, .int .i64 0, .slice none 0 0], .agg #[.int .i64 0, .int .i64 0, .int .i64 0, .int .i64 0, .int .i64 0, .int .i64 0, .int .i64 0, .int .i64 0, .slice none 0 0]], []⟩ 8 (by kernel_rfl) (by kernel_rfl) (by kernel_rfl)
      (x := ([.lit (.string []), .agg [.lit (.int .i64 0), .lit (.int .i64 0), .lit (.int .i64 0), .lit (.int .i64 0), .lit (.int .i64 0), .lit (.int .i64 0), .lit (.int .i64 0), .lit (.int .i64 0), .nil], .agg [.lit (.int .i64 0), .lit (.int .i64 0), .lit (.int .i64 0), .lit (.int .i64 0), .lit (.int .i64 0), .lit (.int .i64 0), .lit (.int .i64 0), .lit (.int .i64 0), .nil]], [], [])) (by kernel_rfl) rfl (by kernel_rfl)) ?_
  intro W base args ds gs before hval0 hW hcnd hk0 hsz0 _
  have hsz : (DataW.weightsEach Try.prog (Try.f4.params.toList ++ Rows.tasksetReadsSpec.plain.varTypes Try.prog) (ds ++ gs)).all (· ≤ reachBytes) = true := hsz0
  have hval : ∀ (j : Nat) t v, Try.f4.params[j]? = some t → args[j]? = some v → Value.okWide Try.prog W .any base t v := hval0
  have hW' := hW
  obtain ⟨p, q, hA0, hV, rfl, hfz, hnd⟩ := hW
  have hA : DataW.TrodAll enc Try.prog W 0 (fun _ => true) true Try.f4.params.toList args.toList ds p := hA0
  rw [Try.params4] at hA hval hsz
  obtain ⟨v0, vs0, d0, ds0, p0, q0, hargs, rfl, rfl, h0, r0⟩ := trodAll_cons hA
  obtain ⟨v1, vs1, d1, ds1, p1, q1, rfl, rfl, rfl, h1, r1⟩ := trodAll_cons r0
  obtain ⟨v2, vs2, d2, ds2, p2, q2, rfl, rfl, rfl, h2, r2⟩ := trodAll_cons r1
  obtain ⟨rfl, rfl, rfl⟩ := trodAll_nil r2
  obtain rfl : args = #[v0, v1, v2] := by cases args; simp_all
  obtain ⟨rfl, rfl⟩ := trodVars_none hV
  have lt0 : ∀ x ∈ p0, x.block < W.heap.size := by have k := h0; obtain ⟨m, hm⟩ := k; exact DataW.trod_lt m _ _ _ hm
  obtain ⟨y0, V0, G0, B0⟩ := ((Rdr.string Try.underlying9 (by kernel_rfl))).arg_one (one_string Try.underlying9 (hval 0 9 v0 rfl rfl)) h0 (weights_of hsz (j := 0) rfl rfl)
  have lt1 : ∀ x ∈ p1, x.block < W.heap.size := by have k := h1; obtain ⟨m, hm⟩ := k; exact DataW.trod_lt m _ _ _ hm
  obtain ⟨y1, V1, G1, B1⟩ := (rdr24).arg_agg (okWide_agg (.inl ⟨_, Try.underlying24⟩) (hval 1 24 v1 rfl rfl)) h1 (weights_of hsz (j := 1) rfl rfl)
  have lt2 : ∀ x ∈ p2, x.block < W.heap.size := by have k := h2; obtain ⟨m, hm⟩ := k; exact DataW.trod_lt m _ _ _ hm
  obtain ⟨y2, V2, G2, B2⟩ := (rdr24).arg_agg (okWide_agg (.inl ⟨_, Try.underlying24⟩) (hval 2 24 v2 rfl rfl)) h2 (weights_of hsz (j := 2) rfl rfl)
  have hk1 : Rows.uptoBulkAll _ ≤ 1048576 := of_decide_eq_true hk0
  simp only [Rows.uptoBulkAll, List.cons_append, List.nil_append, List.append_nil] at hk1
  clear hA0 hval0 hsz0 hsz hk0
  obtain ⟨N, h⟩ := Pure.TasksetReads y0 y1 y2 G0 G1 G2 (Nat.le_trans (Nat.add_le_add (Nat.add_le_add B0 B1) B2) (by omega))
  have ok := ok_TasksetReads_4 N
  unfold sp_TasksetReads_4 at ok
  generalize TasksetReads_4 N = fn at ok h
  refine (ok.calls (A := fun _ => False) (fun _ h => h.elim) (args := [.one (.str y0), .agg [.int .i64 y1.1, .int .i64 y1.2.1, .int .i64 y1.2.2.1, .int .i64 y1.2.2.2.1, .int .i64 y1.2.2.2.2.1, .int .i64 y1.2.2.2.2.2.1, .int .i64 y1.2.2.2.2.2.2.1, .int .i64 y1.2.2.2.2.2.2.2.1, .ro (.pair (.int .i64) (.pair (.int .i64) (.pair (.int .i64) (.ro (.pair (.int .i64) (.pair (.int .i64) (.int .i64))))))) y1.2.2.2.2.2.2.2.2], .agg [.int .i64 y2.1, .int .i64 y2.2.1, .int .i64 y2.2.2.1, .int .i64 y2.2.2.2.1, .int .i64 y2.2.2.2.2.1, .int .i64 y2.2.2.2.2.2.1, .int .i64 y2.2.2.2.2.2.2.1, .int .i64 y2.2.2.2.2.2.2.2.1, .ro (.pair (.int .i64) (.pair (.int .i64) (.pair (.int .i64) (.ro (.pair (.int .i64) (.pair (.int .i64) (.int .i64))))))) y2.2.2.2.2.2.2.2.2]]) (x := ((true, ()), ())) (specOf_imp (x := ((y0, (y1.1, y1.2.1, y1.2.2.1, y1.2.2.2.1, y1.2.2.2.2.1, y1.2.2.2.2.2.1, y1.2.2.2.2.2.2.1, y1.2.2.2.2.2.2.2.1, y1.2.2.2.2.2.2.2.2, ()), (y2.1, y2.2.1, y2.2.2.1, y2.2.2.2.1, y2.2.2.2.2.1, y2.2.2.2.2.2.1, y2.2.2.2.2.2.2.1, y2.2.2.2.2.2.2.2.1, y2.2.2.2.2.2.2.2.2, ()), ()), ())) (by kernel_rfl) h) (fun j => (All2.cons (V0 _ rfl j) (All2.cons (V1 _ rfl j) (All2.cons (V2 _ rfl j) All2.nil)))) (hG := fun g h => absurd (h.symm.trans (show Try.prog.globals.findIdx? (fun x => x.name == "math/bits.deBruijn64tab") = none by kernel_rfl)) (by simp))).mono fun e W' hp => ?_
  obtain ⟨V, j', N', he, bel, hr⟩ := hp
  obtain rfl := bool_rel0 hr
  subst he
  exact ⟨_, rfl, _, _, _, [], _, [], hW', trodAll_mk1 (shut_bool Try.underlying4 _), (trodAll_cons_mk (Below.trod laidOut (by kernel_rfl) (of_decide_eq_true (by kernel_rfl)) h0 bel lt0) (trodAll_cons_mk (Below.trod laidOut (by kernel_rfl) (of_decide_eq_true (by kernel_rfl)) h1 bel lt1) (trodAll_cons_mk (Below.trod laidOut (by kernel_rfl) (of_decide_eq_true (by kernel_rfl)) h2 bel lt2) trodAll_mk0))), rfl, bel.frame _, fun h => by cases h⟩
theorem proved : Rows.TasksetReadsUptoSaid :=
  OpenClaim.holds_of_cond 4 Try.f4 rfl rfl rfl rfl rfl rfl rfl ⟨rfl, rfl, rfl, rfl, rfl⟩ rfl rfl rfl rfl rfl (by kernel_rfl) Try.func4 (by kernel_rfl)
    (of_decide_eq_true (by kernel_rfl)) (by unfold Func.isWrapper; first | (rw [if_pos (by decide +kernel)]; kernel_rfl) | (rw [if_neg (by decide +kernel)]; exact ⟨rfl, rfl⟩))
    (fun os started H enc _ F => lifted os started H enc F)
#print axioms proved
end Go.Proofs.Ytcdnofemnpafhaa.tasksetReads
namespace Go.Proofs.Ytcdnofemnpafhaa
/-- The row, under a short name, for the claim. -/
theorem tasksetReads_holds : Rows.TasksetReadsUptoSaid := tasksetReads.proved
end Go.Proofs.Ytcdnofemnpafhaa
