/- The law BitsOrder: what it is that its code comes to, and the plain law, put together. Conditions: none. -/
import Derived.Test.YteohpijdidlaeaaDoorRows
import Derived.Test.YteohpijdidlaeaaDoorMRd
import Derived.Test.YteohpijdidlaeaaDoorPureBitsOrder
import Derived.WalkKit
import Derived.ProofKit
import Derived.OpenShut
import Derived.ShutString
import Derived.ChangeOld
import Derived.Below
import Derived.SizedLaws
import Derived.JoinedCond
import Derived.Deep.CondSized
import Derived.Test.YteohpijdidlaeaaDoorLaid
import Derived.Test.YteohpijdidlaeaaDoorCards
import Derived.Test.YteohpijdidlaeaaDoorTie
import Derived.SevenTiedAt
namespace Go.Proofs.YteohpijdidlaeaaDoor.bitsOrder
open Go.ChangeShapes Go.WideShapes Go.ChangeAt Go.RowKit Go.Proofs.YteohpijdidlaeaaDoorM Go.Proofs.YteohpijdidlaeaaDoorX Go.Proofs.YteohpijdidlaeaaDoor
open Go.ChangeMaps (open_string shut_string)
set_option linter.unusedVariables false
set_option linter.unusedSimpArgs false
theorem own : ownKnob Tryd.prog.godebug = none := by kernel_rfl
theorem laidOut : laidOutB Tryd.prog = true := by kernel_rfl
set_option maxRecDepth 100000 in
set_option maxHeartbeats 1000000 in
theorem lifted (os : Os) (started : os.Started) (H : Type) (enc : TypeId × Value → H) (F : Stop.Interp) :
    ReturnsInHanded {} Tryd.checked os 4 .any (fun w args => ((Rows.OpenSpec.upto Rows.bitsOrderSpec).pre enc Tryd.prog Tryd.f4 Rows.bitsOrderUptoRow.domain false w args ∧ laidMet Tryd.prog Go.Proofs.YteohpijdidlaeaaDoor.Laid.laid w) ∧ sizedMet enc Tryd.prog Tryd.f4 (Rows.OpenSpec.upto Rows.bitsOrderSpec) false w args) (((Rows.OpenSpec.upto Rows.bitsOrderSpec).at F).post enc Tryd.prog Tryd.f4 false true false false) := by
  refine Go.Proofs.YteohpijdidlaeaaDoor.Laid.of_cond_and (C := Tryd.checked) (s := (Rows.OpenSpec.upto Rows.bitsOrderSpec)) (k := Rows.uptoSmall) rfl (X := fun w _ => laidMet Tryd.prog Go.Proofs.YteohpijdidlaeaaDoor.Laid.laid w) (fun _ _ _ hh h => h.of_heap hh) own started (by kernel_rfl) Tryd.func4
    (Go.Proofs.YteohpijdidlaeaaDoor.Laid.witness_cond (enc := enc) (C := Tryd.checked) (os := os) (s := (Rows.OpenSpec.upto Rows.bitsOrderSpec)) (k := Rows.uptoSmall) rfl (X := fun w _ => laidMet Tryd.prog Go.Proofs.YteohpijdidlaeaaDoor.Laid.laid w) false (Go.Proofs.YteohpijdidlaeaaDoor.Laid.world os) #[.slice none 0 0] 8 rfl (by kernel_rfl) (by kernel_rfl) (by kernel_rfl)
      (x := ([.nil], [], [])) (by kernel_rfl) rfl (by kernel_rfl) (by kernel_rfl) (Go.Proofs.YteohpijdidlaeaaDoor.Laid.met os _)) ?_
  intro W base args ds gs before hval0 hW hcnd hk0 hsz0 hL _
  have hsz : (DataW.weightsEach Tryd.prog (Tryd.f4.params.toList ++ Rows.bitsOrderSpec.plain.varTypes Tryd.prog) (ds ++ gs)).all (· ≤ reachBytes) = true := hsz0
  have hval : ∀ (j : Nat) t v, Tryd.f4.params[j]? = some t → args[j]? = some v → Value.okWide Tryd.prog W .any base t v := hval0
  have hW' := hW
  obtain ⟨p, q, hA0, hV, rfl, hfz, hnd⟩ := hW
  have hA : DataW.TrodAll enc Tryd.prog W 0 (fun _ => true) true Tryd.f4.params.toList args.toList ds p := hA0
  rw [Tryd.params4] at hA hval hsz
  obtain ⟨v0, vs0, d0, ds0, p0, q0, hargs, rfl, rfl, h0, r0⟩ := trodAll_cons hA
  obtain ⟨rfl, rfl, rfl⟩ := trodAll_nil r0
  obtain rfl : args = #[v0] := by cases args; simp_all
  obtain ⟨rfl, rfl⟩ := trodVars_none hV
  have lt0 : ∀ x ∈ p0, x.block < W.heap.size := by have k := h0; obtain ⟨m, hm⟩ := k; exact DataW.trod_lt m _ _ _ hm
  obtain ⟨y0, V0, G0, B0⟩ := ((Rdr.slice (B := 8) Tryd.underlying22 (by kernel_rfl) (by kernel_rfl) (by decide) (Rdr.int Tryd.underlying3 (by kernel_rfl)))).arg_one (one_slice Tryd.underlying22 (hval 0 22 v0 rfl rfl)) h0 (weights_of hsz (j := 0) rfl rfl)
  have hk1 : Rows.uptoBulkAll _ ≤ 1048576 := of_decide_eq_true hk0
  simp only [Rows.uptoBulkAll, List.cons_append, List.nil_append, List.append_nil] at hk1
  clear hA0 hval0 hsz0 hsz hk0
  obtain ⟨N, h⟩ := Pure.BitsOrder y0 G0 (Nat.le_trans (by have z0 := B0; omega) hk1)
  have ok := ok_BitsOrder_4 N
  unfold sp_BitsOrder_4 at ok
  generalize BitsOrder_4 N = fn at ok h
  refine (ok.calls (A := fun _ => False) (fun _ h => h.elim) (args := [.one (.ro (.int .i64) y0)]) (x := ((true, ()), ())) (specOf_imp (x := ((y0, ()), ())) (by kernel_rfl) h) (fun j => (All2.cons (V0 _ rfl j) All2.nil)) (hG := Go.Proofs.YteohpijdidlaeaaDoor.Laid.glob hL)).mono fun e W' hp => ?_
  obtain ⟨V, j', N', he, bel, hr⟩ := hp
  obtain rfl := bool_rel0 hr
  subst he
  exact ⟨_, rfl, _, _, _, [], _, [], hW', trodAll_mk1 (shut_bool Tryd.underlying4 _), (trodAll_cons_mk (Below.trod laidOut (by kernel_rfl) (of_decide_eq_true (by kernel_rfl)) h0 bel lt0) trodAll_mk0), rfl, bel.frame _, fun h => by cases h⟩
theorem over : Rows.bitsOrderUptoRow.holds Tryd.pinned (Rows.OpenSpec.upto Rows.bitsOrderSpec) :=
  OpenClaim.holds_of_cond 4 Tryd.f4 rfl rfl rfl rfl rfl rfl rfl ⟨rfl, rfl, rfl, rfl, rfl⟩ rfl rfl rfl rfl rfl (by kernel_rfl) Tryd.func4 (by kernel_rfl)
    (of_decide_eq_true (by kernel_rfl)) (by unfold Func.isWrapper; first | (rw [if_pos (by decide +kernel)]; kernel_rfl) | (rw [if_neg (by decide +kernel)]; exact ⟨rfl, rfl⟩))
    (fun os started H enc _ F => lifted os started H enc F)
theorem proved : Rows.BitsOrderUptoCardSaid :=
  Claim7.holds_tied_plain_at .later [] [.data] true Rows.bitsOrderUptoCard.stood.harness Rows.bitsOrderUptoCard.stood.looks
    over (fun _ h => by cases h) (by kernel_rfl) (fun _ h => by cases h) bitsOrderUpto_row_tie rfl ⟨rfl, rfl⟩ (by kernel_rfl) rfl
    (fun f fn hf hfn => by
      obtain rfl : f = 4 := Option.some.inj ((show Tryd.prog.funcNamed "tourbillon/tourbillonlaw03.BitsOrder" = some 4 by kernel_rfl).symm.trans hf) |>.symm
      obtain rfl : fn = Tryd.f4 := (Option.some.inj (Tryd.func4.symm.trans hfn)).symm
      exact ⟨by kernel_rfl, fun j t ht => by
        have hm := Array.mem_of_getElem? ht
        rw [← Array.mem_toList_iff] at hm
        exact eq_of_beq (List.all_eq_true.1 (show (Tryd.f4.params.toList.all fun t => Tryd.prog.wantsStandIn t == false) = true by kernel_rfl) t hm)⟩)
    (by kernel_rfl)
#print axioms proved
end Go.Proofs.YteohpijdidlaeaaDoor.bitsOrder
namespace Go.Proofs.YteohpijdidlaeaaDoor
/-- The row, under a short name, for the claim. -/
theorem bitsOrder_holds : Rows.BitsOrderUptoCardSaid := bitsOrder.proved
end Go.Proofs.YteohpijdidlaeaaDoor
