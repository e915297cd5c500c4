/- The law BitsBack: what it is that its code comes to, and the plain law, put together. Conditions: none. -/
import Derived.Test.YteohpijdidlaeaaDoorRows
import Derived.Test.YteohpijdidlaeaaDoorMRd
import Derived.Test.YteohpijdidlaeaaDoorPureBitsBack
import Derived.WalkKit
import Derived.ProofKit
import Derived.OpenShut
import Derived.ShutString
import Derived.ChangeOld
import Derived.Below
import Derived.SizedLaws
import Derived.Test.YteohpijdidlaeaaDoorLaid
import Derived.Test.YteohpijdidlaeaaDoorCards
import Derived.Test.YteohpijdidlaeaaDoorTie
import Derived.SevenTiedAt
namespace Go.Proofs.YteohpijdidlaeaaDoor.bitsBack
open Go.ChangeShapes Go.WideShapes Go.ChangeAt Go.RowKit Go.Proofs.YteohpijdidlaeaaDoorM Go.Proofs.YteohpijdidlaeaaDoorX Go.Proofs.YteohpijdidlaeaaDoor
open Go.ChangeMaps (open_string shut_string)
set_option linter.unusedVariables false
theorem own : ownKnob Tryd.prog.godebug = none := by kernel_rfl
theorem laidOut : laidOutB Tryd.prog = true := by kernel_rfl
set_option maxRecDepth 100000 in
set_option maxHeartbeats 1000000 in
theorem lifted (os : Os) (started : os.Started) (H : Type) (enc : TypeId × Value → H) :
    ReturnsInHanded {} Tryd.checked os 9 .any (fun w args => (Rows.bitsBackSpec.pre enc Tryd.prog Tryd.f9 Rows.bitsBackRow.domain false w args ∧ laidMet Tryd.prog Go.Proofs.YteohpijdidlaeaaDoor.Laid.laid w) ∧ sizedMet enc Tryd.prog Tryd.f9 (OpenSpec.ofChange Rows.bitsBackSpec) false w args) (Rows.bitsBackSpec.post enc Tryd.prog Tryd.f9 false true false false) := by
  refine returnsInHanded_of_change_and (C := Tryd.checked) (X := fun w _ => laidMet Tryd.prog Go.Proofs.YteohpijdidlaeaaDoor.Laid.laid w) (fun _ _ _ hh h => h.of_heap hh) own started (by kernel_rfl) Tryd.func9
    (ChangeSpec.witness_at (enc := enc) (C := Tryd.checked) (os := os) (X := fun w _ => laidMet Tryd.prog Go.Proofs.YteohpijdidlaeaaDoor.Laid.laid w) false (Go.Proofs.YteohpijdidlaeaaDoor.Laid.world os) #[.agg #[.int .u64 0, .int .u64 0, .int .u64 0, .int .u64 0], .int .i64 0] 8 rfl (by kernel_rfl) (by kernel_rfl) (by kernel_rfl) (by kernel_rfl) (by kernel_rfl) (Go.Proofs.YteohpijdidlaeaaDoor.Laid.met os _)) ?_
  intro W base args ds gs before hval0 hW hcnd hsz0 hL _
  have hsz : (DataW.weightsEach Tryd.prog (Tryd.f9.params.toList ++ Rows.bitsBackSpec.plain.varTypes Tryd.prog) (ds ++ gs)).all (· ≤ reachBytes) = true := hsz0
  have hval : ∀ (j : Nat) t v, Tryd.f9.params[j]? = some t → args[j]? = some v → Value.okWide Tryd.prog W .any base t v := hval0
  have hW' := hW
  obtain ⟨p, q, hA0, hV, rfl, hfz, hnd⟩ := hW
  have hA : DataW.TrodAll enc Tryd.prog W 0 (fun _ => true) true Tryd.f9.params.toList args.toList ds p := hA0
  rw [Tryd.params9] at hA hval hsz
  obtain ⟨v0, vs0, d0, ds0, p0, q0, hargs, rfl, rfl, h0, r0⟩ := trodAll_cons hA
  obtain ⟨v1, vs1, d1, ds1, p1, q1, rfl, rfl, rfl, h1, r1⟩ := trodAll_cons r0
  obtain ⟨rfl, rfl, rfl⟩ := trodAll_nil r1
  obtain rfl : args = #[v0, v1] := by cases args; simp_all
  obtain ⟨rfl, rfl⟩ := trodVars_none hV
  have lt0 : ∀ x ∈ p0, x.block < W.heap.size := by have k := h0; obtain ⟨m, hm⟩ := k; exact DataW.trod_lt m _ _ _ hm
  obtain ⟨y0, V0, G0, B0⟩ := ((Rdr.array Tryd.underlying25 (by kernel_rfl) (RdrE.cons (Rdr.int Tryd.underlying24 (by kernel_rfl)) (RdrE.cons (Rdr.int Tryd.underlying24 (by kernel_rfl)) (RdrE.cons (Rdr.int Tryd.underlying24 (by kernel_rfl)) (RdrE.one (Rdr.int Tryd.underlying24 (by kernel_rfl)))))))).arg_agg (okWide_agg (.inr ⟨_, _, Tryd.underlying25⟩) (hval 0 25 v0 rfl rfl)) h0 (weights_of hsz (j := 0) rfl rfl)
  have lt1 : ∀ x ∈ p1, x.block < W.heap.size := by have k := h1; obtain ⟨m, hm⟩ := k; exact DataW.trod_lt m _ _ _ hm
  obtain ⟨y1, V1, G1, B1⟩ := ((Rdr.int Tryd.underlying3 (by kernel_rfl))).arg_one (one_int Tryd.underlying3 (hval 1 3 v1 rfl rfl)) h1 (weights_of hsz (j := 1) rfl rfl)
  clear hA0 hval0 hsz0 hsz
  obtain ⟨N, h⟩ := Pure.BitsBack y0 y1 G0 G1
  have ok := ok_BitsBack_9 N
  unfold sp_BitsBack_9 at ok
  generalize BitsBack_9 N = fn at ok h
  refine (ok.calls (A := fun _ => False) (fun _ h => h.elim) (args := [.agg [.int .u64 y0.1, .int .u64 y0.2.1, .int .u64 y0.2.2.1, .int .u64 y0.2.2.2], .one (.int .i64 y1)]) (x := ((true, ()), ())) (specOf_imp (x := (((y0.1, y0.2.1, y0.2.2.1, y0.2.2.2, ()), y1, ()), ())) (by kernel_rfl) h) (fun j => (All2.cons (V0 _ rfl j) (All2.cons (V1 _ rfl j) All2.nil))) (hG := Go.Proofs.YteohpijdidlaeaaDoor.Laid.glob hL)).mono fun e W' hp => ?_
  obtain ⟨V, j', N', he, bel, hr⟩ := hp
  obtain rfl := bool_rel0 hr
  subst he
  exact ⟨_, rfl, _, _, _, [], _, [], hW', trodAll_mk1 (shut_bool Tryd.underlying4 _), (trodAll_cons_mk (Below.trod laidOut (by kernel_rfl) (of_decide_eq_true (by kernel_rfl)) h0 bel lt0) (trodAll_cons_mk (Below.trod laidOut (by kernel_rfl) (of_decide_eq_true (by kernel_rfl)) h1 bel lt1) trodAll_mk0)), rfl, bel.frame _, fun h => by cases h⟩
theorem over : Rows.bitsBackRow.holds Tryd.pinned (OpenSpec.ofChange Rows.bitsBackSpec) :=
  OpenClaim.holds_of_wide 9 Tryd.f9 rfl rfl rfl rfl rfl rfl rfl ⟨rfl, rfl, rfl, rfl, rfl⟩ rfl rfl rfl rfl rfl (by kernel_rfl) Tryd.func9 (by kernel_rfl)
    (of_decide_eq_true (by kernel_rfl)) (by unfold Func.isWrapper; first | (rw [if_pos (by decide +kernel)]; kernel_rfl) | (rw [if_neg (by decide +kernel)]; exact ⟨rfl, rfl⟩))
    (fun os started H enc _ => lifted os started H enc)
theorem proved : Rows.BitsBackCardSaid :=
  Claim7.holds_tied_plain_at .later [] [.data] true Rows.bitsBackCard.stood.harness Rows.bitsBackCard.stood.looks
    over (fun _ h => by cases h) (by kernel_rfl) (fun _ h => by cases h) bitsBack_row_tie rfl ⟨rfl, rfl⟩ (by kernel_rfl) rfl
    (fun f fn hf hfn => by
      obtain rfl : f = 9 := Option.some.inj ((show Tryd.prog.funcNamed "tourbillon/tourbillonlaw03.BitsBack" = some 9 by kernel_rfl).symm.trans hf) |>.symm
      obtain rfl : fn = Tryd.f9 := (Option.some.inj (Tryd.func9.symm.trans hfn)).symm
      exact ⟨by kernel_rfl, fun j t ht => by
        have hm := Array.mem_of_getElem? ht
        rw [← Array.mem_toList_iff] at hm
        exact eq_of_beq (List.all_eq_true.1 (show (Tryd.f9.params.toList.all fun t => Tryd.prog.wantsStandIn t == false) = true by kernel_rfl) t hm)⟩)
    (by kernel_rfl)
#print axioms proved
end Go.Proofs.YteohpijdidlaeaaDoor.bitsBack
namespace Go.Proofs.YteohpijdidlaeaaDoor
/-- The row, under a short name, for the claim. -/
theorem bitsBack_holds : Rows.BitsBackCardSaid := bitsBack.proved
end Go.Proofs.YteohpijdidlaeaaDoor
