/- Go functions of the program told as plain functions, and that the code comes to what they tell; written by xprint.py, a program of this session. Conditions: as each theorem states them. -/
import Derived.Test.YtflnooigdbhpdaaRows
import Derived.Test.YtflnooigdbhpdaaPAx7
import Derived.Test.YtflnooigdbhpdaaPureValidFinds
import Derived.Test.YtflnooigdbhpdaaXRd
import Derived.WalkKit
import Derived.ProofKit
import Derived.OpenShut
import Derived.ShutString
import Derived.ChangeOld
import Derived.Below
import Derived.SizedLaws
namespace Go.Proofs.Ytflnooigdbhpdaa.validFinds
open Go.ChangeShapes Go.WideShapes Go.ChangeAt Go.RowKit Go.Proofs.YtflnooigdbhpdaaX Go.Proofs.YtflnooigdbhpdaaW.PrintWords Go.Proofs.Ytflnooigdbhpdaa.PA
open Go.ChangeMaps (open_string shut_string)
set_option linter.unusedVariables false
theorem own : ownKnob Try.prog.godebug = none := by kernel_rfl
theorem laidOut : laidOutB Try.prog = true := by kernel_rfl
theorem rdr37 : Rdr Try.prog 37 k37 tourbillonlaw08_ValidFinds.GS37 tourbillonlaw08_ValidFinds.BS37 := Rdr.struct (fun x : S37 => (x.f0, x.f1, x.f2)) (fun y => ⟨y.1, y.2.1, y.2.2⟩) (fun _ => rfl) Try.underlying37 (by kernel_rfl) (Rdrs.cons rfl rfl (Rdr.int Try.underlying3 (by kernel_rfl)) (Rdrs.cons rfl rfl (Rdr.int Try.underlying3 (by kernel_rfl)) (Rdrs.one rfl rfl (Rdr.int Try.underlying3 (by kernel_rfl)))))
theorem rdr35 : Rdr Try.prog 35 k35 tourbillonlaw08_ValidFinds.GS35 tourbillonlaw08_ValidFinds.BS35 := Rdr.struct (fun x : S35 => (x.f0, x.f1, x.f2, x.f3)) (fun y => ⟨y.1, y.2.1, y.2.2.1, y.2.2.2⟩) (fun _ => rfl) Try.underlying35 (by kernel_rfl) (Rdrs.cons rfl rfl (Rdr.int Try.underlying3 (by kernel_rfl)) (Rdrs.cons rfl rfl (Rdr.int Try.underlying3 (by kernel_rfl)) (Rdrs.cons rfl rfl (Rdr.int Try.underlying3 (by kernel_rfl)) (Rdrs.one rfl rfl (Rdr.slice (B := 24) Try.underlying33 (by kernel_rfl) (by kernel_rfl) rdr37)))))
theorem rdr24 : Rdr Try.prog 24 k24 tourbillonlaw08_ValidFinds.GS24 tourbillonlaw08_ValidFinds.BS24 := Rdr.struct (fun x : S24 => (x.f0, x.f1, x.f2, x.f3, x.f4, x.f5, x.f6, x.f7, x.f8)) (fun y => ⟨y.1, y.2.1, y.2.2.1, y.2.2.2.1, y.2.2.2.2.1, y.2.2.2.2.2.1, y.2.2.2.2.2.2.1, y.2.2.2.2.2.2.2.1, y.2.2.2.2.2.2.2.2⟩) (fun _ => rfl) Try.underlying24 (by kernel_rfl) (Rdrs.cons rfl rfl (Rdr.int Try.underlying3 (by kernel_rfl)) (Rdrs.cons rfl rfl (Rdr.int Try.underlying3 (by kernel_rfl)) (Rdrs.cons rfl rfl (Rdr.int Try.underlying3 (by kernel_rfl)) (Rdrs.cons rfl rfl (Rdr.int Try.underlying3 (by kernel_rfl)) (Rdrs.cons rfl rfl (Rdr.int Try.underlying3 (by kernel_rfl)) (Rdrs.cons rfl rfl (Rdr.int Try.underlying3 (by kernel_rfl)) (Rdrs.cons rfl rfl (Rdr.int Try.underlying3 (by kernel_rfl)) (Rdrs.cons rfl rfl (Rdr.int Try.underlying3 (by kernel_rfl)) (Rdrs.one rfl rfl (Rdr.slice (B := 48) Try.underlying22 (by kernel_rfl) (by kernel_rfl) rdr35))))))))))
set_option maxRecDepth 100000 in
theorem lifted (os : Os) (started : os.Started) (H : Type) (enc : TypeId × Value → H) :
    ReturnsInHanded {} Try.checked os 3 .any (Rows.validFindsSpec.pre6 enc Try.prog Try.f3 Rows.validFindsRow.domain false) (Rows.validFindsSpec.post enc Try.prog Try.f3 false true false false) := by
  refine returnsInHanded_of_change_sized (C := Try.checked) own started (by kernel_rfl) Try.func3
    (ChangeSpec.witness6 (enc := enc) (C := Try.checked) false ⟨#[], #[.agg #[.int .i64 0, .int .i64 0, .int .i64 0, .int .i64 0, .int .i64 0, .int .i64 0, .int .i64 0, .int .i64 0, .slice none 0 0]], []⟩ 8 (by kernel_rfl) (by kernel_rfl) (by kernel_rfl) (by kernel_rfl)) ?_
  intro W base args ds gs before hval0 hW hcnd hsz0 _
  have hsz : (DataW.weightsEach Try.prog (Try.f3.params.toList ++ Rows.validFindsSpec.plain.varTypes Try.prog) (ds ++ gs)).all (· ≤ reachBytes) = true := hsz0
  have hval : ∀ (j : Nat) t v, Try.f3.params[j]? = some t → args[j]? = some v → Value.okWide Try.prog W .any base t v := hval0
  have hW' := hW
  obtain ⟨p, q, hA0, hV, rfl, hfz, hnd⟩ := hW
  have hA : DataW.TrodAll enc Try.prog W 0 (fun _ => true) true Try.f3.params.toList args.toList ds p := hA0
  rw [Try.params3] at hA hval hsz
  obtain ⟨v0, vs0, d0, ds0, p0, q0, hargs, rfl, rfl, h0, r0⟩ := trodAll_cons hA
  obtain ⟨rfl, rfl, rfl⟩ := trodAll_nil r0
  obtain rfl : args = #[v0] := by cases args; simp_all
  obtain ⟨rfl, rfl⟩ := trodVars_none hV
  have k0_ := h0
  have lt0 : ∀ x ∈ p0, x.block < W.heap.size := by obtain ⟨m, hm⟩ := k0_; exact DataW.trod_lt m _ _ _ hm
  obtain ⟨cs0, rfl, x0, K0, G0, B0⟩ := rdr24.arg_struct Try.underlying24 (hval 0 24 v0 rfl rfl) h0 (weights_of hsz (j := 0) rfl rfl)
  obtain ⟨A0_8, c0_8, E0, hl0_8, hg0_8⟩ := k24_open K0
  obtain rfl := Array.ext' (ys := (#[.int .i64 x0.f0, .int .i64 x0.f1, .int .i64 x0.f2, .int .i64 x0.f3, .int .i64 x0.f4, .int .i64 x0.f5, .int .i64 x0.f6, .int .i64 x0.f7, .slice A0_8 x0.f8.length c0_8] : Array Value)) E0
  clear hA0 hval0 hsz0 hsz
  obtain ⟨k, h⟩ := Pure.ValidFinds x0 G0
  refine (PA.tourbillonlaw08_ValidFinds.calls k x0.f0 x0.f1 x0.f2 x0.f3 x0.f4 x0.f5 x0.f6 x0.f7 _ _ x0.f8 true W hg0_8 hl0_8 h).mono fun e W' ⟨he, bel0⟩ => ?_
  have bel : Below W.heap.size W W' := bel0
  subst he
  exact ⟨_, rfl, _, _, _, [], _, [], hW', trodAll_mk1 (shut_bool Try.underlying4 _), (trodAll_cons_mk (Below.trod laidOut (by kernel_rfl) (of_decide_eq_true (by kernel_rfl)) k0_ bel lt0) trodAll_mk0), rfl, bel.frame _, fun h => by cases h⟩
theorem over : Rows.validFindsRow.holds Try.pinned (OpenSpec.ofChange Rows.validFindsSpec) :=
  OpenClaim.holds_of_wide 3 Try.f3 rfl rfl rfl rfl rfl rfl rfl ⟨rfl, rfl, rfl, rfl, rfl⟩ rfl rfl rfl rfl rfl (by kernel_rfl) Try.func3 (by kernel_rfl)
    (of_decide_eq_true (by kernel_rfl)) (by unfold Func.isWrapper; first | (rw [if_pos (by decide +kernel)]; kernel_rfl) | (rw [if_neg (by decide +kernel)]; exact ⟨rfl, rfl⟩))
    (fun os started H enc _ => lifted os started H enc)
theorem proved : Rows.ValidFindsSaid := over
#print axioms proved
end Go.Proofs.Ytflnooigdbhpdaa.validFinds
namespace Go.Proofs.Ytflnooigdbhpdaa
/-- The row, under a short name, for the claim. -/
theorem validFinds_holds : Rows.ValidFindsSaid := validFinds.proved
end Go.Proofs.Ytflnooigdbhpdaa
