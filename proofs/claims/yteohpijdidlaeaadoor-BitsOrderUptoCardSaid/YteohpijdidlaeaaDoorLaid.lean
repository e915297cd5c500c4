/- What a row that lists the library's table asks and gives: the table is known, a world that holds it, the wraps. Conditions: none. -/
import Derived.Test.YteohpijdidlaeaaDoorRows
import Derived.Test.YteohpijdidlaeaaDoorTz
import Derived.ChangeSame
import Derived.ChangeVars
import Derived.JoinedOf
import Derived.RowKit
import Derived.OpenShut
import Derived.SizedLaws
import Derived.JoinedCond
import Derived.Deep.CondSized
import Derived.Handed
namespace Go.Proofs.YteohpijdidlaeaaDoor.Laid
open Go Go.ChangeShapes Go.WideShapes Go.RowKit Go.Proofs.YteohpijdidlaeaaDoorM
set_option linter.unusedVariables false
abbrev laid : List (String × DataW Unit) := [("math/bits.deBruijn64tab", Rows.laid_math_bits_deBruijn64tab)]
theorem named : Tryd.prog.globalNamed "math/bits.deBruijn64tab" = some 0 := by kernel_rfl
theorem type : (Tryd.prog.globals[0]?).map (·.type) = some 48 := by kernel_rfl
theorem one : Tryd.prog.cellsOf 5 = 1 := by kernel_rfl
theorem found : Tryd.prog.globals.findIdx? (fun x => x.name == "math/bits.deBruijn64tab") = some 0 := by kernel_rfl
def cells64 : Array Value := (Lib.deBruijn64tab.map fun n : Nat => Value.int .u8 n).toArray
theorem int_of {H : Type} {enc : TypeId × Value → H} {P : Program} {w : World} {base : Nat} {sp : Nat → Bool} {held : Bool} {fuel : Nat} {t : TypeId} {k : IntKind} {c : Value} {y : DataW H × List MemPlace}
    (ht : P.underlying t = some (.int k)) (h : DataW.trod enc P w base sp held fuel t [c] = some y) : ∃ n, c = .int k n ∧ y = (.lit (.int k n), []) := by
  cases fuel with
  | zero => simp [DataW.trod] at h
  | succ fuel =>
    cases c <;> simp [DataW.trod, ht] at h
    rename_i k' n
    obtain ⟨⟨rfl, _⟩, rfl⟩ := h
    exact ⟨n, rfl, rfl⟩
theorem laid_is : (Rows.laid_math_bits_deBruijn64tab : DataW Unit) = .agg (Lib.deBruijn64tab.map fun n : Nat => .lit (.int .u8 (n : Int))) := by kernel_rfl
theorem tab_len : Lib.deBruijn64tab.length = 64 := by kernel_rfl
/-- The table is known. -/
theorem glob {W : World} (h : laidMet Tryd.prog laid W) : GlobOk Tryd.prog W (fun _ => False) := by
  obtain ⟨ps, ⟨g, t, cs, fuel, p, q, hg, ht, hvar, hd, _, _⟩, _⟩ := h
  obtain rfl := Option.some.inj (named.symm.trans hg)
  obtain rfl := Option.some.inj (type.symm.trans ht)
  obtain ⟨xs, m, _, hx, hcl, hxl, hxs⟩ := DataW.trod_array (e := 5) Tryd.underlying48 hd
  have hx1 : (Rows.laid_math_bits_deBruijn64tab : DataW Unit) = .agg (xs.map (·.1)) := congrArg Prod.fst hx
  rw [laid_is] at hx1
  have hx2 : (Lib.deBruijn64tab.map fun n : Nat => (DataW.lit (.int .u8 (n : Int)) : DataW Unit)) = xs.map (·.1) := by injection hx1
  have hl : cs.toList.length = 64 := by rw [hcl]; kernel_rfl
  have cell : ∀ j, j < Lib.deBruijn64tab.length → W.cell? ⟨0, j, none⟩ = some (.int .u8 (Lib.deBruijn64tab.getD j 0)) := by
    intro j hj
    rw [tab_len] at hj
    rw [World.var?_cell named hvar j]
    have h1 := hxs j hj
    have hjl : j < cs.toList.length := by rw [hl]; exact hj
    rw [one, Nat.mul_one, List.drop_eq_getElem_cons hjl] at h1
    have h2 : DataW.trod (fun _ => ()) Tryd.prog W 0 (fun _ => true) false m 5 [cs.toList[j]] = xs[j]? := h1
    rw [List.getElem?_eq_getElem (by rw [hxl]; exact hj)] at h2
    obtain ⟨n, h3, h4⟩ := int_of Tryd.underlying5 h2
    have h5 := congrArg (fun l => l[j]?) hx2
    simp only [List.getElem?_map] at h5
    rw [List.getElem?_eq_getElem (l := xs) (by rw [hxl]; exact hj), List.getElem?_eq_getElem (l := Lib.deBruijn64tab) (by rw [tab_len]; exact hj), h4] at h5
    simp only [Option.map_some, Option.some.injEq, DataW.lit.injEq, Lit.int.injEq, true_and] at h5
    have h6 : cs[j]? = some cs.toList[j] := by
      rw [← Array.getElem?_toList, List.getElem?_eq_getElem hjl]
    rw [h6, h3, List.getD_eq_getElem?_getD, List.getElem?_eq_getElem (l := Lib.deBruijn64tab) (by rw [tab_len]; exact hj), ← h5]
    rfl
  intro g' hg'
  have e : g' = 0 := Option.some.inj ((show Tryd.prog.globals.findIdx? (fun x => x.name == "math/bits.deBruijn64tab") = some g' from hg').symm.trans found)
  subst e
  exact ⟨id, block_lt (cell 0 (by rw [tab_len]; decide)), cell⟩
/-- A world that holds it. -/
noncomputable def world (os : Os) : World :=
  { World.holding Tryd.prog os ⟨#[], #[], []⟩ with heap := (World.holding Tryd.prog os ⟨#[], #[], []⟩).heap.modify 0 fun
      | .cells _ t frozen => .cells cells64 t frozen
      | o => o }
theorem world_row (os : Os) (args : Array Value) : ((world os).forCall (fun _ _ => 0) ⟨#[], args, []⟩).memory.heap[0]? = some (.cells cells64 48 (0, 0)) := by kernel_rfl
theorem places : ∀ x ∈ MemPlace.row ⟨0, 0, none⟩ cells64.size ++ ([] : List MemPlace) ++ [], ∀ b off, x = MemPlace.cell b off → b = 0 := by
  intro x hx b off e
  subst e
  rw [List.append_nil, List.append_nil] at hx
  unfold MemPlace.row at hx
  rw [List.mem_map] at hx
  obtain ⟨i, _, h⟩ := hx
  injection h with h1 h2
  exact h1.symm
theorem cells64_int (off : Nat) (u : TypeId) (v : Value) : cells64[off]? ≠ some (.iface u v) := by
  intro h
  have h1 : Value.iface u v ∈ cells64.toList := by
    rw [← Array.getElem?_toList] at h
    exact List.mem_of_getElem? h
  have h2 : Value.iface u v ∈ Lib.deBruijn64tab.map fun n : Nat => Value.int .u8 (n : Int) := h1
  rw [List.mem_map] at h2
  obtain ⟨n, _, h3⟩ := h2
  cases h3
theorem met (os : Os) (args : Array Value) : laidMet Tryd.prog laid ((world os).forCall (fun _ _ => 0) ⟨#[], args, []⟩).memory :=
  ⟨_, ⟨0, 48, cells64, 8, [], [], by kernel_rfl, by kernel_rfl, by kernel_rfl, by kernel_rfl, rfl, rfl⟩, by decide +kernel, fun b off h => by
    have hb : b = 0 := places _ h b off rfl
    subst hb
    refine ⟨⟨_, _, world_row os args⟩, fun u v hc => ?_⟩
    simp only [World.cell?, world_row os args] at hc
    exact absurd hc (cells64_int off u v)⟩
section
variable {H : Type} {enc : TypeId × Value → H}
/-- The wrap of a row with a condition of its own that lists variables. -/
theorem of_cond_and {a : Assume} {C : Checked} {os : Os} {f : FuncId} {fn : Func} {s : OpenSpec} {k : (H : Type) → List (DataW H) → Bool} (hk : s.cond = some k) {F : Stop.Interp} {conds : List PathCond} {apart fresh handsOn again : Bool} {X : World → Array Value → Prop}
    (hX : ∀ (w w' : World) (args : Array Value), w.heap = w'.heap → X w args → X w' args)
    (own : ownKnob C.prog.godebug = none) (started : os.Started) (noInit : C.prog.inits.idxOf? f = none) (hfn : C.prog.funcs[f]? = some fn)
    (witness : ∃ (w : World) (tape : Tape) (i : Input), w.os = os ∧ (w.forCall tape i).Shaped C.prog ∧ i.vars = [] ∧ Input.okWide C.prog (w.forCall tape i) .any w.heap.size f i ∧
      ((s.pre enc C.prog fn conds apart (w.forCall tape i).memory i.args ∧ X (w.forCall tape i).memory i.args) ∧ sizedMet enc C.prog fn s apart (w.forCall tape i).memory i.args) ∧ a.holds C.prog (lone (Frame.enter C.prog f i.args .normal) [] (w.forCall tape i)))
    (contract : ∀ (W : World) (base : Nat) (args : Array Value) (ds gs : List (DataW H)) (before : List MemPlace),
      (∀ (j : Nat) t v, fn.params[j]? = some t → args[j]? = some v → Value.okWide C.prog W .any base t v) →
      DataW.Whole enc C.prog fn.params.toList s.vars apart W args.toList ds gs before →
      conds.all (PathCond.test C.prog ⟨fn.params.toList, ds, s.bare.plain.varTypes C.prog, gs⟩) = true → k H (ds ++ gs) = true →
      (DataW.weightsEach C.prog (fn.params.toList ++ s.bare.plain.varTypes C.prog) (ds ++ gs)).all (· ≤ reachBytes) = true → X W args →
      a.holds C.prog (lone (Frame.enter C.prog f args .normal) [] W) →
      Calls C.prog f args W fun e W' => ∃ v, e = .returned v ∧ (s.at F).post enc C.prog fn apart fresh handsOn again W args v W') :
    ReturnsInHanded a C os f .any (fun w args => (s.pre enc C.prog fn conds apart w args ∧ X w args) ∧ sizedMet enc C.prog fn s apart w args) ((s.at F).post enc C.prog fn apart fresh handsOn again) := by
  refine returnsInHanded_of_calls own started noInit witness ?_
  intro w tape i _ _ _ hok hpre hholds
  obtain ⟨_, _, _, fn', hfn', _, _, _, _, hval⟩ := hok
  have e : fn' = fn := Option.some.inj (hfn'.symm.trans hfn)
  subst e
  obtain ⟨ds, gs, before, hw, hc, hkk⟩ := (OpenSpec.pre_some hk conds apart _ _).1 hpre.1.1
  have hw' := DataW.Whole.of_heap (w' := w.forCall tape i) (by rfl) hw
  refine (contract (w.forCall tape i) w.heap.size i.args ds gs before hval hw' hc hkk (hpre.2.weights hw) (hX _ _ _ (by rfl) hpre.1.2) hholds).mono fun e W' ⟨v, he, hp⟩ => ?_
  subst he
  exact ChangeSpec.post_blind hp
theorem witness_cond {C : Checked} {os : Os} {f : FuncId} {fn : Func} {s : OpenSpec} {k : (H : Type) → List (DataW H) → Bool} (hk : s.cond = some k) {conds : List PathCond} {apart : Bool} {X : World → Array Value → Prop} (modest : Bool) (w0 : World) (args : Array Value) (fuel : Nat) (hos : w0.os = os)
    (hv : (w0.forCall (fun _ _ => 0) ⟨#[], args, []⟩).variablesB C.prog = true)
    (hr : ((w0.forCall (fun _ _ => 0) ⟨#[], args, []⟩).heap.toList.drop C.prog.globals.size).take ((begin C.prog (fun _ _ => 0) default).world.heap.size - C.prog.globals.size) =
      (begin C.prog (fun _ _ => 0) default).world.heap.toList.drop C.prog.globals.size)
    (hok : Input.okWideB C.prog (w0.forCall (fun _ _ => 0) ⟨#[], args, []⟩) f ⟨#[], args, []⟩ = true)
    {x : List (DataW H) × List (DataW H) × List MemPlace} (hx : DataW.whole enc C.prog (w0.forCall (fun _ _ => 0) ⟨#[], args, []⟩).memory fn.params.toList s.vars apart args.toList fuel = some x)
    (hconds : conds.all (PathCond.test C.prog ⟨fn.params.toList, x.1, s.bare.plain.varTypes C.prog, x.2.1⟩) = true) (hkk : k H (x.1 ++ x.2.1) = true)
    (hsz : s.bare.sizedB enc C.prog fn apart (w0.forCall (fun _ _ => 0) ⟨#[], args, []⟩).memory args fuel = true)
    (hX : X (w0.forCall (fun _ _ => 0) ⟨#[], args, []⟩).memory args) :
    ∃ (w : World) (tape : Tape) (i : Input), w.os = os ∧ (w.forCall tape i).Shaped C.prog ∧ i.vars = [] ∧ Input.okWide C.prog (w.forCall tape i) .any w.heap.size f i ∧
      ((s.pre enc C.prog fn conds apart (w.forCall tape i).memory i.args ∧ X (w.forCall tape i).memory i.args) ∧ sizedMet enc C.prog fn s apart (w.forCall tape i).memory i.args) ∧ ({ modest := modest } : Assume).holds C.prog (lone (Frame.enter C.prog f i.args .normal) [] (w.forCall tape i)) :=
  ⟨w0, fun _ _ => 0, ⟨#[], args, []⟩, hos, World.shaped_of_B hv hr, (Input.okWide_of_okWideB (base := 0) hok).1, (Input.okWide_of_okWideB hok).2,
    ⟨⟨(OpenSpec.pre_some hk conds apart _ _).2 ⟨x.1, x.2.1, x.2.2, DataW.Whole_of_whole hx, hconds, hkk⟩, hX⟩, sizedMet_of_sizedB hsz⟩, by
    simp only [Assume.holds]
    exact ⟨by simp, by simp, fun _ => Modest.zero, by simp, by simp⟩⟩
end
end Go.Proofs.YteohpijdidlaeaaDoor.Laid
