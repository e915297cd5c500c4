/- Regions whose operations may come in any order: what an operation makes, as a value; what it reads. Conditions: none. -/
import Derived.Test.YtcdnofemnpafhaaM5
import Derived.Orders
namespace Go.Proofs.YtcdnofemnpafhaaM
set_option linter.unusedVariables false
set_option linter.unusedSimpArgs false
set_option linter.unnecessarySimpa false
set_option linter.unusedSectionVars false
open Go

section
variable {P : Program} {fs : FuncId → List V1 → List Blk → Option FSpec} {R : Type}

def opR (P : Program) (fs : FuncId → List V1 → List Blk → Option FSpec) (o : Op) (env : List AV) (H : List Blk) : Option (AV × List Blk) := opQ P fs o env H fun v H => some (v, H)

theorem binInt_eq (op : BinOp) (k : IntKind) (a b : Int) (f : Cell → Option R) : binInt op k a b f = (binInt op k a b some).bind f := by
  unfold binInt
  cases op <;> simp only [Option.bind_some, Option.bind_none] <;> (try split) <;> rfl
theorem byB_bind {S : Type} (t : Bool) (x y : Option S) (f : S → Option R) : byB t (x.bind f) (y.bind f) = (byB t x y).bind f := by
  unfold byB
  cases t <;> rfl

theorem callF_eq (g : FuncId) (args : List V1) (H : List Blk) (f : AV → List Blk → Option R) : callF fs g args H f = (callF fs g args H fun v H => some (v, H)).bind fun p => f p.1 p.2 := by
  rw [callF_def, callF_def]
  split
  · split
    · rfl
    split
    · dsimp only
      split
      · rw [Option.bind_assoc]
        congr 1
        funext x
        split <;> rfl
      · rfl
    · dsimp only
      split
      · rw [Option.bind_assoc]
        congr 1
      · rfl
  · rfl
theorem callR_eq (g : Nat) (a args : List V1) (b : Nat) (H : List Blk) (f : AV → List Blk → Option R) : callR fs g a args b H f = (callR fs g a args b H fun v H => some (v, H)).bind fun p => f p.1 p.2 := by
  rw [callR_def, callR_def]
  split
  · split
    · dsimp only
      split
      · rw [Option.bind_assoc]
        congr 1
        funext x
        split
        · rw [← byB_bind]; rfl
        · rfl
      · rfl
    · rfl
  · rfl
theorem idx_eq (T : TypeId) (x : V1) (i : Int) (f : V1 → Option R) : idx P T x i f = (idx P T x i some).bind f := by
  unfold idx
  repeat' split
  all_goals (first | rfl | contradiction)
theorem idxAddr_eq (H : List Blk) (T : TypeId) (x : Cell) (i : Int) (f : Cell → Option R) : idxAddr P H T x i f = (idxAddr P H T x i some).bind f := by
  unfold idxAddr
  repeat' split
  all_goals (first | rfl | contradiction)
theorem cutX_eq (u : TypeDesc) (c : Cell) (l h : Int) (H : List Blk) (f : AV → List Blk → Option R) : cutX P u c l h H f = (cutX P u c l h H fun v H => some (v, H)).bind fun p => f p.1 p.2 := by
  unfold cutX
  repeat' split
  all_goals (first | rfl | contradiction)
theorem builtinX_eq (b : Builtin) (ts : Array TypeId) (args : List V1) (H : List Blk) (f : AV → List Blk → Option R) : builtinX P b ts args H f = (builtinX P b ts args H fun v H => some (v, H)).bind fun p => f p.1 p.2 := by
  unfold builtinX
  cases b <;> (try rfl) <;> (repeat' split) <;> (first | rfl | contradiction)
theorem convX_eq (own : Bool) (a b : TypeId) (x : Operand) (env : List AV) (H : List Blk) (f : AV → List Blk → Option R) : convX P own a b x env H f = (convX P own a b x env H fun v H => some (v, H)).bind fun p => f p.1 p.2 := by
  unfold convX
  repeat' split
  all_goals (first | rfl | contradiction)
theorem opV_eq (o : Op) (env : List AV) (H : List Blk) (f : AV → List Blk → Option R) : opV P o env H f = (opV P o env H fun v H => some (v, H)).bind fun p => f p.1 p.2 := by
  cases o
  case binOp op T x y z =>
    simp only [opV]
    repeat' split
    all_goals (first | rfl | contradiction | (rw [binInt_eq, binInt_eq (f := fun c => some (cellV c, H)), Option.bind_assoc]; rfl))
  case pick c a b =>
    simp only [opV]
    split
    · rw [← byB_bind]; rfl
    · rfl
  case slice T x lo hi m =>
    cases m
    · simp only [opV]
      repeat' split
      all_goals (first | rfl | contradiction | exact cutX_eq _ _ _ _ _ _)
    · rfl
  case index T x i =>
    simp only [opV]
    repeat' split
    all_goals (first | rfl | contradiction | (rw [idx_eq, idx_eq (f := fun v => some (AV.v v, H)), Option.bind_assoc]; rfl))
  case indexAddr T x i =>
    simp only [opV]
    repeat' split
    all_goals (first | rfl | contradiction | (rw [idxAddr_eq, idxAddr_eq (f := fun c => some (cellV c, H)), Option.bind_assoc]; rfl))
  case makeFunc t a b =>
    cases t <;> simp only [opV]
    all_goals (repeat' split)
    all_goals (first | rfl | contradiction)
  case convert a b x => exact convX_eq _ _ _ _ _ _ _
  all_goals (simp only [opV])
  all_goals (repeat' split)
  all_goals (first | rfl | contradiction)

theorem opX_eq0 (o : Op) (env : List AV) (H : List Blk) (f : AV → List Blk → Option R) : opX P fs o env H f = (opX P fs o env H fun v H => some (v, H)).bind fun p => f p.1 p.2 := by
  unfold opX
  split
  · rename_i c
    unfold callX
    split
    · split
      · exact builtinX_eq _ _ _ _ _
      · repeat' split
        all_goals (first | rfl | contradiction | exact callF_eq _ _ _ _ | (rw [callR_eq]; exact byB_bind _ none _ _))
      · rfl
    · rfl
  · exact opV_eq _ _ _ _
theorem opX_eq (o : Op) (env : List AV) (H : List Blk) (f : AV → List Blk → Option R) : opQ P fs o env H f = (opR P fs o env H).bind fun p => f p.1 p.2 := by
  unfold opR opQ
  split
  · repeat' split
    all_goals (first | rfl | contradiction)
  · exact convX_eq _ _ _ _ _ _ _
  · exact opX_eq0 _ _ _ _
end
end Go.Proofs.YtcdnofemnpafhaaM

/- What an operation's outcome depends on. Conditions: none. -/
namespace Go.Proofs.YtcdnofemnpafhaaM
set_option linter.unusedVariables false
set_option linter.unusedSimpArgs false
set_option linter.unnecessarySimpa false
set_option linter.unusedSectionVars false
open Go

section
variable {P : Program} {fs : FuncId → List V1 → List Blk → Option FSpec} {R : Type}

theorem valsOf_env {env env' : List AV} : ∀ (l : List Operand), (∀ x ∈ l, evalV env' x = evalV env x) → valsOf env' l = valsOf env l
  | [], _ => rfl
  | x :: l, h => by
    simp only [valsOf, h x (by simp), valsOf_env l fun y hy => h y (by simp [hy])]
theorem partsOf_env {env env' : List AV} : ∀ (l : List (Nat × Operand)), (∀ x ∈ l.map (·.2), evalV env' x = evalV env x) → partsOf env' l = partsOf env l
  | [], _ => rfl
  | (i, x) :: l, h => by
    simp only [partsOf, h x (by simp), partsOf_env l fun y hy => h y (by simp only [List.map_cons, List.mem_cons]; exact .inr hy)]
theorem mapM_env {env env' : List AV} : ∀ (l : List Operand), (∀ x ∈ l, evalV env' x = evalV env x) → l.mapM (fun x => V1.ofAV (evalV env' x)) = l.mapM (fun x => V1.ofAV (evalV env x))
  | [], _ => rfl
  | x :: l, h => by
    simp only [List.mapM_cons, h x (by simp), mapM_env l fun y hy => h y (by simp [hy])]
theorem boundX_env {env env' : List AV} (d : Int) (o : Option Operand) (h : ∀ x ∈ o.toList, evalV env' x = evalV env x) : boundX env' d o = boundX env d o := by
  cases o with
  | none => rfl
  | some y => simp only [boundX, h y (by simp)]

theorem opX_env0 {env env' : List AV} (o : Op) (H : List Blk) (f : AV → List Blk → Option R) (h : ∀ x ∈ o.operands.toList, evalV env' x = evalV env x) : opX P fs o env' H f = opX P fs o env H f := by
  cases o
  case call c =>
    simp only [opX]
    unfold callX
    have hc : ∀ x ∈ c.args.toList, evalV env' x = evalV env x := fun x hx => h x (by simp only [Op.operands, Call.operands, Array.toList_append, List.mem_append]; exact .inr hx)
    rw [valsOf_env _ hc]
    split
    · split
      · rfl
      · rename_i g hg
        rw [h g (by simp [Op.operands, Call.operands, hg])]
      · rfl
    · rfl
  case build T ps =>
    simp only [opX, opV]
    rw [partsOf_env _ fun x hx => h x (by simpa [Op.operands] using hx)]
  case buildSlice T n ps =>
    simp only [opX, opV]
    rw [partsOf_env _ fun x hx => h x (by simpa [Op.operands] using hx)]
  case makeFunc t a b =>
    cases t <;> simp only [opX, opV]
    rw [mapM_env _ fun x hx => h x (by simp only [Op.operands, Array.toList_append, List.mem_append]; exact .inl hx), mapM_env _ fun x hx => h x (by simp only [Op.operands, Array.toList_append, List.mem_append]; exact .inr hx)]
  case slice T x lo hi m =>
    cases m
    · simp only [opX, opV]
      have h0 := h x (by simp [Op.operands])
      have h1 : ∀ y ∈ lo.toList, evalV env' y = evalV env y := fun y hy => h y (by simp only [Op.operands, Array.toList_append, List.mem_append]; simp_all)
      have h2 : ∀ y ∈ hi.toList, evalV env' y = evalV env y := fun y hy => h y (by simp only [Op.operands, Array.toList_append, List.mem_append]; simp_all)
      rw [h0]
      split
      · rw [boundX_env _ _ h1]
        split
        · rename_i l n hl hn
          rw [boundX_env _ _ h2]
        · rfl
      · rfl
    · rfl
  case makeMap T x =>
    cases x <;> simp only [opX, opV]
  all_goals (simp only [Op.operands, Array.toList, List.mem_cons, List.not_mem_nil, or_false, forall_eq_or_imp, forall_eq] at h)
  all_goals (simp only [opX, opV])
  all_goals (try simp only [convX])
  all_goals (try simp only [h])
theorem opX_env {env env' : List AV} (o : Op) (H : List Blk) (f : AV → List Blk → Option R) (h : ∀ x ∈ o.operands.toList, evalV env' x = evalV env x) : opQ P fs o env' H f = opQ P fs o env H f := by
  unfold opQ
  split
  · rw [partsOf_env _ fun x hx => h x (by simpa [Op.operands] using hx)]
  · unfold convX
    rw [h _ (by simp [Op.operands])]
  · exact opX_env0 _ H f h
end
end Go.Proofs.YtcdnofemnpafhaaM

/- Quiet operations: what they read. Conditions: none. -/
namespace Go.Proofs.YtcdnofemnpafhaaM
set_option linter.unusedVariables false
set_option linter.unusedSimpArgs false
set_option linter.unnecessarySimpa false
set_option linter.unusedSectionVars false
open Go

section
variable {P : Program} {fs : FuncId → List V1 → List Blk → Option FSpec}

theorem valsOf_mem {env : List AV} : ∀ {l : List Operand} {vs : List V1}, valsOf env l = some vs → ∀ v ∈ vs, ∃ x ∈ l, evalV env x = .v v
  | [], vs, h, v, hv => by simp only [valsOf] at h; cases h; cases hv
  | x :: l, vs, h, v, hv => by
    simp only [valsOf] at h
    split at h
    · rename_i u r hu hr
      cases h
      rcases List.mem_cons.1 hv with rfl | hv
      · exact ⟨x, by simp, ofAV_eq hu⟩
      · obtain ⟨y, h1, h2⟩ := valsOf_mem hr v hv
        exact ⟨y, by simp [h1], h2⟩
    · cases h

def Same (x y : Option (AV × List Blk)) (H H' : List Blk) : Prop := (∀ p, x = some p → p.2 = H ∧ y = some (p.1, H'))

theorem Same.refl_v {v : AV} {H H' : List Blk} : Same (some (v, H)) (some (v, H')) H H' := fun p h => by cases h; exact ⟨rfl, rfl⟩
theorem Same.none {y : Option (AV × List Blk)} {H H' : List Blk} : Same none y H H' := fun p h => by cases h

theorem lenC_same {H H' : List Blk} (c : Cell) (h : ∀ b ∈ c.ids, H'[b]? = H[b]?) : lenC H' c = lenC H c := by
  cases c <;> simp only [lenC] <;> (first | rfl | (rw [h _ (by simp [Cell.ids])]))
theorem loadC_same {H H' : List Blk} (T : TypeId) (c : Cell) (h : ∀ b ∈ c.ids, H'[b]? = H[b]?) : loadC P H' T c = loadC P H T c := by
  cases c
  case ptr b i o =>
    have hb := h _ (List.mem_singleton.2 rfl)
    simp only [loadC]
    cases infoSz P T with
    | none => rfl
    | some n => simp only [hb]
  case arr b o m i =>
    have hb := h _ (List.mem_singleton.2 rfl)
    simp only [loadC]
    rcases infoSz P T with _ | (_ | _ | n)
    · rfl
    · rfl
    · simp only [hb]
    · rfl
  case nptr q i o =>
    have hb := h _ (List.mem_singleton.2 rfl)
    simp only [loadC]
    cases infoSz P T with
    | none => rfl
    | some n => simp only [hb]
  case optr b i o =>
    have hb := h _ (List.mem_singleton.2 rfl)
    simp only [loadC]
    cases infoSz P T with
    | none => rfl
    | some n => simp only [hb]
  case hole b o q i =>
    have hb := h b (by simp [Cell.ids])
    have hq := h q (by simp [Cell.ids])
    simp only [loadC]
    cases infoSz P T with
    | none => rfl
    | some n => simp only [hb, hq]
  all_goals (unfold loadC; cases infoSz P T <;> rfl)

theorem cutX_same {H H' : List Blk} (u : TypeDesc) (c : Cell) (l h : Int) (hb : ∀ b ∈ c.ids, H'[b]? = H[b]?) : Same (cutX P u c l h H fun v H => some (v, H)) (cutX P u c l h H' fun v H => some (v, H)) H H' := by
  cases u <;> cases c <;> simp only [cutX] <;> (first | exact Same.none | exact Same.refl_v | skip)
  all_goals (first | (have hb := hb _ (List.mem_singleton.2 rfl); rw [hb]) | skip)
  all_goals (repeat' split)
  all_goals (first | exact Same.none | exact Same.refl_v)
theorem idxAddr_same {H H' : List Blk} (T : TypeId) (c : Cell) (i : Int) (hb : ∀ b ∈ c.ids, H'[b]? = H[b]?) : idxAddr P H' T c i some = idxAddr P H T c i some := by
  unfold idxAddr
  cases c
  case full b =>
    have hb := hb _ (List.mem_singleton.2 rfl)
    rcases P.underlying T with _ | d
    · rfl
    · cases d <;> (first | rfl | simp only [hb])
  case part b o n =>
    have hb := hb _ (List.mem_singleton.2 rfl)
    rcases P.underlying T with _ | d
    · rfl
    · cases d <;> (first | rfl | simp only [hb])
  case ofull b =>
    have hb := hb _ (List.mem_singleton.2 rfl)
    rcases P.underlying T with _ | d
    · rfl
    · cases d <;> (first | rfl | simp only [hb])
  case oin b q n =>
    have hb := hb _ (List.mem_singleton.2 rfl)
    rcases P.underlying T with _ | d
    · rfl
    · cases d <;> (first | rfl | simp only [hb])
  case vsl b n =>
    have hb := hb _ (List.mem_singleton.2 rfl)
    rcases P.underlying T with _ | d
    · rfl
    · cases d <;> (first | rfl | simp only [hb])
  case ptr b j o => 
    rcases P.underlying T with _ | d
    · cases j <;> rfl
    · cases d <;> cases j <;> rfl
  all_goals (rcases P.underlying T with _ | d <;> (first | rfl | (cases d <;> rfl)))
theorem one_ids {c : Cell} {b : Nat} (h : b ∈ c.ids) : b ∈ (AV.v (.one c)).idsOf := by
  simpa [AV.idsOf, V1.ids, V1.cells] using h

theorem Same.ofOpt {x : Option AV} {H H' : List Blk} : Same (x.bind fun v => some (v, H)) (x.bind fun v => some (v, H')) H H' := by
  cases x
  · exact Same.none
  · exact Same.refl_v

theorem rowOf_same {H H' : List Blk} (t : Ty) (c : Cell) (h : ∀ b ∈ c.ids, H'[b]? = H[b]?) : rowOf H' t c = rowOf H t c := by
  cases c <;> simp only [rowOf] <;> (first | rfl | (rw [h _ (by simp [Cell.ids])]))
theorem quiet_same {o : Op} (hq : Op.quiet o = true) {env : List AV} {H H' : List Blk} (h : ∀ b ∈ opIds env o, H'[b]? = H[b]?) : Same (opR P fs o env H) (opR P fs o env H') H H' := by
  have hx : ∀ x ∈ o.operands.toList, ∀ b ∈ (evalV env x).idsOf, H'[b]? = H[b]? := fun x hx b hb => h b (List.mem_flatMap.2 ⟨x, hx, hb⟩)
  unfold opR
  cases o
  case call c =>
    simp only [opQ, opX]
    unfold callX
    split
    · rename_i args hv
      cases hc : c.callee with
      | builtin b =>
        simp only
        have hargs : ∀ v ∈ args, ∀ b ∈ v.ids, H'[b]? = H[b]? := by
          intro v hv' b hb
          obtain ⟨x, hx1, hx2⟩ := valsOf_mem hv v hv'
          refine hx x (by simp only [Op.operands, Call.operands, Array.toList_append, List.mem_append]; exact .inr hx1) b ?_
          rw [hx2]
          exact hb
        cases b <;> (first | (simp [Op.quiet, hc] at hq; done) | skip)
        all_goals (simp only [builtinX])
        · split
          · rename_i x y k T
            split
            · exact Same.refl_v
            · exact Same.none
            · rename_i c' _
              rw [lenC_same _ fun b hb => hargs _ (List.mem_singleton.2 rfl) b (by simpa [V1.ids, V1.cells] using hb)]
              split
              · exact Same.refl_v
              · exact Same.none
            · exact Same.none
          · exact Same.none
        all_goals (repeat' split)
        all_goals (first | exact Same.none | exact Same.refl_v)
      | value g => simp [Op.quiet, hc] at hq
      | invoke r m => simp [Op.quiet, hc] at hq
    · exact Same.none
  case buildSlice T n ps =>
    simp only [opQ]
    repeat' split
    all_goals (first | exact Same.refl_v | exact Same.none)
  case convert t u x =>
    have hx := hx x (by simp [Op.operands])
    simp only [opQ, convX]
    split
    · exact Same.refl_v
    · exact Same.refl_v
    · split
      · simp only [Bool.false_eq_true, if_false]
        exact Same.refl_v
      · exact Same.none
    · rename_i e c _ _ he
      rw [he] at hx
      rw [rowOf_same _ c fun b hb => hx b (one_ids hb)]
      split
      · exact Same.refl_v
      · exact Same.none
    · exact Same.none
  case load T x =>
    have hx := hx x (by simp [Op.operands])
    simp only [opQ, opX, opV]
    cases he : evalV env x with
    | tup vs => exact Same.none
    | v v =>
      rw [he] at hx
      cases v with
      | agg cs => exact Same.none
      | one c =>
        simp only
        rw [loadC_same T c fun b hb => hx b (one_ids hb)]
        split
        · exact Same.refl_v
        · exact Same.none
  case pick c a b =>
    simp only [opQ, opX, opV]
    split
    · rename_i t _
      cases t
      · exact Same.refl_v
      · exact Same.refl_v
    · exact Same.none
  case nilCheck x =>
    have hx := hx x (by simp [Op.operands])
    simp only [opQ, opX, opV]
    split <;> (first | exact Same.none | exact Same.refl_v | skip)
    · rename_i q i he
      rw [he] at hx
      rw [hx q (one_ids (List.mem_singleton.2 rfl))]
      split
      · split
        · exact Same.refl_v
        · exact Same.none
      · exact Same.none
    · rename_i g b he
      rw [he] at hx
      rw [hx b (one_ids (List.mem_singleton.2 rfl))]
      split
      · exact Same.refl_v
      · exact Same.none
  case indexAddr T x i =>
    have hx := hx x (by simp [Op.operands])
    simp only [opQ, opX, opV]
    split
    · rename_i c k n he hi
      rw [he] at hx
      rw [idxAddr_eq, idxAddr_eq (H := H'), idxAddr_same T c n fun b hb => hx b (one_ids hb)]
      cases idxAddr P H T c n some
      · exact Same.none
      · exact Same.refl_v
    · exact Same.none
  case slice T x lo hi m =>
    cases m
    · have hx := hx x (by simp [Op.operands])
      simp only [opQ, opX, opV]
      split
      · rename_i u c hu he
        rw [he] at hx
        rw [lenC_same c fun b hb => hx b (one_ids hb)]
        split
        · split
          · split
            · exact cutX_same _ _ _ _ fun b hb => hx b (one_ids hb)
            · exact Same.none
          · exact Same.none
        · exact Same.none
      · exact Same.none
    · exact Same.none
  case lookup T x i ok =>
    have hx := hx x (by simp [Op.operands])
    simp only [opQ, opX, opV]
    split
    · rename_i kT eT b kv hu he hi
      rw [he] at hx
      rw [hx b (one_ids (List.mem_singleton.2 rfl))]
      split
      · split
        · split
          · split
            · exact Same.refl_v
            · exact Same.refl_v
          · exact Same.none
        · exact Same.none
      · exact Same.none
    · exact Same.none
  case index T x i =>
    simp only [opQ, opX, opV]
    split
    · rw [idx_eq, idx_eq (f := fun v => some (AV.v v, H'))]
      rename_i v k n _ _
      cases idx P T v n some
      · exact Same.none
      · exact Same.refl_v
    · exact Same.none
  case binOp op T x y z =>
    have hx := hx x (by simp [Op.operands])
    have hlk : ∀ q i, evalV env x = .v (.one (.lnk q i)) → H'[q]? = H[q]? := fun q i he => by
      rw [he] at hx
      exact hx q (one_ids (List.mem_singleton.2 rfl))
    simp only [opQ, opX, opV]
    split
    case h_8 q i he _ =>
      rw [hlk q i he]
      repeat' split
      all_goals (first | exact Same.none | exact Same.refl_v)
    all_goals (repeat' split)
    all_goals (first | exact Same.none | exact Same.refl_v | skip)
    all_goals (rw [binInt_eq, binInt_eq (f := fun c => some (cellV c, H'))])
    all_goals (generalize binInt _ _ _ _ some = q; cases q)
    all_goals (first | exact Same.none | exact Same.refl_v)
  all_goals (first | (cases hq; done) | skip)
  all_goals (simp only [opQ, opX, opV])
  all_goals (repeat' split)
  all_goals (first | exact Same.refl_v | exact Same.none)
end
end Go.Proofs.YtcdnofemnpafhaaM

/- Loud operations: what they may change. Conditions: none. -/
namespace Go.Proofs.YtcdnofemnpafhaaM
set_option linter.unusedVariables false
set_option linter.unusedSimpArgs false
set_option linter.unnecessarySimpa false
set_option linter.unusedSectionVars false
open Go

def cids (cs : List Cell) : List Nat := cs.flatMap Cell.ids

theorem dec_off : ∀ (t : Ty) {H : List Blk} {cs : List Cell} {x : t.den} {r : List Cell} {H1 : List Blk}, dec t H cs = some (x, r, H1) →
    H1.length = H.length ∧ (∀ b ∈ cids r, b ∈ cids cs) ∧ ∀ b : Nat, b ∉ cids cs → H1[b]? = H[b]? := by
  intro t
  have sc : ∀ {a : Cell} {cs r : List Cell} {H H1 : List Blk}, cs = r → H = H1 → H1.length = H.length ∧ (∀ b ∈ cids r, b ∈ cids (a :: cs)) ∧ ∀ b : Nat, b ∉ cids (a :: cs) → H1[b]? = H[b]? := by
    intro a cs r H H1 h1 h2
    subst h1; subst h2
    exact ⟨rfl, fun b hb => by unfold cids at *; rw [List.flatMap_cons, List.mem_append]; exact .inr hb, fun _ _ => rfl⟩
  induction t with
  | int k => intro H cs x r H1 hd; cases cs with | nil => simp [dec] at hd | cons a cs => cases a <;> simp only [dec] at hd <;> (first | (cases hd; done) | skip); split at hd <;> (first | (cases hd; done) | skip); simp only [Option.some.injEq, Prod.mk.injEq] at hd; exact sc hd.2.1 hd.2.2
  | bool => intro H cs x r H1 hd; cases cs with | nil => simp [dec] at hd | cons a cs => cases a <;> simp only [dec] at hd <;> (first | (cases hd; done) | skip); simp only [Option.some.injEq, Prod.mk.injEq] at hd; exact sc hd.2.1 hd.2.2
  | str => intro H cs x r H1 hd; cases cs with | nil => simp [dec] at hd | cons a cs => cases a <;> simp only [dec] at hd <;> (first | (cases hd; done) | skip); simp only [Option.some.injEq, Prod.mk.injEq] at hd; exact sc hd.2.1 hd.2.2
  | unit => intro H cs x r H1 hd; simp only [dec, Option.some.injEq, Prod.mk.injEq] at hd; obtain ⟨_, rfl, rfl⟩ := hd; exact ⟨rfl, fun _ h => h, fun _ _ => rfl⟩
  | pair p q ihp ihq =>
    intro H cs x r H1 hd
    simp only [dec] at hd
    split at hd
    · rename_i y r1 H2 h1
      split at hd
      · rename_i z r2 H3 h2
        simp only [Option.some.injEq, Prod.mk.injEq] at hd
        obtain ⟨_, rfl, rfl⟩ := hd
        obtain ⟨l1, i1, k1⟩ := ihp h1
        obtain ⟨l2, i2, k2⟩ := ihq h2
        exact ⟨l2.trans l1, fun b hb => i1 b (i2 b hb), fun b hb => (k2 b fun h => hb (i1 b h)).trans (k1 b hb)⟩
      · cases hd
    · cases hd
  | ro t iht =>
    intro H cs x r H1 hd
    cases cs with
    | nil => simp [dec] at hd
    | cons a cs =>
      cases a <;> simp only [dec] at hd <;> (first | (cases hd; done) | skip)
      case ro t' l =>
        split at hd
        · simp only [Option.some.injEq, Prod.mk.injEq] at hd; exact sc hd.2.1 hd.2.2
        · cases hd
      case nils => simp only [Option.some.injEq, Prod.mk.injEq] at hd; exact sc hd.2.1 hd.2.2
      case full q =>
        split at hd
        · rename_i T t' l hq
          split at hd
          · simp only [Option.some.injEq, Prod.mk.injEq] at hd
            obtain ⟨_, rfl, rfl⟩ := hd
            refine ⟨by simp, fun b hb => by unfold cids at *; rw [List.flatMap_cons, List.mem_append]; exact .inr hb, fun b hb => ?_⟩
            rw [List.getElem?_set, if_neg]
            intro e
            subst e
            exact hb (by unfold cids; rw [List.flatMap_cons, List.mem_append]; exact .inl (by simp [Cell.ids]))
          · cases hd
        · cases hd

theorem decAll_off {t : Ty} {H : List Blk} {cs : List Cell} {x : t.den} {H1 : List Blk} (h : decAll t H cs = some (x, H1)) : H1.length = H.length ∧ ∀ b : Nat, b ∉ cids cs → H1[b]? = H[b]? := by
  unfold decAll at h
  split at h
  · rename_i y H' hd
    simp only [Option.some.injEq, Prod.mk.injEq] at h
    obtain ⟨_, rfl⟩ := h
    exact ⟨(dec_off t hd).1, (dec_off t hd).2.2⟩
  · cases h
theorem decRow_off {t : Ty} : ∀ (n : Nat) {H : List Blk} {cs : List Cell} {l : List t.den} {H1 : List Blk}, decRow t n H cs = some (l, H1) → H1.length = H.length ∧ ∀ b : Nat, b ∉ cids cs → H1[b]? = H[b]?
  | 0, H, cs, l, H1, h => by
    cases cs with
    | nil => simp only [decRow, Option.some.injEq, Prod.mk.injEq] at h; rw [h.2]; exact ⟨rfl, fun _ _ => rfl⟩
    | cons a cs => simp [decRow] at h
  | n + 1, H, cs, l, H1, h => by
    simp only [decRow] at h
    split at h
    · rename_i x r H2 h1
      split at h
      · rename_i l' H3 h2
        simp only [Option.some.injEq, Prod.mk.injEq] at h
        obtain ⟨_, rfl⟩ := h
        obtain ⟨l1, i1, k1⟩ := dec_off t h1
        obtain ⟨l2, k2⟩ := decRow_off n h2
        exact ⟨l2.trans l1, fun b hb => (k2 b fun hh => hb (i1 b hh)).trans (k1 b hb)⟩
      · cases h
    · cases h

theorem cids_append (a b : List Cell) : cids (a ++ b) = cids a ++ cids b := by simp [cids]
theorem enc_ids : ∀ (t : Ty) (x : t.den), cids (enc t x) = []
  | .int _, _ => rfl
  | .bool, _ => rfl
  | .str, _ => rfl
  | .ro _, _ => rfl
  | .unit, _ => rfl
  | .pair a b, x => by
    show cids (enc a x.1 ++ enc b x.2) = []
    rw [cids_append, enc_ids a, enc_ids b]; rfl
theorem cids_take {n : Nat} {cs : List Cell} {b : Nat} (h : b ∈ cids (cs.take n)) : b ∈ cids cs := by
  unfold cids at *
  rw [List.mem_flatMap] at *
  obtain ⟨x, hx, hb⟩ := h
  exact ⟨x, List.mem_of_mem_take hx, hb⟩
theorem cids_drop {n : Nat} {cs : List Cell} {b : Nat} (h : b ∈ cids (cs.drop n)) : b ∈ cids cs := by
  unfold cids at *
  rw [List.mem_flatMap] at *
  obtain ⟨x, hx, hb⟩ := h
  exact ⟨x, List.mem_of_mem_drop hx, hb⟩
theorem splice_ids {cs v : List Cell} {o b : Nat} (h : b ∈ cids (spliceL cs o v)) : b ∈ cids cs ∨ b ∈ cids v := by
  unfold spliceL at h
  rw [cids_append, cids_append, List.mem_append, List.mem_append] at h
  rcases h with (h | h) | h
  · exact .inl (cids_take h)
  · exact .inr h
  · exact .inl (cids_drop h)
end Go.Proofs.YtcdnofemnpafhaaM

/- Loud operations: what they may change. Conditions: none. -/
namespace Go.Proofs.YtcdnofemnpafhaaM
set_option linter.unusedVariables false
set_option linter.unusedSimpArgs false
set_option linter.unnecessarySimpa false
set_option linter.unusedSectionVars false
open Go

section
variable {P : Program} {fs : FuncId → List V1 → List Blk → Option FSpec}

def Off (H H' : List Blk) (m : List Nat) : Prop := H.length ≤ H'.length ∧ ∀ b, b < H.length → b ∉ m → H'[b]? = H[b]?
theorem Off.refl (H : List Blk) (m : List Nat) : Off H H m := ⟨Nat.le_refl _, fun _ _ _ => rfl⟩
theorem Off.add {H H' : List Blk} {m : List Nat} (h : Off H H' m) (l : List Blk) : Off H (H' ++ l) m :=
  ⟨by rw [List.length_append]; have := h.1; omega, fun b hb hm => by rw [List.getElem?_append_left (by have := h.1; omega)]; exact h.2 b hb hm⟩
theorem Off.of {H H' : List Blk} {m : List Nat} (h1 : H'.length = H.length) (h2 : ∀ b, b ∉ m → H'[b]? = H[b]?) : Off H H' m := ⟨by omega, fun b _ hm => h2 b hm⟩
theorem Off.set {H H' : List Blk} {m : List Nat} (h : Off H H' m) {q : Nat} (B : Blk) (hq : q ∈ m) : Off H (H'.set q B) m :=
  ⟨by rw [List.length_set]; exact h.1, fun b hb hm => by
    have e : q ≠ b := fun e => hm (by rw [← e]; exact hq)
    rw [List.getElem?_set, if_neg e]
    exact h.2 b hb hm⟩
theorem Off.sub {H H' : List Blk} {m m' : List Nat} (h : Off H H' m) (hs : ∀ b ∈ m, b ∈ m') : Off H H' m' := ⟨h.1, fun b hb hm => h.2 b hb fun hh => hm (hs b hh)⟩

theorem holeStore_off {H H1 : List Blk} {b o q i : Nat} {v : List Cell} {m : List Nat} {i0 k0 : Nat} (h : holeStore H b o q i v = some (i0, k0, H1)) (hb : b ∈ m) (hq : q ∈ m) (hv : ∀ x ∈ cids v, x ∈ m) : Off H H1 m := by
  unfold holeStore at h
  split at h
  · split at h
    · split at h
      · split at h
        · split at h
          · cases h
            exact (((Off.refl _ _).set _ hq).set _ hb).add _
          · cases h
        · split at h
          · split at h
            · split at h
              · split at h
                · split at h
                  · cases h
                    exact ((((Off.refl _ _).set _ hq).set _ (hv _ (by simp [cids, Cell.ids]))).set _ hb).add _
                  · cases h
                · cases h
              · cases h
            · cases h
          · cases h
        · cases h
      · cases h
    · cases h
  · cases h

theorem storeC_off {H H1 : List Blk} {T : TypeId} {c : Cell} {v : List Cell} {i0 k0 : Nat} (h : storeC P H T c v = some (i0, k0, H1)) : Off H H1 (c.ids ++ cids v) := by
  unfold storeC at h
  split at h
  · rename_i b i o n _
    split at h
    · split at h
      · split at h
        · split at h
          · split at h
            · exact holeStore_off h (by simp [Cell.ids]) (by simp [cids, Cell.ids]) (fun x hx => List.mem_append.2 (.inr hx))
            · split at h
              · cases h; exact (Off.refl _ _).set _ (by simp [Cell.ids])
              · cases h
          · split at h
            · cases h; exact (Off.refl _ _).set _ (by simp [Cell.ids])
            · cases h
        · cases h
      · rename_i T' t l hb
        split at h
        · split at h
          · rename_i x H2 hd
            split at h
            · cases h
              refine Off.set (Off.of (decAll_off hd).1 fun q hq => (decAll_off hd).2 q fun hh => hq ?_) _ (by simp [Cell.ids])
              rcases splice_ids hh with hh | hh
              · rw [enc_ids] at hh; cases hh
              · exact List.mem_append.2 (.inr hh)
            · cases h
          · cases h
        · cases h
      · cases h
    · cases h
  · split at h
    · split at h
      · split at h
        · cases h; exact (Off.refl _ _).set _ (by simp [Cell.ids])
        · cases h
      · cases h
    · cases h
  · split at h
    · split at h
      · split at h
        · split at h
          · cases h; exact (Off.refl _ _).set _ (by simp [Cell.ids])
          · cases h
        · cases h
      · cases h
    · cases h
  · exact holeStore_off h (by simp [Cell.ids]) (by simp [Cell.ids]) (fun x hx => List.mem_append.2 (.inr hx))
  · split at h
    · split at h
      · split at h
        · cases h; exact (Off.refl _ _).set _ (by simp [Cell.ids])
        · cases h
      · cases h
    · cases h
  · split at h
    · split at h
      · split at h
        · cases h; exact (Off.refl _ _).set _ (by simp [Cell.ids])
        · cases h
      · cases h
    · cases h
  · cases h

theorem place_off {ρ : List Nat} {b : Nat} (h : b ∉ ρ) : place ρ b = none := by
  cases hp : place ρ b with
  | none => rfl
  | some q => exact absurd (List.mem_of_getElem? (place_some hp)) h

theorem merge_off (H : List Blk) (ρ : List Nat) (H2 : List Blk) : Off H (merge H ρ H2) ρ := by
  refine ⟨by rw [merge_len]; omega, fun b hb hm => ?_⟩
  rw [merge_lt hb, place_off hm]
  rw [List.getD_eq_getElem?_getD, List.getElem?_eq_getElem hb]; rfl

theorem callF_off {g : FuncId} {args : List V1} {H H1 : List Blk} {v : AV} (h : (callF fs g args H fun v H => some (v, H)) = some (v, H1)) : Off H H1 (callMods fs g args H) := by
  rw [callF_def] at h
  unfold callMods
  split at h
  · rename_i sp hsp
    (try rw [hsp])
    split at h
    · cases h
    split at h
    · rename_i hb
      dsimp only at h
      split at h
      · rw [Option.bind_eq_some_iff] at h
        obtain ⟨x, _, h⟩ := h
        split at h
        · simp only [Option.some.injEq, Prod.mk.injEq] at h
          rw [← h.2]
          simp only [hb, if_true]
          exact merge_off _ _ _
        · cases h
      · cases h
    · rename_i hb
      dsimp only at h
      split at h
      · rw [Option.bind_eq_some_iff] at h
        obtain ⟨x, _, h⟩ := h
        simp only [Option.some.injEq, Prod.mk.injEq] at h
        rw [← h.2]
        simp only [hb]
        exact merge_off _ _ _
      · cases h
  · cases h

theorem callR_off {f : Nat} {a args : List V1} {b : Nat} {H H1 : List Blk} {v : AV} (h : (callR fs f a args b H fun v H => some (v, H)) = some (v, H1)) : Off H H1 (b :: reach H fuelR ((a ++ args).flatMap V1.ids) []) := by
  rw [callR_def] at h
  split at h
  · split at h
    · dsimp only at h
      split at h
      · rw [Option.bind_eq_some_iff] at h
        obtain ⟨x, _, h⟩ := h
        have key : ∀ (B : Blk) (H2 : List Blk), Off H (merge (H.set b B) (reach H fuelR ((a ++ args).flatMap V1.ids) []) H2) (b :: reach H fuelR ((a ++ args).flatMap V1.ids) []) := by
          intro B H2
          obtain ⟨k1, k2⟩ := merge_off (H.set b B) (reach H fuelR ((a ++ args).flatMap V1.ids) []) H2
          refine ⟨by simpa using k1, fun q hq hm => ?_⟩
          rw [List.mem_cons, not_or] at hm
          rw [k2 q (by simpa using hq) hm.2, List.getElem?_set_ne (fun e => hm.1 e.symm)]
        split at h
        · rcases byB_some h with ⟨_, h⟩ | ⟨_, h⟩
          all_goals (simp only [Option.some.injEq, Prod.mk.injEq] at h; rw [← h.2]; exact key _ _)
        · cases h
      · cases h
    · cases h
  · cases h

theorem cells?_eq {v : V1} {cs : List Cell} (h : v.cells? = some cs) : v.cells = cs := by
  cases v with
  | one c => cases c <;> simp only [V1.cells?] at h <;> (first | (cases h; done) | (cases h; rfl))
  | agg l => cases h; rfl
theorem valsOf_ids {env : List AV} {l : List Operand} {vs : List V1} (h : valsOf env l = some vs) {b : Nat} (hb : b ∈ vs.flatMap V1.ids) : b ∈ l.flatMap fun x => (evalV env x).idsOf := by
  obtain ⟨v, hv, hb⟩ := List.mem_flatMap.1 hb
  obtain ⟨x, h1, h2⟩ := valsOf_mem h v hv
  exact List.mem_flatMap.2 ⟨x, h1, by rw [h2]; exact hb⟩

theorem partsOf_ids {env : List AV} : ∀ {l : List (Nat × Operand)} {ps : List (Nat × List Cell)}, partsOf env l = some ps → ∀ p ∈ ps, ∀ b ∈ cids p.2, b ∈ (l.map (·.2)).flatMap fun x => (evalV env x).idsOf
  | [], ps, h, p, hp, b, hb => by simp only [partsOf] at h; cases h; cases hp
  | (i, x) :: l, ps, h, p, hp, b, hb => by
    simp only [partsOf] at h
    split at h
    · rename_i v r hv hr
      cases h
      rw [List.map_cons, List.flatMap_cons, List.mem_append]
      rcases List.mem_cons.1 hp with rfl | hp
      · rw [Option.bind_eq_some_iff] at hv
        obtain ⟨u, hu, hc⟩ := hv
        rw [ofAV_eq hu]
        refine .inl ?_
        simp only [AV.idsOf, V1.ids]
        rw [cells?_eq hc]; exact hb
      · exact .inr (partsOf_ids hr p hp b hb)
    · cases h
theorem fillL_ids {pl : Nat → Option (Nat × Nat)} : ∀ {ps : List (Nat × List Cell)} {cs r : List Cell}, fillL pl cs ps = some r → ∀ b ∈ cids r, b ∈ cids cs ∨ ∃ p ∈ ps, b ∈ cids p.2
  | [], cs, r, h, b, hb => by simp only [fillL] at h; cases h; exact .inl hb
  | (i, v) :: ps, cs, r, h, b, hb => by
    simp only [fillL] at h
    split at h
    · cases h
    · split at h
      · split at h
        · rcases fillL_ids h b hb with hh | ⟨p, hp, hh⟩
          · rcases splice_ids hh with hh | hh
            · exact .inl hh
            · exact .inr ⟨(i, v), List.mem_cons_self, hh⟩
          · exact .inr ⟨p, by simp [hp], hh⟩
        · cases h
      · cases h
theorem cellOf_ids (v : Value) : (cellOf v).ids = [] := by
  unfold cellOf
  split <;> rfl
theorem v1Of_ids (v : Value) : (v1Of v).ids = [] := by
  unfold v1Of
  split
  · split
    · simp only [V1.ids, V1.cells]
      rw [List.flatMap_map]
      simp [cellOf_ids]
    · rfl
  · simp [V1.ids, V1.cells, cellOf_ids]
theorem zeroCells_ids {T : TypeId} {z : List Cell} (h : zeroCells P T = some z) : cids z = [] := by
  unfold zeroCells at h
  rw [Option.bind_eq_some_iff] at h
  obtain ⟨v, _, hc⟩ := h
  have := v1Of_ids v
  unfold V1.ids at this
  rw [cells?_eq hc] at this
  exact this

theorem builtin_off {b : Builtin} {ts : Array TypeId} {args : List V1} {H H1 : List Blk} {v : AV} (h : (builtinX P b ts args H fun v H => some (v, H)) = some (v, H1)) : Off H H1 (args.flatMap V1.ids) := by
  unfold builtinX at h
  cases b <;> simp only at h <;> (first | (cases h; done) | skip)
  case append =>
    split at h
    · rename_i x y z c d T T'
      split at h
      · split at h
        · rename_i t i _ _
          split at h
          · rename_i l q m hb hm
            split at h
            case isFalse => cases h
            split at h
            · simp only [Option.some.injEq, Prod.mk.injEq] at h
              rw [← h.2]
              refine Off.add ?_ _
              unfold baseOf at hb
              split at hb
              · simp only [Option.some.injEq, Prod.mk.injEq] at hb
                rw [← hb.2]
                refine ⟨by simp, fun k hk _ => ?_⟩
                rw [List.getElem?_set, if_neg (by omega)]
              · split at hb
                · split at hb
                  · split at hb
                    · simp only [Option.some.injEq, Prod.mk.injEq] at hb
                      rw [← hb.2]
                      exact (Off.refl _ _).set _ (by simp [V1.ids, V1.cells, Cell.ids])
                    · cases hb
                  · cases hb
                · cases hb
              · cases hb
            · cases h
          · cases h
        · cases h
      · cases h
    · cases h
  all_goals (repeat' split at h)
  all_goals (first | (cases h; done) | skip)
  all_goals (simp only [Option.some.injEq, Prod.mk.injEq] at h; rw [← h.2]; exact Off.refl _ _)

theorem op_off {o : Op} {env : List AV} {H H1 : List Blk} {v : AV} (h : opR P fs o env H = some (v, H1)) : Off H H1 (opMods fs o env H) := by
  by_cases hq : Op.quiet o = true
  · have := (quiet_same (P := P) (fs := fs) hq (env := env) (H := H) (H' := H) (fun _ _ => rfl) _ h).1
    simp only at this
    rw [this]; exact Off.refl _ _
  · unfold opR at h
    have part : ∀ x ∈ o.operands.toList, ∀ b ∈ (evalV env x).idsOf, b ∈ opIds env o := fun x hx b hb => List.mem_flatMap.2 ⟨x, hx, hb⟩
    cases o <;> (first | (exact absurd rfl hq) | skip)
    case call c =>
      simp only [opQ, opX, callX] at h
      show Off H H1 (callXMods fs c env H)
      unfold callXMods
      split at h
      · rename_i args ha
        (try rw [ha])
        (try simp only)
        split at h
        · rename_i b hb
          (try rw [hb])
          exact builtin_off h
        · rename_i g hg
          (try rw [hg])
          (try simp only)
          split at h
          · rename_i g' he
            (try rw [he])
            exact callF_off h
          · rename_i g' b he
            (try rw [he])
            (try simp only)
            split at h
            · rename_i g2 first cap hb
              (try rw [hb])
              (try simp only)
              split at h
              · exact callF_off h
              · cases h
            · cases h
          · rename_i b he
            (try rw [he])
            (try simp only)
            split at h
            · rename_i g2 a2 d2 hb
              (try rw [hb])
              (try simp only)
              rcases byB_some h with ⟨_, h⟩ | ⟨_, h⟩
              · cases h
              · exact callR_off h
            · cases h
          · cases h
        · cases h
      · cases h
    case store T x y =>
      simp only [opQ, opX, opV] at h
      split at h
      · rename_i c v' he hv
        split at h
        · rename_i i0 k0 H2 hs
          split at h
          case isFalse => cases h
          simp only [Option.some.injEq, Prod.mk.injEq] at h
          rw [← h.2]
          refine (storeC_off hs).sub fun b hb => ?_
          rcases List.mem_append.1 hb with hb | hb
          · exact part x (by simp [Op.operands]) b (by rw [he]; exact one_ids hb)
          · rw [Option.bind_eq_some_iff] at hv
            obtain ⟨u, hu, hc⟩ := hv
            refine part y (by simp [Op.operands]) b ?_
            rw [ofAV_eq hu]
            show b ∈ u.ids
            unfold V1.ids
            rw [cells?_eq hc]; exact hb
        · cases h
      · cases h
    case makeSlice T x y =>
      simp only [opQ, opX, opV] at h
      split at h
      · split at h
        · rename_i t z i _ hz _
          split at h
          · rename_i d H2 hd
            split at h
            case isFalse => cases h
            split at h
            · simp only [Option.some.injEq, Prod.mk.injEq] at h
              rw [← h.2]
              exact Off.add (Off.of (decAll_off hd).1 fun b hb => (decAll_off hd).2 b (by rw [zeroCells_ids hz]; simp)) _
            · cases h
          · cases h
        · cases h
      · cases h
    case makeFunc t a b =>
      cases t <;> simp only [opQ, opX, opV] at h <;> (first | (cases h; done) | skip)
      split at h
      · simp only [Option.some.injEq, Prod.mk.injEq] at h
        rw [← h.2]
        exact (Off.refl _ _).add _
      · cases h
    case makeMap T x =>
      cases x <;> simp only [opQ, opX, opV] at h <;> (first | (cases h; done) | skip)
      split at h
      · split at h
        · split at h
          · simp only [Option.some.injEq, Prod.mk.injEq] at h
            rw [← h.2]
            exact (Off.refl _ _).add _
          · cases h
        · cases h
      · cases h
    case mapUpdate T x i y =>
      simp only [opQ, opX, opV] at h
      split at h
      · rename_i kT eT b kv v hu hx hi hy
        split at h
        · split at h
          · split at h
            · simp only [Option.some.injEq, Prod.mk.injEq] at h
              rw [← h.2]
              exact (Off.refl _ _).set _ (part x (by simp [Op.operands]) b (by rw [hx]; exact one_ids (by simp [Cell.ids])))
            · cases h
          · cases h
        · cases h
      · cases h
    all_goals (simp only [opQ, opX, opV] at h)
    all_goals (first | (cases h; done) | skip)
    all_goals (split at h)
    all_goals (first | (cases h; done) | skip)
    all_goals (simp only [Option.some.injEq, Prod.mk.injEq] at h; rw [← h.2]; exact (Off.refl _ _).add _)
end
end Go.Proofs.YtcdnofemnpafhaaM

/- A run in the text's order, as a row of states. Conditions: none. -/
namespace Go.Proofs.YtcdnofemnpafhaaM
set_option linter.unusedVariables false
set_option linter.unusedSimpArgs false
set_option linter.unnecessarySimpa false
set_option linter.unusedSectionVars false
open Go

section
variable {P : Program} {fs : FuncId → List V1 → List Blk → Option FSpec} {R : Type}

def wantedX (all : Array Oper) (o : Oper) (env : List AV) : Option Bool :=
  match o.guard with
  | none => some true
  | some (j, want) =>
    match (all[j]?).bind (·.dst) with
    | some d =>
      match env.getD d AV.top with
      | .v (.one (.bool b)) => some (b == want)
      | .tup [] => some false
      | _ => none
    | none => none

inductive StepX (P : Program) (fs : FuncId → List V1 → List Blk → Option FSpec) (all : Array Oper) (o : Oper) (s : St) : Note → St → Prop
  | pass (h : wantedX all o s.env = some false) : StepX P fs all o s ⟨true, [], []⟩ (s.put o.dst (.tup []))
  | make (h : wantedX all o s.env = some true) {v : AV} {H' : List Blk} (hv : opR P fs o.op s.env s.H = some (v, H')) :
      StepX P fs all o s ⟨false, opIds s.env o.op, opMods fs o.op s.env s.H ++ List.range' s.H.length (H'.length - s.H.length)⟩ (({ s with H := H' } : St).put o.dst v)

inductive RunX (P : Program) (fs : FuncId → List V1 → List Blk → Option FSpec) (all : Array Oper) : List Oper → St → List Note → List St → St → Prop
  | nil (s : St) : RunX P fs all [] s [] [] s
  | cons {o : Oper} {l : List Oper} {s s1 s2 : St} {x : Note} {L : List Note} {S : List St} (h : StepX P fs all o s x s1) (t : RunX P fs all l s1 L S s2) : RunX P fs all (o :: l) s (x :: L) (s :: S) s2

theorem set_same {env : List AV} {d : Nat} {v : AV} (h : env.getD d AV.top = v) (hv : v ≠ AV.top) : env.set d v = env := by
  apply List.ext_getElem?
  intro p
  rw [List.getElem?_set]
  split
  · rename_i hp
    subst hp
    rw [List.getD_eq_getElem?_getD] at h
    split
    · rename_i hl
      rw [List.getElem?_eq_getElem hl] at h ⊢
      simp only [Option.getD_some] at h
      rw [h]
    · rename_i hl
      rw [List.getElem?_eq_none (by omega)] at h
      exact absurd h.symm hv
  · rfl

theorem drawX_run (all : Array Oper) {k : St → List Note → Option R} {r : R} : ∀ (l : List Oper) (s : St) (L : List Note), drawX P fs all l s L k = some r → ∃ L' S s', RunX P fs all l s L' S s' ∧ k s' (L ++ L') = some r
  | [], s, L, h => ⟨[], [], s, .nil s, by simpa [drawX] using h⟩
  | o :: l, s, L, h => by
    have pass : wantedX all o s.env = some false → drawX P fs all l (s.put o.dst (.tup [])) (L ++ [⟨true, [], []⟩]) k = some r → ∃ L' S s', RunX P fs all (o :: l) s L' S s' ∧ k s' (L ++ L') = some r := by
      intro hw h
      obtain ⟨L', S, s', h1, h2⟩ := drawX_run all l _ _ h
      exact ⟨_ :: L', _ :: S, s', .cons (.pass hw) h1, by simpa using h2⟩
    have make : wantedX all o s.env = some true → (opQ P fs o.op s.env s.H fun v H => drawX P fs all l (({ s with H := H } : St).put o.dst v) (L ++ [⟨false, opIds s.env o.op, opMods fs o.op s.env s.H ++ List.range' s.H.length (H.length - s.H.length)⟩]) k) = some r → ∃ L' S s', RunX P fs all (o :: l) s L' S s' ∧ k s' (L ++ L') = some r := by
      intro hw h
      rw [opX_eq, Option.bind_eq_some_iff] at h
      obtain ⟨p, hp, h⟩ := h
      obtain ⟨L', S, s', h1, h2⟩ := drawX_run all l _ _ h
      exact ⟨_ :: L', _ :: S, s', .cons (.make hw hp) h1, by simpa using h2⟩
    simp only [drawX] at h
    split at h
    · rename_i hg
      exact make (by simp [wantedX, hg]) h
    · rename_i j want hg
      split at h
      · rename_i d hd
        split at h
        · rename_i b hb
          have e : ∀ t, b = t → ({ s with env := s.env.set d (cellV (.bool t)) } : St) = s := by
            intro t ht
            subst ht
            have := set_same hb (by intro e; cases e)
            show St.mk (s.env.set d (cellV (.bool b))) s.H = s
            rw [show cellV (.bool b) = AV.v (.one (.bool b)) from rfl, this]
          have on : ∀ t, b = t → (if t = want then opQ P fs o.op (s.env.set d (cellV (.bool t))) s.H fun v H => drawX P fs all l (({ ({ s with env := s.env.set d (cellV (.bool t)) } : St) with H := H } : St).put o.dst v) (L ++ [⟨false, opIds (s.env.set d (cellV (.bool t))) o.op, opMods fs o.op (s.env.set d (cellV (.bool t))) s.H ++ List.range' s.H.length (H.length - s.H.length)⟩]) k
              else drawX P fs all l (({ s with env := s.env.set d (cellV (.bool t)) } : St).put o.dst (.tup [])) (L ++ [⟨true, [], []⟩]) k) = some r → ∃ L' S s', RunX P fs all (o :: l) s L' S s' ∧ k s' (L ++ L') = some r := by
            intro t ht h
            have e1 := e t ht
            have e2 : s.env.set d (cellV (.bool t)) = s.env := congrArg St.env e1
            split at h
            · rename_i hw
              refine make ?_ ?_
              · simp only [wantedX, hg, hd, hb]; rw [ht, hw]; simp
              · rw [e2] at h; exact h
            · rename_i hw
              refine pass ?_ ?_
              · simp only [wantedX, hg, hd, hb]; rw [ht]; simp [hw]
              · rw [e1] at h; exact h
          rcases byB_some h with ⟨hb1, h⟩ | ⟨hb1, h⟩
          · exact on true hb1 h
          · exact on false hb1 h
        · rename_i hb
          exact pass (by simp only [wantedX, hg, hd, hb]) h
        · cases h
      · cases h
end
end Go.Proofs.YtcdnofemnpafhaaM

/- One operation, done from any state that agrees with the run's own where it looks. Conditions: none. -/
namespace Go.Proofs.YtcdnofemnpafhaaM
set_option linter.unusedVariables false
set_option linter.unusedSimpArgs false
set_option linter.unnecessarySimpa false
set_option linter.unusedSectionVars false
open Go

section
variable {P : Program} {c : Cx} {fs : FuncId → List V1 → List Blk → Option FSpec}

theorem wantedX_sound {all : Array Oper} {o : Oper} {j : J} {H : List Blk} {w : World} {N : Nat → Prop} {env : List AV} {a : Act} (he : ERel c j H w N env a) {b : Bool} (h : wantedX all o env = some b) : Region.wanted o (yielded all a.tmps) = b := by
  unfold wantedX at h
  unfold Region.wanted
  split at h
  · rename_i hg
    cases h
    simp only [hg]
  · rename_i jg want hg
    simp only [hg]
    split at h
    · rename_i d hd
      split at h
      · rename_i t ht
        cases h
        have hv := evalV_rel he (.tmp d)
        simp only [evalV, ht] at hv
        have hvd : a.tmps.getD d undef = .bool t := rel_bool hv
        have hdl : d < env.length := by
          rcases Nat.lt_or_ge d env.length with h1 | h1
          · exact h1
          · rw [List.getD_eq_getElem?_getD, List.getElem?_eq_none h1] at ht
            cases ht
        have hdt : d < a.tmps.size := by have := he.2.1; simp at this; rw [← this]; exact hdl
        have hy : yielded all a.tmps jg = some t := by
          have e1 : a.tmps[d]? = some (.bool t) := by
            rw [Array.getD_eq_getD_getElem?, Array.getElem?_eq_getElem hdt] at hvd
            rw [Array.getElem?_eq_getElem hdt]
            simpa using hvd
          unfold yielded
          rw [hd]
          simp only [Option.bind_some, e1]
        rw [hy]
        cases t <;> cases want <;> rfl
      · rename_i ht
        cases h
        have hv := evalV_rel he (.tmp d)
        simp only [evalV, ht] at hv
        obtain ⟨vs, hv1, hv2⟩ := hv
        have hvs : vs = #[] := by
          have := hv2.1
          simp at this
          exact Array.size_eq_zero_iff.1 this.symm
        subst hvs
        have hy : yielded all a.tmps jg = none := by
          unfold yielded
          rw [hd]
          simp only [Option.bind_some]
          simp only [Act.eval, Array.getD_eq_getD_getElem?] at hv1
          cases e1 : a.tmps[d]? with
          | none => rfl
          | some x => rw [e1] at hv1; simp at hv1; subst hv1; rfl
        rw [hy]
        rfl
      · cases h
    · cases h

def Agree (all : Array Oper) (o : Oper) (env env' : List AV) : Prop := ∀ t ∈ slotsRead all o, env'.getD t AV.top = env.getD t AV.top

theorem Agree.evalV {all : Array Oper} {o : Oper} {env env' : List AV} (h : Agree all o env env') : ∀ x ∈ o.op.operands.toList, YtcdnofemnpafhaaM.evalV env' x = YtcdnofemnpafhaaM.evalV env x := by
  intro x hx
  cases x with
  | tmp t =>
    simp only [YtcdnofemnpafhaaM.evalV]
    refine h t ?_
    unfold slotsRead
    rw [List.mem_append]
    exact .inl (List.mem_filterMap.2 ⟨_, hx, rfl⟩)
  | const v => rfl
  | func f => rfl
  | global g => rfl
theorem Agree.wanted {all : Array Oper} {o : Oper} {env env' : List AV} (h : Agree all o env env') : wantedX all o env' = wantedX all o env := by
  unfold wantedX
  split
  · rfl
  · rename_i j want hg
    cases hd : (all[j]?).bind (·.dst) with
    | none => rfl
    | some d =>
      simp only
      rw [h d (by unfold slotsRead; rw [List.mem_append]; refine .inr ?_; simp only [hg, hd]; simp)]
theorem Agree.ids {all : Array Oper} {o : Oper} {env env' : List AV} (h : Agree all o env env') : opIds env' o.op = opIds env o.op := by
  unfold opIds
  have : ∀ l : List Operand, (∀ x ∈ l, YtcdnofemnpafhaaM.evalV env' x = YtcdnofemnpafhaaM.evalV env x) → (l.flatMap fun x => (YtcdnofemnpafhaaM.evalV env' x).idsOf) = l.flatMap fun x => (YtcdnofemnpafhaaM.evalV env x).idsOf := by
    intro l
    induction l with
    | nil => intro _; rfl
    | cons x l ih => intro hl; rw [List.flatMap_cons, List.flatMap_cons, hl x (by simp), ih fun y hy => hl y (by simp [hy])]
  exact this _ h.evalV

theorem opR_there {all : Array Oper} {o : Oper} {env env' : List AV} {H H' H1 : List Blk} {v : AV} (ha : Agree all o env env') (hr : opR P fs o.op env H = some (v, H1)) :
    (Op.quiet o.op = true → (∀ b ∈ opIds env o.op, H'[b]? = H[b]?) → H1 = H ∧ opR P fs o.op env' H' = some (v, H')) ∧
    (H' = H → opR P fs o.op env' H' = some (v, H1)) := by
  have e : ∀ H, opR P fs o.op env' H = opR P fs o.op env H := fun H => opX_env o.op H _ ha.evalV
  constructor
  · intro hq hb
    obtain ⟨h1, h2⟩ := quiet_same (P := P) (fs := fs) hq hb _ hr
    exact ⟨h1, by rw [e]; exact h2⟩
  · rintro rfl
    rw [e]; exact hr

theorem step_wp (hfs : ∀ g as H sp, fs g as H = some sp → FSound P g sp) {all : Array Oper} {o : Oper} {i : Nat} (ho : all[i]? = some o) {Q : Exit → Act → World → Prop} {K : Act → World → Prop} {ro : Option Nat} {e : List AV} {H : List Blk} {a : Act} {w : World} (hs : SRel P c ⟨e, H⟩ a w) :
    (wantedX all o e = some false → (∀ a', SRel P c (({ env := e, H := H } : St).put o.dst (.tup [])) a' w → K a' w) → wpOpIn (FF ro) 0 P all Q i K a w) ∧
    (∀ {v : AV} {H1 : List Blk}, wantedX all o e = some true → opR P fs o.op e H = some (v, H1) → (∀ a' w', SRel P c (({ env := e, H := H1 } : St).put o.dst v) a' w' → K a' w') → wpOpIn (FF ro) 0 P all Q i K a w) := by
  obtain ⟨j, hI, he⟩ := hs
  constructor
  · intro hw hK
    unfold wpOpIn
    simp only [ho]
    rw [wantedX_sound he hw, if_neg (by simp)]
    refine ⟨fun _ _ => trivial, hK _ ⟨j, ?_, ?_⟩⟩
    · cases o.dst <;> exact hI
    · have := he.put (v := .tup []) (V := undef) undef_rel o.dst
      cases hd : o.dst <;> rw [hd] at this <;> exact this
  · intro v H1 hw hr hK
    unfold wpOpIn
    simp only [ho]
    rw [wantedX_sound he hw, if_pos rfl]
    refine (opQ_sound hfs hI he (f := fun v H => some (v, H)) (r := (v, H1)) hr fun V w' av H' j' h1 h2 h3 h4 => ?_)
    simp only [Option.some.injEq, Prod.mk.injEq] at h1
    obtain ⟨rfl, rfl⟩ := h1
    refine hK _ w' ⟨j', ?_, ?_⟩
    · cases o.dst <;> exact h2
    · have := (he.mov h3).put h4 o.dst
      cases hd : o.dst <;> rw [hd] at this <;> exact this
end
end Go.Proofs.YtcdnofemnpafhaaM

/- What may be told of a region without a run; the states of a run. Conditions: none. -/
namespace Go.Proofs.YtcdnofemnpafhaaM
set_option linter.unusedVariables false
set_option linter.unusedSimpArgs false
set_option linter.unnecessarySimpa false
set_option linter.unusedSectionVars false
open Go

section
variable {P : Program} {c : Cx} {fs : FuncId → List V1 → List Blk → Option FSpec}

def ancAt (all : Array Oper) (i : Nat) : List Nat := (ancsOf all.toList).getD i []
def Ord (all : Array Oper) (k i : Nat) : Prop := if k < i then k ∈ ancAt all i else i ∈ ancAt all k

structure Free (all : Array Oper) : Prop where
  lt : ∀ (i : Nat) (o : Oper), all[i]? = some o → ∀ p ∈ predsOf o, p < i
  anc : ∀ (i : Nat) (o : Oper), all[i]? = some o → ∀ q ∈ ancAt all i, ∃ p ∈ predsOf o, p = q ∨ q ∈ ancAt all p
  read : ∀ (i : Nat) (o : Oper) (k : Nat) (p : Oper) (d : Tmp), all[i]? = some o → all[k]? = some p → k ≠ i → p.dst = some d → d ∈ slotsRead all o → Ord all k i
  dst : ∀ (i : Nat) (o : Oper) (k : Nat) (p : Oper) (d : Tmp), all[i]? = some o → all[k]? = some p → k ≠ i → p.dst = some d → o.dst ≠ some d
  loud : ∀ (i : Nat) (o : Oper) (k : Nat) (p : Oper), all[i]? = some o → all[k]? = some p → k ≠ i → Op.quiet o.op = false → Op.quiet p.op = false → Ord all k i

theorem freeOk_spec {all : Array Oper} (h : freeOk all = true) : Free all := by
  unfold freeOk at h
  simp only [List.all_eq_true, List.mem_range, Array.length_toList] at h
  have ord : ∀ {k i : Nat}, (if k < i then ((ancsOf all.toList).getD i []).contains k else ((ancsOf all.toList).getD k []).contains i) = true → Ord all k i := by
    intro k i hh
    unfold Ord ancAt
    split at hh
    · rename_i hk; rw [if_pos hk]; simpa using hh
    · rename_i hk; rw [if_neg hk]; simpa using hh
  have at_ : ∀ i o, all[i]? = some o → i < all.size := fun i o ho => by
    rcases Nat.lt_or_ge i all.size with h1 | h1
    · exact h1
    · rw [Array.getElem?_eq_none h1] at ho; cases ho
  have pr : ∀ i o k p, all[i]? = some o → all[k]? = some p → k ≠ i → _ := fun i o k p ho hp hne => by
    have h1 := h i (at_ i o ho)
    rw [ho] at h1
    simp only [Bool.and_eq_true] at h1
    have h2 := List.all_eq_true.1 h1.2 k (List.mem_range.2 (at_ k p hp))
    rw [hp] at h2
    simp only [Bool.or_eq_true, beq_iff_eq] at h2
    exact h2.resolve_left hne
  refine ⟨fun i o ho p hp => ?_, fun i o ho q hq => ?_, fun i o k p d ho hp hne hd hr => ?_, fun i o k p d ho hp hne hd => ?_, fun i o k p ho hp hne hq1 hq2 => ?_⟩
  · have h1 := h i (at_ i o ho)
    rw [ho] at h1
    simp only [Bool.and_eq_true] at h1
    simpa using List.all_eq_true.1 h1.1.1.1 p hp
  · have h1 := h i (at_ i o ho)
    rw [ho] at h1
    simp only [Bool.and_eq_true] at h1
    have h2 := List.all_eq_true.1 h1.1.1.2 q hq
    obtain ⟨p, hp, h3⟩ := List.any_eq_true.1 h2
    refine ⟨p, hp, ?_⟩
    simp only [Bool.or_eq_true, beq_iff_eq] at h3
    rcases h3 with h3 | h3
    · exact .inl h3
    · exact .inr (by unfold ancAt; simpa using h3)
  · have h1 := pr i o k p ho hp hne
    simp only [Bool.and_eq_true] at h1
    have h2 := h1.1
    rw [hd] at h2
    simp only [Bool.and_eq_true, Bool.or_eq_true] at h2
    rcases h2.1 with h3 | h3
    · simp at h3; exact absurd hr h3
    · exact ord h3
  · have h1 := pr i o k p ho hp hne
    simp only [Bool.and_eq_true] at h1
    have h2 := h1.1
    rw [hd] at h2
    simp only [Bool.and_eq_true] at h2
    simpa using h2.2
  · have h1 := pr i o k p ho hp hne
    simp only [Bool.and_eq_true] at h1
    have h2 := h1.2
    rw [hq1, hq2] at h2
    simp only [Bool.false_or] at h2
    exact ord h2

theorem Free.anc_lt {all : Array Oper} (hf : Free all) : ∀ (i : Nat) (o : Oper), all[i]? = some o → ∀ q ∈ ancAt all i, q < i := by
  intro i
  induction i using Nat.strongRecOn with
  | _ i ih =>
    intro o ho q hq
    obtain ⟨p, hp, h⟩ := hf.anc i o ho q hq
    have hlt := hf.lt i o ho p hp
    rcases h with rfl | h
    · exact hlt
    · have hp' : p < all.size := by
        rcases Nat.lt_or_ge i all.size with h1 | h1
        · omega
        · rw [Array.getElem?_eq_none h1] at ho; cases ho
      have := ih p hlt _ (Array.getElem?_eq_getElem hp') q h
      omega

def Down (all : Array Oper) (D : Nat → Prop) : Prop := ∀ i o, all[i]? = some o → D i → ∀ p ∈ predsOf o, D p
theorem Free.down {all : Array Oper} (hf : Free all) {D : Nat → Prop} (hd : Down all D) : ∀ (i : Nat) (o : Oper), all[i]? = some o → (∀ p ∈ predsOf o, D p) → ∀ q ∈ ancAt all i, D q := by
  intro i
  induction i using Nat.strongRecOn with
  | _ i ih =>
    intro o ho hp q hq
    obtain ⟨p, hp1, h⟩ := hf.anc i o ho q hq
    have hlt := hf.lt i o ho p hp1
    rcases h with rfl | h
    · exact hp _ hp1
    · have hp' : p < all.size := by
        rcases Nat.lt_or_ge i all.size with h1 | h1
        · omega
        · rw [Array.getElem?_eq_none h1] at ho; cases ho
      exact ih p hlt _ (Array.getElem?_eq_getElem hp') (hd p _ (Array.getElem?_eq_getElem hp') (hp p hp1)) q h

theorem run_at {all : Array Oper} {l : List Oper} {s s' : St} {L : List Note} {S : List St} (h : RunX P fs all l s L S s') :
    S.length = l.length ∧ L.length = l.length ∧ (S ++ [s'])[0]? = some s ∧ ∀ i o, l[i]? = some o → ∃ x s1 s2, L[i]? = some x ∧ (S ++ [s'])[i]? = some s1 ∧ (S ++ [s'])[i + 1]? = some s2 ∧ StepX P fs all o s1 x s2 := by
  induction h with
  | nil s => exact ⟨rfl, rfl, rfl, fun i o ho => by simp at ho⟩
  | cons h t ih =>
    obtain ⟨h1, h2, h3, h4⟩ := ih
    refine ⟨by simp [h1], by simp [h2], rfl, fun i o ho => ?_⟩
    cases i with
    | zero =>
      simp only [List.getElem?_cons_zero, Option.some.injEq] at ho
      subst ho
      exact ⟨_, _, _, rfl, rfl, by simpa using h3, h⟩
    | succ i =>
      simp only [List.getElem?_cons_succ] at ho
      obtain ⟨x, s1, s2, k1, k2, k3, k4⟩ := h4 i o ho
      exact ⟨x, s1, s2, by simpa using k1, by simpa using k2, by simpa using k3, k4⟩
end
end Go.Proofs.YtcdnofemnpafhaaM

/- Regions whose operations may come in any order. Conditions: none. -/
namespace Go.Proofs.YtcdnofemnpafhaaM
set_option linter.unusedVariables false
set_option linter.unusedSimpArgs false
set_option linter.unnecessarySimpa false
set_option linter.unusedSectionVars false
open Go

section
variable {P : Program} {c : Cx} {fs : FuncId → List V1 → List Blk → Option FSpec}

theorem put_env (s : St) (d : Option Tmp) (v : AV) : (s.put d v).env = (match d with | some i => s.env.set i v | none => s.env) := by cases d <;> rfl
theorem put_H (s : St) (d : Option Tmp) (v : AV) : (s.put d v).H = s.H := by cases d <;> rfl
theorem getD_set_other {e : List AV} {d t : Nat} {v : AV} (h : d ≠ t) : (e.set d v).getD t AV.top = e.getD t AV.top := by
  rw [List.getD_eq_getElem?_getD, List.getD_eq_getElem?_getD, List.getElem?_set, if_neg h]
theorem put_other {s : St} {d : Option Tmp} {t : Nat} {v : AV} (h : d ≠ some t) : (s.put d v).env.getD t AV.top = s.env.getD t AV.top := by
  rw [put_env]
  cases d with
  | none => rfl
  | some i => exact getD_set_other fun e => h (by rw [e])
theorem put_hit {s s' : St} {t : Nat} {v : AV} (hl : s.env.length = s'.env.length) : (s.put (some t) v).env.getD t AV.top = (s'.put (some t) v).env.getD t AV.top := by
  rw [put_env, put_env, List.getD_eq_getElem?_getD, List.getD_eq_getElem?_getD]
  simp only
  rw [List.getElem?_set_self', List.getElem?_set_self']
  rcases Nat.lt_or_ge t s.env.length with h | h
  · rw [List.getElem?_eq_getElem h, List.getElem?_eq_getElem (by omega)]; rfl
  · rw [List.getElem?_eq_none h, List.getElem?_eq_none (by omega)]

structure Seen (P : Program) (fs : FuncId → List V1 → List Blk → Option FSpec) (all : Array Oper) (L : List Note) (st : Nat → St) : Prop where
  free : Free all
  step : ∀ (i : Nat) (o : Oper), all[i]? = some o → ∃ x, L[i]? = some x ∧ StepX P fs all o (st i) x (st (i + 1))
  notes : notesOk all L = true

variable {all : Array Oper} {L : List Note} {st : Nat → St}

theorem StepX.len {o : Oper} {s s1 : St} {x : Note} (h : StepX P fs all o s x s1) : s1.env.length = s.env.length := by
  cases h <;> exact put_len _ _ _
theorem StepX.other {o : Oper} {s s1 : St} {x : Note} (h : StepX P fs all o s x s1) {t : Nat} (hd : o.dst ≠ some t) : s1.env.getD t AV.top = s.env.getD t AV.top := by
  cases h <;> exact put_other hd
theorem StepX.quiet {o : Oper} {s s1 : St} {x : Note} (h : StepX P fs all o s x s1) (hq : Op.quiet o.op = true) : s1.H = s.H := by
  cases h with
  | pass h => exact put_H _ _ _
  | make h hv => rw [put_H]; exact (quiet_same (P := P) (fs := fs) hq (H' := s.H) (fun _ _ => rfl) _ hv).1
theorem StepX.skip {o : Oper} {s s1 : St} {x : Note} (h : StepX P fs all o s x s1) (hq : x.skip = true) : s1.H = s.H := by
  cases h with
  | pass h => exact put_H _ _ _
  | make h hv => cases hq
theorem StepX.off {o : Oper} {s s1 : St} {x : Note} (h : StepX P fs all o s x s1) {b : Nat} (hb : b ∉ x.mods) : s1.H[b]? = s.H[b]? := by
  cases h with
  | pass h => rw [put_H]
  | make h hv =>
    rw [put_H]
    have ho := op_off hv
    simp only [List.mem_append, not_or] at hb
    rcases Nat.lt_or_ge b s.H.length with h1 | h1
    · exact ho.2 b h1 hb.1
    · have h2 := hb.2
      simp only [List.mem_range'_1, not_and] at h2
      have := ho.1
      rw [List.getElem?_eq_none h1, List.getElem?_eq_none (by simp only; omega)]

theorem at_lt {i : Nat} {o : Oper} (ho : all[i]? = some o) : i < all.size := by
  rcases Nat.lt_or_ge i all.size with h1 | h1
  · exact h1
  · rw [Array.getElem?_eq_none h1] at ho; cases ho
theorem at_of {i : Nat} (h : i < all.size) : ∃ o, all[i]? = some o := ⟨_, Array.getElem?_eq_getElem h⟩

theorem Seen.len (hs : Seen P fs all L st) : ∀ k, k ≤ all.size → (st k).env.length = (st 0).env.length
  | 0, _ => rfl
  | k + 1, hk => by
    obtain ⟨o, ho⟩ := at_of (all := all) (i := k) (by omega)
    obtain ⟨x, _, h⟩ := hs.step k o ho
    rw [h.len, hs.len k (by omega)]

theorem Seen.env (hs : Seen P fs all L st) (t : Nat) : ∀ k, k ≤ all.size →
    (∀ i o, i < k → all[i]? = some o → o.dst = some t → (st k).env.getD t AV.top = (st (i + 1)).env.getD t AV.top) ∧
    ((∀ i o, i < k → all[i]? = some o → o.dst ≠ some t) → (st k).env.getD t AV.top = (st 0).env.getD t AV.top)
  | 0, _ => ⟨fun i o hi => by omega, fun _ => rfl⟩
  | k + 1, hk => by
    obtain ⟨p, hp⟩ := at_of (all := all) (i := k) (by omega)
    obtain ⟨x, _, h⟩ := hs.step k p hp
    obtain ⟨h1, h2⟩ := hs.env t k (by omega)
    constructor
    · intro i o hi ho hd
      by_cases e : i = k
      · rw [e]
      · have hpd : p.dst ≠ some t := fun hp' => hs.free.dst i o k p t ho hp (fun e' => e e'.symm) hp' hd
        rw [h.other hpd]
        exact h1 i o (by omega) ho hd
    · intro hn
      rw [h.other (hn k p (by omega) hp)]
      exact h2 fun i o hi ho => hn i o (by omega) ho

theorem Seen.mem (hs : Seen P fs all L st) (p : Nat) : ∀ d, p + d ≤ all.size → (∀ l o, all[l]? = some o → p ≤ l → l < p + d → Op.quiet o.op = true) → (st (p + d)).H = (st p).H
  | 0, _, _ => rfl
  | d + 1, hd, h => by
    obtain ⟨o, ho⟩ := at_of (all := all) (i := p + d) (by omega)
    obtain ⟨x, _, hst⟩ := hs.step (p + d) o ho
    rw [show p + (d + 1) = (p + d) + 1 by omega, hst.quiet (h _ _ ho (by omega) (by omega)), hs.mem p d (by omega) fun l o ho h1 h2 => h l o ho h1 (by omega)]
theorem Seen.blk (hs : Seen P fs all L st) (p b : Nat) : ∀ d, p + d ≤ all.size → (∀ l o x, all[l]? = some o → L[l]? = some x → p ≤ l → l < p + d → Op.quiet o.op = false → x.skip = true ∨ b ∉ x.mods) → (st (p + d)).H[b]? = (st p).H[b]?
  | 0, _, _ => rfl
  | d + 1, hd, h => by
    obtain ⟨o, ho⟩ := at_of (all := all) (i := p + d) (by omega)
    obtain ⟨x, hx, hst⟩ := hs.step (p + d) o ho
    have e : (st (p + d + 1)).H[b]? = (st (p + d)).H[b]? := by
      cases hq : Op.quiet o.op with
      | true => rw [hst.quiet hq]
      | false =>
        rcases h _ _ _ ho hx (by omega) (by omega) hq with h1 | h1
        · rw [hst.skip h1]
        · exact hst.off h1
    rw [show p + (d + 1) = (p + d) + 1 by omega, e, hs.blk p b d (by omega) fun l o x ho hx h1 h2 => h l o x ho hx h1 (by omega)]

theorem Seen.note (hs : Seen P fs all L st) {i k : Nat} {o p : Oper} {x y : Note} (ho : all[i]? = some o) (hp : all[k]? = some p) (hx : L[i]? = some x) (hy : L[k]? = some y) (hne : k ≠ i) (hq : Op.quiet o.op = true) (hl : Op.quiet p.op = false) (hs1 : x.skip = false)
    (h1 : k ∉ ancAt all i) (h2 : i ∉ ancAt all k) : y.skip = true ∨ ∀ b ∈ x.reads, b ∉ y.mods := by
  have h := hs.notes
  unfold notesOk at h
  simp only [List.all_eq_true, List.mem_range, Array.length_toList] at h
  have h := h i (at_lt ho) k (at_lt hp)
  rw [ho, hp, hx, hy] at h
  simp only [hq, hl, hs1, Bool.not_true, Bool.or_false, Bool.false_or, Bool.or_eq_true, beq_iff_eq] at h
  unfold ancAt at h1 h2
  rcases h with (((h | h) | h) | h) | h
  · exact absurd h hne
  · exact .inl h
  · exact absurd (by simpa using h) h1
  · exact absurd (by simpa using h) h2
  · refine .inr fun b hb => ?_
    have := List.all_eq_true.1 h b hb
    simpa using this
end
end Go.Proofs.YtcdnofemnpafhaaM

/- Regions whose operations may come in any order: that the text's order tells them all. Conditions: none. -/
namespace Go.Proofs.YtcdnofemnpafhaaM
set_option linter.unusedVariables false
set_option linter.unusedSimpArgs false
set_option linter.unnecessarySimpa false
set_option linter.unusedSectionVars false
open Go

section
variable {P : Program} {c : Cx} {fs : FuncId → List V1 → List Blk → Option FSpec} {all : Array Oper} {L : List Note} {st : Nat → St}

structure AtD (all : Array Oper) (st : Nat → St) (D : Nat → Prop) (e : List AV) (H : List Blk) : Prop where
  len : e.length = (st 0).env.length
  down : Down all D
  hit : ∀ (i : Nat) (o : Oper) (t : Nat), all[i]? = some o → D i → o.dst = some t → e.getD t AV.top = (st (i + 1)).env.getD t AV.top
  other : ∀ (t : Nat), (∀ (i : Nat) (o : Oper), all[i]? = some o → D i → o.dst ≠ some t) → e.getD t AV.top = (st 0).env.getD t AV.top
  mem : ∃ p, p ≤ all.size ∧ (∀ (l : Nat) (o : Oper), all[l]? = some o → Op.quiet o.op = false → l < p → D l) ∧ (∀ (l : Nat) (o : Oper), all[l]? = some o → Op.quiet o.op = false → p ≤ l → ¬ D l) ∧ H = (st p).H

theorem AtD.agree (hs : Seen P fs all L st) {D : Nat → Prop} {e : List AV} {H : List Blk} (h : AtD all st D e H) {i : Nat} {o : Oper} (ho : all[i]? = some o) (hi : ¬ D i) (hp : ∀ p ∈ predsOf o, D p) : Agree all o (st i).env e := by
  intro t ht
  have hanc := hs.free.down h.down i o ho hp
  obtain ⟨h1, h2⟩ := hs.env t i (Nat.le_of_lt (at_lt ho))
  by_cases hk : ∃ k p, all[k]? = some p ∧ D k ∧ p.dst = some t
  · obtain ⟨k, p, hk1, hk2, hk3⟩ := hk
    have hne : k ≠ i := fun e => hi (e ▸ hk2)
    have hord := hs.free.read i o k p t ho hk1 hne hk3 ht
    unfold Ord at hord
    by_cases hlt : k < i
    · rw [h.hit k p t hk1 hk2 hk3, h1 k p hlt hk1 hk3]
    · rw [if_neg hlt] at hord
      exact absurd (hs.free.down h.down k p hk1 (h.down k p hk1 hk2) i hord) hi
  · rw [h.other t fun k p hk1 hk2 hk3 => hk ⟨k, p, hk1, hk2, hk3⟩]
    symm
    refine h2 fun k p hlt hk1 hk3 => hk ⟨k, p, hk1, ?_, hk3⟩
    have hne : k ≠ i := by omega
    have hord := hs.free.read i o k p t ho hk1 hne hk3 ht
    unfold Ord at hord
    rw [if_pos hlt] at hord
    exact hanc k hord

theorem AtD.loud (hs : Seen P fs all L st) {D : Nat → Prop} {e : List AV} {H : List Blk} (h : AtD all st D e H) {i : Nat} {o : Oper} (ho : all[i]? = some o) (hi : ¬ D i) (hp : ∀ p ∈ predsOf o, D p) (hq : Op.quiet o.op = false) :
    H = (st i).H ∧ (∀ (l : Nat) (o' : Oper), all[l]? = some o' → Op.quiet o'.op = false → l < i → D l) ∧ (∀ (l : Nat) (o' : Oper), all[l]? = some o' → Op.quiet o'.op = false → i ≤ l → ¬ D l) := by
  have hanc := hs.free.down h.down i o ho hp
  have a1 : ∀ (l : Nat) (o' : Oper), all[l]? = some o' → Op.quiet o'.op = false → l < i → D l := by
    intro l o' hl hlq hlt
    have hord := hs.free.loud i o l o' ho hl (by omega) hq hlq
    unfold Ord at hord
    rw [if_pos hlt] at hord
    exact hanc l hord
  have a2 : ∀ (l : Nat) (o' : Oper), all[l]? = some o' → Op.quiet o'.op = false → i ≤ l → ¬ D l := by
    intro l o' hl hlq hle hD
    by_cases e : l = i
    · exact hi (e ▸ hD)
    · have hord := hs.free.loud i o l o' ho hl e hq hlq
      unfold Ord at hord
      rw [if_neg (by omega)] at hord
      exact hi (hs.free.down h.down l o' hl (h.down l o' hl hD) i hord)
  refine ⟨?_, a1, a2⟩
  obtain ⟨p, hpn, m1, m2, rfl⟩ := h.mem
  have hpi : p ≤ i := by
    rcases Nat.lt_or_ge i p with h1 | h1
    · exact absurd (m1 i o ho hq h1) hi
    · exact h1
  have := hs.mem p (i - p) (by have := at_lt ho; omega) fun l o' hl h1 h2 => by
    cases hlq : Op.quiet o'.op with
    | true => rfl
    | false => exact absurd (a1 l o' hl hlq (by omega)) (m2 l o' hl hlq h1)
  rw [show p + (i - p) = i by omega] at this
  exact this.symm

theorem AtD.reads (hs : Seen P fs all L st) {D : Nat → Prop} {e : List AV} {H : List Blk} (h : AtD all st D e H) {i : Nat} {o : Oper} {x : Note} (ho : all[i]? = some o) (hi : ¬ D i) (hp : ∀ p ∈ predsOf o, D p) (hq : Op.quiet o.op = true) (hx : L[i]? = some x) (hsk : x.skip = false) :
    ∀ b ∈ x.reads, H[b]? = (st i).H[b]? := by
  intro b hb
  have hanc := hs.free.down h.down i o ho hp
  obtain ⟨p, hpn, m1, m2, rfl⟩ := h.mem
  rcases Nat.le_total p i with hpi | hpi
  · have := hs.blk p b (i - p) (by have := at_lt ho; omega) fun l o' y hl hy h1 h2 hlq => by
      have hn := hs.note ho hl hx hy (by omega) hq hlq hsk (fun hm => m2 l o' hl hlq h1 (hanc l hm)) (fun hm => by have := hs.free.anc_lt l o' hl i hm; omega)
      exact hn.imp id fun h => h b hb
    rw [show p + (i - p) = i by omega] at this
    exact this.symm
  · have := hs.blk i b (p - i) (by omega) fun l o' y hl hy h1 h2 hlq => by
      have hne : l ≠ i := fun e => by
        subst e
        rw [ho] at hl; cases hl
        rw [hq] at hlq; cases hlq
      have hn := hs.note ho hl hx hy hne hq hlq hsk (fun hm => by have := hs.free.anc_lt i o ho l hm; omega) (fun hm => hi (hs.free.down h.down l o' hl (h.down l o' hl (m1 l o' hl hlq (by omega))) i hm))
      exact hn.imp id fun h => h b hb
    rw [show i + (p - i) = p by omega] at this
    exact this

theorem AtD.next (hs : Seen P fs all L st) {D : Nat → Prop} {e : List AV} {H : List Blk} (h : AtD all st D e H) {i : Nat} {o : Oper} (ho : all[i]? = some o) (hi : ¬ D i) (hp : ∀ p ∈ predsOf o, D p) {v : AV} {H1 : List Blk}
    (hv : (st (i + 1)).env = ((st i).put o.dst v).env) (hH : if Op.quiet o.op = true then H1 = H else H1 = (st (i + 1)).H) : AtD all st (fun k => D k ∨ k = i) (({ env := e, H := H1 } : St).put o.dst v).env H1 := by
  have hli : (st i).env.length = (st 0).env.length := hs.len i (Nat.le_of_lt (at_lt ho))
  refine ⟨by rw [put_len]; exact h.len, ?_, ?_, ?_, ?_⟩
  · intro k p hk hD q hq
    rcases hD with hD | rfl
    · exact .inl (h.down k p hk hD q hq)
    · rw [ho] at hk; cases hk
      exact .inl (hp q hq)
  · intro k p t hk hD hd
    rcases hD with hD | rfl
    · have hne : k ≠ i := fun e => hi (e ▸ hD)
      have hod : o.dst ≠ some t := hs.free.dst i o k p t ho hk hne hd
      rw [put_other hod]
      exact h.hit k p t hk hD hd
    · rw [ho] at hk; cases hk
      rw [hv, hd]
      exact put_hit (by rw [hli]; exact h.len)
  · intro t ht
    rw [put_other (ht i o ho (.inr rfl))]
    exact h.other t fun k p hk hD => ht k p hk (.inl hD)
  · cases hq : Op.quiet o.op with
    | true =>
      rw [hq, if_pos rfl] at hH
      subst hH
      obtain ⟨p, hpn, m1, m2, m3⟩ := h.mem
      refine ⟨p, hpn, fun l o' hl hlq hlt => .inl (m1 l o' hl hlq hlt), fun l o' hl hlq hle hD => ?_, m3⟩
      rcases hD with hD | rfl
      · exact m2 l o' hl hlq hle hD
      · rw [ho] at hl; cases hl
        rw [hq] at hlq; cases hlq
    | false =>
      rw [hq] at hH
      simp only [Bool.false_eq_true, if_false] at hH
      obtain ⟨_, a1, a2⟩ := h.loud hs ho hi hp hq
      refine ⟨i + 1, at_lt ho, fun l o' hl hlq hlt => ?_, fun l o' hl hlq hle hD => ?_, hH⟩
      · by_cases e : l = i
        · exact .inr e
        · exact .inl (a1 l o' hl hlq (by omega))
      · rcases hD with hD | rfl
        · exact a2 l o' hl hlq (by omega) hD
        · omega
end
end Go.Proofs.YtcdnofemnpafhaaM

/- Regions whose operations may come in any order: soundness. Conditions: none. -/
namespace Go.Proofs.YtcdnofemnpafhaaM
set_option linter.unusedVariables false
set_option linter.unusedSimpArgs false
set_option linter.unnecessarySimpa false
set_option linter.unusedSectionVars false
open Go

section
variable {P : Program} {c : Cx} {fs : FuncId → List V1 → List Blk → Option FSpec} {R : Type}

theorem mov_drawn (j : J) (H : List Blk) (w : World) (d : Nat) (N : Nat → Prop) : Mov j H w N j H { w with drawn := d } N :=
  ⟨Nat.le_refl _, fun _ B h => ⟨B, h, fun hl => ⟨Blk.same_refl hl, rfl, rfl⟩⟩, Nat.le_refl _, fun _ _ h => ⟨h, rfl⟩, fun _ _ _ _ _ cells _ _ _ hc => ⟨cells, hc, rfl⟩⟩
theorem Inv.drawn {j : J} {H : List Blk} {w : World} (h : Inv P c j H w) (d : Nat) : Inv P c j H { w with drawn := d } :=
  ⟨h.n, h.keep, h.neu, h.own, h.inj, h.frame, h.size, h.os, h.tape, h.output, h.apart, h.gl, h.same, h.rowsz, fun b B hb => BRel.mov (mov_drawn j H w d _) (h.heap b B hb) rfl rfl fun _ _ => rfl⟩
theorem SRel.drawn {s : St} {a : Act} {w : World} (h : SRel P c s a w) (d : Nat) : SRel P c s a { w with drawn := d } := by
  obtain ⟨j, hI, he⟩ := h
  exact ⟨j, hI.drawn d, he.mov (mov_drawn j s.H w d _)⟩

def left (n : Nat) (listed : Array Bool) : Nat := ((List.range n).filter fun i => !listed.getD i false).length

theorem left_zero {n : Nat} {listed : Array Bool} (h : left n listed = 0) {i : Nat} (hi : i < n) : listed.getD i false = true := by
  unfold left at h
  have h := List.eq_nil_of_length_eq_zero h
  cases hb : listed.getD i false with
  | true => rfl
  | false =>
    have : i ∈ (List.range n).filter fun i => !listed.getD i false := List.mem_filter.2 ⟨List.mem_range.2 hi, by simp [hb]⟩
    rw [h] at this; cases this
theorem left_set {n : Nat} {listed : Array Bool} {i : Nat} (hi : i < n) (hs : listed.size = n) (hl : listed.getD i false = false) : left n (listed.setIfInBounds i true) + 1 = left n listed := by
  unfold left
  have e : (List.range n).filter (fun k => !(listed.setIfInBounds i true).getD k false) = ((List.range n).filter fun k => !listed.getD k false).erase i := by
    rw [List.Nodup.erase_eq_filter (List.nodup_range.filter _), List.filter_filter]
    apply List.filter_congr
    intro k _
    by_cases hk : i = k
    · subst hk
      simp [hs, hi]
    · rw [getD_set_ne false hk]
      have : (k != i) = true := by simp; exact fun e => hk e.symm
      simp [this]
  have hm : i ∈ (List.range n).filter fun k => !listed.getD k false := List.mem_filter.2 ⟨List.mem_range.2 hi, by simp only [hl]; rfl⟩
  rw [e, List.length_erase_of_mem hm]
  have := List.length_pos_of_mem hm
  omega

variable {all : Array Oper} {L : List Note} {st : Nat → St} {Q : Exit → Act → World → Prop} {ro : Option Nat}

theorem AtD.all_done (hs : Seen P fs all L st) {D : Nat → Prop} {e : List AV} {H : List Blk} (h : AtD all st D e H) (hD : ∀ i, i < all.size → D i) : ({ env := e, H := H } : St) = st all.size := by
  have hH : H = (st all.size).H := by
    obtain ⟨p, hpn, _, m2, rfl⟩ := h.mem
    have := hs.mem p (all.size - p) (by omega) fun l o hl h1 _ => by
      cases hq : Op.quiet o.op with
      | true => rfl
      | false => exact absurd (hD l (at_lt hl)) (m2 l o hl hq h1)
    rw [show p + (all.size - p) = all.size by omega] at this
    exact this.symm
  have hlen := hs.len all.size (Nat.le_refl _)
  have hE : e = (st all.size).env := by
    apply List.ext_getElem (by rw [h.len, hlen])
    intro t h1 h2
    have key : e.getD t AV.top = (st all.size).env.getD t AV.top := by
      obtain ⟨k1, k2⟩ := hs.env t all.size (Nat.le_refl _)
      by_cases hk : ∃ (k : Nat) (p : Oper), all[k]? = some p ∧ p.dst = some t
      · obtain ⟨k, p, hk1, hk3⟩ := hk
        rw [h.hit k p t hk1 (hD k (at_lt hk1)) hk3, k1 k p (at_lt hk1) hk1 hk3]
      · rw [h.other t fun k p hk1 _ hk3 => hk ⟨k, p, hk1, hk3⟩, k2 fun k p _ hk1 hk3 => hk ⟨k, p, hk1, hk3⟩]
    rw [List.getD_eq_getElem?_getD, List.getD_eq_getElem?_getD, List.getElem?_eq_getElem h1, List.getElem?_eq_getElem h2] at key
    exact key
  rw [hH, hE]

theorem ready_of {listed : Array Bool} {i : Nat} (h : i ∈ Region.ready .any all listed) : ∃ o, all[i]? = some o ∧ listed.getD i false = false ∧ ∀ p ∈ predsOf o, listed.getD p false = true := by
  obtain ⟨h0, o, ho, h1⟩ := mem_ready.1 h
  refine ⟨o, ho, ?_, fun p hp => ?_⟩
  · rw [Array.getD_eq_getD_getElem?] at h0 ⊢
    cases hx : listed[i]? with
    | none => rfl
    | some b => rw [hx] at h0; exact h0
  · unfold predsOf at hp
    obtain ⟨e, he, rfl⟩ := List.mem_map.1 hp
    obtain ⟨he1, he2⟩ := List.mem_filter.1 he
    exact h1 e (by simpa using he1) he2

theorem any_sound (hfs : ∀ g as H sp, fs g as H = some sp → FSound P g sp) (hs : Seen P fs all L st) (hQ : ∀ a w, SRel P c (st all.size) a w → Q .normal a w) :
    ∀ (fuel : Nat) (listed : Array Bool) (e : List AV) (H : List Blk) (a : Act) (w : World), listed.size = all.size → left all.size listed = fuel → AtD all st (fun i => listed.getD i false = true) e H → SRel P c ⟨e, H⟩ a w →
      wpAnyIn (FF ro) 0 P .any all Q fuel listed a w := by
  intro fuel
  induction fuel with
  | zero =>
    intro listed e H a w hsz hl hat hr
    have hD := fun i (hi : i < all.size) => left_zero hl hi
    refine ⟨?_, hQ a w (by rw [← hat.all_done hs hD]; exact hr)⟩
    apply List.eq_nil_iff_forall_not_mem.2
    intro i hi
    obtain ⟨o, ho, h0, _⟩ := ready_of hi
    rw [hD i (at_lt ho)] at h0; cases h0
  | succ fuel ih =>
    intro listed e H a w hsz hl hat hr
    refine ⟨fun hnil => ?_, fun i hi => ?_⟩
    · -- nothing is ready: all is done
      have hD : ∀ i, i < all.size → listed.getD i false = true := by
        intro i
        induction i using Nat.strongRecOn with
        | _ i ihi =>
          intro hi
          cases hb : listed.getD i false with
          | true => rfl
          | false =>
            exfalso
            have : i ∈ Region.ready .any all listed := by
              refine mem_ready.2 ⟨?_, all[i], Array.getElem?_eq_getElem hi, fun ed he hb' => ?_⟩
              · rw [Array.getD_eq_getD_getElem?] at hb ⊢
                rw [Array.getElem?_eq_getElem (by omega)] at hb ⊢
                exact hb
              · have hp : ed.on ∈ predsOf all[i] := List.mem_map.2 ⟨ed, List.mem_filter.2 ⟨by simpa using he, hb'⟩, rfl⟩
                have hlt := hs.free.lt i _ (Array.getElem?_eq_getElem hi) _ hp
                exact ihi ed.on hlt (by omega)
            rw [hnil] at this; cases this
      exact hQ a w (by rw [← hat.all_done hs hD]; exact hr)
    · obtain ⟨o, ho, h0, hp⟩ := ready_of hi
      have hnl : ¬ (listed.getD i false = true) := by rw [h0]; exact fun h => by cases h
      obtain ⟨x, hx, hst⟩ := hs.step i o ho
      have hag := hat.agree hs ho hnl hp
      have hset : ∀ {e' : List AV} {H' : List Blk}, AtD all st (fun k => listed.getD k false = true ∨ k = i) e' H' → AtD all st (fun k => (listed.setIfInBounds i true).getD k false = true) e' H' := by
        intro e' H' h
        have : (fun k => listed.getD k false = true ∨ k = i) = fun k => (listed.setIfInBounds i true).getD k false = true := by
          funext k
          apply propext
          by_cases hk : i = k
          · subst hk
            have : i < listed.size := by rw [hsz]; exact at_lt ho
            simp [this]
          · rw [getD_set_ne false hk]
            exact ⟨fun h => h.resolve_right fun e => hk e.symm, .inl⟩
        rw [this] at h
        exact h
      have go : ∀ {v : AV} {H1 : List Blk}, (st (i + 1)).env = ((st i).put o.dst v).env → (if Op.quiet o.op = true then H1 = H else H1 = (st (i + 1)).H) → ∀ a' w', SRel P c (({ env := e, H := H1 } : St).put o.dst v) a' w' → wpAnyIn (FF ro) 0 P .any all Q fuel (listed.setIfInBounds i true) a' w' := by
        intro v H1 hv hH a' w' hr'
        have hn := hat.next hs ho hnl hp hv hH
        refine ih _ _ _ a' w' (by simpa using hsz) ?_ (hset hn) ?_
        · have := left_set (at_lt ho) hsz h0
          omega
        · have e1 : ({ env := (({ env := e, H := H1 } : St).put o.dst v).env, H := H1 } : St) = ({ env := e, H := H1 } : St).put o.dst v := by cases o.dst <;> rfl
          rw [e1]; exact hr'
      obtain ⟨w1, w2⟩ := step_wp (Q := Q) (ro := ro) (K := wpAnyIn (FF ro) 0 P .any all Q fuel (listed.setIfInBounds i true)) hfs ho hr
      generalize hsi : st i = si at hst hag go
      generalize hsj : st (i + 1) = sj at hst go
      cases hst with
      | pass h =>
        have hHH : if Op.quiet o.op = true then H = H else H = (si.put o.dst (.tup [])).H := by
          split
          · rfl
          · rename_i hq
            rw [put_H, ← hsi]
            exact (hat.loud hs ho hnl hp (by simpa using hq)).1
        exact w1 (by rw [hag.wanted]; exact h) fun a' => go rfl hHH a' w
      | make h hv =>
        rename_i v H'
        obtain ⟨t1, t2⟩ := opR_there hag hv (H' := H)
        cases hq : Op.quiet o.op with
        | true =>
          obtain ⟨_, h2⟩ := t1 hq fun b hb => by rw [← hsi]; exact hat.reads hs ho hnl hp hq hx rfl b hb
          exact w2 (by rw [hag.wanted]; exact h) h2 (go (by cases o.dst <;> rfl) (by rw [hq, if_pos rfl]))
        | false =>
          have hH := (hat.loud hs ho hnl hp hq).1
          rw [hsi] at hH
          exact w2 (by rw [hag.wanted]; exact h) (t2 hH) (go (by cases o.dst <;> rfl) (by rw [hq]; simp only [Bool.false_eq_true, if_false]; rw [put_H]))
end
end Go.Proofs.YtcdnofemnpafhaaM

/- A region whose operations may come in any order. Conditions: none. -/
namespace Go.Proofs.YtcdnofemnpafhaaM
set_option linter.unusedVariables false
set_option linter.unusedSimpArgs false
set_option linter.unnecessarySimpa false
set_option linter.unusedSectionVars false
open Go

section
variable {P : Program} {c : Cx} {fs : FuncId → List V1 → List Blk → Option FSpec} {R : Type}

theorem rep_getD (n i : Nat) : (Array.replicate n false).getD i false = false := by
  rw [Array.getD_eq_getD_getElem?]
  cases h : (Array.replicate n false)[i]? with
  | none => rfl
  | some b =>
    have := Array.mem_of_getElem? h
    rw [Array.mem_replicate] at this
    rw [this.2]; rfl
theorem left_all (n : Nat) : left n (Array.replicate n false) = n := by
  unfold left
  rw [List.filter_eq_self.2 fun i _ => by rw [rep_getD]; rfl]
  simp

theorem draw_sound (hfs : ∀ g as H sp, fs g as H = some sp → FSound P g sp) {id : Nat} {all : Array Oper} {s : St} {a : Act} {w : World} {k : St → Option R} {r : R} {m : Nat} {ro : Option Nat} {Q : Exit → Act → World → Prop}
    (hQ : ∀ s a w, SRel P c s a w → s.env.length = m → k s = some r → Q .normal a w) (hs : SRel P c s a w) (hm : s.env.length = m)
    (h : (if (freeOk all && P.follows .mixedOrders) = true then drawX P fs all all.toList s [] fun s L => if notesOk all L = true then k s else none else none) = some r) : (Code.region id all true).wpIn (FF ro) 0 P Q a w := by
  split at h
  · rename_i hc
    rw [Bool.and_eq_true] at hc
    obtain ⟨L, S, s', hrun, hk⟩ := drawX_run all all.toList s [] h
    rw [List.nil_append] at hk
    split at hk
    · rename_i hn
      obtain ⟨hS, hL, h0, hat⟩ := run_at hrun
      have hst : Seen P fs all L fun i => (S ++ [s']).getD i s' := by
        refine ⟨freeOk_spec hc.1, fun i o ho => ?_, hn⟩
        obtain ⟨x, s1, s2, k1, k2, k3, k4⟩ := hat i o (by simpa using ho)
        refine ⟨x, k1, ?_⟩
        show StepX P fs all o ((S ++ [s']).getD i s') x ((S ++ [s']).getD (i + 1) s')
        rw [List.getD_eq_getElem?_getD, List.getD_eq_getElem?_getD, k2, k3]
        exact k4
      have e0 : (S ++ [s']).getD 0 s' = s := by rw [List.getD_eq_getElem?_getD, h0]; rfl
      have en : (S ++ [s']).getD all.size s' = s' := by
        rw [List.getD_eq_getElem?_getD, List.getElem?_append_right (by rw [hS]; simp)]
        rw [hS]
        simp
      refine wpIn_region_any hc.2 (any_sound (c := c) hfs hst (fun a w hr => ?_) all.size _ s.env s.H a _ (by simp) (left_all _) ?_ (hs.drawn _))
      · simp only [en] at hr
        refine hQ s' a w hr ?_ hk
        have := hst.len all.size (Nat.le_refl _)
        simp only [en, e0] at this
        rw [this]; exact hm
      · have nd : ∀ {i : Nat}, ¬ ((Array.replicate all.size false).getD i false = true) := by
          intro i hh; rw [rep_getD] at hh; cases hh
        refine ⟨by simp only [e0], fun i o _ hD => absurd hD nd, fun i o t _ hD => absurd hD nd, fun t _ => by simp only [e0], ⟨0, Nat.zero_le _, fun l o _ _ hl => by omega, fun l o _ _ _ => nd, by simp only [e0]⟩⟩
    · cases hk
  · cases h
end
end Go.Proofs.YtcdnofemnpafhaaM

/- Code: sequences, branches, loops, joins; functions. Conditions: none. -/
namespace Go.Proofs.YtcdnofemnpafhaaM
set_option linter.unusedVariables false
set_option linter.unusedSimpArgs false
set_option linter.unnecessarySimpa false
set_option linter.unusedSectionVars false
open Go

section
variable {P : Program} {c : Cx} {R : Type} {r : R} {fs : FuncId → List V1 → List Blk → Option FSpec} {N gid : Nat} {loops joins : List LSpec} {ro : Option Nat}

theorem slots_rel {j : J} {H : List Blk} {w : World} {NN' : Nat → Prop} {env : List AV} {a : Act} (he : ERel c j H w NN' env a) (l : List Nat) : All2 (V1Rel j H w NN') (slotsOf env l) (l.map fun i => a.tmps.getD i undef) := by
  unfold slotsOf
  induction l with
  | nil => exact All2.nil
  | cons i l ih =>
    refine All2.cons ?_ ih
    have := evalV_rel he (.tmp i)
    simp only [evalV, Act.eval] at this
    show V1Rel j H w NN' (match env.getD i AV.top with | .v x => x | _ => .one .top) (a.tmps.getD i undef)
    cases hv : env.getD i AV.top with
    | v x => rw [hv] at this; exact this
    | tup _ => exact Or.inl rfl

theorem envAt_aux {j : J} {H : List Blk} {w : World} {NN' : Nat → Prop} (tm : List Value) : ∀ (l : List Nat) (vs : List V1) (env : List AV), All2 (V1Rel j H w NN') vs (l.map fun i => tm.getD i undef) → All2 (AVRel j H w NN') env tm →
    All2 (AVRel j H w NN') ((l.zip vs).foldl (fun e p => e.set p.1 (.v p.2)) env) tm
  | [], _, env, _, he => by simpa using he
  | i :: l, [], env, _, he => by simpa using he
  | i :: l, v :: vs, env, h, he => by
    obtain ⟨h1, h2⟩ := h.uncons
    rw [List.zip_cons_cons, List.foldl_cons]
    refine envAt_aux tm l vs _ h2 ?_
    have := he.set (i := i) (a := .v v) (b := tm.getD i undef) h1
    have e : tm.set i (tm.getD i undef) = tm := by
      apply List.ext_getElem?
      intro p
      rw [List.getElem?_set]
      split
      · rename_i hp
        subst hp
        split
        · rename_i hl
          rw [List.getD_eq_getElem?_getD, List.getElem?_eq_getElem hl]; rfl
        · rename_i hl
          rw [List.getElem?_eq_none (by omega)]
      · rfl
    rw [e] at this
    exact this

theorem ofP_rel {j : J} {w : World} {a : Act} {l : LSpec} {x : l.pat.den} {m : Nat} (hI : Inv P c j (l.pat.inj x).2 w) (hd : DOk c w (NN c j (l.pat.inj x).2) a.defers) (hm : a.tmps.size = m)
    (hv : All2 (V1Rel j (l.pat.inj x).2 w (NN c j (l.pat.inj x).2)) (l.pat.inj x).1 (l.slots.map fun i => a.tmps.getD i undef)) : SRel P c (St.ofP m l x) a w := by
  refine ⟨j, hI, hd, ?_⟩
  unfold St.ofP envAt
  refine envAt_aux a.tmps.toList l.slots _ _ (by simpa using hv) ?_
  refine ⟨by simp [hm], fun i x y hx _ => ?_⟩
  rw [List.getElem?_replicate] at hx
  split at hx
  · cases hx; exact .inl rfl
  · cases hx

theorem Inv.no_mark {j : J} {H : List Blk} {w : World} (h : Inv P c j H w) {D : Nat} {o : Option (List Deferred)} (hh : w.heap[D]? = some (.deferred o)) (hD : c.w0.heap.size ≤ D) : ¬ NN c j H D := by
  rintro (hA | ⟨b, B, hb, hl, hg⟩)
  · have := (h.apart D hA).2; omega
  · have hB := h.heap b B hb
    cases B with
    | dead => exact hl.elim
    | var T cs =>
      obtain ⟨g', vs, h1, h2, _⟩ := hB
      rw [hg] at h1; cases h1
      rw [hh] at h2; cases h2
    | row T t l =>
      rcases hB with ⟨h1, _⟩ | ⟨g', cap, cells, h1, h2, _⟩
      · rw [hg] at h1; cases h1
      · rw [hg] at h1; cases h1
        obtain ⟨_, _, h2, _⟩ := h2; rw [hh] at h2; cases h2
    | clo f a c =>
      have hg : j.blk b = some D := hg
      rw [hB.1] at hg; cases hg
    | map kt vt l =>
      obtain ⟨g', es, clock, h1, h2, _⟩ := hB
      rw [hg] at h1; cases h1
      rw [hh] at h2; cases h2
    | yld f a d =>
      obtain ⟨g', r, h1, h2, _⟩ := hB
      rw [hg] at h1; cases h1
      rw [hh] at h2; cases h2
    | own T t l =>
      obtain ⟨_, hl2, _, h4⟩ := hB
      rcases h4 with ⟨h4, rfl⟩ | ⟨g', cells, k1, k2, _, _, _, k6, _⟩
      · rcases hg with hg | ⟨i, hi⟩
        · rw [h4] at hg; cases hg
        · rw [List.eq_nil_of_length_eq_zero hl2] at hi; simp at hi
      · rcases hg with hg | ⟨i, hi⟩
        · rw [k1] at hg; cases hg
          rw [hh] at k2; cases k2
        · obtain ⟨_, _, _, _, h6, _⟩ := (k6 i D hi).2
          rw [hh] at h6; cases h6
    | chn T t l =>
      obtain ⟨_, _, h3, _, h5⟩ := hB
      obtain ⟨i, hi⟩ := List.getElem?_of_mem hg
      have h6 := h5 i D _ hi (List.getElem?_eq_getElem (by rw [← h3]; exact get_lt hi))
      rw [hh] at h6; cases h6
theorem Inv.marks {j j' : J} {H H' : List Blk} {w w' : World} {c' : Cx} {N' : Nat → Prop} (h : Inv P c' j' H' w') (hc : c'.w0.heap.size = c.w0.heap.size) {ds : List Deferred} (hd : DOk c w N' ds)
    (hw : ∀ D : Nat, w.heap[D]? = some (.deferred (some [])) → w'.heap[D]? = some (.deferred (some []))) : DOk c' w' (NN c' j' H') ds :=
  ⟨hd.1, fun d hm => by
    obtain ⟨D, h1, _, h3, h4⟩ := hd.2 d hm
    exact ⟨D, h1, h.no_mark (hw D h4) (by omega), by omega, hw D h4⟩⟩

theorem takeP_rel {s : St} {a : Act} {w : World} (hs : SRel P c s a w) {l : LSpec} {x : l.pat.den} (h : s.takeP c.n l = some x) : SRel P c (St.ofP s.env.length l x) a w := by
  obtain ⟨j, hI, he⟩ := hs
  obtain ⟨j', h1, h2⟩ := l.pat.take_sound hI h (slots_rel he l.slots)
  exact ofP_rel h1 (h1.marks (j := j) (H := s.H) rfl he.1 fun _ h => h) (by have := he.2.1; simp at this; exact this.symm) h2

theorem SRel.len {s : St} {a : Act} {w : World} (hs : SRel P c s a w) : a.tmps.size = s.env.length := by
  obtain ⟨j, hI, he⟩ := hs
  have := he.2.1; simp at this; exact this.symm

theorem ofP_len (m : Nat) (l : LSpec) (x : l.pat.den) : (St.ofP m l x).env.length = m := by
  unfold St.ofP envAt
  have : ∀ (ps : List (Nat × V1)) (env : List AV), (ps.foldl (fun e p => e.set p.1 (.v p.2)) env).length = env.length := by
    intro ps
    induction ps with
    | nil => intro env; rfl
    | cons p ps ih => intro env; rw [List.foldl_cons, ih]; simp
  rw [this]; simp

def RfsOk (P : Program) (gid : Nat) (ro : Option Nat) (code : Code) : Prop := ∀ x ∈ rfsOf code, ro = none ∧ rinfo P (rfId gid x.2.2) = some x

theorem enter_rel {s : St} {a : Act} {w : World} (hs : SRel P c s a w) {fn : FuncId} {ps : Array Tmp} {as body : Code} {f : Nat} (hf : rinfo P f = some (ps, as, body)) (hnt : s.env.length = rnt P f) :
    ∃ (j' : J) (w1 : World) (mark : List Deferred), (Instr.enterLoop fn a.tmps ps as body none).run P w = .ok (w.heap.size + 1, mark) w1 ∧ j'.blk s.H.length = some (w.heap.size + 1) ∧
      Inv P c j' (s.H ++ [.yld f (slotsOf s.env (rslots ps as body)) false]) w1 ∧
      ERel c j' (s.H ++ [.yld f (slotsOf s.env (rslots ps as body)) false]) w1 (NN c j' (s.H ++ [.yld f (slotsOf s.env (rslots ps as body)) false])) s.env { a with defers := mark ++ a.defers } := by
  obtain ⟨j, hI, he⟩ := hs
  obtain ⟨k1, k2⟩ := hI.push (B := .yld f (slotsOf s.env (rslots ps as body)) false) (r := some (w.heap.size + 1)) (v := undef)
    (w' := (w.alloc (.deferred (some []))).alloc (.loop { state := .ready, pending := none, fn, tmps := a.tmps, params := ps, assign := as, body, defers := w.heap.size }))
    (by simp; omega) rfl rfl rfl (fun g hg => by
      show ((w.heap.push _).push _)[g]? = _
      rw [Array.getElem?_push, Array.getElem?_push]
      rw [if_neg (by simp; omega), if_neg (by omega)]) (fun g hg => by cases hg; omega)
    (fun m => ⟨w.heap.size + 1, { state := .ready, pending := none, fn, tmps := a.tmps, params := ps, assign := as, body, defers := w.heap.size }, J.at_eq.1, by
      have := World.alloc_heap_new (w.alloc (.deferred (some []))) (.loop { state := .ready, pending := none, fn, tmps := a.tmps, params := ps, assign := as, body, defers := w.heap.size })
      rw [World.size_alloc] at this
      exact this, hf, by rw [← hnt]; have := he.2.1; simp at this; exact this.symm, slots_rel (he.mov m) _⟩)
  refine ⟨_, _, _, run_enterLoop_outer fn a.tmps ps as body, J.at_eq.1, k1, ?_, (he.mov k2).2⟩
  have hnew : ((w.alloc (.deferred (some []))).alloc (.loop { state := .ready, pending := none, fn, tmps := a.tmps, params := ps, assign := as, body, defers := w.heap.size })).heap[w.heap.size]? = some (.deferred (some [])) := by
    show ((w.heap.push _).push _)[w.heap.size]? = _
    rw [Array.getElem?_push, if_neg (by simp), Array.getElem?_push, if_pos rfl]
  have hge := hI.size
  refine ⟨List.nodup_cons.2 ⟨fun hm => ?_, he.1.1⟩, fun d hd => ?_⟩
  · obtain ⟨D, e, _, _, hh⟩ := he.1.2 _ hm
    simp only [Deferred.mk.injEq, Target.collected.injEq, and_true] at e
    have := (Array.getElem?_eq_some_iff.1 hh).1
    omega
  · rcases List.mem_cons.1 hd with rfl | hd
    · exact ⟨w.heap.size, rfl, k1.no_mark hnew hge, hge, hnew⟩
    · exact (he.mov k2).1.2 d hd

theorem exit_rel {s : St} {a : Act} {w : World} {H : List Blk} {j : J} {b l f : Nat} {x : List V1} {d : Bool} (hI : Inv P c j H w) (he : ERel c j H w (NN c j H) s.env a) (hb : H[b]? = some (.yld f x d)) (hl : j.blk b = some l) (hge : c.w0.heap.size ≤ l) :
    ∃ w', (Instr.endLoop l).run P w = .ok (jumpC d) w' ∧ SRel P c ⟨s.env, H.set b .dead⟩ a w' := by
  obtain ⟨l', rec, h1, h2, _⟩ := hI.heap b _ hb
  rw [hl] at h1; cases h1
  refine ⟨_, run_endLoop h2 (by cases d <;> simp [finL]), ?_⟩
  obtain ⟨k1, k2⟩ := hI.kill b
  have hno : ¬ Own j (H.set b .dead) l := by
    rintro ⟨i, B, hi, hli, hg⟩
    rcases get_set hi with ⟨h3, h4⟩ | ⟨rfl, rfl, _⟩
    · exact h3 (hI.inj i b B _ l h4 hb hli trivial hg hl)
    · exact hli
  have t := turn_put (o' := .loop { finL rec d with state := .exhausted }) h2 (fun _ _ _ h => by cases h) hno
  have k3 := k1.turn t (w0 := c.w0) rfl rfl rfl rfl (fun g hg _ hw => by
    rw [World.putObj_heap_other (by omega)]; exact hw) (fun _ _ _ _ h => h)
  have he2 := he.mov k2
  refine ⟨j, k3, k3.marks (j := j) (H := H) rfl he2.1 fun D hD => ?_, he2.2.imp fun _ _ => AVRel.turn t⟩
  rw [World.putObj_heap_other (by rintro rfl; rw [h2] at hD; cases hD)]
  exact hD

theorem ownNil1_sound {j : J} {H : List Blk} {w : World} (hI : Inv P c j H w) (i : Nat) : ∃ j', To P c j H w j' (ownNil1 P i H) := by
  unfold ownNil1
  split
  · split
    · split
      · exact BSs.deep_sound _ _ _ _ hI
      · exact ⟨j, To.refl hI⟩
    · exact ⟨j, To.refl hI⟩
  · exact ⟨j, To.refl hI⟩
theorem ownNils_aux {w : World} : ∀ (l : List Nat) {j : J} {H : List Blk} (_ : Inv P c j H w), ∃ j', To P c j H w j' (l.foldl (fun H i => ownNil1 P i H) H)
  | [], j, _, hI => ⟨j, To.refl hI⟩
  | i :: l, j, H, hI => by
    obtain ⟨j1, t1⟩ := ownNil1_sound hI i
    obtain ⟨j2, t2⟩ := ownNils_aux l t1.1
    exact ⟨j2, t1.trans t2⟩
theorem ownNils_sound {j : J} {H : List Blk} {w : World} (hI : Inv P c j H w) : ∃ j', To P c j H w j' (ownNils P H) := ownNils_aux _ hI

theorem rangeFunc_sound (hfs : ∀ g as H sp, fs g as H = some sp → FSound P g sp) {g : Operand} {ps : Array Tmp} {as body : Code} (hri : rinfo P (rfId gid body) = some (ps, as, body)) {m : Nat} {s : St} {a : Act} {w : World} {k : Exit → St → Option R} {Q : Exit → Act → World → Prop}
    (hQ : ∀ e s a w, SRel P c s a w → s.env.length = m → k e s = some r → Q e a w) (hm : s.env.length = m) (hs : SRel P c s a w) (h : rfX P fs gid g ps as body s k = some r) : (Code.rangeFunc g ps as body).wpIn (FF none) 0 P Q a w := by
  unfold rfX at h
  split at h
  · rename_i g0 b hg0
    split at h
    · rename_i g' first cap hb
      split at h
      · rename_i hgg
        subst hgg
        split at h
        rotate_left
        · cases h
        rename_i hnt
        refine wpIn_rangeFunc fun fn _ => ?_
        obtain ⟨j1, w1, mark, hent, hjm, hI1, he1⟩ := enter_rel hs (fn := fn) hri hnt
        have hlt := get_lt hb
        have hm1 : (s.H ++ [Blk.yld (rfId gid body) (slotsOf s.env (rslots ps as body)) false])[s.H.length]? = some (.yld (rfId gid body) (slotsOf s.env (rslots ps as body)) false) := by simp
        have hb1 : (s.H ++ [Blk.yld (rfId gid body) (slotsOf s.env (rslots ps as body)) false])[b]? = some (.clo g' first cap) := by
          rw [List.getElem?_append_left hlt]; exact hb
        have hlen : s.H.length < (s.H ++ [Blk.yld (rfId gid body) (slotsOf s.env (rslots ps as body)) false]).length := by simp
        generalize s.H ++ [Blk.yld (rfId gid body) (slotsOf s.env (rslots ps as body)) false] = H1 at h hI1 he1 hm1 hb1 hlen
        have hg := evalV_rel he1 g
        rw [hg0] at hg
        have hv := (rel_one hg (by simp)).2.2 _ _ _ hb1
        obtain ⟨_, A, C, hcv, h1, h2⟩ := hI1.heap b _ hb1
        rw [hcv] at hv
        have hv' : a.eval g = .func (.func g') A C := by
          cases g <;> exact hv
        have hyl : V1Rel j1 H1 w1 (NN c j1 H1) (.one (.yl s.H.length)) (.func (.yield (w.heap.size + 1)) #[] #[]) :=
          .inr ⟨rfl, hlen, fun f x d _ => ⟨_, hjm, rfl⟩⟩
        obtain ⟨⟨fn0, k1, k2, k3⟩, hcalls⟩ := callF_sound (P := P) (vals := A ++ #[.func (.yield (w.heap.size + 1)) #[] #[]] ++ C) hfs hI1 (by
          simp only [Array.toList_append]
          exact (h1.append (All2.cons hyl All2.nil)).append h2) h
        have hge : c.w0.heap.size ≤ w.heap.size + 1 := by
          obtain ⟨j, hI, _⟩ := hs
          have := hI.size; omega
        refine ⟨w.heap.size + 1, mark, w1, { target := .fn (.func g') C, args := A ++ #[.func (.yield (w.heap.size + 1)) #[] #[]] }, w1, g', A ++ #[.func (.yield (w.heap.size + 1)) #[] #[]] ++ C, w1, hent, ?_, ?_, ?_, ?_, ?_⟩
        · have e0 : a.eval (.const (.func (.yield (w.heap.size + 1)) #[] #[])) = .func (.yield (w.heap.size + 1)) #[] #[] := rfl
          unfold resolve rangeCall
          simp [hv', Deferred.ofValue, e0]
        · exact fun _ _ => trivial
        · simp [invoke, run_callFunc k1 k2 k3]
        · intro h
          simp [FF, Fence.wide] at h
        · refine callsFF (hcalls.mono fun e w2 hpost => ?_)
          obtain ⟨V, av, H2, j2, rfl, hk, hI2, m2, _⟩ := hpost
          have he2 := he1.mov m2
          split at hk
          · rename_i f' x d hH2
            obtain ⟨B', hB', hB⟩ := m2.blk _ _ hm1
            rw [hH2] at hB'; cases hB'
            have hj2 : j2.blk s.H.length = some (w.heap.size + 1) := ((hB trivial).2.1).trans hjm
            obtain ⟨w3, hend, hs3⟩ := exit_rel (s := s) (a := { a with defers := mark ++ a.defers }) hI2 he2 hH2 hj2 hge
            refine ⟨_, w3, hend, ?_⟩
            rcases byB_some hk with ⟨rfl, hk⟩ | ⟨rfl, hk⟩
            · exact wpIn_ret (hQ _ _ _ _ hs3 hm hk)
            · exact hQ _ _ _ _ hs3 hm hk
          · cases hk
      · cases h
    · cases h
  · cases h

theorem codeX_sound (hfs : ∀ g as H sp, fs g as H = some sp → FSound P g sp) : ∀ (code : Code) (_ : RfsOk P gid ro code) (m : Nat) (s : St) (a : Act) (w : World) (k : Exit → St → Option R) (Q : Exit → Act → World → Prop),
    (∀ e s a w, SRel P c s a w → s.env.length = m → k e s = some r → Q e a w) → s.env.length = m → SRel P c s a w → codeX P fs N c.n gid loops joins code s k = some r → code.wpIn (FF ro) 0 P Q a w := by
  intro code
  induction code with
  | skip => intro hrf m s a w k Q hQ hm hs h; simp only [codeX] at h; exact wpIn_skip (hQ _ _ _ _ hs hm h)
  | label l => intro hrf m s a w k Q hQ hm hs h; simp only [codeX] at h; exact wpIn_label (hQ _ _ _ _ hs hm h)
  | exit id => intro hrf m s a w k Q hQ hm hs h; simp only [codeX] at h; exact wpIn_exit (hQ _ _ _ _ hs hm h)
  | ret => intro hrf m s a w k Q hQ hm hs h; simp only [codeX] at h; exact wpIn_ret (hQ _ _ _ _ hs hm h)
  | goto l => intro hrf m s a w k Q hQ hm hs h; simp [codeX] at h
  | refuse y => intro hrf m s a w k Q hQ hm hs h; simp [codeX] at h
  | rangeFunc g ps as body =>
    intro hrf m s a w k Q hQ hm hs h
    obtain ⟨rfl, hri⟩ := hrf (ps, as, body) (by simp [rfsOf])
    simp only [codeX] at h
    obtain ⟨j, hI, he⟩ := hs
    obtain ⟨j', t1, t2⟩ := ownNils_sound hI
    exact rangeFunc_sound hfs hri hQ (s := ⟨s.env, ownNils P s.H⟩) hm ⟨j', t1, he.mov t2⟩ h
  | region id ops d =>
    intro hrf m s a w k Q hQ hm hs h
    simp only [codeX] at h
    split at h
    · rename_i hd
      subst hd
      exact draw_sound hfs (k := k .normal) (fun s a w hs hm hk => hQ _ s a w hs hm hk) hs hm h
    · rename_i hd
      have hd : d = false := by cases d <;> simp_all
      subst hd
      refine wpIn_region ?_
      split at h
      · have := opsZ_sound (r := r) (ro := ro) hfs ops (k := k .normal) (Q := Q) (fun s a w hs hm hk => hQ _ s a w hs hm hk) 0 ops.toList (by simp) (Nat.zero_le _) s a w hs hm h
        rw [List.drop_zero] at this
        exact this
      have := opsX_sound (r := r) (ro := ro) hfs ops (k := k .normal) (Q := Q) (fun s a w hs hm hk => hQ _ s a w hs hm hk) 0 ops.toList (by simp) (Nat.zero_le _) s a w hs hm h
      rw [List.drop_zero] at this
      exact this
  | seq x y ihx ihy =>
    intro hrf m s a w k Q hQ hm hs h
    simp only [codeX] at h
    split at h
    · rename_i l hl
      unfold withJoin at h
      refine wpIn_seq (ihx (fun x hx => hrf x (List.mem_append_left _ hx)) m s a w _ _ ?_ hm hs h)
      intro e s' a' w' hs' hm' hk
      cases e <;> simp only [Exit.then] <;> (first | exact hQ _ _ _ _ hs' hm' hk | skip)
      rw [Option.bind_eq_some_iff] at hk
      obtain ⟨z, hz, hk⟩ := hk
      have h1 := takeP_rel hs' hz
      rw [hm'] at h1
      rw [hm] at hk
      refine ihy (fun x hx => hrf x (List.mem_append_right _ hx)) m _ a' w' k Q hQ ?_ h1 hk
      rw [← h1.len, hs'.len, hm']
    · refine wpIn_seq (ihx (fun x hx => hrf x (List.mem_append_left _ hx)) m s a w _ _ ?_ hm hs h)
      intro e s' a' w' hs' hm' hk
      cases e <;> simp only [Exit.then] <;> (first | exact hQ _ _ _ _ hs' hm' hk | skip)
      exact ihy (fun x hx => hrf x (List.mem_append_right _ hx)) m s' a' w' k Q hQ hm' hs' hk
  | cond x y z ihy ihz =>
    intro hrf m s a w k Q hQ hm hs h
    simp only [codeX] at h
    split at h
    · rename_i t ht
      have hc : a.eval x = .bool t := by
        obtain ⟨j, hI, he⟩ := hs
        have := evalV_rel he x
        rw [ht] at this
        exact rel_bool this
      rcases byB_some h with ⟨rfl, h⟩ | ⟨rfl, h⟩
      · exact wpIn_cond_true hc (ihy (fun x hx => hrf x (List.mem_append_left _ hx)) m s a w k Q hQ hm hs h)
      · exact wpIn_cond_false hc (ihz (fun x hx => hrf x (List.mem_append_right _ hx)) m s a w k Q hQ hm hs h)
    · cases h
  | block id x ih =>
    intro hrf m s a w k Q hQ hm hs h
    simp only [codeX] at h
    refine wpIn_block (ih hrf m s a w _ _ ?_ hm hs h)
    intro e s' a' w' hs' hm' hk
    cases e <;> simp only [Exit.inBlock] <;> (first | exact hQ _ _ _ _ hs' hm' hk | skip)
    rename_i i
    simp only at hk
    split at hk
    · rename_i hi; rw [if_pos hi]; exact hQ _ _ _ _ hs' hm' hk
    · rename_i hi; rw [if_neg hi]; exact hQ _ _ _ _ hs' hm' hk
  | scope x ih =>
    intro hrf m s a w k Q hQ hm hs h
    simp only [codeX] at h
    refine wpIn_scope_straight (ih hrf m s a w _ _ ?_ hm hs h)
    intro e s' a' w' hs' hm' hk
    cases e <;> simp only [Exit.noGoto] <;> (first | exact hQ _ _ _ _ hs' hm' hk | (cases hk; done))
  | loop x ih =>
    intro hrf m s a w k Q hQ hm hs h
    simp only [codeX] at h
    split at h
    · rename_i l hl
      rw [Option.bind_eq_some_iff] at h
      obtain ⟨z, hz, h⟩ := h
      have h1 := takeP_rel hs hz
      rw [hm] at h1 h
      -- the rounds that are left measure the loop
      refine wpIn_loop_n (fun n a w => ∃ z, SRel P c (St.ofP m l z) a w ∧ loopN n (fun again x_1 => codeX P fs N c.n gid loops joins x (St.ofP m l x_1) fun e s' => match e with | .normal => (s'.takeP c.n l).bind again | e => k e s') z = some r) (fun n a w hJ => ?_) N a w ⟨z, h1, h⟩
      obtain ⟨z, hz1, hz2⟩ := hJ
      cases n with
      | zero => simp [loopN] at hz2
      | succ n =>
        simp only [loopN] at hz2
        refine ih hrf m _ a w _ _ ?_ (ofP_len m l z) hz1 hz2
        intro e s' a' w' hs' hm' hk
        cases e <;> simp only [Exit.then] <;> (first | exact hQ _ _ _ _ hs' hm' hk | skip)
        simp only at hk
        rw [Option.bind_eq_some_iff] at hk
        obtain ⟨z', hz', hk⟩ := hk
        have h2 := takeP_rel hs' hz'
        rw [hm'] at h2
        exact ⟨n, Nat.lt_succ_self n, z', h2, hk⟩
    · -- round by round
      refine wpIn_loop_n (fun n a w => ∃ s, SRel P c s a w ∧ s.env.length = m ∧ unrollX (fun s k => codeX P fs N c.n gid loops joins x s k) n s k = some r) (fun n a w hJ => ?_) 12 a w ⟨s, hs, hm, h⟩
      obtain ⟨s1, h1, hm1, h2⟩ := hJ
      cases n with
      | zero => simp [unrollX] at h2
      | succ n =>
        simp only [unrollX] at h2
        refine ih hrf m s1 a w _ _ ?_ hm1 h1 h2
        intro e s' a' w' hs' hm' hk
        cases e <;> simp only [Exit.then] <;> (first | exact hQ _ _ _ _ hs' hm' hk | skip)
        simp only at hk
        exact ⟨n, Nat.lt_succ_self n, s', hs', hm', hk⟩

theorem resX_rel {j : J} {w : World} {s : St} {a : Act} (hI : Inv P c j s.H w) (he : ERel c j s.H w (NN c j s.H) s.env a) : ∀ {l : List ResultVar} {vs : List V1}, resX P s l = some vs →
    ∃ vals : List Value, All2 (V1Rel j s.H w (NN c j s.H)) vs vals ∧ (l.mapM (m := Sem) fun | .tmp t => pure (a.tmps.getD t undef) | .cell p T => do loadVar T (← asAddr (a.tmps.getD p undef))).run P w = .ok vals w
  | [], vs, h => by simp [resX] at h; subst h; exact ⟨[], All2.nil, by simp⟩
  | .tmp t :: l, vs, h => by
    simp only [resX] at h
    split at h
    · rename_i v l' hv hl
      cases h
      obtain ⟨vals, h1, h2⟩ := resX_rel hI he hl
      have := evalV_rel he (.tmp t)
      simp only [evalV, Act.eval, ofAV_eq hv] at this
      refine ⟨_ :: vals, All2.cons this h1, ?_⟩
      rw [List.mapM_cons]
      simp only [Sem.run_bind, Sem.run_pure, Result.andThen_ok, h2]
    · cases h
  | .cell p T :: l, vs, h => by
    simp only [resX] at h
    split at h
    · rename_i y l' hy hl
      split at h
      · rename_i v hv
        cases h
        obtain ⟨vals, h1, h2⟩ := resX_rel hI he hl
        have := evalV_rel he (.tmp p)
        simp only [evalV, Act.eval, hy] at this
        have hyt : y ≠ .top := by rintro rfl; simp [loadC] at hv
        obtain ⟨ad, V, hX, hrun, hr⟩ := loadC_sound hI hv (rel_one this hyt)
        refine ⟨V :: vals, All2.cons hr h1, ?_⟩
        rw [List.mapM_cons]
        generalize List.mapM (m := Sem) _ l = M at h2 ⊢
        simp only [Sem.run_bind, Sem.run_pure, Result.andThen_ok, h2, hX, asAddr, hrun]
      · cases h
    · cases h

theorem mapM_arr {α β : Type} (f : α → Sem β) (l : Array α) {P : Program} {w w' : World} {vs : List β} (h : (l.toList.mapM f).run P w = .ok vs w') : (l.mapM f).run P w = .ok vs.toArray w' := by
  rw [Array.mapM_eq_mapM_toList]
  show ((List.mapM f l.toList >>= fun x => pure x.toArray) : Sem (Array β)).run P w = _
  rw [Sem.run_bind, h]
  rfl

theorem res_run {j : J} {w : World} {s : St} {a : Act} (hI : Inv P c j s.H w) (he : ERel c j s.H w (NN c j s.H) s.env a) {fn : Func} {vs : List V1} (h : resX P s fn.results.toList = some vs) :
    ∃ vals : List Value, All2 (V1Rel j s.H w (NN c j s.H)) vs vals ∧ (results fn a.tmps).run P w = .ok (if h : vals.toArray.size = 1 then vals.toArray[0] else .tuple vals.toArray) w := by
  obtain ⟨vals, h1, h2⟩ := resX_rel hI he h
  refine ⟨vals, h1, ?_⟩
  unfold results
  rw [Sem.run_bind]
  exact (congrArg (fun r => Result.andThen r _) (mapM_arr _ _ h2)).trans rfl

theorem resAV_rel {j : J} {H : List Blk} {w : World} {N : Nat → Prop} {vs : List V1} {vals : List Value} (h : All2 (V1Rel j H w N) vs vals) :
    AVRel j H w N (resAV vs) (if h : vals.toArray.size = 1 then vals.toArray[0] else .tuple vals.toArray) := by
  have hl := h.1
  match vs, vals, h with
  | [], [], h => exact ⟨#[], rfl, All2.nil⟩
  | [v], [x], h => exact h.uncons.1
  | v :: v' :: vs, x :: x' :: vals, h =>
    rw [dif_neg (by simp)]
    exact ⟨_, rfl, h⟩

theorem BSs.prj_len : ∀ (l : List BS) {cs : List Blk} {y : BSs.den l}, BSs.prj l cs = some y → l.length = cs.length
  | [], [], _, _ => rfl
  | [], _ :: _, _, h => by simp [BSs.prj] at h
  | _ :: _, [], _, h => by simp [BSs.prj] at h
  | s :: r, x :: cs, y, h => by
    simp only [BSs.prj] at h
    split at h
    · rename_i a b ha hb
      simp [BSs.prj_len r hb]
    · cases h

theorem RP.take_sound {c : Cx} {j : J} {H : List Blk} {w : World} : ∀ (l : List Pat) (hI : Inv P c j H w) {vs : List V1} {vals : List Value} {x : RP.den l} (h : RP.take l c.n vs H = some x) (ha : All2 (V1Rel j H w (NN c j H)) vs vals),
    ∃ j', Inv P c j' (RP.inj l x).2 w ∧ All2 (V1Rel j' (RP.inj l x).2 w (NN c j' (RP.inj l x).2)) (RP.inj l x).1 vals
  | [], _, _, _, _, h, _ => by cases h
  | [p], hI, _, _, _, h, ha => p.take_sound hI h ha
  | p :: q :: r, hI, vs, vals, x, h, ha => by
    simp only [RP.take] at h
    split at h
    · rename_i y hy
      cases h
      exact p.take_sound hI hy ha
    · split at h
      · rename_i y hy
        cases h
        exact RP.take_sound (q :: r) hI hy ha
      · cases h

theorem CS.ron_rel {j : J} {H : List Blk} {w : World} {N : Nat → Prop} {s : CS} {c : Cell} {v : Value} (h : CRel j H w N c v) : CRel j H w N (s.ron c) v := by
  unfold CS.ron
  split
  · obtain ⟨h1, h2⟩ := h
    refine ⟨h1, ?_⟩
    simp only at h2
    subst h2
    exact ⟨none, 0, rfl, Nat.le_refl _, fun i x hx => by simp at hx⟩
  · exact h
theorem CSs.ron_rel {j : J} {H : List Blk} {w : World} {N : Nat → Prop} : ∀ {l : List CS} {cs : List Cell} {vs : List Value}, All2 (CRel j H w N) cs vs → All2 (CRel j H w N) (CSs.ron l cs) vs
  | [], _, _, h => by simpa only [CSs.ron] using h
  | _ :: _, [], _, h => by simpa only [CSs.ron] using h
  | s :: r, c :: cs, [], h => by cases h.1
  | s :: r, c :: cs, v :: vs, h => by
    simp only [CSs.ron]
    exact All2.cons (CS.ron_rel h.uncons.1) (CSs.ron_rel h.uncons.2)
theorem VS.ron_rel {j : J} {H : List Blk} {w : World} {N : Nat → Prop} {s : VS} {x : V1} {v : Value} (h : V1Rel j H w N x v) : V1Rel j H w N (s.ron x) v := by
  unfold VS.ron
  split
  · rename_i s c
    rcases h with rfl | h
    · refine .inl ?_
      cases s <;> rfl
    · exact .inr (CS.ron_rel h)
  · obtain ⟨vs, rfl, h⟩ := h
    exact ⟨vs, rfl, CSs.ron_rel h⟩
  · exact h
theorem VSs.ron_rel {j : J} {H : List Blk} {w : World} {N : Nat → Prop} : ∀ {l : List VS} {xs : List V1} {vs : List Value}, All2 (V1Rel j H w N) xs vs → All2 (V1Rel j H w N) (VSs.ron l xs) vs
  | [], _, _, h => by simpa only [VSs.ron] using h
  | _ :: _, [], _, h => by simpa only [VSs.ron] using h
  | s :: r, c :: cs, [], h => by cases h.1
  | s :: r, c :: cs, v :: vs, h => by
    simp only [VSs.ron]
    exact All2.cons (VS.ron_rel h.uncons.1) (VSs.ron_rel h.uncons.2)

theorem find_nodup {α β : Type} [BEq β] [LawfulBEq β] (f : α → β) : ∀ {l : List α} {x : α}, (l.map f).Nodup → x ∈ l → l.find? (fun y => f y == f x) = some x
  | y :: l, x, hn, hx => by
    rw [List.map_cons, List.nodup_cons] at hn
    rw [List.find?_cons]
    rcases List.mem_cons.1 hx with rfl | hx
    · simp
    · have : (f y == f x) = false := by
        cases hb : f y == f x with
        | false => rfl
        | true => exact absurd (List.mem_map.2 ⟨x, hx, (eq_of_beq hb).symm⟩) hn.1
      rw [this]
      exact find_nodup f hn.2 hx

theorem rfsOk_of {g : Nat} {fn : Func} {code : Code} (h1 : P.funcs[g]? = some fn) (hc : fn.body = some code) (h : rfOk code = true) : RfsOk P g none code := by
  unfold rfOk at h
  rw [Bool.and_eq_true, decide_eq_true_eq] at h
  intro x hx
  refine ⟨rfl, ?_⟩
  have hk : (firstRegion x.2.2).getD 0 < 1000000 := by simpa using List.all_eq_true.1 h.2 x hx
  have e1 : rfId g x.2.2 / 1000000 - 1 = g := by unfold rfId; omega
  have e2 : rfId g x.2.2 % 1000000 = (firstRegion x.2.2).getD 0 := by unfold rfId; omega
  unfold rinfo
  rw [e1, e2, h1]
  simp only [Option.bind_some, hc]
  exact find_nodup (fun x : Array Tmp × Code × Code => (firstRegion x.2.2).getD 0) h.1 hx

theorem funX_sound (hfs : ∀ g as H sp, fs g as H = some sp → FSound P g sp) {g : FuncId} {fn : Func} (h1 : P.funcs[g]? = some fn) (h2 : (fn.name == "runtime.NumGoroutine") = false) (h3 : fn.body.isNone = false)
    {ap : Pat} {rp : List Pat} {borrow : Bool} {f : ap.den → Option (RP.den rp)} (hf : ∀ x y, f x = some y → funX P fs N g loops joins fn ap rp x = some y) : FSound P g (specOf ap rp borrow f) := by
  refine ⟨fun _ => ⟨⟨fn, h1, h2, h3⟩, fun A j H w args0 vals (y : RP.den rp) (hy : (ap.prj (VSs.ron ap.vs args0) H).bind f = some y) hI ha0 => ?_⟩, fun m hm => by cases hm⟩
  have ha := VSs.ron_rel (l := ap.vs) ha0
  generalize VSs.ron ap.vs args0 = args at hy ha
  obtain ⟨x, hx, hy⟩ := Option.bind_eq_some_iff.1 hy
  have e := ap.prj_inj hx
  have hF := hf x y hy
  unfold funX at hF
  split at hF
  · rename_i code hc
    split at hF
    · rename_i hrf
      rw [e] at hF
      have hn : ap.bs.length = (cx0 A j H w).n := by
        unfold Pat.prj at hx
        split at hx
        · rename_i a b h4 h5
          exact BSs.prj_len _ h5
        · cases hx
      rw [hn] at hF
      refine (callsIn_wide (n := 0)).1 (callsIn_of_wp_marks (F := FF none) h1 hc trivial (codeX_sound (r := y) hfs code (rfsOk_of h1 hc hrf) _ _ _ w _ _ ?_ rfl ⟨j, hI, DOk.nil, ?_⟩ hF))
      · have key : ∀ (s : St) (a : Act) (w' : World), SRel P (cx0 A j H w) s a w' → ((resX P s fn.results.toList).bind fun vs => RP.take rp (cx0 A j H w).n vs s.H) = some y →
            LeavesInM (FF none) 0 P fn a.tmps (fun e w' => ∃ V j', e = .returned V ∧ Inv P (cx0 A j H w) j' ((specOf ap rp borrow f).out args0 H y).2 w' ∧ AVRel j' ((specOf ap rp borrow f).out args0 H y).2 w' (NN (cx0 A j H w) j' ((specOf ap rp borrow f).out args0 H y).2) ((specOf ap rp borrow f).out args0 H y).1 V) a.defers .returning w' := by
          intro s a w' hs hk
          refine leaves_of (s := s) (fun w2 hs2 => ?_) hs
          obtain ⟨j1, hI1, he1⟩ := hs2
          rw [Option.bind_eq_some_iff] at hk
          obtain ⟨vs, hv, hk⟩ := hk
          obtain ⟨vv, hr1, hr2⟩ := res_run hI1 he1 hv
          obtain ⟨j2, hI2, hr3⟩ := RP.take_sound rp hI1 hk hr1
          exact ⟨_, hr2, _, j2, rfl, hI2, resAV_rel hr3⟩
        intro ex s a w' hs hm hk
        cases ex with
        | normal => exact key s a w' hs hk
        | ret => exact key s a w' hs hk
        | _ => cases hk
      · simp only [Array.toList_append, Array.toList_replicate]
        refine All2.append (All2.map_left ha) ?_
        have hsz : vals.size = args.length := ha.1.symm
        rw [hsz]
        exact All2.replicate (R := AVRel j H w _) (a := AV.top) (show V1Rel j H w _ (.one .top) undef from Or.inl rfl) _
    · cases hF
  · cases hF

/-! ### Rounds -/
theorem Pat.inj_bool {p : Pat} (h : isBoolP p = true) (y : p.den) : ∃ b, (p.inj y).1 = [.one (.bool b)] := by
  unfold isBoolP at h
  obtain ⟨vs, bs⟩ := p
  split at h
  · rename_i e
    simp only at e
    subst e
    exact ⟨y.1.1, rfl⟩
  · cases h
theorem RP.inj_bool : ∀ {rp : List Pat}, rp.all isBoolP = true → ∀ y : RP.den rp, ∃ b, (RP.inj rp y).1 = [.one (.bool b)]
  | [], _, y => y.elim
  | [p], h, y => by
    simp only [List.all_cons, List.all_nil, Bool.and_true] at h
    exact Pat.inj_bool h y
  | p :: q :: r, h, .inl y => by
    rw [List.all_cons, Bool.and_eq_true] at h
    exact Pat.inj_bool h.1 y
  | p :: q :: r, h, .inr y => by
    rw [List.all_cons, Bool.and_eq_true] at h
    exact RP.inj_bool (rp := q :: r) h.2 y

theorem start_aux {j : J} {H : List Blk} {w : World} {N' : Nat → Prop} : ∀ (ps : List Tmp) (args : List V1) (vals : List Value) (env : List AV) (tm : Array Value), All2 (V1Rel j H w N') args vals → All2 (AVRel j H w N') env tm.toList →
    All2 (AVRel j H w N') ((ps.zip args).foldl (fun e p => e.set p.1 (.v p.2)) env) ((ps.zip vals).foldl (fun t p => t.setIfInBounds p.1 p.2) tm).toList
  | [], _, _, _, _, _, h => by simpa using h
  | _ :: _, [], vals, _, _, ha, h => by
    obtain rfl := ha.nil_left
    simpa using h
  | p :: ps, x :: args, vals, env, tm, ha, h => by
    obtain ⟨v, vals', rfl, h1, h2⟩ := ha.cons_left
    rw [List.zip_cons_cons, List.zip_cons_cons, List.foldl_cons, List.foldl_cons]
    refine start_aux ps args vals' _ _ h2 ?_
    rw [Array.toList_setIfInBounds]
    exact h.set (a := .v x) h1

theorem start_rel {j : J} {H : List Blk} {w : World} {N' : Nat → Prop} {ps : Array Tmp} {l : List Nat} {args : List V1} {tm yv : Array Value} {m : Nat} (hm : tm.size = m) (ha : All2 (V1Rel j H w N') args (l.map (fun i => tm.getD i undef) ++ yv.toList)) :
    All2 (AVRel j H w N') (startE m l ps args) ((ps.zip yv).foldl (fun t (i, a) => t.setIfInBounds i a) tm).toList := by
  unfold startE
  have e1 : (l.map (fun i => tm.getD i undef) ++ yv.toList).take l.length = l.map (fun i => tm.getD i undef) := List.take_left' (by simp)
  have e2 : (l.map (fun i => tm.getD i undef) ++ yv.toList).drop l.length = yv.toList := List.drop_left' (by simp)
  have h1 := ha.take l.length
  have h2 := ha.drop l.length
  rw [e1] at h1
  rw [e2] at h2
  rw [← Array.foldl_toList, Array.toList_zip]
  refine start_aux ps.toList _ _ _ _ h2 ?_
  unfold envAt
  refine envAt_aux tm.toList l _ _ (by simpa using h1) ?_
  refine ⟨by simp [hm], fun i x y hx _ => ?_⟩
  rw [List.getElem?_replicate] at hx
  split at hx
  · cases hx; exact .inl rfl
  · cases hx

theorem rndX_sound (hfs : ∀ g as H sp, fs g as H = some sp → FSound P g sp) {g : Nat} {ri : Array Tmp × Code × Code} (hri : rinfo P g = some ri) {nt : Nat} (hnt : rnt P g = nt) {m : Nat} (hm : ri.1.size = m) {ap : Pat} {rp : List Pat} {f : ap.den → Option (RP.den rp)}
    (hf : ∀ x y, f x = some y → rndX P fs N gid loops joins nt ri ap rp x = some y) : FSound P g (rspecOf m ap rp f) := by
  refine ⟨fun h => (by cases h), fun m' hm' => ?_⟩
  obtain rfl : m = m' := Option.some.inj hm'
  refine ⟨ri.1, ri.2.1, ri.2.2, hri, hm, fun A j H w args0 tmps yv (y : RP.den rp) (hy : (ap.prj (VSs.ron ap.vs args0) H).bind f = some y) hts hyv hI ha0 ro l r0 fn hA hl hst => ?_⟩
  have ha := VSs.ron_rel (l := ap.vs) ha0
  generalize VSs.ron ap.vs args0 = args at hy ha
  obtain ⟨x, hx, hy⟩ := Option.bind_eq_some_iff.1 hy
  have e := ap.prj_inj hx
  have hF := hf x y hy
  unfold rndX at hF
  dsimp only at hF
  split at hF
  · rename_i hc
    simp only [Bool.and_eq_true, List.isEmpty_iff] at hc
    obtain ⟨⟨hc1, hc2⟩, hc4⟩ := hc
    rw [e] at hF
    have hn : ap.bs.length = (cx0 A j H w).n := by
      unfold Pat.prj at hx
      split at hx
      · rename_i a b h4 h5
        exact BSs.prj_len _ h5
      · cases hx
    rw [hn] at hF
    have hlA := hI.apart l hA
    have hll : l < w.heap.size := hlA.2
    have rec_at : ∀ {w1 : World} {o : Obj} {c1 : Cx} {j1 : J} {H1 : List Blk}, c1.A = A → c1.own0 = Own j H → c1.w0.heap[l]? = some o → Inv P c1 j1 H1 w1 → w1.heap[l]? = some o ∧ ¬ Own j1 H1 l := by
      intro w1 o c1 j1 H1 e1 e2 e3 hI1
      refine ⟨(hI1.frame l (Array.getElem?_eq_some_iff.1 e3).1 (by rw [e2]; exact hlA.1)).trans e3, fun ho => hI1.own_apart ho (by rw [e1]; exact hA)⟩
    -- the body, behind the assignments
    let wb : World := w.putObj l (.loop { r0 with state := .busy })
    let cb : Cx := { cx0 A j H w with w0 := wb }
    have hwb : wb.heap[l]? = some (.loop { r0 with state := .busy }) := World.putObj_heap_same hll
    have fin : ∀ (d : Bool) (s : St) (a : Act) (w2 : World), SRel P cb s a w2 → RP.take rp cb.n [.one (.bool d)] s.H = some y →
        ∃ v w3, (Instr.endRound l (jumpC d)).run P w2 = .ok v w3 ∧ ∃ d' j', ((rspecOf m ap rp f).out args0 H y).1 = .v (.one (.bool d')) ∧ (Ending.returned v : Ending) = .returned (.bool (!d')) ∧ Inv P (cx0 A j H (w.putObj l (.loop (finL r0 d')))) j' ((rspecOf m ap rp f).out args0 H y).2 w3 := by
      intro d s a w2 hs hk
      obtain ⟨j1, hI1, _⟩ := hs
      obtain ⟨j2, hI2, hr⟩ := RP.take_sound rp hI1 hk (All2.cons (l := []) (m := []) (b := .bool d) (.inr ⟨rfl, rfl⟩) All2.nil)
      obtain ⟨b, hb⟩ := RP.inj_bool hc4 y
      rw [hb] at hr
      have hbd : b = d := by
        have := rel_bool (show AVRel j2 _ w2 _ (.v (.one (.bool b))) (.bool d) from hr.uncons.1)
        cases this; rfl
      subst hbd
      obtain ⟨k1, k2⟩ := rec_at (c1 := cb) rfl rfl hwb hI2
      refine ⟨_, _, run_endRound (jumpC b) k1, b, j2, ?_, by cases b <;> rfl, ?_⟩
      · show resAV (RP.inj rp y).1 = _
        rw [hb]; rfl
      · have t := turn_put (o' := .loop (finL r0 b)) k1 (fun _ _ _ h => by cases h) k2
        have e3 : ({ ({ r0 with state := .busy } : Loop) with state := if (jumpC b).isNone = true then .ready else .done, pending := jumpC b } : Loop) = finL r0 b := by cases b <;> rfl
        rw [e3]
        refine hI2.turn t (w0 := w.putObj l (.loop (finL r0 b))) (by simp [cb, wb]) rfl rfl rfl (fun g hg hn hw => ?_) (fun g cs T fl hg => ?_)
        · by_cases hgl : g = l
          · subst hgl
            rw [World.putObj_heap_same (Array.getElem?_eq_some_iff.1 k1).1, World.putObj_heap_same hll]
          · rw [World.putObj_heap_other hgl, World.putObj_heap_other hgl]
            rw [hw]
            exact World.putObj_heap_other hgl
        · by_cases hgl : g = l
          · subst hgl
            rw [World.putObj_heap_same hll] at hg; cases hg
          · rw [World.putObj_heap_other hgl] at hg
            exact (World.putObj_heap_other hgl).trans hg
    refine roundIn_of_wpIn trivial (codeX_sound (r := y) (ro := some l) (c := cx0 A j H w) hfs ri.2.1 (fun x hx => by rw [hc1] at hx; cases hx) (startE nt (rslots ri.1 ri.2.1 ri.2.2) ri.1 args).length ⟨startE nt (rslots ri.1 ri.2.1 ri.2.2) ri.1 args, H⟩ _ w _ _ ?_ rfl ⟨j, hI, DOk.nil, start_rel (hts.trans hnt) ha⟩ hF)
    intro ex s a w1 hs hmm hk
    cases ex with
    | normal =>
      obtain ⟨j1, hI1, he1⟩ := hs
      obtain ⟨k1, k2⟩ := rec_at (c1 := cx0 A j H w) rfl rfl hl hI1
      refine ⟨_, run_beginRound k1 hst, ?_⟩
      have t := turn_put (o' := .loop { r0 with state := .busy }) k1 (fun _ _ _ h => by cases h) k2
      have hIb : Inv P cb j1 s.H (w1.putObj l (.loop { r0 with state := .busy })) := by
        refine hI1.turn t (w0 := wb) (by simp [cx0, wb]) rfl rfl rfl (fun g hg hn hw => ?_) (fun g cs T fl hg => ?_)
        · by_cases hgl : g = l
          · subst hgl
            rw [World.putObj_heap_same (Array.getElem?_eq_some_iff.1 k1).1, hwb]
          · rw [World.putObj_heap_other hgl, hw]
            exact (World.putObj_heap_other hgl).symm
        · by_cases hgl : g = l
          · subst hgl
            rw [hwb] at hg; cases hg
          · exact (World.putObj_heap_other hgl).symm.trans hg
      have hsb : SRel P cb s a (w1.putObj l (.loop { r0 with state := .busy })) := by
        refine ⟨j1, hIb, hIb.marks (c := cx0 A j H w) (j := j1) (H := s.H) (by simp [cb, wb, cx0]) he1.1 fun D hD => ?_, he1.2.imp fun _ _ => AVRel.turn t⟩
        rw [World.putObj_heap_other (by rintro rfl; rw [k1] at hD; cases hD)]
        exact hD
      refine codeX_sound (r := y) (ro := some l) (c := cb) hfs ri.2.2 (fun x hx => by rw [hc2] at hx; cases hx) _ s a _ _ _ ?_ hmm hsb hk
      intro ex2 s2 a2 w2 hs2 hm2 hk2
      cases ex2 with
      | normal => exact fin false s2 a2 w2 hs2 hk2
      | ret => exact fin true s2 a2 w2 hs2 hk2
      | _ => cases hk2
    | _ => cases hk
  · cases hF
end
end Go.Proofs.YtcdnofemnpafhaaM

/- A function that is told by patterns, called from outside. Conditions: none. -/
namespace Go.Proofs.YtcdnofemnpafhaaM
set_option linter.unusedVariables false
set_option linter.unusedSimpArgs false
set_option linter.unnecessarySimpa false
set_option linter.unusedSectionVars false
open Go Go.RowKit

theorem specOf_imp {ap : Pat} {rp : List Pat} {b : Bool} {f : ap.den → Option (RP.den rp)} {args : List V1} {H : List Blk} {x : ap.den} {y : RP.den rp} (h1 : ap.prj (VSs.ron ap.vs args) H = some x) (h2 : f x = some y) : (specOf ap rp b f).imp args H = some y := by
  show (ap.prj (VSs.ron ap.vs args) H).bind f = some y
  rw [h1]
  exact h2

theorem Own_nil {j : J} {g : Nat} (h : Own j [] g) : False := by
  obtain ⟨i, B, hb, _⟩ := h
  simp at hb

theorem FSound.calls {P : Program} {g : FuncId} {sp : FSpec} (h : FSound P g sp) {A : Nat → Prop} {w : World} (hA : ∀ b, A b → b < w.heap.size) {args : List V1} {vals : Array Value} {x : sp.X} (hx : sp.imp args [] = some x)
    (ha : ∀ j, All2 (V1Rel j [] w A) args vals.toList) (hr : sp.round = none := by rfl) (hG : GlobOk P w (fun _ => False)) :
    Calls P g vals w fun e w' => ∃ V j' N, e = .returned V ∧ Below w.heap.size w w' ∧ AVRel j' (sp.out args [] x).2 w' N (sp.out args [] x).1 V := by
  let j : J := ⟨fun _ => none, fun _ => undef⟩
  have hI : Inv P (cx0 A j [] w) j [] w := by
    refine ⟨Nat.le_refl _, fun _ B _ hb => by simp at hb, fun _ B _ _ hb => by simp at hb, fun _ B _ _ hb => by simp at hb, fun _ _ B _ _ hb => by simp at hb, fun _ _ _ => rfl, Nat.le_refl _, rfl, rfl, rfl, fun b hb => ⟨fun ho => Own_nil ho, hA b hb⟩, hG.mov (Nat.le_refl _) (fun g _ _ => ⟨fun ho => Own_nil ho, rfl⟩), fun _ B _ hb => by simp at hb, fun _ _ _ _ _ _ _ hb => by simp at hb, fun _ B hb => by simp at hb⟩
  have ha' : All2 (V1Rel j [] w (NN (cx0 A j [] w) j [])) args vals.toList := by
    have e : NN (cx0 A j [] w) j [] = A := by
      funext b
      apply propext
      exact ⟨fun hb => hb.elim id (fun ho => (Own_nil ho).elim), .inl⟩
    rw [e]
    exact ha j
  refine ((h.1 hr).ok A j [] w args vals x hx hI ha').mono fun e w' hp => ?_
  obtain ⟨V, j', he, hI', hr⟩ := hp
  exact ⟨V, j', _, he, ⟨hI'.os, hI'.tape, hI'.output, hI'.size, fun k hk => hI'.frame k hk (fun ho => Own_nil ho)⟩, hr⟩
end Go.Proofs.YtcdnofemnpafhaaM
