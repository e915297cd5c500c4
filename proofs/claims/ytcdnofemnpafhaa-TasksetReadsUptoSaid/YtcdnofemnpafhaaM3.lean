/- Loads, stores, numbers, conversions, addresses, parts. Conditions: none. -/
import Derived.Test.YtcdnofemnpafhaaM2
import Derived.ChangeKeysEq
import Derived.Laws.MakeOwn
import Derived.Maps.AppendAt
namespace Go.Proofs.YtcdnofemnpafhaaM
set_option linter.unusedVariables false
set_option linter.unusedSimpArgs false
set_option linter.unnecessarySimpa false
set_option linter.unusedSectionVars false
open Go

section
variable {P : Program} {c : Cx} {j : J} {H : List Blk} {w : World} {R : Type} {f : AV → List Blk → Option R} {r : R} {env : List AV} {a : Act}

theorem ofAV_eq {x : AV} {v : V1} (h : V1.ofAV x = some v) : x = .v v := by cases x <;> simp_all [V1.ofAV]

theorem load_sound (hI : Inv P c j H w) (he : ERel c j H w (NN c j H) env a) {o : Oper} {T : TypeId} {x : Operand} (ho : o.op = .load T x) (h : opV P o.op env H f = some r) : Out P c j H w f r ((execOp a.eval o).run P w) := by
  rw [ho] at h
  simp only [opV] at h
  split at h
  · rename_i y hy
    split at h
    · rename_i v hv
      have hx := evalV_rel he x
      rw [hy] at hx
      have hyt : y ≠ .top := by rintro rfl; simp [loadC] at hv
      obtain ⟨ad, V, hX, hrun, hr⟩ := loadC_sound hI hv (rel_one hx hyt)
      exact .pure hI (by simp [execOp, ho, hX, Instr.loadAt, Instr.sureAddr, Sem.run_bind, hrun]) h hr
    · cases h
  · cases h

theorem store_sound (hI : Inv P c j H w) (he : ERel c j H w (NN c j H) env a) {o : Oper} {T : TypeId} {x y : Operand} (ho : o.op = .store T x y) (h : opV P o.op env H f = some r) : Out P c j H w f r ((execOp a.eval o).run P w) := by
  rw [ho] at h
  simp only [opV] at h
  split at h
  · rename_i z v hz hv
    split at h
    · rename_i i0 k0 H1 hs
      split at h
      case isFalse => cases h
      rename_i hik0
      rw [Option.bind_eq_some_iff] at hv
      obtain ⟨v1, h1, h2⟩ := hv
      have hx := evalV_rel he x
      rw [hz] at hx
      have hy := evalV_rel he y
      rw [ofAV_eq h1] at hy
      have hzt : z ≠ .top := by rintro rfl; simp [storeC] at hs
      obtain ⟨ad, w', j', hX, hrun, hI', m⟩ := storeC_sound hI hs hik0 (rel_one hx hzt) (cells?_rel hy h2)
      refine ⟨undef, w', .inr ⟨?_, rfl⟩, AV.top, H1, j', h, hI', m, .inl rfl⟩
      simp [execOp, ho, hX, Instr.storeAt, Instr.sureAddr, Sem.run_bind, hrun]
    · cases h
  · cases h

theorem nilCheck_sound (hI : Inv P c j H w) (he : ERel c j H w (NN c j H) env a) {o : Oper} {x : Operand} (ho : o.op = .nilCheck x) (h : opV P o.op env H f = some r) : Out P c j H w f r ((execOp a.eval o).run P w) := by
  rw [ho] at h
  simp only [opV] at h
  split at h
  · cases h
  · cases h
  · rename_i b i q hz
    have hx := evalV_rel he x
    rw [hz] at hx
    obtain ⟨_, _, ⟨ad, hX⟩, _⟩ := rel_one hx (by simp)
    rw [hX] at hx
    exact .pure hI (by simp [execOp, ho, hX]) h hx
  · rename_i t y q hz
    have hx := evalV_rel he x
    rw [hz] at hx
    obtain ⟨_, e, _, hX, _⟩ := rel_one hx (by simp)
    rw [hX] at hx
    exact .pure hI (by simp [execOp, ho, hX]) h hx
  · rename_i g hz
    have hx := evalV_rel he x
    rw [hz] at hx
    obtain ⟨_, hX⟩ := rel_one hx (by simp)
    rw [hX] at hx
    exact .pure hI (by simp [execOp, ho, hX]) h hx
  · rename_i b i q hz
    have hx := evalV_rel he x
    rw [hz] at hx
    obtain ⟨_, _, ⟨ad, hX⟩, _⟩ := rel_one hx (by simp)
    rw [hX] at hx
    exact .pure hI (by simp [execOp, ho, hX]) h hx
  · rename_i b q d i hz
    have hx := evalV_rel he x
    rw [hz] at hx
    obtain ⟨_, _, _, ⟨ad, hX⟩, _⟩ := rel_one hx (by simp)
    rw [hX] at hx
    exact .pure hI (by simp [execOp, ho, hX]) h hx
  · rename_i b i hz
    split at h
    · rename_i T t l hb
      split at h
      · rename_i hil
        have hx := evalV_rel he x
        rw [hz] at hx
        obtain ⟨_, hlt, hX⟩ := rel_one hx (by simp)
        have hX := hX _ _ _ hb
        obtain ⟨_, _, hpl, _⟩ := hI.heap b _ hb
        have hg := List.getElem?_eq_getElem (show i < (chOf (j.cv b)).length by omega)
        have hXp : a.eval x = .pointer (some ⟨(chOf (j.cv b))[i]'(by omega), 0, none⟩) := by rw [hX, linkV, hg]; rfl
        exact .pure hI (by simp [execOp, ho, hXp]) h (val_rel ⟨rfl, hlt, ⟨_, rfl⟩, fun _ _ _ _ => ⟨_, hg, rfl⟩⟩)
      · cases h
    · cases h
  · rename_i g b hz
    split at h
    · rename_i g' a' c' hb
      have hx := evalV_rel he x
      rw [hz] at hx
      obtain ⟨_, _, hX⟩ := rel_one hx (by simp)
      obtain ⟨_, A, C, hcv, _⟩ := hI.heap b _ hb
      rw [hX _ _ _ hb, hcv] at hx
      exact .pure hI (by simp [execOp, ho, hX _ _ _ hb, hcv]) h hx
    · cases h
  · cases h

theorem binInt_sound {T0 : TypeId} {op : BinOp} {k : IntKind} {x y : Int} {g : Cell → Option R} (h : binInt op k x y g = some r) : ∃ z V, g z = some r ∧ (binOp op T0 (.int k x) (.int k y)).run P w = .ok V w ∧ (∀ N, CRel j H w N z V) := by
  cases op <;> simp only [binInt] at h <;> (first | (cases h; done) | skip)
  case add => exact ⟨_, _, h, by simp [binOp, Op.intArith], fun N => ⟨rfl, rfl⟩⟩
  case sub => exact ⟨_, _, h, by simp [binOp, Op.intArith], fun N => ⟨rfl, rfl⟩⟩
  case mul => exact ⟨_, _, h, by simp [binOp, Op.intArith], fun N => ⟨rfl, rfl⟩⟩
  case quo =>
    split at h
    · cases h
    · rename_i hz; exact ⟨_, _, h, by simp [binOp, Op.intDiv, hz], fun N => ⟨rfl, rfl⟩⟩
  case rem =>
    split at h
    · cases h
    · rename_i hz; exact ⟨_, _, h, by simp [binOp, Op.intDiv, hz], fun N => ⟨rfl, rfl⟩⟩
  case and => exact ⟨_, _, h, by simp [binOp, Op.intBits], fun N => ⟨rfl, rfl⟩⟩
  case or => exact ⟨_, _, h, by simp [binOp, Op.intBits], fun N => ⟨rfl, rfl⟩⟩
  case xor => exact ⟨_, _, h, by simp [binOp, Op.intBits], fun N => ⟨rfl, rfl⟩⟩
  case andNot => exact ⟨_, _, h, by simp [binOp, Op.intBits], fun N => ⟨rfl, rfl⟩⟩
  case eql => exact ⟨_, _, h, by simp [binOp, Op.intCmp], fun N => ⟨rfl, rfl⟩⟩
  case neq => exact ⟨_, _, h, by simp [binOp, Op.intCmp], fun N => ⟨rfl, rfl⟩⟩
  case lss => exact ⟨_, _, h, by simp [binOp, Op.intCmp], fun N => ⟨rfl, rfl⟩⟩
  case leq => exact ⟨_, _, h, by simp [binOp, Op.intCmp], fun N => ⟨rfl, rfl⟩⟩
  case gtr => exact ⟨_, _, h, by simp [binOp, Op.intCmp, ← Int.not_le, decide_not], fun N => ⟨rfl, rfl⟩⟩
  case geq => exact ⟨_, _, h, by simp [binOp, Op.intCmp, ← Int.not_lt, decide_not], fun N => ⟨rfl, rfl⟩⟩

theorem eqGuard_pure {op : BinOp} {T : TypeId} {x y : Operand} {u v : Value} (h1 : u.oneCell' = true) (h2 : u ≠ .nilIface) : (eqGuard op T x y u v).run P w = .ok () w := by
  cases op <;> cases u <;> (first | (exact absurd rfl h2) | (simp [Value.oneCell'] at h1; done) | (cases v <;> simp [eqGuard]))

theorem run_binOp {o : Oper} {op : BinOp} {T T2 : TypeId} {x y : Operand} (ho : o.op = .binOp op T x y T2) {V : Value} (hg : (eqGuard op T x y (a.eval x) (a.eval y)).run P w = .ok () w)
    (hr : (binOp op T (a.eval x) (a.eval y)).run P w = .ok V w) : (execOp a.eval o).run P w = .ok (.value V) w := by
  simp [execOp, ho, hg, hr]

theorem equalIn_nil (d : Nat) (T e : TypeId) (hu : P.underlying T = some (.pointer e)) (p q : Option Addr) (hn : p = none ∨ q = none) :
    (Op.equalIn (d + 1) T (.pointer p) (.pointer q)).run P w = .ok (p.isNone && q.isNone) w := by
  cases p with
  | none => cases q <;> simp [Op.equalIn, run_underlying hu]
  | some p =>
    cases q with
    | none => simp [Op.equalIn, run_underlying hu]
    | some q => simp at hn
theorem equal_nil (T e : TypeId) (hu : P.underlying T = some (.pointer e)) (p q : Option Addr) (hn : p = none ∨ q = none) :
    (Op.equal T (.pointer p) (.pointer q)).run P w = .ok (p.isNone && q.isNone) w := equalIn_nil 9999 T e hu p q hn

theorem binOp_sound (hI : Inv P c j H w) (he : ERel c j H w (NN c j H) env a) {o : Oper} {op : BinOp} {T T2 : TypeId} {x y : Operand} (ho : o.op = .binOp op T x y T2) (h : opV P o.op env H f = some r)
    (heq : ∀ p q b vp vq, (if (P.eqGuardType P.depth T || !isAggT P T) = true then none else eqT P 100 T p q) = some b → All2 (CRel j H w (NN c j H)) p vp → All2 (CRel j H w (NN c j H)) q vq →
      (eqGuard op T x y (.agg vp.toArray) (.agg vq.toArray)).run P w = .ok () w ∧ (Op.equal T (.agg vp.toArray) (.agg vq.toArray)).run P w = .ok b w) : Out P c j H w f r ((execOp a.eval o).run P w) := by
  rw [ho] at h
  simp only [opV] at h
  have hx := evalV_rel he x
  have hy := evalV_rel he y
  split at h
  · rename_i k n k' m h1 h2
    rw [h1] at hx; rw [h2] at hy
    have e1 := rel_int hx
    have e2 := rel_int hy
    have hg : (eqGuard op T x y (a.eval x) (a.eval y)).run P w = .ok () w := by rw [e1]; exact eqGuard_pure rfl (by simp)
    split at h
    · split at h
      · cases h
      · rename_i hm; exact .pure hI (run_binOp ho hg (by rw [e1, e2]; simp [binOp, Op.shift, hm])) h (int_rel _ _)
    · split at h
      · cases h
      · rename_i hm; exact .pure hI (run_binOp ho hg (by rw [e1, e2]; simp [binOp, Op.shift, hm])) h (int_rel _ _)
    · split at h
      · rename_i hk
        subst hk
        obtain ⟨z, V, hf, hr, hz⟩ := binInt_sound (P := P) (T0 := T) (j := j) (H := H) (w := w) h
        exact .pure hI (run_binOp ho hg (by rw [e1, e2]; exact hr)) hf (val_rel (hz _))
      · cases h
  · rename_i s t h1 h2
    rw [h1] at hx; rw [h2] at hy
    have e1 := rel_str hx
    have e2 := rel_str hy
    have hg : (eqGuard op T x y (a.eval x) (a.eval y)).run P w = .ok () w := by rw [e1]; exact eqGuard_pure rfl (by simp)
    split at h
    · split at h
      · rename_i hm
        exact .pure hI (run_binOp ho hg (by
          rw [e1, e2]
          have : ¬ (((s.size + t.size : Nat) : Int) > IntKind.i64.max) := by
            have : IntKind.i64.max = 9223372036854775807 := by decide
            omega
          simp only [binOp, Op.stringOp]
          rw [if_neg this]; rfl)) h (str_rel _)
      · cases h
    · exact .pure hI (run_binOp ho hg (by rw [e1, e2]; simp [binOp, Op.stringOp])) h (bool_rel _)
    · exact .pure hI (run_binOp ho hg (by rw [e1, e2]; simp [binOp, Op.stringOp])) h (bool_rel _)
    · cases h
  · rename_i s t h1 h2
    rw [h1] at hx; rw [h2] at hy
    have e1 := rel_bool hx
    have e2 := rel_bool hy
    have hg : (eqGuard op T x y (a.eval x) (a.eval y)).run P w = .ok () w := by rw [e1]; exact eqGuard_pure rfl (by simp)
    split at h
    · rename_i hT
      exact .pure hI (run_binOp ho hg (by rw [e1, e2]; simp [binOp, run_equal_bool w T _ _ hT])) h (bool_rel _)
    · rename_i hT
      exact .pure hI (run_binOp ho hg (by rw [e1, e2]; simp [binOp, run_equal_bool w T _ _ hT])) h (bool_rel _)
    · cases h
  · rename_i h1 h2
    rw [h1] at hx; rw [h2] at hy
    obtain ⟨_, e1⟩ := rel_one hx (by simp)
    obtain ⟨_, e2⟩ := rel_one hy (by simp)
    have hg : (eqGuard op T x y (a.eval x) (a.eval y)).run P w = .ok () w := by rw [e1]; exact eqGuard_pure rfl (by simp)
    split at h
    · rename_i e hT
      exact .pure hI (run_binOp ho hg (by rw [e1, e2]; simp [binOp, equal_nil T e hT none none (.inl rfl)])) h (bool_rel _)
    · rename_i e hT
      exact .pure hI (run_binOp ho hg (by rw [e1, e2]; simp [binOp, equal_nil T e hT none none (.inl rfl)])) h (bool_rel _)
    · cases h
  · rename_i b i q h1 h2
    rw [h1] at hx; rw [h2] at hy
    obtain ⟨_, e1⟩ := rel_one hx (by simp)
    obtain ⟨_, _, ⟨ad, e2⟩, _⟩ := rel_one hy (by simp)
    have hg : (eqGuard op T x y (a.eval x) (a.eval y)).run P w = .ok () w := by rw [e1]; exact eqGuard_pure rfl (by simp)
    split at h
    · rename_i e hT
      exact .pure hI (run_binOp ho hg (by rw [e1, e2]; simp [binOp, equal_nil T e hT none (some ad) (.inl rfl)])) h (bool_rel _)
    · rename_i e hT
      exact .pure hI (run_binOp ho hg (by rw [e1, e2]; simp [binOp, equal_nil T e hT none (some ad) (.inl rfl)])) h (bool_rel _)
    · cases h
  · rename_i b i q h1 h2
    rw [h1] at hx; rw [h2] at hy
    obtain ⟨_, e2⟩ := rel_one hy (by simp)
    obtain ⟨_, _, ⟨ad, e1⟩, _⟩ := rel_one hx (by simp)
    have hg : (eqGuard op T x y (a.eval x) (a.eval y)).run P w = .ok () w := by rw [e1]; exact eqGuard_pure rfl (by simp)
    split at h
    · rename_i e hT
      exact .pure hI (run_binOp ho hg (by rw [e1, e2]; simp [binOp, equal_nil T e hT (some ad) none (.inr rfl)])) h (bool_rel _)
    · rename_i e hT
      exact .pure hI (run_binOp ho hg (by rw [e1, e2]; simp [binOp, equal_nil T e hT (some ad) none (.inr rfl)])) h (bool_rel _)
    · cases h
  · rename_i b d q i h1 h2
    rw [h1] at hx; rw [h2] at hy
    obtain ⟨_, e2⟩ := rel_one hy (by simp)
    obtain ⟨_, _, _, ⟨ad, e1⟩, _⟩ := rel_one hx (by simp)
    have hg : (eqGuard op T x y (a.eval x) (a.eval y)).run P w = .ok () w := by rw [e1]; exact eqGuard_pure rfl (by simp)
    split at h
    · rename_i e hT
      exact .pure hI (run_binOp ho hg (by rw [e1, e2]; simp [binOp, equal_nil T e hT (some ad) none (.inr rfl)])) h (bool_rel _)
    · rename_i e hT
      exact .pure hI (run_binOp ho hg (by rw [e1, e2]; simp [binOp, equal_nil T e hT (some ad) none (.inr rfl)])) h (bool_rel _)
    · cases h
  · rename_i b i h1 h2
    rw [h1] at hx; rw [h2] at hy
    obtain ⟨_, e2⟩ := rel_one hy (by simp)
    obtain ⟨_, _, hX⟩ := rel_one hx (by simp)
    split at h
    · rename_i T0 t l hb
      have e1 := hX _ _ _ hb
      obtain ⟨_, _, hpl, _⟩ := hI.heap b _ hb
      rw [linkV] at e1
      have hg : (eqGuard op T x y (a.eval x) (a.eval y)).run P w = .ok () w := by rw [e1]; exact eqGuard_pure rfl (by simp)
      split at h
      · rename_i e hT
        refine .pure hI (run_binOp ho hg (by rw [e1, e2]; simp [binOp, equal_nil T e hT _ none (.inr rfl)]; rfl)) h (val_rel ⟨rfl, ?_⟩)
        by_cases hil : i < l.length
        · have := List.getElem?_eq_getElem (show i < (chOf (j.cv b)).length by omega)
          simp [this]; omega
        · have := List.getElem?_eq_none (show (chOf (j.cv b)).length ≤ i by omega)
          simp [this]; omega
      · rename_i e hT
        refine .pure hI (run_binOp ho hg (by rw [e1, e2]; simp [binOp, equal_nil T e hT _ none (.inr rfl)]; rfl)) h (val_rel ⟨rfl, ?_⟩)
        by_cases hil : i < l.length
        · have := List.getElem?_eq_getElem (show i < (chOf (j.cv b)).length by omega)
          simp [this]; omega
        · have := List.getElem?_eq_none (show (chOf (j.cv b)).length ≤ i by omega)
          simp [this]; omega
      · cases h
    · cases h
  · rename_i p q h1 h2
    rw [h1] at hx; rw [h2] at hy
    obtain ⟨vp, e1, ha⟩ := hx
    obtain ⟨vq, e2, hb⟩ := hy
    split at h
    · rename_i b hb'
      obtain ⟨g1, g2⟩ := heq p q b vp.toList vq.toList hb' ha hb
      have hg : (eqGuard op T x y (a.eval x) (a.eval y)).run P w = .ok () w := by rw [e1, e2]; simpa using g1
      have g2' : (Op.equal T (.agg vp) (.agg vq)).run P w = .ok b w := by simpa using g2
      split at h
      · exact .pure hI (run_binOp ho hg (by rw [e1, e2]; simp [binOp, g2'])) h (bool_rel _)
      · exact .pure hI (run_binOp ho hg (by rw [e1, e2]; simp [binOp, g2'])) h (bool_rel _)
      · cases h
    · cases h
  · cases h
end
end Go.Proofs.YtcdnofemnpafhaaM

/- '==' of structs and arrays. Conditions: none. -/
namespace Go.Proofs.YtcdnofemnpafhaaM
set_option linter.unusedVariables false
set_option linter.unusedSimpArgs false
set_option linter.unnecessarySimpa false
set_option linter.unusedSectionVars false
open Go

section
variable {P : Program} {c : Cx} {j : J} {H : List Blk} {w : World} {N : Nat → Prop}

def ValOf (P : Program) (T : TypeId) (vs : List Value) (V : Value) : Prop := ∃ d, P.underlying T = some d ∧ ((d.isRow = true ∧ V = .agg vs.toArray) ∨ (d.isRow = false ∧ vs = [V]))

theorem run_part {T : TypeId} {xs : List Value} {off s : Nat} (hs : infoSz P T = some s) {V : Value} (hv : ValOf P T ((xs.drop off).take s) V) : (part T xs.toArray off).run P w = .ok V w := by
  obtain ⟨d, hu, h⟩ := hv
  obtain ⟨i, hi, hs'⟩ := infoSz_some hs
  rcases h with ⟨hd, rfl⟩ | ⟨hd, hl⟩
  · have hagg : (isAgg T).run P w = .ok true w := by
      unfold isAgg
      rw [Sem.run_bind, run_underlying hu w]
      cases d <;> simp_all [TypeDesc.isRow]
    have e : xs.toArray.extract off (off + s) = ((xs.drop off).take s).toArray := by
      apply Array.ext'
      simp [List.extract_eq_take_drop]
    simp [part, hagg, sizeOf, typeInfo, hi, hs']
  · have hagg : (isAgg T).run P w = .ok false w := by
      unfold isAgg
      rw [Sem.run_bind, run_underlying hu w]
      cases d <;> simp_all [TypeDesc.isRow]
    have h0 : xs[off]? = some V := by
      have := congrArg (fun l => l[0]?) hl
      simp only [List.getElem?_take, List.getElem?_drop, Nat.add_zero] at this
      split at this
      · simpa using this
      · simp at this
    simp [part, hagg, h0]

theorem eqT_sound : ∀ (n : Nat) (T : TypeId) (p q : List Cell) (r : Bool), eqT P n T p q = some r → ∀ (d : Nat), n ≤ d → ∀ (vp vq : List Value), All2 (CRel j H w N) p vp → All2 (CRel j H w N) q vq →
    (∃ V, ValOf P T vp V) ∧ (∃ V, ValOf P T vq V) ∧ ∀ V W, ValOf P T vp V → ValOf P T vq W → (Op.equalIn d T V W).run P w = .ok r w := by
  intro n
  induction n with
  | zero => intro T p q r h; simp [eqT] at h
  | succ n ih =>
    intro T p q r h d hd vp vq hp hq
    obtain ⟨d, rfl⟩ : ∃ m, d = m + 1 := ⟨d - 1, by omega⟩
    unfold eqT at h
    have scalar : ∀ {D : TypeDesc} {x y V0 W0 : Value}, P.underlying T = some D → D.isRow = false → vp = [V0] → vq = [W0] → ((Op.equalIn (d + 1) T V0 W0).run P w = .ok r w) →
        (∃ V, ValOf P T vp V) ∧ (∃ V, ValOf P T vq V) ∧ ∀ V W, ValOf P T vp V → ValOf P T vq W → (Op.equalIn (d + 1) T V W).run P w = .ok r w := by
      intro D x y V0 W0 hu hD e1 e2 hr
      refine ⟨⟨V0, D, hu, .inr ⟨hD, e1⟩⟩, ⟨W0, D, hu, .inr ⟨hD, e2⟩⟩, fun V W hV hW => ?_⟩
      obtain ⟨D1, k1, k2⟩ := hV
      obtain ⟨D2, k3, k4⟩ := hW
      rw [hu] at k1 k3; cases k1; cases k3
      rcases k2 with ⟨k2, _⟩ | ⟨_, k2⟩
      · rw [hD] at k2; cases k2
      rcases k4 with ⟨k4, _⟩ | ⟨_, k4⟩
      · rw [hD] at k4; cases k4
      rw [e1] at k2; rw [e2] at k4
      cases k2; cases k4
      exact hr
    split at h
    · rename_i k0 k x k' y hu
      split at h
      · rename_i hk
        subst hk
        cases h
        obtain ⟨V0, _, e1, h1, hn1⟩ := hp.cons_left
        obtain rfl := hn1.nil_left
        obtain ⟨W0, _, e2, h2, hn2⟩ := hq.cons_left
        obtain rfl := hn2.nil_left
        rw [h1.2] at e1; rw [h2.2] at e2
        exact scalar (x := undef) (y := undef) hu rfl e1 e2 (run_equalIn_int w d T _ _ _ _ hu)
      · cases h
    · rename_i x y hu
      cases h
      obtain ⟨V0, _, e1, h1, hn1⟩ := hp.cons_left
      obtain rfl := hn1.nil_left
      obtain ⟨W0, _, e2, h2, hn2⟩ := hq.cons_left
      obtain rfl := hn2.nil_left
      rw [h1.2] at e1; rw [h2.2] at e2
      exact scalar (x := undef) (y := undef) hu rfl e1 e2 (run_equalIn_bool w d T _ _ hu)
    · rename_i x y hu
      cases h
      obtain ⟨V0, _, e1, h1, hn1⟩ := hp.cons_left
      obtain rfl := hn1.nil_left
      obtain ⟨W0, _, e2, h2, hn2⟩ := hq.cons_left
      obtain rfl := hn2.nil_left
      rw [h1.2] at e1; rw [h2.2] at e2
      exact scalar (x := undef) (y := undef) hu rfl e1 e2 (run_equalIn_string w d T _ _ hu)
    · rename_i fs hu
      split at h
      · cases h
      · rename_i hst
        refine ⟨⟨_, _, hu, .inl ⟨rfl, rfl⟩⟩, ⟨_, _, hu, .inl ⟨rfl, rfl⟩⟩, fun V W hV hW => ?_⟩
        obtain ⟨D1, k1, k2⟩ := hV
        obtain ⟨D2, k3, k4⟩ := hW
        rw [hu] at k1 k3; cases k1; cases k3
        have k2 := (k2.resolve_right (fun e => by cases e.1)).2
        have k4 := (k4.resolve_right (fun e => by cases e.1)).2
        subst k2; subst k4
        have hf : P.fieldsOf T = fs := by unfold Program.fieldsOf; rw [hu]
        rw [run_equalIn_struct w d T _ _ (by rw [hf]; exact hu) (by simpa using hst), hf]
        clear hu hf hst scalar
        generalize fs.toList = l at h
        induction l generalizing r with
        | nil => simp only [eqFields] at h; cases h; simp [Op.eqFields]
        | cons fd l ihl =>
          simp only [eqFields] at h
          split at h
          · cases h
          · rename_i hname
            split at h
            · rename_i s hs
              split at h
              · rename_i x y hx hy
                cases h
                obtain ⟨⟨V1, hV1⟩, ⟨W1, hW1⟩, hrun⟩ := ih _ _ _ _ hx d (by omega) _ _ ((hp.drop fd.offset).take s) ((hq.drop fd.offset).take s)
                have h3 := hrun V1 W1 hV1 hW1
                simp only [Op.eqFields, Sem.run_ite, ne_eq, hname, not_false_eq_true, if_true, Sem.run_bind, run_part hs hV1, run_part hs hW1, Result.andThen_ok, h3]
                cases x
                · simp
                · simp only [Bool.not_true, Bool.false_eq_true, if_false, Bool.true_and]
                  exact ihl _ hy
              · cases h
            · cases h
    · rename_i m e hu
      split at h
      · rename_i s hs
        refine ⟨⟨_, _, hu, .inl ⟨rfl, rfl⟩⟩, ⟨_, _, hu, .inl ⟨rfl, rfl⟩⟩, fun V W hV hW => ?_⟩
        obtain ⟨D1, k1, k2⟩ := hV
        obtain ⟨D2, k3, k4⟩ := hW
        rw [hu] at k1 k3; cases k1; cases k3
        have k2 := (k2.resolve_right (fun e => by cases e.1)).2
        have k4 := (k4.resolve_right (fun e => by cases e.1)).2
        subst k2; subst k4
        obtain ⟨i, hi, hsz⟩ := infoSz_some hs
        rw [run_equalIn_array w d vp.toArray vq.toArray hu hi]
        have hc : P.cellsOf e = s := by simp [Program.cellsOf, hi, hsz]
        rw [hc]
        clear hu hi hc scalar hsz
        generalize List.range m = l at h
        induction l generalizing r with
        | nil => simp only [eqElems] at h; cases h; simp [Op.eqItems]
        | cons x l ihl =>
          simp only [eqElems] at h
          split at h
          · rename_i u v hx hy
            cases h
            obtain ⟨⟨V1, hV1⟩, ⟨W1, hW1⟩, hrun⟩ := ih _ _ _ _ hx d (by omega) _ _ ((hp.drop (x * s)).take s) ((hq.drop (x * s)).take s)
            have h3 := hrun V1 W1 hV1 hW1
            simp only [Op.eqItems, Sem.run_bind, run_part hs hV1, run_part hs hW1, Result.andThen_ok, h3]
            cases u
            · simp
            · simp only [Bool.true_and]
              simpa using ihl _ hy
          · cases h
      · cases h
    · cases h

theorem eq_agg {op : BinOp} {T : TypeId} {x y : Operand} {p q : List Cell} {b : Bool} {vp vq : List Value} (h : (if (P.eqGuardType P.depth T || !isAggT P T) = true then none else eqT P 100 T p q) = some b)
    (hp : All2 (CRel j H w N) p vp) (hq : All2 (CRel j H w N) q vq) :
    (eqGuard op T x y (.agg vp.toArray) (.agg vq.toArray)).run P w = .ok () w ∧ (Op.equal T (.agg vp.toArray) (.agg vq.toArray)).run P w = .ok b w := by
  split at h
  · cases h
  · rename_i hg
    obtain ⟨⟨V, hV⟩, ⟨W, hW⟩, hrun⟩ := eqT_sound 100 T p q b h 10000 (by omega) vp vq hp hq
    refine ⟨run_eqGuard_agg w op T x y _ _ (by simp at hg; exact hg.1), ?_⟩
    obtain ⟨d, hu, h1⟩ := hV
    rcases h1 with ⟨hd, rfl⟩ | ⟨hd, h1⟩
    · obtain ⟨d', hu', h2⟩ := hW
      rw [hu] at hu'; cases hu'
      rcases h2 with ⟨_, rfl⟩ | ⟨h2, _⟩
      · exact hrun _ _ ⟨d, hu, .inl ⟨hd, rfl⟩⟩ ⟨d, hu, .inl ⟨hd, rfl⟩⟩
      · rw [hd] at h2; cases h2
    · exfalso
      have : isAggT P T = true := by simp at hg; exact hg.2
      unfold isAggT at this
      rw [hu] at this
      cases d <;> simp_all [TypeDesc.isRow]
end
end Go.Proofs.YtcdnofemnpafhaaM

/- Conversions, addresses of parts, parts of values, rows that are made, cuts. Conditions: none. -/
namespace Go.Proofs.YtcdnofemnpafhaaM
set_option linter.unusedVariables false
set_option linter.unusedSimpArgs false
set_option linter.unnecessarySimpa false
set_option linter.unusedSectionVars false
open Go

section
variable {P : Program} {c : Cx} {j : J} {H : List Blk} {w : World} {R : Type} {f : AV → List Blk → Option R} {r : R} {env : List AV} {a : Act}

theorem unOp_sound (hI : Inv P c j H w) (he : ERel c j H w (NN c j H) env a) {o : Oper} {op : UnOp} {T : TypeId} {x : Operand} (ho : o.op = .unOp op T x) (h : opV P o.op env H f = some r) : Out P c j H w f r ((execOp a.eval o).run P w) := by
  rw [ho] at h
  simp only [opV] at h
  have hx := evalV_rel he x
  split at h
  · rename_i k n hz
    rw [hz] at hx
    exact .pure hI (by simp [execOp, ho, rel_int hx, Op.unary, Op.intArith]) h (int_rel _ _)
  · rename_i b hz
    rw [hz] at hx
    exact .pure hI (by simp [execOp, ho, rel_bool hx, Op.unary]) h (bool_rel _)
  · rename_i k n hz
    rw [hz] at hx
    exact .pure hI (by simp [execOp, ho, rel_int hx, Op.unary, Op.intBits]) h (int_rel _ _)
  · cases h

theorem mapM_vals {env : List AV} {N : Nat → Prop} (he : ERel c j H w N env a) : ∀ {l : List Operand} {vs : List V1}, l.mapM (fun x => V1.ofAV (evalV env x)) = some vs → All2 (V1Rel j H w N) vs (l.map a.eval)
  | [], vs, h => by simp at h; subst h; exact All2.nil
  | x :: l, vs, h => by
    rw [List.mapM_cons] at h
    simp only [bind, Option.bind_eq_some_iff, pure, Option.some.injEq] at h
    obtain ⟨v, hv, vs', hvs, rfl⟩ := h
    have hx := evalV_rel he x
    rw [ofAV_eq hv] at hx
    exact All2.cons hx (mapM_vals he hvs)

theorem makeFunc_sound (hI : Inv P c j H w) (he : ERel c j H w (NN c j H) env a) {o : Oper} {fn : Fn} {l m : Array Operand} (ho : o.op = .makeFunc fn l m) (h : opV P o.op env H f = some r) : Out P c j H w f r ((execOp a.eval o).run P w) := by
  rw [ho] at h
  cases fn <;> simp only [opV] at h <;> (first | (cases h; done) | skip)
  rename_i g
  split at h
  · rename_i x y hx hy
    have h1 := mapM_vals he hx
    have h2 := mapM_vals he hy
    obtain ⟨k1, k2⟩ := hI.push (B := .clo g x y) (r := none) (v := .func (.func g) (l.map a.eval) (m.map a.eval)) (w' := w) (Nat.le_refl _) rfl rfl rfl (fun _ _ => rfl) (fun _ hg => by cases hg)
      (fun mm => ⟨J.at_eq.1, _, _, J.at_eq.2, by rw [Array.toList_map]; exact h1.imp fun _ _ => V1Rel.mov mm, by rw [Array.toList_map]; exact h2.imp fun _ _ => V1Rel.mov mm⟩)
    refine .val (V := .func (.func g) (l.map a.eval) (m.map a.eval)) (by simp [execOp, ho, Instr.makeFunc]) h k1 k2 (val_rel ⟨rfl, by simp, fun f' a' c' hb => ?_⟩)
    exact J.at_eq.2.symm
  · cases h

theorem fieldPlace_run {ad : Addr} {fd : Field} {n : Nat} (h : infoSz P fd.type = some (n + 1)) : (fieldPlace ad fd).run P w = .ok (ad.add fd.offset) w := by
  obtain ⟨i, hi, hs⟩ := infoSz_some h
  simp [fieldPlace, sizeOf, typeInfo, hi, hs]

theorem add_add (e : Addr) (o p : Nat) : (e.add o).add p = e.add (o + p) := by
  unfold Addr.add
  by_cases h1 : o = 0
  · by_cases h2 : p = 0 <;> simp [h1, h2]
  · by_cases h2 : p = 0 <;> simp [h1, h2, Nat.add_assoc]

theorem fieldAddr_sound (hI : Inv P c j H w) (he : ERel c j H w (NN c j H) env a) {o : Oper} {T : TypeId} {x : Operand} {i : Nat} (ho : o.op = .fieldAddr T x i) (h : opV P o.op env H f = some r) : Out P c j H w f r ((execOp a.eval o).run P w) := by
  rw [ho] at h
  simp only [opV] at h
  have hx := evalV_rel he x
  split at h
  · rename_i fs b q p hu hz
    rw [hz] at hx
    split at h
    · rename_i fd hfd
      split at h
      · rename_i n hn
        obtain ⟨_, hlt, ⟨ad, hX⟩, hB⟩ := rel_one hx (by simp)
        refine .pure (V := .pointer (some (ad.add fd.offset))) hI (by simp [execOp, ho, hX, Instr.fieldAt, run_underlying hu, hfd, Instr.sureAddr, fieldPlace_run hn]) h (val_rel ⟨rfl, hlt, ⟨_, rfl⟩, fun B hb => ?_⟩)
        have := hB B hb
        cases B <;> first | trivial | skip
        · obtain ⟨h1, g, h2, h3⟩ := this
          rw [hX] at h3
          cases h3
          exact ⟨h1, g, h2, by rw [Addr.add_mid]⟩
        · obtain ⟨h1, g, h2, h3⟩ := this
          rw [hX] at h3
          cases h3
          exact ⟨h1, g, h2, by rw [Addr.add_mid, Nat.add_assoc]⟩
      · cases h
    · cases h
  · rename_i fs t y p hu hz
    rw [hz] at hx
    split at h
    · rename_i fd hfd
      split at h
      · rename_i n hn
        obtain ⟨_, e, vs, hX, h1, h2, h3, h4⟩ := rel_one hx (by simp)
        exact .pure (V := .pointer (some ((e.add p).add fd.offset))) hI (by simp [execOp, ho, hX, Instr.fieldAt, run_underlying hu, hfd, Instr.sureAddr, fieldPlace_run hn]) h (val_rel ⟨rfl, e, vs, by rw [add_add], h1, h2, h3, h4⟩)
      · cases h
    · cases h
  · rename_i fs b q p hu hz
    rw [hz] at hx
    split at h
    · rename_i fd hfd
      split at h
      · rename_i n hn
        obtain ⟨_, hlt, ⟨ad, hX⟩, hB⟩ := rel_one hx (by simp)
        refine .pure (V := .pointer (some (ad.add fd.offset))) hI (by simp [execOp, ho, hX, Instr.fieldAt, run_underlying hu, hfd, Instr.sureAddr, fieldPlace_run hn]) h (val_rel ⟨rfl, hlt, ⟨_, rfl⟩, fun T0 t l hb => ?_⟩)
        obtain ⟨hil, g, h1, h3⟩ := hB _ _ _ hb
        rw [hX] at h3
        cases h3
        exact ⟨hil, g, h1, by rw [Addr.add_mid, Nat.add_assoc]⟩
      · cases h
    · cases h
  · rename_i fs b q p hu hz
    rw [hz] at hx
    split at h
    · rename_i fd hfd
      split at h
      · rename_i n hn
        obtain ⟨_, hlt, ⟨ad, hX⟩, hB⟩ := rel_one hx (by simp)
        refine .pure (V := .pointer (some (ad.add fd.offset))) hI (by simp [execOp, ho, hX, Instr.fieldAt, run_underlying hu, hfd, Instr.sureAddr, fieldPlace_run hn]) h (val_rel ⟨rfl, hlt, ⟨_, rfl⟩, fun T0 t l hb => ?_⟩)
        obtain ⟨g, h1, h3⟩ := hB _ _ _ hb
        rw [hX] at h3
        cases h3
        exact ⟨g, h1, by rw [Addr.add_mid]⟩
      · cases h
    · cases h
  · cases h

theorem field_sound (hI : Inv P c j H w) (he : ERel c j H w (NN c j H) env a) {o : Oper} {T : TypeId} {x : Operand} {i : Nat} (ho : o.op = .field T x i) (h : opV P o.op env H f = some r) : Out P c j H w f r ((execOp a.eval o).run P w) := by
  rw [ho] at h
  simp only [opV] at h
  have hx := evalV_rel he x
  split at h
  · rename_i fs cs hu hz
    rw [hz] at hx
    obtain ⟨vs, hX, ha⟩ := hx
    split at h
    · rename_i fd hfd
      split at h
      · rename_i n hn
        split at h
        · split at h
          · rename_i v hv
            obtain ⟨V, d, hd, hV, hr⟩ := asVal_rel hv ((ha.drop fd.offset).take n)
            have hp := run_part (w := w) hn (xs := vs.toList) (off := fd.offset) ⟨d, hd, hV⟩
            refine .pure hI ?_ h hr
            simp only [execOp, ho, hX, Instr.field]
            have hp' : (part fd.type vs fd.offset).run P w = .ok V w := by simpa using hp
            simp [run_underlying hu, hfd, asAgg, hp']
          · cases h
        · cases h
      · cases h
    · cases h
  · cases h

theorem idx_sound (hI : Inv P c j H w) (he : ERel c j H w (NN c j H) env a) {o : Oper} {T : TypeId} {x i : Operand} (ho : o.op = .index T x i) (h : opV P o.op env H f = some r) : Out P c j H w f r ((execOp a.eval o).run P w) := by
  rw [ho] at h
  simp only [opV] at h
  have hx := evalV_rel he x
  have hi := evalV_rel he i
  split at h
  · rename_i v k n hz hk
    rw [hz] at hx; rw [hk] at hi
    have e2 := rel_int hi
    unfold idx at h
    split at h
    · rename_i cs m e hu
      obtain ⟨vs, hX, ha⟩ := hx
      split at h
      · rename_i d0 hs hag hue
        split at h
        · rename_i k' n0 r0
          split at h
          · rename_i l hl
            split at h
            · rename_i hb
              obtain ⟨e1, hq⟩ := intsOf_rel hl ha
              obtain ⟨ti, hti, hsz⟩ := infoSz_some hs
              have hil : n.toNat < l.length := by omega
              have hd : d0.isRow = false := by unfold isAggT at hag; rw [hue] at hag; cases d0 <;> simp_all [TypeDesc.isRow]
              have hv := hq n.toNat _ (List.getElem?_eq_getElem hil)
              have hp := run_part (w := w) hs (xs := vs.toList) (off := n.toNat) (V := .int k' l[n.toNat]) ⟨d0, hue, .inr ⟨hd, by
                apply List.ext_getElem?
                intro p
                rw [List.getElem?_take]
                cases p with
                | zero => rw [if_pos (by omega), List.getElem?_drop, Nat.add_zero, hv]; rfl
                | succ p => rw [if_neg (by omega)]; rfl⟩⟩
              have hp' : (part e vs n.toNat).run P w = .ok (.int k' l[n.toNat]) w := by simpa using hp
              refine .pure hI ?_ h (av := .v (.one (.int k' (l.getD n.toNat 0)))) (by rw [List.getD_eq_getElem?_getD, List.getElem?_eq_getElem hil]; exact int_rel _ _)
              simp only [execOp, ho, hX, e2, Instr.index]
              simp [asIntOf, run_underlying hu, sizeOf, typeInfo, hti, hsz, hb.1, hb.2.1, hp']
            · cases h
          · cases h
        · cases h
      · cases h
    · rename_i s hu
      split at h
      · rename_i hb
        have hX := rel_str hx
        refine .pure hI ?_ h (int_rel _ _)
        simp only [execOp, ho, hX, e2, Instr.index]
        simp [asIntOf, run_underlying hu, hb.1, hb.2]
      · cases h
    · cases h
  · cases h

theorem idxAddr_sound (hI : Inv P c j H w) (he : ERel c j H w (NN c j H) env a) {o : Oper} {T : TypeId} {x i : Operand} (ho : o.op = .indexAddr T x i) (h : opV P o.op env H f = some r) : Out P c j H w f r ((execOp a.eval o).run P w) := by
  rw [ho] at h
  simp only [opV] at h
  have hx := evalV_rel he x
  have hi := evalV_rel he i
  split at h
  · rename_i y k n hz hk
    rw [hz] at hx; rw [hk] at hi
    have e2 := rel_int hi
    unfold idxAddr at h
    split at h
    · rename_i t l e hu
      split at h
      · rename_i hs
        split at h
        · rename_i hb
          obtain ⟨_, A, cap, hX, hlc, hq⟩ := rel_one hx (by simp)
          simp only [List.cons.injEq, and_true] at hX
          have hn : n.toNat < l.length := by omega
          obtain ⟨ad, vs, rfl, h1, h2, h3, h4⟩ := hq n.toNat _ (List.getElem?_eq_getElem hn)
          obtain ⟨ti, hti, hsz⟩ := infoSz_some hs
          refine .pure (V := .pointer (some (ad.add (n.toNat * t.sz)))) hI ?_ h (val_rel ⟨rfl, ad.add (n.toNat * t.sz), vs, by simp [Addr.add], by rw [addr_add_block]; exact h1, by rw [addr_add_block]; exact h2, ?_, fun q u hu => by rw [add_add]; exact h4 q u hu⟩)
          · simp only [execOp, ho, hX, e2, Instr.indexAt]
            simp [asIntOf, run_underlying hu, sizeOf, typeInfo, hti, hsz, hb.1, hb.2]
          · rw [List.getD_eq_getElem?_getD, List.getElem?_eq_getElem hn]; exact h3
        · cases h
      · cases h
    · rename_i b e hu
      split at h
      · rename_i T' t l hb
        split at h
        · rename_i hs
          split at h
          · rename_i hin
            obtain ⟨_, hlt, hF⟩ := rel_one hx (by simp)
            obtain ⟨ti, hti, hsz⟩ := infoSz_some hs
            rcases hF _ _ _ hb with ⟨hj, _⟩ | ⟨g, cap, hg, hX, cells, hh, _⟩
            · rcases hI.heap b _ hb with ⟨_, rfl⟩ | ⟨g, _, _, hg, _⟩
              · simp at hin; omega
              · rw [hj] at hg; cases hg
            · refine .pure (V := .pointer (some ⟨g, n.toNat * t.sz, none⟩)) hI ?_ h (val_rel ⟨rfl, hlt, ⟨_, rfl⟩, fun B hB => ?_⟩)
              · simp only [execOp, ho, hX, e2, Instr.indexAt]
                simp [asIntOf, run_underlying hu, sizeOf, typeInfo, hti, hsz, hin.1, hin.2, Addr.add_mid]
              · rw [hb] at hB; cases hB
                exact ⟨by omega, g, hg, rfl⟩
          · cases h
        · cases h
      · cases h
    · rename_i b q m e hu
      split at h
      · rename_i T' t l hb
        split at h
        · rename_i hs
          split at h
          · rename_i hin
            obtain ⟨_, hlt, hF⟩ := rel_one hx (by simp)
            obtain ⟨ti, hti, hsz⟩ := infoSz_some hs
            obtain ⟨h1, A, cap, hX, _, hA⟩ := hF _ _ _ hb
            obtain ⟨g, hg, rfl⟩ := hA (by omega)
            refine .pure (V := .pointer (some ⟨g, q * t.sz + n.toNat * t.sz, none⟩)) hI ?_ h (val_rel ⟨rfl, hlt, ⟨_, rfl⟩, fun B hB => ?_⟩)
            · simp only [execOp, ho, hX, e2, Instr.indexAt]
              simp [asIntOf, run_underlying hu, sizeOf, typeInfo, hti, hsz, hin.1, hin.2, Addr.add_mid]
            · rw [hb] at hB; cases hB
              exact ⟨by omega, g, hg, by rw [Nat.add_mul, Nat.add_zero]⟩
          · cases h
        · cases h
      · cases h
    · rename_i b m e hu
      split at h
      · rename_i T' cs hb
        split at h
        · rename_i hs
          split at h
          · rename_i hin
            obtain ⟨_, hlt, hF⟩ := rel_one hx (by simp)
            obtain ⟨ti, hti, hsz⟩ := infoSz_some hs
            obtain ⟨_, g, hg, hX⟩ := hF _ _ hb
            refine .pure (V := .pointer (some ⟨g, n.toNat, none⟩)) hI ?_ h (val_rel ⟨rfl, hlt, ⟨_, rfl⟩, fun B hB => ?_⟩)
            · simp only [execOp, ho, hX, e2, Instr.indexAt]
              simp [asIntOf, run_underlying hu, sizeOf, typeInfo, hti, hsz, hin.1, hin.2, Addr.add_mid]
            · rw [hb] at hB; cases hB
              exact ⟨rfl, g, hg, rfl⟩
          · cases h
        · cases h
      · cases h
    · rename_i b e hu
      split at h
      · rename_i T' t l hb
        split at h
        · rename_i hs
          split at h
          · rename_i hin
            obtain ⟨_, hlt, hF⟩ := rel_one hx (by simp)
            obtain ⟨ti, hti, hsz⟩ := infoSz_some hs
            rcases hF _ _ _ hb with ⟨hj, _⟩ | ⟨g, hg, hX⟩
            · rcases hI.heap b _ hb with ⟨_, _, _, ⟨_, rfl⟩ | ⟨g, _, hg, _⟩⟩
              · simp at hin; omega
              · rw [hj] at hg; cases hg
            · refine .pure (V := .pointer (some ⟨g, n.toNat * t.sz, none⟩)) hI ?_ h (val_rel ⟨rfl, hlt, ⟨_, rfl⟩, fun T2 t2 l2 hB => ?_⟩)
              · simp only [execOp, ho, hX, e2, Instr.indexAt]
                simp [asIntOf, run_underlying hu, sizeOf, typeInfo, hti, hsz, hin.1, hin.2, Addr.add_mid]
              · rw [hb] at hB; cases hB
                exact ⟨by omega, g, hg, rfl⟩
          · cases h
        · cases h
      · cases h
    · rename_i b q m e hu
      split at h
      · rename_i T' t l hb
        split at h
        · rename_i hs
          split at h
          · rename_i hin
            obtain ⟨_, hlt, hF⟩ := rel_one hx (by simp)
            obtain ⟨ti, hti, hsz⟩ := infoSz_some hs
            obtain ⟨A, cap, hX, _, hA⟩ := hF _ _ _ hb
            obtain ⟨g, hg, rfl⟩ := hA (by omega)
            refine .pure (V := .pointer (some ⟨g, n.toNat * t.inn.sz, none⟩)) hI ?_ h (val_rel ⟨rfl, hlt, ⟨_, rfl⟩, fun T2 t2 l2 hB => ?_⟩)
            · simp only [execOp, ho, hX, e2, Instr.indexAt]
              simp [asIntOf, run_underlying hu, sizeOf, typeInfo, hti, hsz, hin.1, hin.2, Addr.add_mid]
            · rw [hb] at hB; cases hB
              exact ⟨g, hg, rfl⟩
          · cases h
        · cases h
      · cases h
    · rename_i b q m e hu
      split at h
      · rename_i hs
        split at h
        · rename_i hin
          obtain ⟨_, hlt, ⟨ad, hX⟩, hB⟩ := rel_one hx (by simp)
          obtain ⟨ti, hti, hsz⟩ := infoSz_some hs
          refine .pure (V := .pointer (some (ad.add n.toNat))) hI ?_ h (val_rel ⟨rfl, hlt, fun T' cs hb => ?_⟩)
          · simp only [execOp, ho, hX, e2, Instr.indexAt]
            simp [asIntOf, run_underlying hu, sizeOf, typeInfo, hti, hsz, hin.1, hin.2, Instr.sureAddr]
          · obtain ⟨_, g, hg, h3⟩ := hB _ hb
            rw [hX] at h3
            cases h3
            exact ⟨by omega, g, hg, by rw [Addr.add_mid]⟩
        · cases h
      · cases h
    · cases h
  · cases h
end
end Go.Proofs.YtcdnofemnpafhaaM

/- Maps of the call's own. Conditions: keys are whole numbers, booleans or structs of two whole numbers; elements whole numbers or booleans. -/
namespace Go.Proofs.YtcdnofemnpafhaaM
set_option linter.unusedVariables false
set_option linter.unusedSimpArgs false
set_option linter.unnecessarySimpa false
set_option linter.unusedSectionVars false
open Go

section
variable {P : Program} {c : Cx} {j : J} {H : List Blk} {w : World} {R : Type} {r : R} {f : AV → List Blk → Option R} {env : List AV} {a : Act}

inductive KeyT (P : Program) (T : TypeId) : Ty → Prop
  | int (k : IntKind) (h : P.underlying T = some (.int k)) : KeyT P T (.int k)
  | bool (h : P.underlying T = some .bool) : KeyT P T .bool
  | two (k k' : IntKind) (fs : Array Field) (f g : Field) (h : P.underlying T = some (.struct fs)) (hl : fs.toList = [f, g]) (hf : f.name ≠ "_") (hg : g.name ≠ "_") (of : f.offset = 0) (og : g.offset = 1)
      (sf : infoSz P f.type = some 1) (sg : infoSz P g.type = some 1) (uf : P.underlying f.type = some (.int k)) (ug : P.underlying g.type = some (.int k')) (hs : P.stoodInHeld T = false) : KeyT P T (.pair (.int k) (.int k'))
theorem keyT_of {T : TypeId} {kt : Ty} (h : keyOk P T kt = true) : KeyT P T kt := by
  unfold keyOk at h
  split at h
  · rename_i k hu; have := of_decide_eq_true h; subst this; exact .int k hu
  · rename_i hu; have := of_decide_eq_true h; subst this; exact .bool hu
  · rename_i fs hu
    split at h
    · rename_i f g hl
      simp only [Bool.and_eq_true, Bool.not_eq_true', decide_eq_true_eq, beq_iff_eq] at h
      obtain ⟨⟨⟨⟨⟨⟨⟨h1, h2⟩, h3⟩, h4⟩, h5⟩, h6⟩, h7⟩, h8⟩ := h
      split at h7
      · rename_i k k' uf ug
        have := of_decide_eq_true h7
        subst this
        exact .two k k' fs f g hu hl h1 h2 h3 h4 h5 h6 uf ug h8
      · cases h7
    · cases h
  · cases h
theorem KeyT.noRo {T : TypeId} {kt : Ty} (h : KeyT P T kt) : kt.noRo = true := by cases h <;> rfl
theorem elemT_of {T : TypeId} {vt : Ty} (h : elemOk P T vt = true) : (∃ k, P.underlying T = some (.int k) ∧ vt = .int k) ∨ (P.underlying T = some .bool ∧ vt = .bool) := by
  unfold elemOk at h
  split at h
  · rename_i k hu; exact .inl ⟨k, hu, of_decide_eq_true h⟩
  · rename_i hu; exact .inr ⟨hu, of_decide_eq_true h⟩
  · cases h

theorem beqD_eq {T : TypeId} {kt : Ty} (h : KeyT P T kt) {x y : kt.den} (e : Ty.beqD kt x y = true) : x = y := by
  cases h with
  | int k _ => exact of_decide_eq_true e
  | bool _ => exact of_decide_eq_true e
  | two k k' =>
    simp only [Ty.beqD, Bool.and_eq_true, decide_eq_true_eq] at e
    exact Prod.ext e.1 e.2

theorem run_checkKey {T : TypeId} {kt : Ty} (h : KeyT P T kt) (x : kt.den) (e : Bool) (n : Nat) : (Instr.checkKey e (n + 2) T (valOf kt x)).run P w = .ok () w := by
  cases h with
  | int k hu => simp [Instr.checkKey, Sem.run_bind, run_underlying hu w, valOf, valT]
  | bool hu => simp [Instr.checkKey, Sem.run_bind, run_underlying hu w, valOf, valT]
  | two k k' fs f g hu hl hf hg of og sf sg uf ug hs =>
    obtain ⟨x1, x2⟩ := x
    have hfs : fs = #[f, g] := by rw [← Array.toList_inj]; exact hl
    subst hfs
    have p1 : (part f.type #[Value.int k x1, Value.int k' x2] 0).run P w = .ok (.int k x1) w := run_part (xs := [Value.int k x1, Value.int k' x2]) sf ⟨_, uf, .inr ⟨rfl, rfl⟩⟩
    have p2 : (part g.type #[Value.int k x1, Value.int k' x2] 1).run P w = .ok (.int k' x2) w := run_part (xs := [Value.int k x1, Value.int k' x2]) sg ⟨_, ug, .inr ⟨rfl, rfl⟩⟩
    simp [Instr.checkKey, Sem.run_bind, run_underlying hu w, valOf, valT, hf, hg, of, og, p1, p2, run_underlying uf w, run_underlying ug w, Result.andThen]

def mapFind {K V : Type} (eq : K → K → Bool) (k : K) : List (K × V) → Nat → Option (Nat × V)
  | [], _ => none
  | p :: m, i => if eq k p.1 = true then some (i, p.2) else mapFind eq k m (i + 1)
theorem mapFind_get {K V : Type} (eq : K → K → Bool) (k : K) : ∀ (m : List (K × V)) (i : Nat), (mapFind eq k m i).map (·.2) = mapGet eq k m
  | [], _ => rfl
  | p :: m, i => by
    simp only [mapFind, mapGet]
    split
    · rfl
    · exact mapFind_get eq k m (i + 1)
theorem mapFind_put {K V : Type} (eq : K → K → Bool) (k : K) (v : V) : ∀ (m : List (K × V)) (i : Nat), match mapFind eq k m i with
    | none => mapPut eq k v m = m ++ [(k, v)]
    | some (q, _) => ∃ n p, q = i + n ∧ m[n]? = some p ∧ eq k p.1 = true ∧ mapPut eq k v m = m.set n (k, v)
  | [], _ => rfl
  | p :: m, i => by
    simp only [mapFind, mapPut]
    by_cases h : eq k p.1 = true
    · simp only [if_pos h]
      exact ⟨0, p, rfl, rfl, h, rfl⟩
    · simp only [if_neg h]
      have := mapFind_put eq k v m (i + 1)
      split at this
      · rename_i h1; rw [this]; rfl
      · obtain ⟨n, p', e1, e2, e3, e4⟩ := this
        exact ⟨n + 1, p', by omega, e2, e3, by rw [e4]; rfl⟩

theorem run_equal_key {T : TypeId} {kt : Ty} {k k' : IntKind} (e0 : kt = .pair (.int k) (.int k')) (h : KeyT P T kt) (x y : kt.den) : (Op.equal T (valOf kt x) (valOf kt y)).run P w = .ok (Ty.beqD kt x y) w := by
  cases h with
  | int k _ => cases e0
  | bool _ => cases e0
  | two k k' fs f g hu hl hf hg of og sf sg uf ug hs =>
    obtain ⟨x1, x2⟩ := x
    obtain ⟨y1, y2⟩ := y
    have he' : ∀ n, eqT P (n + 2) T [.int k x1, .int k' x2] [.int k y1, .int k' y2] = some (x1 == y1 && (x2 == y2 && true)) := by
      intro n
      simp [eqT, hu, hs, hl, eqFields, hf, hg, of, og, sf, sg, uf, ug]
    have he : eqT P 100 T [.int k x1, .int k' x2] [.int k y1, .int k' y2] = some (x1 == y1 && (x2 == y2 && true)) := he' 98
    have rx : ∀ a b : Int, All2 (CRel (⟨fun _ => none, fun _ => undef⟩ : J) [] w (fun _ => False)) [.int k a, .int k' b] [.int k a, .int k' b] := fun a b => All2.cons ⟨rfl, rfl⟩ (All2.cons ⟨rfl, rfl⟩ All2.nil)
    obtain ⟨_, _, hrun⟩ := eqT_sound 100 T _ _ _ he 10000 (by omega) _ _ (rx x1 x2) (rx y1 y2)
    have hv : ∀ a b : Int, ValOf P T [Value.int k a, Value.int k' b] (valOf (.pair (.int k) (.int k')) (a, b)) := fun a b => ⟨_, hu, .inl ⟨rfl, rfl⟩⟩
    have := hrun _ _ (hv x1 x2) (hv y1 y2)
    have e : (x1 == y1 && (x2 == y2 && true)) = Ty.beqD (.pair (.int k) (.int k')) (x1, x2) (y1, y2) := by
      simp only [Ty.beqD, Bool.and_true]
      rfl
    rw [← e]
    exact this

theorem run_findAsking {T : TypeId} {kt vt : Ty} {k k' : IntKind} (e0 : kt = .pair (.int k) (.int k')) (h : KeyT P T kt) (x : kt.den) : ∀ (es : List MapEntry) (m : List (kt.den × vt.den)) (i : Nat), es.map (fun e => (e.key, e.val)) = m.map (fun p => (valOf kt p.1, valOf vt p.2)) →
    (Instr.findAsking T (valOf kt x) es i).run P w = .ok ((mapFind (Ty.beqD kt) x m i).map (fun p => (p.1, valOf vt p.2))) w
  | [], m, i, he => by
    cases m with
    | nil => rfl
    | cons _ _ => cases he
  | e :: es, m, i, he => by
    cases m with
    | nil => cases he
    | cons p m =>
      simp only [List.map_cons, List.cons.injEq, Prod.mk.injEq] at he
      obtain ⟨⟨h1, h2⟩, h3⟩ := he
      have ih := run_findAsking e0 h x es m (i + 1) h3
      simp only [Instr.findAsking, Sem.run_bind, h1, run_equal_key e0 h, mapFind]
      cases hb : Ty.beqD kt x p.1 with
      | true => simp [h2]
      | false => simpa using ih
theorem findNow_one {kt vt : Ty} {d : TypeDesc} (hd : ∀ x y : kt.den, Instr.sameNow d (valOf kt x) (valOf kt y) = some (Ty.beqD kt x y)) (x : kt.den) : ∀ (es : List MapEntry) (m : List (kt.den × vt.den)) (i : Nat), es.map (fun e => (e.key, e.val)) = m.map (fun p => (valOf kt p.1, valOf vt p.2)) →
    Instr.findNow d (valOf kt x) es i = some ((mapFind (Ty.beqD kt) x m i).map (fun p => (p.1, valOf vt p.2)))
  | [], m, i, he => by
    cases m with
    | nil => rfl
    | cons _ _ => cases he
  | e :: es, m, i, he => by
    cases m with
    | nil => cases he
    | cons p m =>
      simp only [List.map_cons, List.cons.injEq, Prod.mk.injEq] at he
      obtain ⟨⟨h1, h2⟩, h3⟩ := he
      have ih := findNow_one hd x es m (i + 1) h3
      simp only [Instr.findNow, h1, hd, mapFind]
      cases hb : Ty.beqD kt x p.1 with
      | true => simp [h2]
      | false => simpa using ih
theorem run_findKey {T : TypeId} {kt vt : Ty} (h : KeyT P T kt) (x : kt.den) (es : List MapEntry) (m : List (kt.den × vt.den)) (he : es.map (fun e => (e.key, e.val)) = m.map (fun p => (valOf kt p.1, valOf vt p.2))) :
    (Instr.findKey T (valOf kt x) es).run P w = .ok ((mapFind (Ty.beqD kt) x m 0).map (fun p => (p.1, valOf vt p.2))) w := by
  unfold Instr.findKey
  rw [Sem.run_bind]
  cases h with
  | int k hu =>
    rw [run_underlying hu w]
    have := findNow_one (kt := .int k) (vt := vt) (d := .int k) (fun x y => by
      simp [Instr.sameNow, valOf, valT, Ty.beqD]
      rfl) x es m 0 he
    simp [Result.andThen, this]
  | bool hu =>
    rw [run_underlying hu w]
    have := findNow_one (kt := .bool) (vt := vt) (d := .bool) (fun x y => by
      simp [Instr.sameNow, valOf, valT, Ty.beqD]
      rfl) x es m 0 he
    simp [Result.andThen, this]
  | two k k' fs f g hu hl hf hg of og sf sg uf ug hs =>
    have hk : KeyT P T (.pair (.int k) (.int k')) := .two k k' fs f g hu hl hf hg of og sf sg uf ug hs
    rw [run_underlying hu w]
    have h2 := run_findAsking (w := w) (vt := vt) rfl hk x es m 0 he
    cases es with
    | nil =>
      cases m with
      | nil => rfl
      | cons _ _ => cases he
    | cons e es =>
      have hn : Instr.findNow (.struct fs) (valOf (.pair (.int k) (.int k')) x) (e :: es) 0 = none := by simp [Instr.findNow, Instr.sameNow]
      simp only [Result.andThen, hn]
      exact h2

theorem sameBits_key {T : TypeId} {kt : Ty} (h : KeyT P T kt) (x : kt.den) : Instr.sameBits 10000 (valOf kt x) (valOf kt x) = true := by
  cases h with
  | int k hu => simp [Instr.sameBits, valOf, valT]
  | bool hu => simp [Instr.sameBits, valOf, valT]
  | two k k' => simp [Instr.sameBits, valOf, valT]

theorem key_rel {N : Nat → Prop} {T : TypeId} {kt : Ty} (h : KeyT P T kt) {kv : V1} {k : kt.den} {H1 : List Blk} {V : Value} (hk : (keyCells kt kv).bind (decAll kt []) = some (k, H1)) (hv : V1Rel j H w N kv V) : V = valOf kt k := by
  rw [Option.bind_eq_some_iff] at hk
  obtain ⟨cs, h1, h2⟩ := hk
  unfold decAll at h2
  split at h2
  · rename_i x H' hd
    cases h2
    have one : ∀ c, kv = .one c → cs = [c] → valT kt k = [V] := by
      rintro c rfl rfl
      rcases hv with rfl | hc
      · exfalso
        cases h <;> simp [dec] at hd
      · obtain ⟨v1, v2, e1, e2, e3⟩ := decAll_plain h.noRo hd (All2.cons hc All2.nil)
        have := e3.nil_left
        subst this
        rw [List.append_nil] at e1
        rw [← e2, ← e1]
    cases h with
    | int q _ =>
      cases kv with
      | one c => simp only [keyCells, Option.some.injEq] at h1; have := one c rfl h1.symm; simp only [valOf, this]; rfl
      | agg _ => simp [keyCells] at h1
    | bool _ =>
      cases kv with
      | one c => simp only [keyCells, Option.some.injEq] at h1; have := one c rfl h1.symm; simp only [valOf, this]; rfl
      | agg _ => simp [keyCells] at h1
    | two q q' =>
      cases kv with
      | one c => simp [keyCells] at h1
      | agg l =>
        simp only [keyCells, Option.some.injEq] at h1
        subst h1
        obtain ⟨vs, rfl, ha⟩ := hv
        obtain ⟨v1, v2, e1, e2, e3⟩ := decAll_plain rfl hd ha
        have := e3.nil_left
        subst this
        rw [List.append_nil] at e1
        simp only [valOf]
        rw [← e2, ← e1]
  · cases h2
theorem elem_rel {N : Nat → Prop} {vt : Ty} (h : (∃ k, vt = .int k) ∨ vt = .bool) (v : vt.den) : V1Rel j H w N (.one ((enc vt v).headD .top)) (valOf vt v) := by
  rcases h with ⟨k, rfl⟩ | rfl
  · exact .inr ⟨rfl, rfl⟩
  · exact .inr ⟨rfl, rfl⟩
theorem elem_dec {N : Nat → Prop} {vt : Ty} (h : (∃ k, vt = .int k) ∨ vt = .bool) {c : Cell} {v : vt.den} {H1 : List Blk} {V : Value} (hd : decAll vt [] [c] = some (v, H1)) (hc : CRel j H w N c V) : V = valOf vt v := by
  unfold decAll at hd
  split at hd
  · rename_i x H' hd'
    cases hd
    obtain ⟨v1, v2, e1, e2, e3⟩ := decAll_plain (by rcases h with ⟨k, rfl⟩ | rfl <;> rfl) hd' (All2.cons hc All2.nil)
    have := e3.nil_left
    subst this
    rw [List.append_nil] at e1
    rcases h with ⟨k, rfl⟩ | rfl
    · simp only [valOf]; rw [← e2, ← e1]; rfl
    · simp only [valOf]; rw [← e2, ← e1]; rfl
  · cases hd
theorem run_zeroElem {T : TypeId} {vt : Ty} {d : vt.den} (hz : elemZ P T vt = some d) : (zeroValue T).run P w = .ok (valOf vt d) w := by
  cases vt <;> simp only [elemZ] at hz <;> (first | (cases hz; done) | skip)
  · rename_i k
    split at hz
    · rename_i k' n h1
      split at hz
      · rename_i hk
        subst hk
        cases hz
        rw [Option.bind_eq_some_iff] at h1
        obtain ⟨i, hi, hz⟩ := h1
        simp [zeroValue, typeInfo, hi, hz, valOf, valT]
      · cases hz
    · cases hz
  · split at hz
    · rename_i b h1
      cases hz
      rw [Option.bind_eq_some_iff] at h1
      obtain ⟨i, hi, hz⟩ := h1
      simp [zeroValue, typeInfo, hi, hz, valOf, valT]
    · cases hz

def putO (w : World) (g : Nat) (o : Obj) : World := { w with heap := w.heap.setIfInBounds g o }
theorem putO_same {w : World} {g : Nat} {o : Obj} (h : g < w.heap.size) : (putO w g o).heap[g]? = some o := by simp [putO, h]
theorem putO_other {w : World} {g k : Nat} {o : Obj} (h : g ≠ k) : (putO w g o).heap[k]? = w.heap[k]? := by simp [putO, Array.getElem?_setIfInBounds, h]
theorem run_setMap {w : World} {g : Nat} {es : Array MapEntry} {clock : Nat} (h : w.heap[g]? = some (.map es clock)) (o : Obj) : (setObj g o).run P w = .ok () (putO w g o) := by
  simp [setObj, Sem.run, h, putO]

theorem makeMap_sound (hI : Inv P c j H w) {o : Oper} {T : TypeId} (ho : o.op = .makeMap T none) (h : opV P o.op env H f = some r) : Out P c j H w f r ((execOp a.eval o).run P w) := by
  rw [ho] at h
  simp only [opV] at h
  split at h
  · split at h
    · split at h
      · have e : (execOp a.eval o).run P w = .ok (.value (.map (some w.heap.size))) (w.alloc (.map #[] 0)) := by
          simp [execOp, ho, Instr.makeMap, newObj, Sem.run]
        rename_i kT eT hu kt vt hk hv hok
        obtain ⟨h1, h2⟩ := hI.push (B := .map kt vt []) (r := some w.heap.size) (v := undef) (w' := w.alloc (.map #[] 0)) (by simp) rfl rfl rfl (fun g hg => RowKit.Below.heap_alloc w _ g hg) (fun g hg => by cases hg; exact Nat.le_refl _)
          (fun m => ⟨w.heap.size, #[], 0, J.at_eq.1, alloc_new, rfl⟩)
        refine .val e h h1 h2 (val_rel ⟨rfl, by simp, fun kt' vt' m hB => ?_⟩)
        exact ⟨_, J.at_eq.1, rfl⟩
      · cases h
    · cases h
  · cases h

theorem lookup_sound (hI : Inv P c j H w) (he : ERel c j H w (NN c j H) env a) {o : Oper} {T : TypeId} {x i : Operand} {ok : Bool} (ho : o.op = .lookup T x i ok) (h : opV P o.op env H f = some r) : Out P c j H w f r ((execOp a.eval o).run P w) := by
  rw [ho] at h
  simp only [opV] at h
  split at h
  · rename_i kT eT b kv hu hx hi
    split at h
    · rename_i kt vt m hb
      split at h
      · rename_i hok
        simp only [Bool.and_eq_true] at hok
        split at h
        · rename_i k H1 d hk hz
          have kT' := keyT_of hok.1
          have eT' : (∃ k, vt = .int k) ∨ vt = .bool := (elemT_of hok.2).imp (fun ⟨k, _, e⟩ => ⟨k, e⟩) (fun h => h.2)
          have rx := evalV_rel he x
          rw [hx] at rx
          obtain ⟨_, _, rx⟩ := rel_one rx (by simp)
          obtain ⟨g, hg, ex⟩ := rx _ _ _ hb
          obtain ⟨g', es, clock, hg', hh, hm⟩ := hI.heap b _ hb
          rw [hg] at hg'; cases hg'
          have ri := evalV_rel he i
          rw [ofAV_eq hi] at ri
          have ei := key_rel kT' hk ri
          have hfind := run_findKey (P := P) (w := w) kT' k es.toList m hm
          have hck := run_checkKey (P := P) (w := w) kT' k (es.isEmpty) 9998
          have hzero := run_zeroElem (P := P) (w := w) hz
          have hget := mapFind_get (Ty.beqD kt) k m 0
          have hobj : (getObj g).run P w = .ok (.map es clock) w := by simp [getObj, Sem.run, hh]
          have run : (Instr.lookup T (a.eval x) (a.eval i) ok).run P w = .ok (if ok then .tuple #[valOf vt ((mapGet (Ty.beqD kt) k m).getD d), .bool (mapGet (Ty.beqD kt) k m).isSome] else valOf vt ((mapGet (Ty.beqD kt) k m).getD d)) w := by
            unfold Instr.lookup
            rw [Sem.run_bind, run_underlying hu w]
            simp only [Result.andThen, ex, ei]
            rw [Sem.run_bind, hobj]
            simp only [Result.andThen, Sem.run_pure, Sem.run_bind]
            rw [hck]
            simp only [hfind]
            rw [← hget]
            cases mapFind (Ty.beqD kt) k m 0 with
            | none => simp [hzero]
            | some p => simp
          have e : (execOp a.eval o).run P w = .ok (.value (if ok then .tuple #[valOf vt ((mapGet (Ty.beqD kt) k m).getD d), .bool (mapGet (Ty.beqD kt) k m).isSome] else valOf vt ((mapGet (Ty.beqD kt) k m).getD d))) w := by
            simp [execOp, ho, run]
          cases ok with
          | true =>
            simp only [if_true] at h e
            exact .pure hI e h ⟨_, rfl, All2.cons (elem_rel eT' _) (All2.cons (.inr ⟨rfl, rfl⟩) All2.nil)⟩
          | false =>
            simp only [Bool.false_eq_true, if_false] at h e
            exact .pure hI e h (elem_rel eT' _)
        · cases h
      · cases h
    · cases h
  · cases h

theorem mapUpdate_sound (hI : Inv P c j H w) (he : ERel c j H w (NN c j H) env a) {o : Oper} {T : TypeId} {x i y : Operand} (ho : o.op = .mapUpdate T x i y) (h : opV P o.op env H f = some r) : Out P c j H w f r ((execOp a.eval o).run P w) := by
  rw [ho] at h
  simp only [opV] at h
  split at h
  · rename_i kT eT b kv v hu hx hi hy
    split at h
    · rename_i kt vt m hb
      split at h
      · rename_i hok
        simp only [Bool.and_eq_true] at hok
        split at h
        · rename_i k H1 d H2 hk hd
          have kT' := keyT_of hok.1
          have eT' : (∃ k, vt = .int k) ∨ vt = .bool := (elemT_of hok.2).imp (fun ⟨k, _, e⟩ => ⟨k, e⟩) (fun h => h.2)
          have rx := evalV_rel he x
          rw [hx] at rx
          obtain ⟨_, _, rx⟩ := rel_one rx (by simp)
          obtain ⟨g, hg, ex⟩ := rx _ _ _ hb
          obtain ⟨g', es, clock, hg', hh, hm⟩ := hI.heap b _ hb
          rw [hg] at hg'; cases hg'
          have ri := evalV_rel he i
          rw [ofAV_eq hi] at ri
          have ei := key_rel kT' hk ri
          have ry := evalV_rel he y
          rw [ofAV_eq hy] at ry
          have hvt : v ≠ .top := by
            rintro rfl
            rcases eT' with ⟨q, rfl⟩ | rfl <;> simp [decAll, dec] at hd
          have ey := elem_dec eT' hd (rel_one ry hvt)
          have hfind := run_findKey (P := P) (w := w) kT' k es.toList m hm
          have hck := run_checkKey (P := P) (w := w) kT' k false 9998
          have hput := mapFind_put (Ty.beqD kt) k d m 0
          have hobj : (getObj g).run P w = .ok (.map es clock) w := by simp [getObj, Sem.run, hh]
          have hglt : g < w.heap.size := (Array.getElem?_eq_some_iff.1 hh).1
          -- what is written
          have key : ∃ es' clock', (Instr.mapUpdate T (a.eval x) (a.eval i) (a.eval y)).run P w = .ok () (putO w g (.map es' clock')) ∧ es'.toList.map (fun e => (e.key, e.val)) = (mapPut (Ty.beqD kt) k d m).map (fun p => (valOf kt p.1, valOf vt p.2)) := by
            have head : (Instr.mapUpdate T (a.eval x) (a.eval i) (a.eval y)).run P w = (match (mapFind (Ty.beqD kt) k m 0).map (fun p => (p.1, valOf vt p.2)) with
                | some (q, _) => do
                  let key ← Instr.keyThatStays (((es[q]?).map (·.key)).getD (valOf kt k)) (valOf kt k)
                  setObj g (.map (es.modify q fun e => { e with key, val := a.eval y }) clock)
                | none => setObj g (.map (es.push { key := valOf kt k, val := a.eval y, born := clock }) (clock + 1)) : Sem Unit).run P w := by
              unfold Instr.mapUpdate
              rw [Sem.run_bind, run_underlying hu w]
              simp only [Result.andThen, ex, ei]
              rw [Sem.run_bind, hobj]
              simp only [Result.andThen]
              rw [Sem.run_bind, hck]
              simp only [Result.andThen]
              rw [Sem.run_bind, hfind]
              rfl
            cases hq : mapFind (Ty.beqD kt) k m 0 with
            | none =>
              rw [hq] at head hput
              refine ⟨_, _, head.trans (run_setMap hh _), ?_⟩
              rw [hput, Array.toList_push, List.map_append, List.map_append, hm]
              simp [ey]
            | some p =>
              rw [hq] at head hput
              obtain ⟨q, pv⟩ := p
              obtain ⟨n, p', e1, e2, e3, e4⟩ := hput
              have e1' : q = n := by omega
              subst e1'
              have hp := beqD_eq kT' e3
              have hes : ∃ en, es[q]? = some en ∧ en.key = valOf kt k := by
                have := congrArg (fun l => l[q]?) hm
                simp only [List.getElem?_map, e2, Option.map_some, Array.getElem?_toList] at this
                rw [Option.map_eq_some_iff] at this
                obtain ⟨en, h1, h2⟩ := this
                simp only [Prod.mk.injEq] at h2
                exact ⟨en, h1, by rw [h2.1, ← hp]⟩
              obtain ⟨en, h1, h2⟩ := hes
              have hks : (Instr.keyThatStays (((es[q]?).map (·.key)).getD (valOf kt k)) (valOf kt k)).run P w = .ok (valOf kt k) w := by
                rw [h1]
                simp only [Option.map_some, Option.getD_some, h2, Instr.keyThatStays, sameBits_key kT', if_true]
                rfl
              refine ⟨_, _, head.trans (by
                simp only [Option.map_some]
                rw [Sem.run_bind, hks]
                simp only [Result.andThen]
                exact run_setMap hh _), ?_⟩
              rw [e4, List.map_set, ← hm]
              refine List.ext_getElem? fun s => ?_
              rw [List.getElem?_map, Array.getElem?_toList, Array.getElem?_modify, List.getElem?_set]
              by_cases hs : q = s
              · subst hs
                have hlt : q < es.size := (Array.getElem?_eq_some_iff.1 h1).1
                simp [h1, ey, hlt]
              · simp [hs]
          obtain ⟨es', clock', hrun, hm'⟩ := key
          obtain ⟨r1, r2⟩ := hI.upd (B' := .map kt vt (mapPut (Ty.beqD kt) k d m)) (w' := putO w g (.map es' clock')) hb trivial ⟨rfl, rfl⟩ trivial hg (by simp [putO]) rfl rfl rfl (fun k hk => putO_other (fun e => hk e.symm))
            (fun T1 cells hc => by obtain ⟨_, fz, hc, _⟩ := hc; rw [hh] at hc; cases hc) (fun mm => ⟨g, es', clock', hg, putO_same hglt, hm'⟩)
          refine ⟨undef, _, .inr ⟨?_, rfl⟩, AV.top, _, j, h, r1, r2, .inl rfl⟩
          simp [execOp, ho, Sem.run_bind, hrun]
        · cases h
      · cases h
    · cases h
  · cases h
end
end Go.Proofs.YtcdnofemnpafhaaM

/- Values and rows that are made out of parts; cuts. Conditions: none. -/
namespace Go.Proofs.YtcdnofemnpafhaaM
set_option linter.unusedVariables false
set_option linter.unusedSimpArgs false
set_option linter.unnecessarySimpa false
set_option linter.unusedSectionVars false
open Go

theorem setFold (off : Nat) : ∀ (vs : List Value) (s : Nat) (cells : Array Value), off + s + vs.length ≤ cells.size →
    ((vs.zipIdx s).foldl (fun (cs : Array Value) (p : Value × Nat) => cs.setIfInBounds (off + p.2) p.1) cells).toList = spliceL cells.toList (off + s) vs
  | [], s, cells, _ => by simp [spliceL]
  | v :: vs, s, cells, h => by
    simp only [List.length_cons] at h
    rw [List.zipIdx_cons, List.foldl_cons, setFold off vs (s + 1) _ (by simp; omega)]
    apply List.ext_getElem?
    intro p
    rw [spliceL_get _ _ _ _ (by simp; omega), spliceL_get _ _ _ _ (by simp; omega), Array.toList_setIfInBounds, List.getElem?_set]
    simp only [List.length_cons]
    by_cases h6 : p < off + s
    · rw [if_pos (by omega), if_neg (by omega), if_pos h6]
    · by_cases h7 : p = off + s
      · subst h7
        rw [if_pos (by omega), if_pos rfl, if_pos (by simp; omega), if_neg (by omega), if_pos (by omega), Nat.sub_self]
        rfl
      · rw [if_neg (by omega : ¬ p < off + s)]
        by_cases h8 : p < off + s + 1 + vs.length
        · rw [if_neg (by omega), if_pos (by omega), if_pos (by omega)]
          rw [show p - (off + s) = (p - (off + (s + 1))) + 1 by omega, List.getElem?_cons_succ]
        · rw [if_neg (by omega), if_neg (by omega), if_neg (by omega), if_neg (by omega)]

section
variable {P : Program} {c : Cx} {j : J} {H : List Blk} {w : World} {R : Type} {f : AV → List Blk → Option R} {r : R} {env : List AV} {a : Act}

theorem fill_rel {N : Nat → Prop} {pl : Nat → Option (Nat × Nat)} : ∀ {ps : List (Nat × List Cell)} {qs : List (Nat × Value)} {z cs : List Cell} {zc : Array Value}, fillL pl z ps = some cs → All2 (CRel j H w N) z zc.toList →
    All2 (fun p q => p.1 = q.1 ∧ All2 (CRel j H w N) p.2 q.2.cells.toList) ps qs → ∃ cells, Instr.fill pl zc qs = some cells ∧ All2 (CRel j H w N) cs cells.toList
  | [], qs, z, cs, zc, h, hz, hp => by
    obtain rfl := hp.nil_left
    simp only [fillL, Option.some.injEq] at h
    subst h
    exact ⟨zc, rfl, hz⟩
  | (i, v) :: ps, qs, z, cs, zc, h, hz, hp => by
    obtain ⟨⟨i', V⟩, qs', rfl, ⟨rfl, hv⟩, hp'⟩ := hp.cons_left
    simp only [fillL] at h
    simp only [Instr.fill]
    split at h
    · cases h
    · rename_i off size hpl
      split at h
      · rename_i h1
        split at h
        · rename_i h2
          have e1 : V.cells.size = size := by have := hv.1; simp at this; omega
          have e2 : zc.size = z.length := by have := hz.1; simp at this; omega
          simp only [hpl]
          have e3 : ¬ ((decide (V.cells.size ≠ size) || decide (off + V.cells.size > zc.size)) = true) := by simp; omega
          rw [if_neg e3]
          have e4 : V.cells.size = v.length := by have := hv.1; simp at this; omega
          refine fill_rel h ?_ hp'
          have := setFold off V.cells.toList 0 zc (by simp; omega)
          rw [← Array.foldl_toList, Array.toList_zipIdx]
          rw [show (List.foldl (fun cs x => match x with | (c, j) => cs.setIfInBounds (off + j) c) zc V.cells.toList.zipIdx).toList = spliceL zc.toList (off + 0) V.cells.toList from this]
          exact hz.splice hv _
        · cases h
      · cases h

theorem partsOf_rel {N : Nat → Prop} (he : ERel c j H w N env a) : ∀ {l : List (Nat × Operand)} {ps : List (Nat × List Cell)}, partsOf env l = some ps →
    All2 (fun p q => p.1 = q.1 ∧ All2 (CRel j H w N) p.2 q.2.cells.toList) ps (l.map fun (i, x) => (i, a.eval x))
  | [], ps, h => by simp [partsOf] at h; subst h; exact All2.nil
  | (i, x) :: l, ps, h => by
    simp only [partsOf] at h
    split at h
    · rename_i v l' hv hl
      cases h
      rw [Option.bind_eq_some_iff] at hv
      obtain ⟨v1, h1, h2⟩ := hv
      have hx := evalV_rel he x
      rw [ofAV_eq h1] at hx
      exact All2.cons ⟨rfl, cells?_rel hx h2⟩ (partsOf_rel he hl)
    · cases h

theorem run_mapM_places (w : World) : ∀ (l : List Field), (∀ fd ∈ l, ∃ n, infoSz P fd.type = some n) → (l.mapM (fun fd => (Prod.mk fd.offset <$> sizeOf fd.type : Sem (Nat × Nat)))).run P w = .ok (l.map fun fd => (fd.offset, P.cellsOf fd.type)) w
  | [], _ => by simp
  | fd :: l, h => by
    obtain ⟨n, hn⟩ := h fd (by simp)
    obtain ⟨i, hi, hs⟩ := infoSz_some hn
    have ih := run_mapM_places w l (fun x hx => h x (List.mem_cons_of_mem _ hx))
    rw [List.mapM_cons]
    simp [Sem.run_bind, run_sizeOf w hi, ih, Program.cellsOf, hi]

theorem placesOf_some {T : TypeId} {pl : Nat → Option (Nat × Nat)} (h : placesOf P T = some pl) (hz : ∃ i, P.info? T = some i) : True := trivial

theorem build_sound (hI : Inv P c j H w) (he : ERel c j H w (NN c j H) env a) {o : Oper} {T : TypeId} {parts : Array (Nat × Operand)} (ho : o.op = .build T parts) (h : opV P o.op env H f = some r) : Out P c j H w f r ((execOp a.eval o).run P w) := by
  rw [ho] at h
  simp only [opV] at h
  split at h
  · rename_i z pl ps hz hpl hps
    split at h
    · rename_i cs hcs
      obtain ⟨i, zv, hi, hzv, hzr⟩ := zero_rel (j := j) (H := H) (w := w) hz (NN c j H)
      have hp := partsOf_rel he hps
      unfold placesOf at hpl
      split at hpl
      · rename_i fs hu
        split at hpl
        · rename_i hall
          cases hpl
          have hsz : ∀ fd ∈ fs.toList, ∃ n, infoSz P fd.type = some n := fun fd hfd => by
            have := List.all_eq_true.1 hall fd hfd
            exact Option.isSome_iff_exists.1 this
          have hm := run_mapM_places (P := P) w fs.toList hsz
          have hpl : (fun (i : Nat) => (fs[i]?).bind fun (fd : Field) => (infoSz P fd.type).map fun n => (fd.offset, n)) = fun (i : Nat) => Option.map (fun (fd : Field) => (fd.offset, P.cellsOf fd.type)) fs[i]? := by
            funext i
            cases hq : fs[i]? with
            | none => rfl
            | some fd =>
              obtain ⟨n, hn⟩ := hsz fd (by rw [← Array.getElem?_toList] at hq; exact List.mem_of_getElem? hq)
              obtain ⟨i', h1, h2⟩ := infoSz_some hn
              simp [Program.cellsOf, infoSz, h1, h2]
          rw [hpl] at hcs
          obtain ⟨cells, hf1, hr1⟩ := fill_rel hcs hzr hp
          refine .pure (V := .agg cells) hI ?_ h ⟨cells, rfl, hr1⟩
          have hmA : (fs.mapM (fun fd => (Prod.mk fd.offset <$> sizeOf fd.type : Sem (Nat × Nat)))).run P w = .ok (fs.toList.map fun fd => (fd.offset, P.cellsOf fd.type)).toArray w := by
            rw [Array.mapM_eq_mapM_toList]
            simp [hm]
          simp only [execOp, ho, Instr.build]
          have hf2 : Instr.fill (fun (x : Nat) => Option.map (fun (fd : Field) => (fd.offset, P.cellsOf fd.type)) fs[x]?) zv.cells (List.map (fun x => (x.fst, a.eval x.snd)) parts.toList) = some cells := hf1
          simp [zeroValue, typeInfo, hi, hzv, run_underlying hu, hmA, hf2]
        · cases hpl
      · rename_i n e hu
        rw [Option.map_eq_some_iff] at hpl
        obtain ⟨s, hs, rfl⟩ := hpl
        obtain ⟨ie, hie, hse⟩ := infoSz_some hs
        obtain ⟨cells, hf1, hr1⟩ := fill_rel hcs hzr hp
        refine .pure (V := .agg cells) hI ?_ h ⟨cells, rfl, hr1⟩
        simp only [execOp, ho, Instr.build]
        have hf2 : Instr.fill (fun (i : Nat) => some (i * s, s)) zv.cells (List.map (fun x => (x.fst, a.eval x.snd)) parts.toList) = some cells := hf1
        have hc : P.cellsOf e = s := by simp [Program.cellsOf, hie, hse]
        rw [← hc] at hf2
        simp [zeroValue, typeInfo, hi, hzv, run_underlying hu, run_sizeOf w hie, hf2]
      · cases hpl
    · cases h
  · cases h
end
end Go.Proofs.YtcdnofemnpafhaaM

/- Rows that are made; cuts; append. Conditions: none. -/
namespace Go.Proofs.YtcdnofemnpafhaaM
set_option linter.unusedVariables false
set_option linter.unusedSimpArgs false
set_option linter.unnecessarySimpa false
set_option linter.unusedSectionVars false
open Go

theorem flat_get {α : Type} {l : List α} {s : Nat} (hl : l.length = s) : ∀ (n i p : Nat), i < n → p < s → ((List.replicate n l).flatten)[i * s + p]? = l[p]?
  | 0, i, p, h, _ => by omega
  | n + 1, i, p, h, hp => by
    rw [List.replicate_succ, List.flatten_cons]
    cases i with
    | zero => rw [Nat.zero_mul, Nat.zero_add, List.getElem?_append_left (by omega)]
    | succ i =>
      rw [List.getElem?_append_right (by rw [Nat.succ_mul]; omega)]
      have e : (i + 1) * s + p - l.length = i * s + p := by rw [Nat.succ_mul]; omega
      rw [e]
      exact flat_get hl n i p (by omega) hp
theorem flat_len {α : Type} {l : List α} {s : Nat} (hl : l.length = s) (n : Nat) : ((List.replicate n l).flatten).length = n * s := by
  induction n with
  | zero => simp
  | succ n ih => rw [List.replicate_succ, List.flatten_cons, List.length_append, ih, hl, Nat.succ_mul]; omega

theorem made_get {zc : Array Value} {s n : Nat} (hs : zc.size = s) {i p : Nat} (hi : i < n) (hp : p < s) : (madeCells zc (n * s))[i * s + p]? = zc[p]? := by
  have hlt : i * s + p < n * s := by
    have : i * s + s ≤ n * s := by rw [← Nat.succ_mul]; exact Nat.mul_le_mul_right _ (by omega)
    omega
  unfold madeCells
  rw [Array.getElem?_map, Array.getElem?_range, if_pos hlt, Option.map_some]
  have e : (i * s + p) % zc.size = p := by rw [hs, Nat.mul_comm, Nat.mul_add_mod, Nat.mod_eq_of_lt hp]
  rw [e]
  have hp' : p < zc.size := by omega
  rw [getElem!_pos zc p hp', Array.getElem?_eq_getElem hp']
theorem made_flat {zc : Array Value} {s n : Nat} (hs : zc.size = s) (h0 : 0 < s) : (madeCells zc (n * s)).toList = (List.replicate n zc.toList).flatten := by
  apply List.ext_getElem?
  intro q
  by_cases hq : q < n * s
  · have h1 : q = q / s * s + q % s := by rw [Nat.mul_comm]; exact (Nat.div_add_mod q s).symm
    have h2 : q / s < n := Nat.div_lt_of_lt_mul (by rw [Nat.mul_comm]; exact hq)
    have h3 : q % s < s := Nat.mod_lt _ h0
    rw [h1, Array.getElem?_toList, made_get hs h2 h3, flat_get (by simpa using hs) n _ _ h2 h3, Array.getElem?_toList]
  · rw [List.getElem?_eq_none (by simp [madeCells]; omega), List.getElem?_eq_none (by rw [flat_len (s := s) (by simpa using hs)]; omega)]

section
variable {P : Program} {c : Cx} {j : J} {H : List Blk} {w : World} {R : Type} {f : AV → List Blk → Option R} {r : R} {env : List AV} {a : Act}

theorem all2_flat {α β : Type} {Q : α → β → Prop} {l : List α} {m : List β} (h : All2 Q l m) (n : Nat) : All2 Q (List.replicate n l).flatten (List.replicate n m).flatten := by
  induction n with
  | zero => exact All2.nil
  | succ n ih => rw [List.replicate_succ, List.replicate_succ, List.flatten_cons, List.flatten_cons]; exact h.append ih

theorem decRow_sound {t : Ty} : ∀ (n : Nat) {H : List Blk} (_ : Inv P c j H w) {cs : List Cell} {vs : List Value} {l : List t.den} {H1 : List Blk}, decRow t n H cs = some (l, H1) → All2 (CRel j H w (NN c j H)) cs vs →
    Inv P c j H1 w ∧ Mov j H w (NN c j H) j H1 w (NN c j H1) ∧ l.length = n ∧ vs.length = n * t.sz ∧ ∀ (i : Nat) (x : t.den), l[i]? = some x → ∃ d, RoC w (NN c j H1) t x d ∧ ∀ (q : Nat) (u : Value), d[q]? = some u → vs[i * t.sz + q]? = some u
  | 0, H, hI, cs, vs, l, H1, h, ha => by
    cases cs with
    | nil =>
      simp only [decRow, Option.some.injEq, Prod.mk.injEq] at h
      obtain ⟨rfl, rfl⟩ := h
      obtain rfl := ha.nil_left
      exact ⟨hI, Mov.refl _ _ _ _, rfl, by simp, fun i x hx => by simp at hx⟩
    | cons _ _ => simp [decRow] at h
  | n + 1, H, hI, cs, vs, l, H1, h, ha => by
    simp only [decRow] at h
    split at h
    · rename_i x r1 H2 hd
      split at h
      · rename_i l2 H3 hr
        simp only [Option.some.injEq, Prod.mk.injEq] at h
        obtain ⟨rfl, rfl⟩ := h
        obtain ⟨v1, v2, rfl, hI1, m1, hro, ha1⟩ := dec_sound t hI hd ha
        obtain ⟨hI2, m2, h1, h2, h3⟩ := decRow_sound n hI1 hr ha1
        have hl1 := hro.len
        refine ⟨hI2, m1.trans m2, by simp [h1], by simp [hl1, h2, Nat.succ_mul]; omega, fun i y hy => ?_⟩
        cases i with
        | zero =>
          simp at hy
          subst hy
          refine ⟨v1, RoC.mov m2.ro m2.size hro, fun q u hu => ?_⟩
          rw [Nat.zero_mul, Nat.zero_add, List.getElem?_append_left (get_lt hu)]
          exact hu
        | succ i =>
          obtain ⟨d, hd1, hd2⟩ := h3 i y (by simpa using hy)
          refine ⟨d, hd1, fun q u hu => ?_⟩
          rw [List.getElem?_append_right (by rw [Nat.succ_mul]; omega), hl1, show (i + 1) * t.sz + q - t.sz = i * t.sz + q by rw [Nat.succ_mul]; omega]
          exact hd2 q u hu
      · cases h
    · cases h

theorem tyOfT_sz {T : TypeId} {t : Ty} (h : tyOfT P T = some t) : infoSz P T = some t.sz := by
  unfold tyOfT at h
  split at h
  · rename_i t' n _ hn
    split at h
    · rename_i hs
      cases h
      rw [hn, hs]
    · cases h
  · cases h

theorem row_push (hI : Inv P c j H w) {e : TypeId} {t : Ty} {l : List t.den} {cells : Array Value} {cap : Nat} (hz : 0 < t.sz) (hs : cells.size = cap * t.sz) (hlc : l.length ≤ cap) (hcm : cap ≤ maxLen)
    (hq : ∀ (i : Nat) (x : t.den), l[i]? = some x → ∃ d, RoC w (NN c j H) t x d ∧ ∀ (q : Nat) (u : Value), d[q]? = some u → cells[i * t.sz + q]? = some u) (hf : f (cellV (.full H.length)) (H ++ [.row e t l]) = some r) :
    Out P c j H w f r (.ok (.value (.slice (some ⟨w.heap.size, 0, none⟩) l.length cap)) (w.alloc (.cells cells e))) := by
  obtain ⟨h1, h2⟩ := hI.push (B := .row e t l) (r := some w.heap.size) (v := undef) (w' := w.alloc (.cells cells e)) (by simp) rfl rfl rfl (fun g hg => RowKit.Below.heap_alloc w _ g hg) (fun g hg => by cases hg; exact Nat.le_refl _)
    (fun m => .inr ⟨w.heap.size, cap, cells, J.at_eq.1, Cls.mk0 alloc_new, hs, hz, hlc, hcm, fun i x hx => by
      obtain ⟨d, h1, h2⟩ := hq i x hx
      exact ⟨d, RoC.mov m.ro m.size h1, h2⟩⟩)
  refine .val rfl hf h1 h2 (val_rel ⟨rfl, by simp, fun T' t' l' hb => ?_⟩)
  rw [List.getElem?_append_right (Nat.le_refl _)] at hb
  simp at hb
  obtain ⟨rfl, rfl, hb⟩ := hb
  cases hb
  exact .inr ⟨_, cap, J.at_eq.1, rfl, cells, Cls.mk0 alloc_new, hs⟩

theorem makeSlice_sound (hI : Inv P c j H w) (he : ERel c j H w (NN c j H) env a) {o : Oper} {T : TypeId} {x y : Operand} (ho : o.op = .makeSlice T x y) (h : opV P o.op env H f = some r) : Out P c j H w f r ((execOp a.eval o).run P w) := by
  rw [ho] at h
  simp only [opV] at h
  have hx := evalV_rel he x
  have hy := evalV_rel he y
  split at h
  · rename_i e n m hu hn hm
    rw [hn] at hx; rw [hm] at hy
    split at h
    · rename_i t z i ht hz hi
      split at h
      · rename_i d H1 hd
        split at h
        case isFalse => cases h
        rename_i hst
        split at h
        · rename_i hb
          obtain ⟨b1, b2, b3⟩ := hb
          obtain ⟨b5, b6⟩ := hst
          have b4 : m ≤ 9223372036854775807 := by
            have h6 : (1 : Int) ≤ (i.bytes : Int) := by omega
            have := Int.mul_le_mul_of_nonneg_right h6 (show 0 ≤ m by omega)
            omega
          obtain ⟨i', zv, hi', hzv, hzr⟩ := zero_rel (j := j) (H := H) (w := w) hz (NN c j H)
          rw [hi] at hi'; cases hi'
          obtain ⟨hI1, m1, hro, _⟩ := decAll_sound hI hd hzr
          have hsz := tyOfT_sz ht
          have hsz' : i.size = t.sz := by simpa [infoSz, hi] using hsz
          have hzc : zv.cells.size = t.sz := by have := hro.len; simpa using this
          have hrun := run_make w T e i zv hu hi hzv .i64 .i64 n m b1 b2 b3 b4
          rw [hsz'] at hrun
          have e0 : (execOp a.eval o).run P w = .ok (.value (.slice (some ⟨w.heap.size, 0, none⟩) n.toNat m.toNat)) (w.alloc (.cells (madeCells zv.cells (m.toNat * t.sz)) e)) := by
            simp [execOp, ho, rel_int hx, rel_int hy, hrun]
          have := row_push (e := e) (t := t) (l := List.replicate n.toNat d) (cells := madeCells zv.cells (m.toNat * t.sz)) (cap := m.toNat) (f := f) (r := r) hI1 b5 (by simp [madeCells]) (by simp; omega) (by unfold maxLen; omega)
            (fun q x hx => by
              rw [List.getElem?_replicate] at hx
              split at hx
              · cases hx
                refine ⟨_, hro, fun p u hu => ?_⟩
                have hp : p < t.sz := by rw [← hro.len]; exact get_lt hu
                rw [made_get hzc (by omega) hp, ← Array.getElem?_toList]
                exact hu
              · cases hx) h
          rw [List.length_replicate] at this
          obtain ⟨V, w', h1, av, H', j', h2, h3, h4, h5⟩ := this
          exact ⟨V, w', by rw [e0]; exact h1, av, H', j', h2, h3, m1.trans h4, h5⟩
        · cases h
      · cases h
    · cases h
  · cases h

theorem buildSlice_sound (hI : Inv P c j H w) (he : ERel c j H w (NN c j H) env a) {o : Oper} {T : TypeId} {n : Nat} {parts : Array (Nat × Operand)} (ho : o.op = .buildSlice T n parts) (h : opV P o.op env H f = some r) : Out P c j H w f r ((execOp a.eval o).run P w) := by
  rw [ho] at h
  simp only [opV] at h
  split at h
  · rename_i e hu
    split at h
    · rename_i t z ps ht hz hps
      split at h
      · rename_i hb
        split at h
        · rename_i cs hcs
          split at h
          · rename_i l H1 hd
            obtain ⟨i, zv, hi, hzv, hzr⟩ := zero_rel (j := j) (H := H) (w := w) hz (NN c j H)
            have hp := partsOf_rel he hps
            have hsz := tyOfT_sz ht
            have hsz' : i.size = t.sz := by simpa [infoSz, hi] using hsz
            obtain ⟨b1, b2, b3⟩ := hb
            have hzc : zv.cells.size = t.sz := by have := hzr.1; simp at this; omega
            have hbase : All2 (CRel j H w (NN c j H)) (List.replicate n z).flatten (madeCells zv.cells (n * t.sz)).toList := by
              rw [made_flat hzc b2]
              exact all2_flat hzr n
            obtain ⟨cells, hf1, hr1⟩ := fill_rel hcs hbase hp
            obtain ⟨hI1, m1, h1, h2, h3⟩ := decRow_sound n hI hd hr1
            have hc : P.cellsOf e = t.sz := by simp [Program.cellsOf, hi, hsz']
            have hcs' : cells.size = n * t.sz := by simpa using h2
            have hn : n ≤ maxLen := by
              have : n * 1 ≤ n * t.sz := Nat.mul_le_mul_left _ b2
              unfold maxLen; omega
            have hf2 : Instr.fill (fun (i : Nat) => some (i * P.cellsOf e, P.cellsOf e)) ((Array.range (n * P.cellsOf e)).map (zv.cells[· % zv.cells.size]!)) (List.map (fun x => (x.fst, a.eval x.snd)) parts.toList) = some cells := by rw [hc]; exact hf1
            have e0 : (execOp a.eval o).run P w = .ok (.value (.slice (some ⟨w.heap.size, 0, none⟩) n n)) (w.alloc (.cells cells e)) := by
              have hlim : ¬ (n * P.cellsOf e > 16777216) := by rw [hc]; omega
              by_cases hn0 : n * P.cellsOf e = 0
              · have hf3 := hf2
                rw [hn0] at hf3
                simp only [Array.range_zero', Array.map_empty] at hf3
                simp [execOp, ho, Instr.buildSlice, run_underlying hu, run_sizeOf w hi, hn0, Array.range_zero', hf3, newRow]
              · simp [execOp, ho, Instr.buildSlice, run_underlying hu, run_sizeOf w hi, hlim, hn0, zeroValue, typeInfo, hi, hzv, hf2, newRow]
            have := row_push (e := e) (t := t) (l := l) (cells := cells) (cap := n) (f := f) (r := r) hI1 b2 hcs' (by omega) hn (fun i x hx => by
              obtain ⟨d, d1, d2⟩ := h3 i x hx
              exact ⟨d, d1, fun q u hu => by rw [← Array.getElem?_toList]; exact d2 q u hu⟩) h
            rw [h1] at this
            obtain ⟨V, w', k1, av, H', j', k2, k3, k4, k5⟩ := this
            exact ⟨V, w', by rw [e0]; exact k1, av, H', j', k2, k3, m1.trans k4, k5⟩
          · cases h
        · cases h
      · cases h
    · rename_i z ps ht hz hps
      split at h
      · rename_i hb
        obtain ⟨b1, b2, b3, hsz⟩ := hb
        split at h
        · rename_i cs hcs
          split at h
          · rename_i hcl
            obtain ⟨i, zv, hi, hzv, hzr⟩ := zero_rel (j := j) (H := H) (w := w) hz (NN c j H)
            have hp := partsOf_rel he hps
            have hsz' : i.size = 1 := by simpa [infoSz, hi] using hsz
            have hzc : zv.cells.size = 1 := by have := hzr.1; simp at this; omega
            have hbase : All2 (CRel j H w (NN c j H)) (List.replicate n z).flatten (madeCells zv.cells (n * 1)).toList := by
              rw [made_flat hzc (by omega)]
              exact all2_flat hzr n
            obtain ⟨cells, hf1, hr1⟩ := fill_rel hcs hbase hp
            have hc : P.cellsOf e = 1 := by simp [Program.cellsOf, hi, hsz']
            have hcs' : cells.size = n := by have := hr1.1; simp at this; omega
            have hf2 : Instr.fill (fun (i : Nat) => some (i * P.cellsOf e, P.cellsOf e)) ((Array.range (n * P.cellsOf e)).map (zv.cells[· % zv.cells.size]!)) (List.map (fun x => (x.fst, a.eval x.snd)) parts.toList) = some cells := by rw [hc]; exact hf1
            have e0 : (execOp a.eval o).run P w = .ok (.value (.slice (some ⟨w.heap.size, 0, none⟩) n n)) (w.alloc (.cells cells e)) := by
              have hlim : ¬ (n * P.cellsOf e > 16777216) := by rw [hc]; omega
              have hn0 : ¬ n * P.cellsOf e = 0 := by rw [hc]; omega
              simp [execOp, ho, Instr.buildSlice, run_underlying hu, run_sizeOf w hi, hlim, hn0, zeroValue, typeInfo, hi, hzv, hf2, newRow]
            rw [e0]
            have hu2 := hI.push (B := .var e cs) (r := some w.heap.size) (v := undef) (w' := w.alloc (.cells cells e)) (by simp) rfl rfl rfl (fun g hg => RowKit.Below.heap_alloc w _ g hg) (fun g hg => by cases hg; exact Nat.le_refl _) (fun m => ⟨w.heap.size, cells, J.at_eq.1, alloc_new, hr1.imp fun _ _ => CRel.mov m⟩)
            refine Out.val (av := cellV (.vsl H.length n)) rfl h hu2.1 hu2.2 (.inr ⟨rfl, by simp, fun T' cs' hb => ?_⟩)
            rw [List.getElem?_append_right (Nat.le_refl _), Nat.sub_self] at hb
            cases hb
            exact ⟨hcl.symm, w.heap.size, J.at_eq.1, rfl⟩
          · cases h
        · cases h
      · cases h
    · cases h
  · cases h
end
end Go.Proofs.YtcdnofemnpafhaaM
