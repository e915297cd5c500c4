/- Cuts, lengths, append, min, max. Conditions: none. -/
import Derived.Test.YtcdnofemnpafhaaM3
import Derived.Deep.Upon
namespace Go.Proofs.YtcdnofemnpafhaaM
set_option linter.unusedVariables false
set_option linter.unusedSimpArgs false
set_option linter.unnecessarySimpa false
set_option linter.unusedSectionVars false
open Go

section
variable {P : Program} {c : Cx} {j : J} {H : List Blk} {w : World} {R : Type} {f : AV → List Blk → Option R} {r : R} {env : List AV} {a : Act}

theorem lenC_rel (hI : Inv P c j H w) {x : Cell} {v : Value} {n : Int} (h : lenC H x = some n) (hx : CRel j H w (NN c j H) x v) :
    (∃ s, x = .str s ∧ v = .string s ∧ n = s.size) ∨ (∃ A l cap, v = .slice A l cap ∧ n = l ∧ l ≤ cap ∧ (∀ s, x ≠ .str s)) := by
  obtain ⟨_, hx⟩ := hx
  cases x <;> simp only [lenC] at h <;> (first | (cases h; done) | skip)
  case str s => cases h; exact .inl ⟨s, rfl, hx, rfl⟩
  case ro t l =>
    cases h
    obtain ⟨A, cap, hv, hl, _⟩ := hx
    simp only [List.cons.injEq, and_true] at hv
    exact .inr ⟨A, l.length, cap, hv, rfl, hl, by simp⟩
  case nils => cases h; exact .inr ⟨none, 0, 0, hx, rfl, Nat.le_refl _, by simp⟩
  case full b =>
    split at h
    · rename_i T t l hb
      cases h
      rcases hx.2 _ _ _ hb with ⟨hj, hv⟩ | ⟨g, cap, hj, hv, cells, hh, hs⟩
      · rcases hI.heap b _ hb with ⟨_, rfl⟩ | ⟨g, _, _, hg, _⟩
        · exact .inr ⟨none, 0, 0, hv, rfl, Nat.le_refl _, by simp⟩
        · rw [hj] at hg; cases hg
      · rcases hI.heap b _ hb with ⟨hj', _⟩ | ⟨g', cap', cells', hg, hh', hs', hz, hlc, _⟩
        · rw [hj] at hj'; cases hj'
        · rw [hj] at hg; cases hg
          obtain rfl := hh.inj hh'
          rw [hs] at hs'
          have := Nat.eq_of_mul_eq_mul_right hz hs'
          exact .inr ⟨_, l.length, cap, hv, rfl, by omega, by simp⟩
    · cases h
  case vsl b n' =>
    split at h
    · rename_i T cs hb
      cases h
      obtain ⟨_, g, _, hv⟩ := hx.2 _ _ hb
      exact .inr ⟨_, _, _, hv, rfl, Nat.le_refl _, by simp⟩
    · cases h
  case ofull b =>
    split at h
    · rename_i T t l hb
      cases h
      rcases hI.heap b _ hb with ⟨_, _, _, h4⟩
      rcases hx.2 _ _ _ hb with ⟨hj, hv⟩ | ⟨g, hj, hv⟩
      · rcases h4 with ⟨_, rfl⟩ | ⟨g, _, hg, _⟩
        · exact .inr ⟨none, 0, 0, hv, rfl, Nat.le_refl _, by simp⟩
        · rw [hj] at hg; cases hg
      · rcases h4 with ⟨hg, _⟩ | ⟨g', cells, hg, _, _, hlc, _⟩
        · rw [hj] at hg; cases hg
        · exact .inr ⟨_, l.length, _, hv, rfl, hlc, by simp⟩
    · cases h
  case oin b i n' =>
    split at h
    · rename_i T t l hb
      cases h
      obtain ⟨A, cap, hv, hn, _⟩ := hx.2 _ _ _ hb
      exact .inr ⟨A, n', cap, hv, rfl, hn, by simp⟩
    · cases h
  case part b o n' =>
    split at h
    · rename_i T t l hb
      cases h
      obtain ⟨_, A, cap, hv, hn, _⟩ := hx.2 _ _ _ hb
      exact .inr ⟨A, n', cap, hv, rfl, hn, by simp⟩
    · cases h

theorem slice_run {T e : TypeId} (hu : P.underlying T = some (.slice e)) {sz : Nat} (hs : infoSz P e = some sz) {A : Option Addr} {len cap : Nat} {lo hi : Option Value} {l h : Int}
    (hlo : ∀ v, lo = some v → ∃ k, v = .int k l) (hlo' : lo = none → l = 0) (hhi : ∀ v, hi = some v → ∃ k, v = .int k h) (hhi' : hi = none → h = len) (h0 : 0 ≤ l) (h1 : l ≤ h) (h2 : h ≤ len) (h3 : len ≤ cap) :
    (Instr.sliceAt T (.slice A len cap) lo hi none).run P w = .ok (.slice (if cap = l.toNat then A else A.map (·.add (l.toNat * sz))) (h - l).toNat (cap - l.toNat)) w := by
  obtain ⟨i, hi', hsz⟩ := infoSz_some hs
  have bound : ∀ (k : IntKind) (i : Int) (y : Nat) (code : BoundsCode), 0 ≤ i → i ≤ y → (Instr.sliceBound (.int k i) y code).run P w = .ok i.toNat w := fun k i y code a b => run_sliceBound w k i y code a b
  have hc : (h.toNat : Int) = h := by omega
  have eh : h.toNat - l.toNat = (h - l).toNat := by omega
  cases lo with
  | none =>
    have := hlo' rfl
    subst this
    cases hi with
    | none =>
      have := hhi' rfl
      subst this
      simp [Instr.sliceAt, Instr.slice, Instr.sliceBounds, run_underlying hu, run_sizeOf w hi', Program.cellsOf, hi', hsz]
    | some v =>
      obtain ⟨k, rfl⟩ := hhi v rfl
      simp [Instr.sliceAt, Instr.slice, Instr.sliceBounds, run_underlying hu, run_sizeOf w hi', Program.cellsOf, hi', hsz, bound k h cap .sliceAcap (by omega) (by omega)]
  | some u =>
    obtain ⟨k', rfl⟩ := hlo u rfl
    cases hi with
    | none =>
      have := hhi' rfl
      subst this
      simp [Instr.sliceAt, Instr.slice, Instr.sliceBounds, run_underlying hu, run_sizeOf w hi', Program.cellsOf, hi', hsz, bound k' l len .sliceB h0 h1]
      omega
    | some v =>
      obtain ⟨k, rfl⟩ := hhi v rfl
      simp [Instr.sliceAt, Instr.slice, Instr.sliceBounds, run_underlying hu, run_sizeOf w hi', Program.cellsOf, hi', hsz, bound k h cap .sliceAcap (by omega) (by omega), bound k' l h.toNat .sliceB h0 (by omega), eh]

theorem boundX_rel (he : ERel c j H w (NN c j H) env a) {d n : Int} {b : Option Operand} (h : boundX env d b = some n) : (∀ v, b.map a.eval = some v → ∃ k, v = .int k n) ∧ (b.map a.eval = none → n = d) := by
  cases b with
  | none => simp only [boundX, Option.some.injEq] at h; exact ⟨fun v hv => (by cases hv), fun _ => h.symm⟩
  | some y =>
    simp only [boundX] at h
    split at h
    · rename_i k m hy
      cases h
      have hx := evalV_rel he y
      rw [hy] at hx
      exact ⟨fun v hv => (by simp at hv; subst hv; exact ⟨k, rel_int hx⟩), fun hv => (by simp at hv)⟩
    · cases h

theorem part_rel {N : Nat → Prop} {b o n : Nat} {T : TypeId} {t : Ty} {l : List t.den} (hb : H[b]? = some (.row T t l)) {A : Option Addr} {cap : Nat} (ho : o + n ≤ l.length) (hc : n ≤ cap) (hg : 0 < n → ∃ g, j.blk b = some g ∧ A = some ⟨g, o * t.sz, none⟩) :
    CRel j H w N (.part b o n) (.slice A n cap) :=
  ⟨rfl, get_lt hb, fun T' t' l' hb' => by
    rw [hb] at hb'
    cases hb'
    exact ⟨ho, A, cap, rfl, hc, hg⟩⟩

theorem slice_sound (hI : Inv P c j H w) (he : ERel c j H w (NN c j H) env a) {o : Oper} {T : TypeId} {x : Operand} {lo hi mx : Option Operand} (ho : o.op = .slice T x lo hi mx) (h : opV P o.op env H f = some r) : Out P c j H w f r ((execOp a.eval o).run P w) := by
  rw [ho] at h
  cases mx with
  | some _ => simp [opV] at h
  | none =>
  simp only [opV] at h
  have hx := evalV_rel he x
  split at h
  · rename_i u y hu hy
    rw [hy] at hx
    split at h
    · rename_i l n hl hn
      split at h
      · rename_i q hq
        split at h
        · rename_i hb
          obtain ⟨b0, b1, b2⟩ := hb
          obtain ⟨l1, l2⟩ := boundX_rel he hl
          obtain ⟨q1, q2⟩ := boundX_rel he hq
          have hyt : y ≠ .top := by rintro rfl; simp [lenC] at hn
          have hY := rel_one hx hyt
          rcases lenC_rel hI hn hY with ⟨s, rfl, hs, hns⟩ | ⟨A, len, cap, hs, hns, hlc, hnstr⟩
          · cases u <;> simp only [cutX] at h <;> (first | (cases h; done) | skip)
            case string =>
              have hbd : ∀ (k : IntKind) (i : Int) (y : Nat) (code : BoundsCode), 0 ≤ i → i ≤ y → (Instr.sliceBound (.int k i) y code).run P w = .ok i.toNat w := fun k i y code a b => run_sliceBound w k i y code a b
              refine .pure hI ?_ h (str_rel _)
              have hrun : (Instr.sliceAt T (.string s) (lo.map a.eval) (hi.map a.eval) none).run P w = .ok (.string (s.extract l.toNat q.toNat)) w := by
                cases hlo : lo.map a.eval with
                | none =>
                  have := l2 hlo
                  subst this
                  cases hhi : hi.map a.eval with
                  | none =>
                    have := q2 hhi
                    subst this
                    subst hns
                    simp [Instr.sliceAt, Instr.slice, Instr.sliceBounds, run_underlying hu]
                  | some v =>
                    obtain ⟨k, rfl⟩ := q1 v hhi
                    simp [Instr.sliceAt, Instr.slice, Instr.sliceBounds, run_underlying hu, hbd k q s.size .sliceAlen (by omega) (by omega)]
                | some u =>
                  obtain ⟨k', rfl⟩ := l1 u hlo
                  cases hhi : hi.map a.eval with
                  | none =>
                    have := q2 hhi
                    subst this
                    subst hns
                    simp [Instr.sliceAt, Instr.slice, Instr.sliceBounds, run_underlying hu, hbd k' l s.size .sliceB b0 (by omega)]
                  | some v =>
                    obtain ⟨k, rfl⟩ := q1 v hhi
                    simp [Instr.sliceAt, Instr.slice, Instr.sliceBounds, run_underlying hu, hbd k q s.size .sliceAlen (by omega) (by omega), hbd k' l q.toNat .sliceB b0 (by omega)]
              simp [execOp, ho, hs, hrun]
          · have key : ∀ {e : TypeId} {sz : Nat}, u = .slice e → infoSz P e = some sz →
                (execOp a.eval o).run P w = .ok (.value (.slice (if cap = l.toNat then A else A.map (·.add (l.toNat * sz))) (q - l).toNat (cap - l.toNat))) w := by
              intro e sz hue hsz
              subst hue
              have := slice_run (w := w) (A := A) (len := len) (cap := cap) (lo := lo.map a.eval) (hi := hi.map a.eval) (l := l) (h := q) hu hsz l1 l2 q1 (fun e => by rw [q2 e, hns]) b0 b1 (by omega) hlc
              simp [execOp, ho, hs, this]
            have hz := hY.2
            unfold cutX at h
            split at h
            · exact absurd rfl (hnstr _)
            · rename_i e t xs
              split at h
              · rename_i hsz
                refine .pure hI (key rfl hsz) h (val_rel ⟨rfl, ?_⟩)
                obtain ⟨A', cap', hv, hl', hq'⟩ := hz
                rw [hs] at hv
                simp only [List.cons.injEq, Value.slice.injEq, and_true] at hv
                obtain ⟨rfl, rfl, rfl⟩ := hv
                have hlen : ((xs.take q.toNat).drop l.toNat).length = (q - l).toNat := by simp; omega
                refine ⟨_, cap - l.toNat, by rw [hlen], by rw [hlen]; omega, fun i z hz => ?_⟩
                rw [List.getElem?_drop, List.getElem?_take] at hz
                split at hz
                · rename_i hlt
                  obtain ⟨ad, vs, rfl, k1, k2, k3, k4⟩ := hq' _ z hz
                  refine ⟨ad.add (l.toNat * t.sz), vs, by rw [if_neg (by omega)]; rfl, by rw [addr_add_block]; exact k1, by rw [addr_add_block]; exact k2, k3, fun p u hu => ?_⟩
                  rw [add_add, ← k4 p u hu]
                  congr 2
                  rw [Nat.add_mul]; omega
                · cases hz
              · cases h
            · rename_i e
              split at h
              · rename_i sz hsz
                have e0 : A = none ∧ len = 0 ∧ cap = 0 := by
                  have : (.slice A len cap : Value) = .slice none 0 0 := hs.symm.trans hz
                  cases this; exact ⟨rfl, rfl, rfl⟩
                obtain ⟨rfl, rfl, rfl⟩ := e0
                have e1 : l = 0 := by omega
                have e2 : q = 0 := by omega
                have := key rfl hsz
                rw [e1, e2] at this
                exact .pure hI this h (val_rel ⟨rfl, rfl⟩)
              · cases h
            · rename_i e b
              split at h
              · rename_i T' t xs hb
                split at h
                · rename_i hsz
                  refine .pure hI (key rfl hsz) h (val_rel ?_)
                  have hlx : len = xs.length := by
                    simp only [lenC, hb, Option.some.injEq] at hn
                    omega
                  refine part_rel hb (by omega) (by omega) fun hpos => ?_
                  rcases hz.2 _ _ _ hb with ⟨hj, hv⟩ | ⟨g, cap', hj, hv, _⟩
                  · rw [hs] at hv; cases hv; omega
                  · rw [hs] at hv
                    simp only [Value.slice.injEq] at hv
                    obtain ⟨rfl, _, _⟩ := hv
                    exact ⟨g, hj, by rw [if_neg (by omega)]; simp [Addr.add_mid]⟩
                · cases h
              · cases h
            · rename_i e b p n'
              split at h
              · rename_i T' t xs hb
                split at h
                · rename_i hsz
                  refine .pure hI (key rfl hsz) h (val_rel ?_)
                  obtain ⟨k1, A', cap', hv, k2, k3⟩ := hz.2 _ _ _ hb
                  rw [hs] at hv
                  simp only [Value.slice.injEq] at hv
                  obtain ⟨rfl, rfl, rfl⟩ := hv
                  refine part_rel hb (by omega) (by omega) fun hpos => ?_
                  obtain ⟨g, hj, rfl⟩ := k3 (by omega)
                  exact ⟨g, hj, by rw [if_neg (by omega)]; simp [Addr.add_mid, Nat.add_mul]⟩
                · cases h
              · cases h
            · cases h
        · cases h
      · cases h
    · cases h
  · cases h
end
end Go.Proofs.YtcdnofemnpafhaaM

/- Append, and the other built-in calls. Conditions: none. -/
namespace Go.Proofs.YtcdnofemnpafhaaM
set_option linter.unusedVariables false
set_option linter.unusedSimpArgs false
set_option linter.unnecessarySimpa false
set_option linter.unusedSectionVars false
open Go

section
variable {P : Program} {c : Cx} {j : J} {H : List Blk} {w : World}

theorem Inv.app (h : Inv P c j H w) (b : Nat) {B' : Blk} {r : Option Nat} {v : Value} {w' : World} (hs : w.heap.size ≤ w'.heap.size) (ho : w'.os = w.os) (ht : w'.tape = w.tape) (hout : w'.output = w.output)
    (hold : ∀ g, g < w.heap.size → (∀ B, H[b]? = some B → B.live → ¬ At j b B g) → w'.heap[g]? = w.heap[g]?)
    (hr : ∀ g, NewAt r v B' g → w.heap.size ≤ g ∨ ∃ B, H[b]? = some B ∧ B.live ∧ At j b B g)
    (hB : Mov j H w (NN c j H) (j.at H.length r v) (H.set b .dead ++ [B']) w' (NN c (j.at H.length r v) (H.set b .dead ++ [B'])) → BRel P (j.at H.length r v) (H.set b .dead ++ [B']) w' (NN c (j.at H.length r v) (H.set b .dead ++ [B'])) H.length B') :
    Inv P c (j.at H.length r v) (H.set b .dead ++ [B']) w' ∧ Mov j H w (NN c j H) (j.at H.length r v) (H.set b .dead ++ [B']) w' (NN c (j.at H.length r v) (H.set b .dead ++ [B'])) := by
  have hlen : (H.set b .dead).length = H.length := by simp
  -- an old block that lives on is another one
  have hget : ∀ {i : Nat} {B1 : Blk}, (H.set b .dead ++ [B'])[i]? = some B1 → B1.live → (i < H.length ∧ i ≠ b ∧ H[i]? = some B1) ∨ (i = H.length ∧ B1 = B') := by
    intro i B1 hi hl
    rcases get_push hi with ⟨h1, h2⟩ | ⟨h1, h2⟩
    · rw [hlen] at h1
      rcases get_set h2 with ⟨h3, h4⟩ | ⟨_, rfl, _⟩
      · exact .inl ⟨h1, h3, h4⟩
      · exact hl.elim
    · rw [hlen] at h1; exact .inr ⟨h1, h2⟩
  have hne : ∀ {i g : Nat} {B1 : Blk}, H[i]? = some B1 → B1.live → i ≠ b → At j i B1 g → ∀ B, H[b]? = some B → B.live → ¬ At j b B g := by
    intro i g B1 hi hl hib hg B hb hlb he
    exact hib (h.inj i b B1 B g hi hb hl hlb hg he)
  have hown : ∀ k, Own (j.at H.length r v) (H.set b .dead ++ [B']) k → Own j H k ∨ w.heap.size ≤ k := by
    rintro k ⟨i, B1, hi, h1, h2⟩
    rcases hget hi h1 with ⟨h3, h4, h5⟩ | ⟨rfl, rfl⟩
    · rw [At.at_ne (by omega)] at h2
      exact .inl ⟨i, B1, h5, h1, h2⟩
    · rw [At.at_eq] at h2
      rcases hr k h2 with h3 | ⟨B, h4, h5, h6⟩
      · exact .inr h3
      · exact .inl ⟨b, B, h4, h5, h6⟩
  have m : Mov j H w (NN c j H) (j.at H.length r v) (H.set b .dead ++ [B']) w' (NN c (j.at H.length r v) (H.set b .dead ++ [B'])) := by
    refine ⟨by simp, fun i B1 hi => ?_, hs, fun g hg hn => ⟨fun hn' => ?_, hold g hg fun B hb hl he => hn (.inr ⟨b, B, hb, hl, he⟩)⟩, fun i T t l g cells hi hl hj hc => ?_⟩
    · have hlt := get_lt hi
      by_cases hib : i = b
      · subst hib
        exact ⟨.dead, by rw [List.getElem?_append_left (by rw [hlen]; exact hlt), List.getElem?_set_self hlt], fun hl => hl.elim⟩
      · exact ⟨B1, by rw [List.getElem?_append_left (by rw [hlen]; exact hlt), List.getElem?_set_ne (fun e => hib e.symm)]; exact hi, fun hl => ⟨Blk.same_refl hl, J.at_ne (by omega)⟩⟩
    · rcases hn' with hA | ho'
      · exact hn (.inl hA)
      · rcases hown g ho' with h1 | h1
        · exact hn (.inr h1)
        · omega
    · rcases hget hl trivial with ⟨h1, h2, h3⟩ | ⟨h1, _⟩
      · exact ⟨cells, Cls.of_eq (hold g hc.lt (hne h3 trivial h2 hj)) hc, rfl⟩
      · omega
  have hn0 := h.n
  refine ⟨⟨by simp; omega, fun i B1 hi hb1 hl => ?_, fun i B1 g hi hb1 hl hg => ?_, fun i B1 g hi hb1 hl hg => ?_, fun i i' B1 B2 g hb1 hb2 hl hl' hg hg' => ?_, fun g hg hn => ?_, Nat.le_trans h.size hs, ho.trans h.os, ht.trans h.tape, hout.trans h.output, h.apart, h.gl, h.same_step m, h.rowsz_step m, fun i B1 hi => ?_⟩, m⟩
  · rcases hget hb1 hl with ⟨h1, h2, h3⟩ | ⟨h1, _⟩
    · obtain ⟨e1, e2⟩ := J.at_ne (j := j) (r := r) (v := v) (show i ≠ H.length by omega)
      obtain ⟨k1, k2⟩ := h.keep i B1 hi h3 hl
      exact ⟨e1.trans k1, e2.trans k2⟩
    · omega
  · rcases hget hb1 hl with ⟨h1, h2, h3⟩ | ⟨h1, h2⟩
    · rw [At.at_ne (by omega)] at hg
      exact h.neu i B1 g hi h3 hl hg
    · subst h1
      subst h2
      rw [At.at_eq] at hg
      rcases hr g hg with h4 | ⟨B, h4, h5, h6⟩
      · exact .inl (Nat.le_trans h.size h4)
      · by_cases hbn : b < c.n
        · exact .inr (h.own b B g hbn h4 h5 h6)
        · exact h.neu b B g (by omega) h4 h5 h6
  · rcases hget hb1 hl with ⟨h1, h2, h3⟩ | ⟨h1, _⟩
    · rw [At.at_ne (by omega)] at hg
      exact h.own i B1 g hi h3 hl hg
    · omega
  · rcases hget hb1 hl with ⟨h1, h2, h3⟩ | ⟨h1, h2⟩ <;> rcases hget hb2 hl' with ⟨h4, h5, h6⟩ | ⟨h4, h5⟩
    · rw [At.at_ne (by omega)] at hg hg'
      exact h.inj i i' B1 B2 g h3 h6 hl hl' hg hg'
    · exfalso
      subst h4; subst h5
      rw [At.at_ne (by omega)] at hg
      rw [At.at_eq] at hg'
      rcases hr g hg' with h7 | ⟨B, h7, h8, h9⟩
      · have := h.own_lt ⟨i, B1, h3, hl, hg⟩; omega
      · exact h2 (h.inj i b B1 B g h3 h7 hl h8 hg h9)
    · exfalso
      subst h1; subst h2
      rw [At.at_ne (by omega)] at hg'
      rw [At.at_eq] at hg
      rcases hr g hg with h7 | ⟨B, h7, h8, h9⟩
      · have := h.own_lt ⟨i', B2, h6, hl', hg'⟩; omega
      · exact h5 (h.inj i' b B2 B g h6 h7 hl' h8 hg' h9)
    · omega
  · refine (hold g (by have := h.size; omega) fun B hb hl he => ?_).trans (h.frame g hg hn)
    by_cases hbn : b < c.n
    · exact hn (h.own b B g hbn hb hl he)
    · rcases h.neu b B g (by omega) hb hl he with h1 | h1
      · omega
      · exact hn h1
  · by_cases hl1 : B1.live
    · rcases hget hi hl1 with ⟨h1, h2, h3⟩ | ⟨rfl, rfl⟩
      · obtain ⟨e1, e2⟩ := J.at_ne (j := j) (r := r) (v := v) (show i ≠ H.length by omega)
        exact (h.heap i B1 h3).mov m e1 e2 fun g hg => hold g (h.own_lt ⟨i, B1, h3, hl1, hg⟩) (hne h3 hl1 h2 hg)
      · exact hB m
    · cases B1 <;> first | exact absurd trivial hl1 | trivial

theorem elems_cat {t : Ty} {N : Nat → Prop} {A : Addr} : ∀ (l : List t.den) (o : Nat), (∀ (i : Nat) (x : t.den), l[i]? = some x → ∃ d, RoC w N t x d ∧ ∀ (q : Nat) (u : Value), d[q]? = some u → w.cell? (A.add ((o + i) * t.sz + q)) = some u) →
    ∃ news : List Value, news.length = l.length * t.sz ∧ (∀ u ∈ news, u.oneCell' = true) ∧ (∀ (q : Nat) (u : Value), news[q]? = some u → w.cell? (A.add (o * t.sz + q)) = some u) ∧
      ∀ (i : Nat) (x : t.den), l[i]? = some x → ∃ d, RoC w N t x d ∧ ∀ (q : Nat) (u : Value), d[q]? = some u → news[i * t.sz + q]? = some u
  | [], o, h => ⟨[], by simp, by simp, by simp, by simp⟩
  | x :: l, o, h => by
    obtain ⟨d, h1, h2⟩ := h 0 x rfl
    obtain ⟨news, k1, k2, k3, k4⟩ := elems_cat l (o + 1) (fun i y hy => by
      obtain ⟨d', h3, h4⟩ := h (i + 1) y (by simpa using hy)
      exact ⟨d', h3, fun q u hu => by rw [show o + 1 + i = o + (i + 1) by omega]; exact h4 q u hu⟩)
    have hl := h1.len
    refine ⟨d ++ news, by simp [k1, hl, Nat.succ_mul]; omega, fun u hu => ?_, fun q u hu => ?_, fun i y hy => ?_⟩
    · rcases List.mem_append.1 hu with hu | hu
      · exact h1.one u hu
      · exact k2 u hu
    · by_cases hq : q < d.length
      · rw [List.getElem?_append_left hq] at hu
        exact h2 q u hu
      · rw [List.getElem?_append_right (by omega)] at hu
        have := k3 _ u hu
        rw [show (o + 1) * t.sz + (q - d.length) = o * t.sz + q by rw [Nat.succ_mul]; omega] at this
        exact this
    · cases i with
      | zero =>
        simp at hy
        subst hy
        exact ⟨d, h1, fun q u hu => by rw [Nat.zero_mul, Nat.zero_add, List.getElem?_append_left (get_lt hu)]; exact hu⟩
      | succ i =>
        obtain ⟨d', h3, h4⟩ := k4 i y (by simpa using hy)
        refine ⟨d', h3, fun q u hu => ?_⟩
        rw [List.getElem?_append_right (by rw [Nat.succ_mul]; omega), show (i + 1) * t.sz + q - d.length = i * t.sz + q by rw [Nat.succ_mul]; omega]
        exact h4 q u hu

def Src (w : World) (N : Nat → Prop) (t : Ty) (l : List t.den) (V : Value) : Prop :=
  ∃ (A : Option Addr) (cap : Nat) (news : List Value), V = .slice A l.length cap ∧ news.length = l.length * t.sz ∧ (∀ u ∈ news, u.oneCell' = true) ∧ (A = none → l = []) ∧
    (∀ a, A = some a → ∀ (q : Nat) (u : Value), news[q]? = some u → w.cell? (a.add q) = some u) ∧
    ∀ (i : Nat) (x : t.den), l[i]? = some x → ∃ d, RoC w N t x d ∧ ∀ (q : Nat) (u : Value), d[q]? = some u → news[i * t.sz + q]? = some u

theorem Src.empty {N : Nat → Prop} {t : Ty} {V : Value} {A : Option Addr} {cap : Nat} (e : V = .slice A 0 cap) : Src w N t [] V :=
  ⟨A, cap, [], e, by simp, by simp, fun _ => rfl, by simp, by simp⟩
theorem Src.some_ {N : Nat → Prop} {t : Ty} {V : Value} {l : List t.den} {a : Addr} {cap : Nat} (e : V = .slice (some a) l.length cap)
    (he : ∀ (i : Nat) (x : t.den), l[i]? = some x → ∃ d, RoC w N t x d ∧ ∀ (q : Nat) (u : Value), d[q]? = some u → w.cell? (a.add (i * t.sz + q)) = some u) : Src w N t l V := by
  obtain ⟨news, k1, k2, k3, k4⟩ := elems_cat (A := a) l 0 (fun i x hx => by
    obtain ⟨d', h1, h2⟩ := he i x hx
    exact ⟨d', h1, fun q u hu => by rw [Nat.zero_add]; exact h2 q u hu⟩)
  refine ⟨some a, cap, news, e, k1, k2, fun e => (by cases e), fun a' ha q u hu => ?_, k4⟩
  cases ha
  have := k3 q u hu
  rw [Nat.zero_mul, Nat.zero_add] at this
  exact this

theorem src_rel (hI : Inv P c j H w) {t : Ty} {d : Cell} {V : Value} {l : List t.den} (h : rowOf H t d = some l) (hd : CRel j H w (NN c j H) d V) : Src w (NN c j H) t l V := by
  obtain ⟨_, hd⟩ := hd
  cases d <;> simp only [rowOf] at h <;> (first | (cases h; done) | skip)
  case nils => cases h; exact Src.empty hd
  case ro t' l' =>
    split at h
    · rename_i ht
      subst ht
      cases h
      obtain ⟨A, cap, hv, hlc, hq⟩ := hd
      simp only [List.cons.injEq, and_true] at hv
      cases A with
      | none =>
        have hl : l' = [] := by
          cases l' with
          | nil => rfl
          | cons x l' => obtain ⟨a, _, e, _⟩ := hq 0 x rfl; cases e
        subst hl
        exact Src.empty hv
      | some a =>
        exact Src.some_ hv fun i x hx => by
          obtain ⟨a', d', e, _, _, h1, h2⟩ := hq i x hx
          cases e
          exact ⟨d', h1, h2⟩
    · cases h
  case full b =>
    split at h
    · rename_i T t' l' hb
      split at h
      · rename_i ht
        subst ht
        cases h
        rcases hd.2 _ _ _ hb with ⟨hj, hv⟩ | ⟨g, cap, hj, hv, cells, hh, hs⟩
        · rcases hI.heap b _ hb with ⟨_, rfl⟩ | ⟨g, _, _, hg, _⟩
          · exact Src.empty hv
          · rw [hj] at hg; cases hg
        · rcases hI.heap b _ hb with ⟨hj', _⟩ | ⟨g', cap', cells', hg, hh', hs', hz, hlc, _, hq⟩
          · rw [hj] at hj'; cases hj'
          · rw [hj] at hg; cases hg
            obtain rfl := hh.inj hh'
            exact Src.some_ hv fun i x hx => by
              obtain ⟨d', h1, h2⟩ := hq i x hx
              exact ⟨d', h1, fun q u hu => by rw [Addr.add_mid, hh.cell, Nat.zero_add]; exact h2 q u hu⟩
      · cases h
    · cases h
  case part b o n =>
    split at h
    · rename_i T t' l' hb
      split at h
      · rename_i ht
        subst ht
        cases h
        obtain ⟨k1, A, cap, hv, k2, k3⟩ := hd.2 _ _ _ hb
        have hlen : ((l'.drop o).take n).length = n := by simp; omega
        by_cases hn : 0 < n
        · obtain ⟨g, hj, rfl⟩ := k3 hn
          rcases hI.heap b _ hb with ⟨hj', _⟩ | ⟨g', cap', cells', hg, hh, hs', hz, hlc, _, hq⟩
          · rw [hj] at hj'; cases hj'
          · rw [hj] at hg; cases hg
            refine Src.some_ (a := ⟨g, o * t'.sz, none⟩) (cap := cap) (by rw [hlen]; exact hv) fun i x hx => ?_
            rw [List.getElem?_take] at hx
            split at hx
            · rw [List.getElem?_drop] at hx
              obtain ⟨d', h1, h2⟩ := hq _ x hx
              exact ⟨d', h1, fun q u hu => by
                rw [Addr.add_mid, hh.cell, show o * t'.sz + (i * t'.sz + q) = (o + i) * t'.sz + q by rw [Nat.add_mul]; omega]
                exact h2 q u hu⟩
            · cases hx
        · have hn0 : n = 0 := by omega
          subst hn0
          have : (l'.drop o).take 0 = [] := by simp
          rw [this]
          exact Src.empty hv
      · cases h
    · cases h
end
end Go.Proofs.YtcdnofemnpafhaaM

/- Built-in calls. Conditions: none. -/
namespace Go.Proofs.YtcdnofemnpafhaaM
set_option linter.unusedVariables false
set_option linter.unusedSimpArgs false
set_option linter.unnecessarySimpa false
set_option linter.unusedSectionVars false
open Go

section
variable {P : Program} {c : Cx} {j : J} {H : List Blk} {w : World} {R : Type} {f : AV → List Blk → Option R} {r : R} {env : List AV} {a : Act}

theorem base_rel (hI : Inv P c j H w) {e : TypeId} {t : Ty} {d : Cell} {V : Value} {l : List t.den} {b : Nat} (hz : 0 < t.sz) (h : baseOf H e t d = some (l, b)) (hd : CRel j H w (NN c j H) d V) :
    ∃ xs : List Value, w.ownsRow 0 e t.sz V l.length xs ∧ (∀ (i : Nat) (x : t.den), l[i]? = some x → ∃ d, RoC w (NN c j H) t x d ∧ ∀ (q : Nat) (u : Value), d[q]? = some u → xs[i * t.sz + q]? = some u) ∧
      (∀ g, V.ownBlock = some g → ∃ B, H[b]? = some B ∧ B.live ∧ At j b B g) := by
  obtain ⟨_, hd⟩ := hd
  cases d <;> simp only [baseOf] at h <;> (first | (cases h; done) | skip)
  case nils =>
    cases h
    subst hd
    exact ⟨[], ⟨by simp, .inl ⟨rfl, rfl⟩⟩, by simp, by simp [Value.ownBlock]⟩
  case full b' =>
    split at h
    · rename_i T t' l' hb
      split at h
      · rename_i hT
        obtain ⟨hT, hT6⟩ := hT
        subst hT
        split at h
        · rename_i ht
          subst ht
          cases h
          rcases hd.2 _ _ _ hb with ⟨hj, rfl⟩ | ⟨g, cap, hj, rfl, cells, hh, hs⟩
          · rcases hI.heap _ _ hb with ⟨_, rfl⟩ | ⟨g, _, _, hg, _⟩
            · exact ⟨[], ⟨by simp, .inl ⟨rfl, rfl⟩⟩, by simp, by simp [Value.ownBlock]⟩
            · rw [hj] at hg; cases hg
          · rcases hI.heap _ _ hb with ⟨hj', _⟩ | ⟨g', cap', cells', hg, hh', hs', _, hlc, hcm, hq⟩
            · rw [hj] at hj'; cases hj'
            · rw [hj] at hg; cases hg
              obtain rfl := hh.inj hh'
              have : cap = cap' := by rw [hs] at hs'; exact Nat.eq_of_mul_eq_mul_right hz hs'
              subst this
              have hmul : l'.length * t'.sz ≤ cap * t'.sz := Nat.mul_le_mul_right _ hlc
              refine ⟨cells.toList.take (l'.length * t'.sz), ⟨by show _ = l'.length * t'.sz; simp; omega, .inr ⟨g, cap, cells, rfl, Nat.zero_le _, hh.get hT6, hlc, hcm, hs, rfl⟩⟩, fun i x hx => ?_, fun g' hg' => ?_⟩
              · obtain ⟨d, h1, h2⟩ := hq i x hx
                refine ⟨d, h1, fun q u hu => ?_⟩
                have hq' : q < t'.sz := by rw [← h1.len]; exact get_lt hu
                have hi : i < l'.length := get_lt (show l'[i]? = some x from hx)
                have : i * t'.sz + t'.sz ≤ l'.length * t'.sz := by rw [← Nat.succ_mul]; exact Nat.mul_le_mul_right _ (by omega)
                rw [List.getElem?_take, if_pos (by omega), Array.getElem?_toList]
                exact h2 q u hu
              · simp [Value.ownBlock] at hg'
                subst hg'
                exact ⟨_, hb, trivial, hj⟩
        · cases h
      · cases h
    · cases h

theorem append_sound (hI : Inv P c j H w) {ts : Array TypeId} {T e ty : TypeId} {t : Ty} {i : TypeInfo} {x y : Cell} {X Y : Value} {l m : List t.den} {b : Nat} (hu : P.underlying T = some (.slice e)) (ht : tyOfT P e = some t) (hi : P.info? e = some i)
    (hb : baseOf H e t x = some (l, b)) (hm : rowOf H t y = some m) (hx : CRel j H w (NN c j H) x X) (hy : CRel j H w (NN c j H) y Y)
    (h1 : (l.length + m.length) * i.bytes ≤ 140737488355328) (h2 : l.length + m.length ≤ 9223372036854775807) (h3 : 0 < t.sz) (h4 : i.zero.map (·.cells.size) = some t.sz)
    (hf : f (cellV (.full H.length)) (H.set b .dead ++ [.row e t (l ++ m)]) = some r) :
    ∃ V w', (Builtin.append_ #[T, T] ty #[X, Y]).run P w = .ok V w' ∧ ∃ av H' j', f av H' = some r ∧ Inv P c j' H' w' ∧ Mov j H w (NN c j H) j' H' w' (NN c j' H') ∧ AVRel j' H' w' (NN c j' H') av V := by
  have hsz := tyOfT_sz ht
  have hsz' : i.size = t.sz := by simpa [infoSz, hi] using hsz
  obtain ⟨z, hz, hzs⟩ := Option.map_eq_some_iff.1 h4
  obtain ⟨xs, hown, hel, hblk⟩ := base_rel hI h3 hb hx
  obtain ⟨A, cap, news, rfl, hnl, hone, hnil, hcell, hnew⟩ := src_rel hI hm hy
  -- what the model leaves, told once
  have main : ∃ V w', (Builtin.append_ #[T, T] ty #[X, .slice A m.length cap]).run P w = .ok V w' ∧ w'.ownsRow 0 e t.sz V (l.length + m.length) (xs ++ news) ∧ w.grownBy w' X.ownBlock ∧ (V.ownBlock = X.ownBlock ∨ V.ownBlock = some w.heap.size) := by
    cases A with
    | some ad =>
      obtain ⟨V, w', k1, k2, k3, _, k4⟩ := run_append_own_at (P := P) w 0 T ty e i z t.sz i.bytes hu hi hz hsz' rfl hzs h3 X l.length xs hown ad m.length cap news hnl (hcell ad rfl) hone (by unfold maxLen; omega) h1 (Nat.zero_le _)
      exact ⟨V, w', k1, k2, k3, k4⟩
    | none =>
      have hm0 := hnil rfl
      subst hm0
      have hn0 : news = [] := List.eq_nil_of_length_eq_zero (by rw [hnl]; simp)
      subst hn0
      refine ⟨X, w, ?_, by simpa using hown, World.grownBy.refl _ _, .inl rfl⟩
      rcases hown.2 with ⟨rfl, hl0⟩ | ⟨g, cap', cur, rfl, _, _, hnc, _⟩
      · simp [Builtin.append_, run_underlying hu, sizeOf, typeInfo, hi, Builtin.lenOf, Builtin.firstCells]
      · simp [Builtin.append_, run_underlying hu, sizeOf, typeInfo, hi, Builtin.lenOf, Builtin.firstCells, hnc, storeCells]
  obtain ⟨V, w', k1, k2, k3, k4⟩ := main
  refine ⟨V, w', k1, ?_⟩
  have hxs : xs.length = l.length * t.sz := hown.1
  obtain ⟨r1, r2⟩ := hI.app b (B' := .row e t (l ++ m)) (r := V.ownBlock) (v := undef) (w' := w') k3.size k3.os k3.tape k3.output
    (fun g hg hne => k3.block g hg fun e => by
      obtain ⟨B, h5, h6, h7⟩ := hblk g e.symm
      exact hne B h5 h6 h7)
    (fun g hg => by
      rcases k4 with k4 | k4
      · rw [k4] at hg; exact .inr (hblk g hg)
      · rw [k4] at hg; cases hg; exact .inl (Nat.le_refl _))
    (fun mm => by
      rcases k2.2 with ⟨rfl, hn⟩ | ⟨g, cap', cur, rfl, _, hh, hnc, hcm, hcs, htake⟩
      · exact .inl ⟨J.at_eq.1, List.eq_nil_of_length_eq_zero (by simpa using hn)⟩
      · refine .inr ⟨g, cap', cur, J.at_eq.1, Cls.mk0 hh, hcs, h3, by simpa using hnc, hcm, fun i x hx => ?_⟩
        have get : ∀ (q : Nat) (u : Value), (xs ++ news)[q]? = some u → cur[q]? = some u := fun q u hq => by
          rw [← htake, List.getElem?_take] at hq
          split at hq
          · rw [← Array.getElem?_toList]; exact hq
          · cases hq
        by_cases hil : i < l.length
        · rw [List.getElem?_append_left hil] at hx
          obtain ⟨d, h5, h6⟩ := hel i x hx
          refine ⟨d, RoC.mov mm.ro mm.size h5, fun q u hq => get _ u ?_⟩
          have := h6 q u hq
          rw [List.getElem?_append_left (get_lt this)]
          exact this
        · rw [List.getElem?_append_right (by omega)] at hx
          obtain ⟨d, h5, h6⟩ := hnew _ x hx
          refine ⟨d, RoC.mov mm.ro mm.size h5, fun q u hq => get _ u ?_⟩
          have hle : l.length * t.sz ≤ i * t.sz := Nat.mul_le_mul_right _ (by omega)
          rw [List.getElem?_append_right (by omega), hxs]
          have := h6 q u hq
          rw [Nat.sub_mul] at this
          rw [show i * t.sz + q - l.length * t.sz = i * t.sz - l.length * t.sz + q by omega]
          exact this)
  refine ⟨_, _, _, hf, r1, r2, val_rel ⟨?_, by simp, fun T' t' l' hb' => ?_⟩⟩
  · rcases k2.2 with ⟨rfl, _⟩ | ⟨g, cap', cur, rfl, _⟩ <;> rfl
  · rw [List.getElem?_append_right (by simp)] at hb'
    simp at hb'
    obtain ⟨rfl, rfl, hb'⟩ := hb'
    cases hb'
    rcases k2.2 with ⟨rfl, _⟩ | ⟨g, cap', cur, rfl, _, hh, hnc, hcm, hcs, htake⟩
    · exact .inl ⟨J.at_eq.1, rfl⟩
    · exact .inr ⟨g, cap', J.at_eq.1, by simp, cur, Cls.mk0 hh, hcs⟩

theorem fold_rel {N : Nat → Prop} {g : Int → Int → Int} {s : Value → Value → Sem Value} (hs : ∀ (k k' : IntKind) (x y : Int) (w : World), (s (.int k x) (.int k' y)).run P w = .ok (.int k (g x y)) w) {k : IntKind} :
    ∀ {l : List V1} {vs : List Value} {x n : Int}, foldI g k x l = some n → All2 (V1Rel j H w N) l vs → (vs.foldlM s (.int k x)).run P w = .ok (.int k n) w
  | [], vs, x, n, h, ha => by
    obtain rfl := ha.nil_left
    simp only [foldI, Option.some.injEq] at h
    subst h
    simp
  | y :: l, vs, x, n, h, ha => by
    obtain ⟨V, m, rfl, hV, hm⟩ := ha.cons_left
    cases y with
    | agg _ => simp [foldI] at h
    | one y =>
      cases y <;> simp only [foldI] at h <;> (first | (cases h; done) | skip)
      rename_i k' y
      have hv := rel_int (j := j) (H := H) (w := w) (N := N) hV
      subst hv
      rw [List.foldlM_cons, Sem.run_bind, hs, Result.andThen_ok]
      exact fold_rel hs h hm

theorem builtin_sound (hI : Inv P c j H w) {b : Builtin} {ts : Array TypeId} {ty : TypeId} {cs : Array Bool} {args : List V1} {vals : Array Value} (ha : All2 (V1Rel j H w (NN c j H)) args vals.toList) (h : builtinX P b ts args H f = some r) :
    Out P c j H w f r ((builtin b ts ty cs vals).run P w) := by
  cases b <;> simp only [builtinX] at h <;> (first | (cases h; done) | skip)
  case len =>
    split at h
    · rename_i x T hT
      obtain ⟨X, m, hv, hX, hm⟩ := ha.cons_left
      obtain rfl := hm.nil_left
      obtain rfl : vals = #[X] := by apply Array.ext'; simpa using hv
      split at h
      · rename_i s hu
        have hs := rel_str hX
        exact .pure hI (by simp [builtin, Builtin.len_, hT, hs, run_underlying hu, goInt]) h (int_rel _ _)
      · cases h
      · rename_i x' _ _ e hu hns
        split at h
        · rename_i n hn
          have hyt : x' ≠ Cell.top := by rintro rfl; simp [lenC] at hn
          rcases lenC_rel hI hn (rel_one hX hyt) with ⟨s, rfl, _⟩ | ⟨A, len, cap, rfl, rfl, _⟩
          · exact absurd rfl (hns s)
          · exact .pure hI (by simp [builtin, Builtin.len_, hT, run_underlying hu, goInt]) h (int_rel _ _)
        · cases h
      · cases h
    · cases h
  case min =>
    split at h
    · rename_i k x l
      split at h
      · rename_i n hn
        obtain ⟨X, m, hv, hX, hm⟩ := ha.cons_left
        have hx := rel_int (j := j) (H := H) (w := w) (N := NN c j H) hX
        subst hx
        have := fold_rel (P := P) (s := Builtin.min2) (fun k k' x y w => by simp [Builtin.min2]) hn hm
        exact .pure hI (by simp [builtin, Builtin.min_, hv, this]) h (int_rel _ _)
      · cases h
    · cases h
  case max =>
    split at h
    · rename_i k x l
      split at h
      · rename_i n hn
        obtain ⟨X, m, hv, hX, hm⟩ := ha.cons_left
        have hx := rel_int (j := j) (H := H) (w := w) (N := NN c j H) hX
        subst hx
        have := fold_rel (P := P) (s := Builtin.max2) (fun k k' x y w => by simp [Builtin.max2]) hn hm
        exact .pure hI (by simp [builtin, Builtin.max_, hv, this]) h (int_rel _ _)
      · cases h
    · cases h
  case append =>
    split at h
    · rename_i x y T T' hT hT'
      obtain ⟨X, m, hv, hX, hm⟩ := ha.cons_left
      obtain ⟨Y, m', hv', hY, hm'⟩ := hm.cons_left
      subst hv'
      obtain rfl := hm'.nil_left
      obtain rfl : vals = #[X, Y] := by apply Array.ext'; simpa using hv
      split at h
      · rename_i e e' hu hu'
        split at h
        · rename_i t i ht hi
          split at h
          · rename_i l b m hb hm
            split at h
            case isFalse => cases h
            rename_i hst
            split at h
            · rename_i c1
              obtain ⟨c3, c4, rfl, c5⟩ := hst
              have c2 : l.length + m.length ≤ 9223372036854775807 := by
                have := Nat.le_mul_of_pos_right (l.length + m.length) c5
                omega
              have hxt : x ≠ .top := by rintro rfl; simp [baseOf] at hb
              have hyt : y ≠ .top := by rintro rfl; simp [rowOf] at hm
              obtain ⟨V, w', k1, k2⟩ := append_sound (ts := ts) (ty := ty) hI hu ht hi hb hm (rel_one hX hxt) (rel_one hY hyt) c1 c2 c3 c4 h
              have hap : (Builtin.append_ ts ty #[X, Y]).run P w = .ok V w' := by
                rw [← k1]
                simp [Builtin.append_, hT, hT']
              exact ⟨V, w', .inl (by simp [builtin, hap]), k2⟩
            · cases h
          · cases h
        · cases h
      · cases h
    · cases h
end
end Go.Proofs.YtcdnofemnpafhaaM

/- A row that is appended to and read on: it, and the longer one, are only read from then on. Conditions: none. -/
namespace Go.Proofs.YtcdnofemnpafhaaM
set_option linter.unusedVariables false
set_option linter.unusedSimpArgs false
set_option linter.unnecessarySimpa false
set_option linter.unusedSectionVars false
open Go

section
variable {P : Program} {c : Cx} {j : J} {H : List Blk} {w : World}

theorem frz_same {B : Blk} {b : Nat} {t : Ty} {l : List t.den} (h : B.live) : B.same (B.frz b t l) := by
  cases B <;> simp only [Blk.frz, Blk.same] <;> (first | exact h.elim | simp)
theorem frz_live {B : Blk} {b : Nat} {t : Ty} {l : List t.den} (h : (B.frz b t l).live) : B.live := by cases B <;> first | exact h | trivial

theorem appendZ_sound (hI : Inv P c j H w) {T e ty : TypeId} {t : Ty} {i : TypeInfo} {b : Nat} {y : Cell} {X Y : Value} {l m : List t.den} (hu : P.underlying T = some (.slice e)) (ht : tyOfT P e = some t) (hi : P.info? e = some i)
    (hb : H[b]? = some (.row e t l)) (he : e < 1000000) (hm : rowOf H t y = some m) (hx : CRel j H w (NN c j H) (.full b) X) (hy : CRel j H w (NN c j H) y Y)
    (h1 : (l.length + m.length) * i.bytes ≤ 140737488355328) (h2 : l.length + m.length ≤ 9223372036854775807) (h3 : 0 < t.sz) (h4 : i.zero.map (·.cells.size) = some t.sz) :
    ∃ V w', (Builtin.append_ #[T, T] ty #[X, Y]).run P w = .ok V w' ∧ Inv P c j ((H.set b .dead).map (Blk.frz b t l)) w' ∧ Mov j H w (NN c j H) j ((H.set b .dead).map (Blk.frz b t l)) w' (NN c j ((H.set b .dead).map (Blk.frz b t l))) ∧
      (∀ x v, CRel j H w (NN c j H) x v → CRel j ((H.set b .dead).map (Blk.frz b t l)) w' (NN c j ((H.set b .dead).map (Blk.frz b t l))) (x.frz b t l) v) ∧
      CRel j ((H.set b .dead).map (Blk.frz b t l)) w' (NN c j ((H.set b .dead).map (Blk.frz b t l))) (.ro t (l ++ m)) V := by
  have hsz := tyOfT_sz ht
  have hsz' : i.size = t.sz := by simpa [infoSz, hi] using hsz
  obtain ⟨z, hz, hzs⟩ := Option.map_eq_some_iff.1 h4
  obtain ⟨xs, hown, hel, hblk⟩ := base_rel hI (e := e) (t := t) (d := .full b) (l := l) (b := b) h3 (by simp [baseOf, hb, he]) hx
  obtain ⟨A, cap, news, rfl, hnl, hone, hnil, hcell, hnew⟩ := src_rel hI hm hy
  have hgl : ∀ g, X.ownBlock = some g → g < w.heap.size := fun g hg => by
    obtain ⟨B, k1, k2, k3⟩ := hblk g hg
    exact hI.own_lt ⟨b, B, k1, k2, k3⟩
  have main : ∃ V w', (Builtin.append_ #[T, T] ty #[X, .slice A m.length cap]).run P w = .ok V w' ∧ w'.ownsRow 0 e t.sz V (l.length + m.length) (xs ++ news) ∧ w.grownBy w' X.ownBlock ∧ (V.ownBlock = X.ownBlock ∨ V.ownBlock = some w.heap.size) ∧
      (∀ g, X.ownBlock = some g → ∀ (q : Nat) (u : Value), xs[q]? = some u → w'.cell? ⟨g, q, none⟩ = some u) := by
    cases A with
    | some ad =>
      obtain ⟨V, w', k1, k2, k3, _, k4⟩ := run_append_own_at (P := P) w 0 T ty e i z t.sz i.bytes hu hi hz hsz' rfl hzs h3 X l.length xs hown ad m.length cap news hnl (hcell ad rfl) hone (by unfold maxLen; omega) h1 (Nat.zero_le _)
      refine ⟨V, w', k1, k2, k3, k4, fun g hg q u hq => ?_⟩
      have hlt := hgl g hg
      rcases k4 with k4 | k4
      · rw [hg] at k4
        rcases k2.2 with ⟨rfl, _⟩ | ⟨g', cap', cur, rfl, _, hh, _, _, _, htake⟩
        · simp [Value.ownBlock] at k4
        · simp [Value.ownBlock] at k4
          subst k4
          rw [cell_of_row w' g' _ cur e (0, 0) hh]
          have hq2 : (xs ++ news)[q]? = some u := by rw [List.getElem?_append_left (get_lt hq)]; exact hq
          rw [← htake, List.getElem?_take] at hq2
          split at hq2
          · rw [← Array.getElem?_toList]; exact hq2
          · cases hq2
      · rcases hown.2 with ⟨rfl, _⟩ | ⟨g', cap', cur, rfl, hbg, hh, hnc, hcm, hcs, htake⟩
        · simp [Value.ownBlock] at hg
        · simp [Value.ownBlock] at hg
          subst hg
          have hcl := hown.cells (g := g') rfl
          by_cases hroom : l.length + m.length ≤ cap'
          · have hr := run_append_room (P := P) w T ty e i hu hi g' l.length cap' cur hh ad m.length cap news (by rw [hsz']; exact hnl) (hcell ad rfl) hone hroom (by rw [hsz', hnl, hcs, ← Nat.add_mul]; exact Nat.mul_le_mul_right _ hroom)
            rw [hr] at k1
            simp only [Result.ok.injEq] at k1
            obtain ⟨rfl, _⟩ := k1
            simp [Value.ownBlock] at k4
            omega
          · have hr := run_append_grow (P := P) w T ty e i z hu hi hz ⟨g', 0, none⟩ l.length cap' xs (by rw [hsz']; exact hown.1) hcl ad m.length cap news (by rw [hsz']; exact hnl) (hcell ad rfl) (by omega) (by omega) (growslice_fits (by omega) h1)
            rw [hr] at k1
            simp only [Result.ok.injEq] at k1
            obtain ⟨_, rfl⟩ := k1
            have := hcl q u hq
            rw [Addr.add_mid, Nat.zero_add] at this
            rw [← this]
            exact World.cell?_of_block (by
              show ((w.drew.alloc _).heap)[g']? = w.heap[g']?
              rw [RowKit.Below.heap_alloc w.drew _ g' (by simpa using hlt)]
              rfl)
    | none =>
      have hm0 := hnil rfl
      subst hm0
      have hn0 : news = [] := List.eq_nil_of_length_eq_zero (by rw [hnl]; simp)
      subst hn0
      refine ⟨X, w, ?_, by simpa using hown, World.grownBy.refl _ _, .inl rfl, fun g hg q u hq => ?_⟩
      · rcases hown.2 with ⟨rfl, hl0⟩ | ⟨g, cap', cur, rfl, _, _, hnc, _⟩
        · simp [Builtin.append_, run_underlying hu, sizeOf, typeInfo, hi, Builtin.lenOf, Builtin.firstCells]
        · simp [Builtin.append_, run_underlying hu, sizeOf, typeInfo, hi, Builtin.lenOf, Builtin.firstCells, hnc, storeCells]
      · rcases hown.2 with ⟨rfl, _⟩ | ⟨g', cap', cur, rfl, _, _, _, _, _, _⟩
        · simp [Value.ownBlock] at hg
        · simp [Value.ownBlock] at hg
          subst hg
          have := hown.cells (g := g') rfl q u hq
          rw [Addr.add_mid, Nat.zero_add] at this
          exact this
  obtain ⟨V, w', k1, k2, k3, k4, k5⟩ := main
  refine ⟨V, w', k1, ?_⟩
  have hxs : xs.length = l.length * t.sz := hown.1
  generalize hH' : (H.set b .dead).map (Blk.frz b t l) = H'
  have hlen : H'.length = H.length := by rw [← hH']; simp
  have hget : ∀ {q : Nat} {B1 : Blk}, H'[q]? = some B1 → B1.live → ∃ B, H[q]? = some B ∧ B.live ∧ q ≠ b ∧ B1 = B.frz b t l := by
    intro q B1 h hl
    rw [← hH', List.getElem?_map, Option.map_eq_some_iff] at h
    obtain ⟨B, h, rfl⟩ := h
    rcases get_set h with ⟨h5, h6⟩ | ⟨_, rfl, _⟩
    · exact ⟨B, h6, frz_live hl, h5, rfl⟩
    · exact (frz_live hl).elim
  have hatf : ∀ {q g : Nat} {B : Blk}, B.live → (At j q (B.frz b t l) g ↔ At j q B g) := fun hl => At.same (frz_same hl)
  have hown' : ∀ g, Own j H' g → Own j H g ∧ ∀ g0, j.blk b = some g0 → g ≠ g0 := by
    rintro g ⟨q, B1, h5, h6, h7⟩
    obtain ⟨B, h8, h9, h10, rfl⟩ := hget h5 h6
    refine ⟨⟨q, B, h8, h9, (hatf h9).1 h7⟩, ?_⟩
    rintro g0 hg0 rfl
    exact h10 (hI.inj q b B _ g h8 hb h9 trivial ((hatf h9).1 h7) hg0)
  have hold : ∀ g, g < w.heap.size → ¬ Own j H g → w'.heap[g]? = w.heap[g]? := fun g hg hn => k3.block g hg fun e => by
    obtain ⟨B, h5, h6, h7⟩ := hblk g e.symm
    exact hn ⟨b, B, h5, h6, h7⟩
  have hold2 : ∀ {q g : Nat} {B : Blk}, H[q]? = some B → B.live → q ≠ b → At j q B g → w'.heap[g]? = w.heap[g]? := fun hq hl hqb hat => k3.block _ (hI.own_lt ⟨_, _, hq, hl, hat⟩) fun e => by
    obtain ⟨B2, h5, h6, h7⟩ := hblk _ e.symm
    exact hqb (hI.inj _ b _ B2 _ hq h5 hl h6 hat h7)
  have mv : Mov j H w (NN c j H) j H' w' (NN c j H') := by
    refine ⟨by omega, fun q B hq => ?_, k3.size, fun g hg hn => ⟨fun hn' => hn (hn'.imp id fun ho => (hown' g ho).1), hold g hg fun ho => hn (.inr ho)⟩, fun q T' t' l' g cells hq hl hj hc => ?_⟩
    · have hq' : q < H'.length := by rw [hlen]; exact get_lt hq
      refine ⟨_, List.getElem?_eq_getElem hq', fun hl => ?_⟩
      obtain ⟨B0, h5, h6, h7, h8⟩ := hget (List.getElem?_eq_getElem hq') hl
      rw [hq] at h5; cases h5
      rw [h8]
      exact ⟨frz_same h6, rfl, rfl⟩
    · obtain ⟨B0, h5, h6, h7, h8⟩ := hget hl trivial
      cases B0 <;> simp only [Blk.frz] at h8 <;> (first | (cases h8; done) | skip)
      cases h8
      exact ⟨cells, Cls.of_eq (hold2 h5 trivial h7 hj) hc, rfl⟩
  have key : ∀ x v, CRel j H w (NN c j H) x v → CRel j H' w' (NN c j H') (x.frz b t l) v := by
    intro x v h
    cases x
    case full b' =>
      simp only [Cell.frz]
      by_cases e : b' = b
      · subst e
        rw [if_pos rfl]
        refine ⟨h.1, ?_⟩
        have hN : ∀ g, j.blk b' = some g → ¬ NN c j H' g := fun g hg hn => by
          rcases hn with hA | ho
          · exact hI.own_apart ⟨b', _, hb, trivial, hg⟩ hA
          · exact (hown' g ho).2 g hg rfl
        rcases h.2.2 _ _ _ hb with ⟨hj, rfl⟩ | ⟨g, cp, hj, rfl, cells, hh, hs⟩
        · rcases hI.heap _ _ hb with ⟨_, rfl⟩ | ⟨g, _, _, hg, _⟩
          · exact ⟨none, 0, rfl, Nat.le_refl _, fun q x hx => by simp at hx⟩
          · rw [hj] at hg; cases hg
        · rcases hI.heap _ _ hb with ⟨hj', _⟩ | ⟨g', cp', cells', hg, hh', hs', _, hlc, _⟩
          · rw [hj] at hj'; cases hj'
          · rw [hj] at hg; cases hg
            obtain rfl := hh.inj hh'
            have hcc : cp = cp' := by rw [hs] at hs'; exact Nat.eq_of_mul_eq_mul_right h3 hs'
            subst hcc
            have hXg : X.ownBlock = some g := by
              rcases hx.2.2 _ _ _ hb with ⟨hj2, _⟩ | ⟨g2, cp2, hj2, rfl, _⟩
              · rw [hj] at hj2; cases hj2
              · rw [hj] at hj2; cases hj2; rfl
            refine ⟨some ⟨g, 0, none⟩, cp, rfl, hlc, fun q x hxq => ?_⟩
            obtain ⟨d, h5, h6⟩ := hel q x hxq
            refine ⟨_, d, rfl, hN g hj, Nat.lt_of_lt_of_le hh.lt k3.size, RoC.mov mv.ro mv.size h5, fun p u hu => ?_⟩
            rw [Addr.add_mid, Nat.zero_add]
            exact k5 g hXg _ u (h6 p u hu)
      · rw [if_neg e]; exact CRel.mov mv h
    all_goals exact CRel.mov mv h
  have keyV : ∀ x v, V1Rel j H w (NN c j H) x v → V1Rel j H' w' (NN c j H') (x.frz b t l) v := by
    intro x v h
    cases x with
    | one x =>
      rcases h with rfl | h
      · exact .inl rfl
      · exact .inr (key x v h)
    | agg cs => obtain ⟨vs, rfl, h⟩ := h; exact ⟨vs, rfl, All2.map_left (h.imp fun _ _ => key _ _)⟩
  have hn0 := hI.n
  refine ⟨⟨by omega, fun q B hq h5 h6 => ?_, fun q B g hq h5 h6 h7 => ?_, fun q B g hq h5 h6 h7 => ?_, fun q q' B B' g h5 h5' h6 h6' h7 h7' => ?_, fun g hg hn => ?_, Nat.le_trans hI.size k3.size, k3.os.trans hI.os, k3.tape.trans hI.tape, k3.output.trans hI.output, hI.apart, hI.gl, hI.same_step mv, hI.rowsz_step mv, fun q B hq => ?_⟩, mv, key, ?_⟩
  · obtain ⟨B0, h8, h9, _, _⟩ := hget h5 h6
    exact hI.keep q B0 hq h8 h9
  · obtain ⟨B0, h8, h9, _, rfl⟩ := hget h5 h6
    exact hI.neu q B0 g hq h8 h9 ((hatf h9).1 h7)
  · obtain ⟨B0, h8, h9, _, rfl⟩ := hget h5 h6
    exact hI.own q B0 g hq h8 h9 ((hatf h9).1 h7)
  · obtain ⟨B0, h8, h9, _, rfl⟩ := hget h5 h6
    obtain ⟨B0', h8', h9', _, rfl⟩ := hget h5' h6'
    exact hI.inj q q' B0 B0' g h8 h8' h9 h9' ((hatf h9).1 h7) ((hatf h9').1 h7')
  · refine (hold g (by have := hI.size; omega) fun ⟨q, B, hq, hlv, hat⟩ => ?_).trans (hI.frame g hg hn)
    by_cases hqn : q < c.n
    · exact hn (hI.own q B g hqn hq hlv hat)
    · rcases hI.neu q B g (by omega) hq hlv hat with h5 | h5
      · omega
      · exact hn h5
  · by_cases hl : B.live
    · obtain ⟨B0, h8, h9, h10, rfl⟩ := hget hq hl
      have hB := hI.heap q B0 h8
      cases B0 with
      | dead => exact h9.elim
      | var T0 cs =>
        obtain ⟨g, vs, a1, a2, a3⟩ := hB
        exact ⟨g, vs, a1, (hold2 h8 trivial h10 a1).trans a2, All2.map_left (a3.imp fun _ _ => key _ _)⟩
      | row T0 t0 l0 => exact hB.mov mv rfl rfl fun g hg => hold2 h8 trivial h10 hg
      | clo f x1 x2 =>
        obtain ⟨a0, C1, C2, a1, a2, a3⟩ := hB
        exact ⟨a0, C1, C2, a1, All2.map_left (a2.imp fun _ _ => keyV _ _), All2.map_left (a3.imp fun _ _ => keyV _ _)⟩
      | map kt vt m0 => exact hB.mov mv rfl rfl fun g hg => hold2 h8 trivial h10 hg
      | yld f x1 d =>
        obtain ⟨g, r, a1, a2, a3, a5, a4⟩ := hB
        exact ⟨g, r, a1, (hold2 h8 trivial h10 a1).trans a2, a3, a5, All2.map_left (a4.imp fun _ _ => keyV _ _)⟩
      | chn T0 t0 l0 => exact hB.mov mv rfl rfl fun g hg => hold2 h8 trivial h10 hg
      | own T0 t0 l0 => exact hB.mov mv rfl rfl fun g hg => hold2 h8 trivial h10 hg
    · cases B <;> first | exact absurd trivial hl | trivial
  · have hN : ∀ g, V.ownBlock = some g → ¬ NN c j H' g ∧ g < w'.heap.size := by
      intro g hg
      have hin : g < w'.heap.size := by
        rcases k2.2 with ⟨rfl, _⟩ | ⟨g', cap', cur, rfl, _, hh, _⟩
        · simp [Value.ownBlock] at hg
        · simp [Value.ownBlock] at hg
          subst hg
          exact (Array.getElem?_eq_some_iff.1 hh).1
      refine ⟨fun hn => ?_, hin⟩
      rcases k4 with k4 | k4
      · rw [hg] at k4
        obtain ⟨B, h5, h6, h7⟩ := hblk g k4.symm
        rcases hn with hA | ho
        · exact hI.own_apart ⟨b, B, h5, h6, h7⟩ hA
        · rw [hb] at h5; cases h5
          exact (hown' g ho).2 g h7 rfl
      · rw [hg] at k4
        cases k4
        rcases hn with hA | ho
        · have := (hI.apart _ hA).2; have := hI.size; omega
        · have := hI.own_lt (hown' _ ho).1; omega
    refine ⟨?_, ?_⟩
    · rcases k2.2 with ⟨rfl, _⟩ | ⟨g, cap', cur, rfl, _⟩ <;> rfl
    · rcases k2.2 with ⟨rfl, hn⟩ | ⟨g, cap', cur, rfl, _, hh, hnc, hcm, hcs, htake⟩
      · have e : l ++ m = [] := List.eq_nil_of_length_eq_zero (by simpa using hn)
        rw [e]
        exact ⟨none, 0, rfl, Nat.le_refl _, fun q x hx => by simp at hx⟩
      · obtain ⟨n1, n2⟩ := hN g rfl
        refine ⟨some ⟨g, 0, none⟩, cap', by simp, by simpa using hnc, fun q x hx => ?_⟩
        have get : ∀ (q : Nat) (u : Value), (xs ++ news)[q]? = some u → w'.cell? ((⟨g, 0, none⟩ : Addr).add q) = some u := fun q u hq => by
          rw [Addr.add_mid, Nat.zero_add, cell_of_row w' g _ cur e (0, 0) hh]
          rw [← htake, List.getElem?_take] at hq
          split at hq
          · rw [← Array.getElem?_toList]; exact hq
          · cases hq
        by_cases hil : q < l.length
        · rw [List.getElem?_append_left hil] at hx
          obtain ⟨d, h5, h6⟩ := hel q x hx
          refine ⟨_, d, rfl, n1, n2, RoC.mov mv.ro mv.size h5, fun p u hp => get _ u ?_⟩
          have := h6 p u hp
          rw [List.getElem?_append_left (get_lt this)]
          exact this
        · rw [List.getElem?_append_right (by omega)] at hx
          obtain ⟨d, h5, h6⟩ := hnew _ x hx
          refine ⟨_, d, rfl, n1, n2, RoC.mov mv.ro mv.size h5, fun p u hp => get _ u ?_⟩
          have hle : l.length * t.sz ≤ q * t.sz := Nat.mul_le_mul_right _ (by omega)
          rw [List.getElem?_append_right (by omega), hxs]
          have := h6 p u hp
          rw [Nat.sub_mul] at this
          rw [show q * t.sz + p - l.length * t.sz = q * t.sz - l.length * t.sz + p by omega]
          exact this
end
end Go.Proofs.YtcdnofemnpafhaaM

/- Rows whose elements have rows of their own: how they are made, and grow. Conditions: none. -/
namespace Go.Proofs.YtcdnofemnpafhaaM
set_option linter.unusedVariables false
set_option linter.unusedSimpArgs false
set_option linter.unnecessarySimpa false
set_option linter.unusedSectionVars false
open Go

section
variable {P : Program} {c : Cx} {j : J} {H : List Blk} {w : World} {R : Type} {f : AV → List Blk → Option R} {r : R} {env : List AV} {a : Act}

theorem roc_plain {N : Nat → Prop} : ∀ {t : Ty} {x : t.den} {cs : List Value}, t.noRo = true → RoC w N t x cs → cs = valT t x
  | .int _, _, _, _, h => h
  | .bool, _, _, _, h => h
  | .str, _, _, _, h => h
  | .unit, _, _, _, h => h
  | .pair a b, _, _, hn, h => by
    simp only [Ty.noRo, Bool.and_eq_true] at hn
    obtain ⟨c1, c2, rfl, h1, h2⟩ := h
    rw [roc_plain hn.1 h1, roc_plain hn.2 h2]; rfl
  | .ro _, _, _, hn, _ => by simp [Ty.noRo] at hn

theorem ow_len {p : Option Nat} : ∀ {t : Ty} {x : t.den} {cs : List Value}, t.own = true → OwC w t x p cs → cs.length = t.sz
  | .ro _, _, _, _, h => by obtain ⟨_, _, rfl, _⟩ := h; rfl
  | .pair a b, x, _, ho, h => by
    simp only [Ty.own, Bool.and_eq_true] at ho
    obtain ⟨c2, rfl, h2⟩ := h
    rw [List.length_append, valT_len x.1 ho.1, ow_len ho.2 h2]; rfl
  | .int _, _, _, _, h => h.elim
  | .bool, _, _, _, h => h.elim
  | .str, _, _, _, h => h.elim
  | .unit, _, _, _, h => h.elim
theorem ow_one {p : Option Nat} : ∀ {t : Ty} {x : t.den} {cs : List Value}, t.own = true → OwC w t x p cs → ∀ u ∈ cs, u.oneCell' = true
  | .ro _, _, _, _, h => by obtain ⟨_, _, rfl, _⟩ := h; intro u hu; simp at hu; subst hu; rfl
  | .pair a b, x, _, ho, h => by
    simp only [Ty.own, Bool.and_eq_true] at ho
    obtain ⟨c2, rfl, h2⟩ := h
    intro u hu
    rcases List.mem_append.1 hu with hu | hu
    · exact (roc_val (w := w) (N := fun _ => False) x.1 ho.1).one u hu
    · exact ow_one ho.2 h2 u hu
  | .int _, _, _, _, h => h.elim
  | .bool, _, _, _, h => h.elim
  | .str, _, _, _, h => h.elim
  | .unit, _, _, _, h => h.elim
theorem own_pos : ∀ {t : Ty}, t.own = true → 0 < t.sz
  | .ro _, _ => Nat.one_pos
  | .pair a b, ho => by
    simp only [Ty.own, Bool.and_eq_true] at ho
    have := own_pos ho.2
    simp only [Ty.sz]; omega
  | .int _, h => by simp [Ty.own] at h
  | .bool, h => by simp [Ty.own] at h
  | .str, h => by simp [Ty.own] at h
  | .unit, h => by simp [Ty.own] at h

theorem decO_rel (hI : Inv P c j H w) : ∀ {t : Ty} {cs : List Cell} {x : t.den} {ob : Option Nat} {vs : List Value}, t.own = true → decO H t cs = some (x, ob) → All2 (CRel j H w (NN c j H)) cs vs →
    ∃ p, OwC w t x p vs ∧ ∀ g, p = some g → ∃ b U u m, ob = some b ∧ H[b]? = some (.row U u m) ∧ j.blk b = some g
  | .ro u, cs, x, ob, vs, ho, hd, h => by
    simp only [Ty.own, Bool.and_eq_true, decide_eq_true_eq] at ho
    rcases cs with _ | ⟨a, cs⟩
    · simp [decO] at hd
    · rcases cs with _ | ⟨a2, cs⟩
      · obtain ⟨V, m, rfl, hV, hm⟩ := h.cons_left
        obtain rfl := hm.nil_left
        cases a <;> simp only [decO] at hd <;> (first | (cases hd; done) | skip)
        case nils =>
          cases hd
          obtain ⟨_, rfl⟩ := hV
          exact ⟨none, ⟨none, 0, rfl, Nat.le_refl _, fun h => absurd rfl h⟩, fun g hg => by cases hg⟩
        case full b =>
          split at hd
          · rename_i T t' l hb
            split at hd
            · rename_i ht
              subst ht
              cases hd
              rcases hV.2.2 _ _ _ hb with ⟨hj, rfl⟩ | ⟨g, cap, hj, rfl, cells, hh, hs⟩
              · rcases hI.heap b _ hb with ⟨_, rfl⟩ | ⟨g, _, _, hg, _⟩
                · exact ⟨none, ⟨none, 0, rfl, Nat.le_refl _, fun h => absurd rfl h⟩, fun g hg => by cases hg⟩
                · rw [hj] at hg; cases hg
              · rcases hI.heap b _ hb with ⟨hj', _⟩ | ⟨g', cap', cells', hg, hh', hs', hz, hlc, _, hq⟩
                · rw [hj] at hj'; cases hj'
                · rw [hj] at hg; cases hg
                  obtain rfl := hh.inj hh'
                  have hcc : cap = cap' := by rw [hs] at hs'; exact Nat.eq_of_mul_eq_mul_right hz hs'
                  subst hcc
                  refine ⟨some g, ⟨_, cap, rfl, hlc, fun _ => ⟨g, cells, T, rfl, rfl, hh, by rw [hs]; exact Nat.mul_le_mul_right _ hlc, fun k y hy q v hv => ?_⟩⟩, fun g' hg' => by cases hg'; exact ⟨b, T, _, _, rfl, hb, hj⟩⟩
                  obtain ⟨d, h5, h6⟩ := hq k y hy
                  rw [roc_plain ho.1 h5] at h6
                  exact h6 q v hv
            · cases hd
          · cases hd
      · cases a <;> simp [decO] at hd
  | .pair a d, cs, x, ob, vs, ho, hd, h => by
    simp only [Ty.own, Bool.and_eq_true] at ho
    simp only [decO] at hd
    split at hd
    · rename_i y r1 H1 hdec
      split at hd
      · rename_i z b hz
        cases hd
        obtain ⟨v2, rfl, h2⟩ := dec_plain1 ho.1 hdec h
        obtain ⟨p, h3, h4⟩ := decO_rel hI ho.2 hz h2
        exact ⟨p, ⟨v2, rfl, h3⟩, h4⟩
      · cases hd
    · cases hd
  | .int _, _, _, _, _, ho, _, _ => by simp [Ty.own] at ho
  | .bool, _, _, _, _, ho, _, _ => by simp [Ty.own] at ho
  | .str, _, _, _, _, ho, _, _ => by simp [Ty.own] at ho
  | .unit, _, _, _, _, ho, _, _ => by simp [Ty.own] at ho

theorem bldO_sound (hI : Inv P c j H w) (he : ERel c j H w (NN c j H) env a) {o : Oper} {T : TypeId} {parts : Array (Nat × Operand)} (ho : o.op = .buildSlice T 1 parts) (h : bldO P T parts env H f = some r) : Out P c j H w f r ((execOp a.eval o).run P w) := by
  unfold bldO at h
  split at h
  · rename_i e hu
    split at h
    · rename_i t z ps ht hz hps
      split at h
      · rename_i hb
        split at h
        · rename_i cs hcs
          split at h
          · rename_i x ob hd
            obtain ⟨b1, b2, b3⟩ := hb
            obtain ⟨i, zv, hi, hzv, hzr⟩ := zero_rel (j := j) (H := H) (w := w) hz (NN c j H)
            have hp := partsOf_rel he hps
            have hsz := tyOfT_sz ht
            have hsz' : i.size = t.sz := by simpa [infoSz, hi] using hsz
            have hpos := own_pos b1
            have hzc : zv.cells.size = t.sz := by have := hzr.1; simp at this; omega
            have hbase : All2 (CRel j H w (NN c j H)) z (madeCells zv.cells (1 * t.sz)).toList := by
              rw [made_flat hzc hpos]
              have := all2_flat hzr 1
              simpa using this
            obtain ⟨cells, hf1, hr1⟩ := fill_rel hcs hbase hp
            obtain ⟨p, ho1, hp1⟩ := decO_rel hI b1 hd hr1
            have hcsz : cells.size = t.sz := by have := ow_len b1 ho1; simpa using this
            have hcc : P.cellsOf e = t.sz := by simp [Program.cellsOf, hi, hsz']
            have hf2 : Instr.fill (fun (i : Nat) => some (i * P.cellsOf e, P.cellsOf e)) ((Array.range (1 * P.cellsOf e)).map (zv.cells[· % zv.cells.size]!)) (List.map (fun x => (x.fst, a.eval x.snd)) parts.toList) = some cells := by rw [hcc]; exact hf1
            have e0 : (execOp a.eval o).run P w = .ok (.value (.slice (some ⟨w.heap.size, 0, none⟩) 1 1)) (w.alloc (.cells cells e)) := by
              have hlim : ¬ (1 * P.cellsOf e > 16777216) := by rw [hcc]; omega
              have hn0 : ¬ (1 * P.cellsOf e = 0) := by rw [hcc]; omega
              simp only [execOp, ho, Instr.buildSlice]
              rw [Nat.one_mul] at hf2 hlim hn0
              simp [run_underlying hu, run_sizeOf w hi, hlim, hn0, zeroValue, typeInfo, hi, hzv, hf2, newRow]
            have hset : ∀ q : Nat, (killO H ob)[q]? = H[q]? ∨ ((killO H ob)[q]? = some .dead ∧ ob = some q) := by
              intro q
              cases ob with
              | none => exact .inl rfl
              | some b =>
                show (H.set b .dead)[q]? = _ ∨ _
                rw [List.getElem?_set]
                by_cases e : b = q
                · subst e
                  rw [if_pos rfl]
                  split
                  · rename_i hlt
                    exact .inr ⟨by show (H.set b .dead)[b]? = some .dead; rw [List.getElem?_set_self hlt], rfl⟩
                  · rename_i hq; exact .inl (by rw [List.getElem?_eq_none (by omega)])
                · rw [if_neg e]; exact .inl rfl
            have hlen : (killO H ob).length = H.length := by cases ob <;> simp [killO]
            generalize hH1 : (killO H ob) = H1 at hset hlen h
            have hdead : ∀ b, ob = some b → b < H.length → H1[b]? = some .dead := by
              rintro b rfl hlt
              rw [← hH1]; simp [killO, hlt]
            have hmem : ∀ g, g < w.heap.size → (w.alloc (.cells cells e)).heap[g]? = w.heap[g]? := fun g hg => RowKit.Below.heap_alloc w _ g hg
            have hplt : ∀ g, p = some g → g < w.heap.size := fun g hg => by
              obtain ⟨b, U, u, m, _, h5, h6⟩ := hp1 g hg
              exact hI.own_lt ⟨b, _, h5, trivial, h6⟩
            have fin : (Inv P c (j.at H.length (some w.heap.size) (owV 1 [p])) (H1 ++ [.own e t [x]]) (w.alloc (.cells cells e)) ∧ Mov j H w (NN c j H) (j.at H.length (some w.heap.size) (owV 1 [p])) (H1 ++ [.own e t [x]]) (w.alloc (.cells cells e)) (NN c (j.at H.length (some w.heap.size) (owV 1 [p])) (H1 ++ [.own e t [x]]))) → Out P c j H w f r ((execOp a.eval o).run P w) := fun ⟨m1, m2⟩ => by
              refine Out.val e0 h m1 m2 (val_rel ⟨rfl, by simp [hlen], fun T' t' l' hb' => .inr ⟨_, J.at_eq.1, ?_⟩⟩)
              rw [List.getElem?_append_right (by omega), hlen] at hb'
              simp at hb'
              obtain ⟨rfl, rfl, hb'⟩ := hb'
              cases hb'
              rw [J.at_eq.2, owCap_owV]; rfl
            refine fin (hI.chg (H' := H1 ++ [.own e t [x]]) (B' := .own e t [x]) (r := some w.heap.size) (v := owV 1 [p]) (w' := w.alloc (.cells cells e)) (by simp [hlen]) (by rw [List.getElem?_append_right (by omega), hlen]; simp) (fun g hg => ?_) (by simp) rfl rfl rfl (fun g hg _ => hmem g hg)
              (fun q T' t' l' g cs' hq hl hj hc => ⟨cs', Cls.of_eq (hmem g hc.lt) hc, rfl⟩) (fun q hq => ⟨_, List.getElem?_eq_getElem (by simp; omega)⟩) (fun q B1 hq h1 hl => ?_) (fun m => ?_))
            · rcases hg with hg | ⟨k, hk⟩
              · cases hg; exact .inl (Nat.le_refl _)
              · rw [owOf_owV] at hk
                cases k with
                | zero =>
                  simp at hk
                  obtain ⟨b, U, u, m, h4, h5, h6⟩ := hp1 g hk
                  refine .inr ⟨b, _, h5, trivial, h6, fun B1 hB1 hl1 => ?_⟩
                  rw [List.getElem?_append_left (by rw [hlen]; exact get_lt h5), hdead b h4 (get_lt h5)] at hB1
                  cases hB1
                  exact hl1
                | succ k => simp at hk
            · rw [List.getElem?_append_left (by omega)] at h1
              rcases hset q with h5 | ⟨h5, _⟩
              · rw [h5] at h1
                exact ⟨B1, h1, Blk.same_refl hl, .inl ⟨rfl, fun g hg => hmem g (hI.own_lt ⟨q, B1, h1, hl, hg⟩)⟩⟩
              · rw [h5] at h1; cases h1; exact hl.elim
            · show _ ∧ _ ∧ _ ∧ _
              rw [J.at_eq.1, J.at_eq.2, owOf_owV, owCap_owV]
              refine ⟨b1, rfl, fun i k p' hi' hk' => ?_, .inr ⟨w.heap.size, cells, rfl, alloc_new, by rw [hcsz, Nat.one_mul], Nat.le_refl _, by unfold maxLen; omega, fun i p' hi' => ?_, fun i x' p' hx' hp' => ?_⟩⟩
              · have := get_lt hi'; have := get_lt hk'; simp at *; omega
              · cases i with
                | zero =>
                  simp at hi'
                  have := hplt p' hi'
                  obtain ⟨b, U, u, m0, _, h5, h6⟩ := hp1 p' hi'
                  refine ⟨by omega, ?_⟩
                  rcases hI.heap b _ h5 with ⟨h7, _⟩ | ⟨g1, _, cells1, h7, h8, _⟩
                  · rw [h6] at h7; cases h7
                  · rw [h6] at h7; cases h7
                    exact ⟨_, _, Cls.of_eq (hmem p' this) h8⟩
                | succ i => simp at hi'
              · cases i with
                | zero =>
                  simp at hx' hp'
                  subst hx'; subst hp'
                  rw [Nat.zero_mul, List.drop_zero, List.take_of_length_le (by simp [hcsz])]
                  exact OwC.mov (fun g hg => hmem g (hplt g hg)) ho1
                | succ i => simp at hx'
          · cases h
        · cases h
      · cases h
    · cases h
  · cases h

theorem own_cells (hI : Inv P c j H w) {b : Nat} {e : TypeId} {t : Ty} {l : List t.den} (hb : H[b]? = some (.own e t l)) {X : Value} (hx : CRel j H w (NN c j H) (.ofull b) X) :
    ∃ xs : List Value, w.ownsRow 0 e t.sz X l.length xs ∧ (∀ u ∈ xs, u.oneCell' = true) ∧ (∀ (i : Nat) (x : t.den) (p : Option Nat), l[i]? = some x → (owOf (j.cv b))[i]? = some p → OwC w t x p ((xs.drop (i * t.sz)).take t.sz)) ∧
      (∀ g, X.ownBlock = some g → j.blk b = some g) ∧ (∀ (i p : Nat), (owOf (j.cv b))[i]? = some (some p) → (∃ arr U, Cls w p arr U) ∧ X.ownBlock ≠ some p) ∧ (owOf (j.cv b)).length = l.length := by
  obtain ⟨ho, hol, hinj, h4⟩ := hI.heap b _ hb
  rcases hx.2.2 _ _ _ hb with ⟨hj, rfl⟩ | ⟨g, hj, rfl⟩
  · rcases h4 with ⟨_, rfl⟩ | ⟨g, _, hg, _⟩
    · refine ⟨[], ⟨by simp, .inl ⟨rfl, rfl⟩⟩, by simp, by simp, by simp [Value.ownBlock], fun i p hp => ?_, hol⟩
      rw [List.eq_nil_of_length_eq_zero hol] at hp; simp at hp
    · rw [hj] at hg; cases hg
  · rcases h4 with ⟨hg, _⟩ | ⟨g', cells, hg, k2, k3, k4, k5, k6, k7⟩
    · rw [hj] at hg; cases hg
    · rw [hj] at hg; cases hg
      have hmul : l.length * t.sz ≤ owCap (j.cv b) * t.sz := Nat.mul_le_mul_right _ k4
      have hsl : ∀ i, i < l.length → ((cells.toList.take (l.length * t.sz)).drop (i * t.sz)).take t.sz = (cells.toList.drop (i * t.sz)).take t.sz := by
        intro i hi
        have : i * t.sz + t.sz ≤ l.length * t.sz := by rw [← Nat.succ_mul]; exact Nat.mul_le_mul_right _ (by omega)
        apply List.ext_getElem?
        intro q
        rw [List.getElem?_take, List.getElem?_take]
        by_cases hq : q < t.sz
        · rw [if_pos hq, if_pos hq, List.getElem?_drop, List.getElem?_drop, List.getElem?_take, if_pos (by omega)]
        · rw [if_neg hq, if_neg hq]
      refine ⟨cells.toList.take (l.length * t.sz), ⟨by simp; omega, .inr ⟨g, _, cells, rfl, Nat.zero_le _, k2, k4, k5, k3, rfl⟩⟩, fun u hu => ?_, fun i x p hx hp => by rw [hsl i (get_lt hx)]; exact k7 i x p hx hp, fun g1 hg1 => by simp [Value.ownBlock] at hg1; subst hg1; exact hj, fun i p hp => ⟨(k6 i p hp).2, fun e => (k6 i p hp).1 (by simp [Value.ownBlock] at e; exact e.symm)⟩, hol⟩
      obtain ⟨q, hq⟩ := List.getElem?_of_mem hu
      have hpos := own_pos ho
      have hqlt := get_lt hq
      simp at hqlt
      have hi : q / t.sz < l.length := (Nat.div_lt_iff_lt_mul hpos).2 (by omega)
      have hel := k7 (q / t.sz) _ _ (List.getElem?_eq_getElem hi) (List.getElem?_eq_getElem (by omega))
      refine ow_one ho hel u ?_
      rw [← hsl _ hi]
      have hmod := Nat.mod_lt q hpos
      have hdm := Nat.div_add_mod q t.sz
      refine List.mem_of_getElem? (i := q % t.sz) ?_
      rw [List.getElem?_take, if_pos hmod, List.getElem?_drop, show q / t.sz * t.sz + q % t.sz = q by rw [Nat.mul_comm]; exact hdm]
      exact hq

def capOfV : Value → Nat
  | .slice _ _ cap => cap
  | _ => 0
theorem appO_core (hI : Inv P c j H w) {H1 : List Blk} {T e ty : TypeId} {t : Ty} {i : TypeInfo} {l m : List t.den} {X Y : Value} {xs ys : List Value} {ps qs : List (Option Nat)} (hu : P.underlying T = some (.slice e)) (ht : tyOfT P e = some t) (hi : P.info? e = some i)
    (hown : t.own = true) (h4 : i.zero.map (·.cells.size) = some t.sz) (h1 : (l.length + m.length) * i.bytes ≤ 140737488355328) (h2 : l.length + m.length ≤ 9223372036854775807)
    (hx : w.ownsRow 0 e t.sz X l.length xs) (hy : w.ownsRow 0 e t.sz Y m.length ys) (hone : ∀ u ∈ ys, u.oneCell' = true)
    (hxe : ∀ (i : Nat) (x : t.den) (p : Option Nat), l[i]? = some x → ps[i]? = some p → OwC w t x p ((xs.drop (i * t.sz)).take t.sz)) (hye : ∀ (i : Nat) (x : t.den) (p : Option Nat), m[i]? = some x → qs[i]? = some p → OwC w t x p ((ys.drop (i * t.sz)).take t.sz))
    (hpl : ps.length = l.length) (hql : qs.length = m.length) (hinj : ∀ (i k p : Nat), (ps ++ qs)[i]? = some (some p) → (ps ++ qs)[k]? = some (some p) → i = k)
    (hpq : ∀ (i p : Nat), (ps ++ qs)[i]? = some (some p) → (∃ arr U, Cls w p arr U) ∧ X.ownBlock ≠ some p ∧ ∃ b0 B0, H[b0]? = some B0 ∧ B0.live ∧ At j b0 B0 p ∧ H1[b0]? = some .dead)
    (hX : ∀ g, X.ownBlock = some g → ∃ b0 B0, H[b0]? = some B0 ∧ B0.live ∧ At j b0 B0 g ∧ H1[b0]? = some .dead)
    (hk : ∀ q : Nat, H1[q]? = H[q]? ∨ H1[q]? = some .dead) (hlen : H1.length = H.length)
    (hf : f (cellV (.ofull H.length)) (H1 ++ [.own e t (l ++ m)]) = some r) :
    ∃ V w', (Builtin.append_ #[T, T] ty #[X, Y]).run P w = .ok V w' ∧ ∃ av H' j', f av H' = some r ∧ Inv P c j' H' w' ∧ Mov j H w (NN c j H) j' H' w' (NN c j' H') ∧ AVRel j' H' w' (NN c j' H') av V := by
  have hsz := tyOfT_sz ht
  have hsz' : i.size = t.sz := by simpa [infoSz, hi] using hsz
  have h3 := own_pos hown
  obtain ⟨z, hz, hzs⟩ := Option.map_eq_some_iff.1 h4
  have main : ∃ V w', (Builtin.append_ #[T, T] ty #[X, Y]).run P w = .ok V w' ∧ w'.ownsRow 0 e t.sz V (l.length + m.length) (xs ++ ys) ∧ w.grownBy w' X.ownBlock ∧ (V.ownBlock = X.ownBlock ∨ V.ownBlock = some w.heap.size) := by
    rcases hy.2 with ⟨rfl, hm0⟩ | ⟨gy, capy, cury, rfl, _, hhy, _, _, _, htk⟩
    · have hys : ys = [] := List.eq_nil_of_length_eq_zero (by rw [hy.1, hm0]; simp)
      subst hys
      rw [hm0]
      refine ⟨X, w, ?_, by simpa using hx, World.grownBy.refl _ _, .inl rfl⟩
      rcases hx.2 with ⟨rfl, hl0⟩ | ⟨g, cap', cur, rfl, _, _, hnc, _⟩
      · simp [Builtin.append_, run_underlying hu, sizeOf, typeInfo, hi, Builtin.lenOf, Builtin.firstCells]
      · simp [Builtin.append_, run_underlying hu, sizeOf, typeInfo, hi, Builtin.lenOf, Builtin.firstCells, hnc, storeCells]
    · obtain ⟨V, w', k1, k2, k3, _, k4⟩ := run_append_own_at (P := P) w 0 T ty e i z t.sz i.bytes hu hi hz hsz' rfl hzs h3 X l.length xs hx ⟨gy, 0, none⟩ m.length capy ys hy.1 (hy.cells (g := gy) rfl) hone (by unfold maxLen; omega) h1 (Nat.zero_le _)
      exact ⟨V, w', k1, k2, k3, k4⟩
  obtain ⟨V, w', k1, k2, k3, k4⟩ := main
  refine ⟨V, w', k1, ?_⟩
  have hxs : xs.length = l.length * t.sz := hx.1
  have hlive : ∀ {q : Nat} {B1 : Blk}, q < H.length → (H1 ++ [.own e t (l ++ m)])[q]? = some B1 → B1.live → H[q]? = some B1 ∧ H1[q]? = some B1 := by
    intro q B1 hq h5 hl
    rw [List.getElem?_append_left (by omega)] at h5
    rcases hk q with h6 | h6
    · exact ⟨by rw [← h6]; exact h5, h5⟩
    · rw [h6] at h5; cases h5; exact hl.elim
  have hfar : ∀ {q g : Nat} {B1 : Blk}, H[q]? = some B1 → B1.live → H1[q]? = some B1 → At j q B1 g → w'.heap[g]? = w.heap[g]? := by
    intro q g B1 h5 hl h6 hat
    refine k3.block g (hI.own_lt ⟨q, B1, h5, hl, hat⟩) fun e => ?_
    obtain ⟨b0, B0, h7, h8, h9, h10⟩ := hX g e.symm
    have := hI.inj q b0 B1 B0 g h5 h7 hl h8 hat h9
    subst this
    rw [h6] at h10; cases h10; exact hl
  have hdeadA : ∀ {b0 : Nat} {B0 : Blk}, H[b0]? = some B0 → H1[b0]? = some .dead → ∀ B1, (H1 ++ [.own e t (l ++ m)])[b0]? = some B1 → ¬ B1.live := by
    intro b0 B0 h5 h6 B1 h7 hl
    rw [List.getElem?_append_left (by rw [hlen]; exact get_lt h5), h6] at h7
    cases h7; exact hl
  have hin : ∀ (i p : Nat), (ps ++ qs)[i]? = some (some p) → w'.heap[p]? = w.heap[p]? := fun i p hp => by
    obtain ⟨h5, h6, _⟩ := hpq i p hp
    obtain ⟨_, _, h5⟩ := h5
    exact k3.block p h5.lt fun e => h6 e.symm
  have hVg : ∀ g, V.ownBlock = some g → X.ownBlock = some g ∨ g = w.heap.size := fun g hg => by
    rcases k4 with k4 | k4
    · exact .inl (by rw [← k4]; exact hg)
    · rw [hg] at k4; cases k4; exact .inr rfl
  have fin : (Inv P c (j.at H.length V.ownBlock (owV (capOfV V) (ps ++ qs))) (H1 ++ [.own e t (l ++ m)]) w' ∧ Mov j H w (NN c j H) (j.at H.length V.ownBlock (owV (capOfV V) (ps ++ qs))) (H1 ++ [.own e t (l ++ m)]) w' (NN c (j.at H.length V.ownBlock (owV (capOfV V) (ps ++ qs))) (H1 ++ [.own e t (l ++ m)]))) → ∃ av H' j', f av H' = some r ∧ Inv P c j' H' w' ∧ Mov j H w (NN c j H) j' H' w' (NN c j' H') ∧ AVRel j' H' w' (NN c j' H') av V := fun ⟨m1, m2⟩ => by
    refine ⟨_, _, _, hf, m1, m2, val_rel ⟨?_, by simp [hlen], fun T' t' l' hb' => ?_⟩⟩
    · rcases k2.2 with ⟨rfl, _⟩ | ⟨g, cap', cur, rfl, _⟩ <;> rfl
    · rw [List.getElem?_append_right (by omega), hlen] at hb'
      simp at hb'
      obtain ⟨rfl, rfl, hb'⟩ := hb'
      cases hb'
      rw [J.at_eq.1, J.at_eq.2, owCap_owV]
      rcases k2.2 with ⟨hVe, _⟩ | ⟨g, cap', cur, hVe, _⟩
      · exact .inl ⟨by rw [hVe]; rfl, hVe⟩
      · exact .inr ⟨g, by rw [hVe]; rfl, by simp [capOfV, hVe]⟩
  refine fin (hI.chg (H' := H1 ++ [.own e t (l ++ m)]) (B' := .own e t (l ++ m)) (r := V.ownBlock) (v := owV (capOfV V) (ps ++ qs)) (w' := w') (by simp [hlen]) (by rw [List.getElem?_append_right (by omega), hlen]; simp) (fun g hg => ?_) k3.size k3.os k3.tape k3.output
    (fun g hg hn => k3.block g hg fun e => by
      obtain ⟨b0, B0, h7, h8, h9, _⟩ := hX g e.symm
      exact hn ⟨b0, B0, h7, h8, h9⟩)
    (fun q T' t' l' g cs' hq hl hj hc => by
      obtain ⟨h5, h6⟩ := hlive hq hl trivial
      exact ⟨cs', Cls.of_eq (hfar h5 trivial h6 hj) hc, rfl⟩) (fun q hq => ⟨_, List.getElem?_eq_getElem (by simp; omega)⟩) (fun q B1 hq h5 hl => by
      obtain ⟨h6, h7⟩ := hlive hq h5 hl
      exact ⟨B1, h6, Blk.same_refl hl, .inl ⟨rfl, fun g hg => hfar h6 hl h7 hg⟩⟩) (fun mv => ?_))
  · rcases hg with hg | ⟨q, hq⟩
    · rcases hVg g hg with h5 | h5
      · obtain ⟨b0, B0, h7, h8, h9, h10⟩ := hX g h5
        exact .inr ⟨b0, B0, h7, h8, h9, hdeadA h7 h10⟩
      · exact .inl (by omega)
    · rw [owOf_owV] at hq
      obtain ⟨_, _, b0, B0, h7, h8, h9, h10⟩ := hpq q g hq
      exact .inr ⟨b0, B0, h7, h8, h9, hdeadA h7 h10⟩
  · show _ ∧ _ ∧ _ ∧ _
    rw [J.at_eq.1, J.at_eq.2, owOf_owV, owCap_owV]
    refine ⟨hown, by simp [hpl, hql], hinj, ?_⟩
    rcases k2.2 with ⟨hVe, hn⟩ | ⟨g, cap', cur, hVe, _, hh, hnc, hcm, hcs, htake⟩
    · exact .inl ⟨by rw [hVe]; rfl, List.eq_nil_of_length_eq_zero (by simpa using hn)⟩
    · have hcapV : capOfV V = cap' := by rw [hVe]; rfl
      have hVo : V.ownBlock = some g := by rw [hVe]; rfl
      refine .inr ⟨g, cur, hVo, hh, by rw [hcapV]; exact hcs, by rw [hcapV]; simpa using hnc, by rw [hcapV]; exact hcm, fun q p hp => ?_, fun q x p hx hp => ?_⟩
      · obtain ⟨h5, h6, _⟩ := hpq q p hp
        refine ⟨?_, h5.imp fun _ h => h.imp fun _ h => Cls.of_eq (hin q p hp) h⟩
        rintro rfl
        rcases hVg p hVo with h7 | h7
        · exact h6 h7
        · obtain ⟨_, _, h5⟩ := h5
          have := h5.lt; omega
      · have hmov : ∀ g1, p = some g1 → w'.heap[g1]? = w.heap[g1]? := fun g1 hg1 => hin q g1 (by rw [hp, hg1])
        have hqlt : q < l.length + m.length := by simpa using get_lt hx
        have hfit : q * t.sz + t.sz ≤ (l.length + m.length) * t.sz := by rw [← Nat.succ_mul]; exact Nat.mul_le_mul_right _ (by omega)
        have hcur : (cur.toList.drop (q * t.sz)).take t.sz = ((xs ++ ys).drop (q * t.sz)).take t.sz := by
          rw [← htake]
          apply List.ext_getElem?
          intro s
          rw [List.getElem?_take, List.getElem?_take]
          by_cases hs : s < t.sz
          · rw [if_pos hs, if_pos hs, List.getElem?_drop, List.getElem?_drop, List.getElem?_take, if_pos (by omega)]
          · rw [if_neg hs, if_neg hs]
        rw [hcur]
        by_cases hql' : q < l.length
        · rw [List.getElem?_append_left hql'] at hx
          rw [List.getElem?_append_left (by omega)] at hp
          have hfl : q * t.sz + t.sz ≤ xs.length := by rw [hxs, ← Nat.succ_mul]; exact Nat.mul_le_mul_right _ (by omega)
          have e1 : ((xs ++ ys).drop (q * t.sz)).take t.sz = (xs.drop (q * t.sz)).take t.sz := by
            rw [List.drop_append_of_le_length (by omega), List.take_append_of_le_length (by rw [List.length_drop]; omega)]
          rw [e1]
          exact OwC.mov hmov (hxe q x p hx hp)
        · rw [List.getElem?_append_right (by omega)] at hx
          rw [List.getElem?_append_right (by omega), hpl] at hp
          have hle : xs.length ≤ q * t.sz := by rw [hxs]; exact Nat.mul_le_mul_right _ (by omega)
          have e1 : ((xs ++ ys).drop (q * t.sz)).take t.sz = (ys.drop ((q - l.length) * t.sz)).take t.sz := by
            rw [List.drop_append, List.drop_of_length_le hle, List.nil_append, hxs, Nat.sub_mul]
          rw [e1]
          exact OwC.mov hmov (hye (q - l.length) x p hx hp)

theorem appO_sound (hI : Inv P c j H w) {ts : Array TypeId} {T T' ty : TypeId} {x : Cell} {d : Nat} {X Y : Value} (hT : ts[0]? = some T) (hT' : ts[1]? = some T') (hx : V1Rel j H w (NN c j H) (.one x) X) (hy : CRel j H w (NN c j H) (.ofull d) Y) (h : appO P T T' x d H f = some r) :
    ∃ V w', (Builtin.append_ ts ty #[X, Y]).run P w = .ok V w' ∧ ∃ av H' j', f av H' = some r ∧ Inv P c j' H' w' ∧ Mov j H w (NN c j H) j' H' w' (NN c j' H') ∧ AVRel j' H' w' (NN c j' H') av V := by
  unfold appO at h
  split at h
  · rename_i e e1 e' t m hu hu' hd
    split at h
    · rename_i t' i ht hi
      split at h
      · rename_i hst
        obtain ⟨rfl, rfl, c4, rfl, c5⟩ := hst
        have hap : ∀ V w', (Builtin.append_ #[T', T'] ty #[X, Y]).run P w = .ok V w' → (Builtin.append_ ts ty #[X, Y]).run P w = .ok V w' := by
          intro V w' k1
          rw [← k1]
          simp [Builtin.append_, hT, hT']
        have hown : t'.own = true := (hI.heap d _ hd).1
        obtain ⟨ys, y1, y2, y3, y4, y5, y6⟩ := own_cells hI hd hy
        have hdlt := get_lt hd
        have hinjd := (hI.heap d _ hd).2.2.1
        split at h
        · split at h
          · rename_i c1
            obtain ⟨_, rfl⟩ := rel_one hx (by simp)
            have c2 : m.length ≤ 9223372036854775807 := by
              have := Nat.le_mul_of_pos_right m.length c5
              omega
            obtain ⟨V, w', k1, k2⟩ := appO_core (ty := ty) hI (H1 := H.set d .dead) (l := []) (m := m) (xs := []) (ys := ys) (ps := []) (qs := owOf (j.cv d)) (X := .slice none 0 0) hu ht hi hown c4 (by simpa using c1) (by simpa using c2) ⟨by simp, .inl ⟨rfl, rfl⟩⟩ y1 y2 (by simp) y3 rfl y6 (by simpa using hinjd)
              (fun q p hp => by
                rw [List.nil_append] at hp
                exact ⟨(y5 q p hp).1, by simp [Value.ownBlock], d, _, hd, trivial, .inr ⟨q, hp⟩, by rw [List.getElem?_set_self hdlt]⟩)
              (fun g hg => by simp [Value.ownBlock] at hg) (fun q => by
                rw [List.getElem?_set]
                by_cases e : d = q
                · subst e; rw [if_pos rfl, if_pos hdlt]; exact .inr rfl
                · rw [if_neg e]; exact .inl rfl) (by simp) (by simpa using h)
            exact ⟨V, w', hap V w' k1, k2⟩
          · cases h
        · rename_i b
          split at h
          · cases h
          · rename_i hbd
            split at h
            · rename_i e2 t2 l hb
              split at h
              · rename_i he
                subst he
                split at h
                · rename_i ht2
                  subst ht2
                  split at h
                  · rename_i c1
                    obtain ⟨xs, x1, x2, x3, x4, x5, x6⟩ := own_cells hI hb (rel_one hx (by simp))
                    have hblt := get_lt hb
                    have hinjb := (hI.heap b _ hb).2.2.1
                    have c2 : l.length + m.length ≤ 9223372036854775807 := by
                      have := Nat.le_mul_of_pos_right (l.length + m.length) c5
                      omega
                    have hdd : ∀ q : Nat, q = b ∨ q = d → ((H.set d .dead).set b .dead)[q]? = some .dead := by
                      intro q hq
                      rw [List.getElem?_set]
                      by_cases e : b = q
                      · rw [if_pos e, if_pos (by simp only [List.length_set]; omega)]
                      · rw [if_neg e]
                        have : q = d := by omega
                        subst this
                        rw [List.getElem?_set_self hdlt]
                    obtain ⟨V, w', k1, k2⟩ := appO_core (ty := ty) hI (H1 := (H.set d .dead).set b .dead) (l := l) (m := m) (xs := xs) (ys := ys) (ps := owOf (j.cv b)) (qs := owOf (j.cv d)) hu ht hi hown c4 c1 c2 x1 y1 y2 x3 y3 x6 y6
                      (fun q k p hq hk => by
                        by_cases h5 : q < (owOf (j.cv b)).length <;> by_cases h6 : k < (owOf (j.cv b)).length
                        · rw [List.getElem?_append_left h5] at hq; rw [List.getElem?_append_left h6] at hk
                          exact hinjb q k p hq hk
                        · rw [List.getElem?_append_left h5] at hq; rw [List.getElem?_append_right (by omega)] at hk
                          exact absurd (hI.inj b d _ _ p hb hd trivial trivial (.inr ⟨_, hq⟩) (.inr ⟨_, hk⟩)) hbd
                        · rw [List.getElem?_append_right (by omega)] at hq; rw [List.getElem?_append_left h6] at hk
                          exact absurd (hI.inj b d _ _ p hb hd trivial trivial (.inr ⟨_, hk⟩) (.inr ⟨_, hq⟩)) hbd
                        · rw [List.getElem?_append_right (by omega)] at hq hk
                          have := hinjd _ _ p hq hk
                          omega)
                      (fun q p hp => by
                        by_cases h5 : q < (owOf (j.cv b)).length
                        · rw [List.getElem?_append_left h5] at hp
                          exact ⟨(x5 q p hp).1, (x5 q p hp).2, b, _, hb, trivial, .inr ⟨q, hp⟩, hdd b (.inl rfl)⟩
                        · rw [List.getElem?_append_right (by omega)] at hp
                          refine ⟨(y5 _ p hp).1, fun e => ?_, d, _, hd, trivial, .inr ⟨_, hp⟩, hdd d (.inr rfl)⟩
                          exact hbd (hI.inj b d _ _ p hb hd trivial trivial (.inl (x4 p e)) (.inr ⟨_, hp⟩)))
                      (fun g hg => ⟨b, _, hb, trivial, .inl (x4 g hg), hdd b (.inl rfl)⟩)
                      (fun q => by
                        by_cases h5 : q = b ∨ q = d
                        · exact .inr (hdd q h5)
                        · rw [List.getElem?_set_ne (by omega), List.getElem?_set_ne (by omega)]; exact .inl rfl) (by simp) h
                    exact ⟨V, w', hap V w' k1, k2⟩
                  · cases h
                · cases h
              · cases h
            · cases h
        · cases h
      · cases h
    · cases h
  · cases h
end
end Go.Proofs.YtcdnofemnpafhaaM

/- Blocks under other names; patterns. Conditions: none. -/
namespace Go.Proofs.YtcdnofemnpafhaaM
set_option linter.unusedVariables false
set_option linter.unusedSimpArgs false
set_option linter.unnecessarySimpa false
set_option linter.unusedSectionVars false
open Go

theorem place_some : ∀ {ρ : List Nat} {b q : Nat}, place ρ b = some q → ρ[q]? = some b
  | [], b, q, h => by simp [place] at h
  | x :: r, b, q, h => by
    simp only [place] at h
    split at h
    · rename_i e; cases h; simp [e]
    · rw [Option.map_eq_some_iff] at h
      obtain ⟨q', hq, rfl⟩ := h
      simpa using place_some hq
theorem place_none : ∀ {ρ : List Nat} {b : Nat}, place ρ b = none → b ∉ ρ
  | [], b, _ => by simp
  | x :: r, b, h => by
    simp only [place] at h
    split at h
    · cases h
    · rename_i e
      rw [Option.map_eq_none_iff] at h
      simp only [List.mem_cons, not_or]
      exact ⟨fun e' => e e'.symm, place_none h⟩
theorem place_of : ∀ {ρ : List Nat} {b q : Nat}, ρ.Nodup → ρ[q]? = some b → place ρ b = some q
  | [], b, q, _, h => by simp at h
  | x :: r, b, q, hn, h => by
    rw [List.nodup_cons] at hn
    cases q with
    | zero => simp at h; simp [place, h]
    | succ q =>
      have h' : r[q]? = some b := by simpa using h
      have : x ≠ b := by rintro rfl; exact hn.1 (List.mem_of_getElem? h')
      simp only [place, if_neg this, place_of hn.2 h', Option.map_some]

theorem reach_nodup (H : List Blk) : ∀ (n : Nat) (l acc : List Nat), acc.Nodup → (reach H n l acc).Nodup
  | 0, _, _, h => by simpa [reach] using h
  | n + 1, [], _, h => by simpa [reach] using h
  | n + 1, b :: r, acc, h => by
    simp only [reach]
    split
    · exact reach_nodup H n r acc h
    · rename_i hc
      refine reach_nodup H n _ _ ?_
      rw [List.nodup_append]
      refine ⟨h, by simp, fun x hx y hy => ?_⟩
      simp at hy
      subst hy
      rintro rfl
      exact hc (by simpa using hx)
theorem reach_prefix (H : List Blk) : ∀ (n : Nat) (l acc : List Nat), ∃ e, reach H n l acc = acc ++ e
  | 0, _, acc => ⟨[], by simp [reach]⟩
  | n + 1, [], acc => ⟨[], by simp [reach]⟩
  | n + 1, b :: r, acc => by
    simp only [reach]
    split
    · exact reach_prefix H n r acc
    · obtain ⟨e, he⟩ := reach_prefix H n (r ++ (H.getD b .dead).ids) (acc ++ [b])
      exact ⟨b :: e, by rw [he]; simp⟩

section
variable {P : Program} {c : Cx} {j : J} {H : List Blk} {w : World}

def J.pick (j : J) (ρ : List Nat) : J := ⟨fun q => match ρ[q]? with | some b => j.blk b | none => none, fun q => match ρ[q]? with | some b => j.cv b | none => undef⟩

theorem pick_get {ρ : List Nat} {q : Nat} {B : Blk} (h : (pick H ρ)[q]? = some B) : ∃ b, ρ[q]? = some b ∧ B = (H.getD b .dead).ren (place ρ) := by
  unfold pick at h
  rw [List.getElem?_map, Option.map_eq_some_iff] at h
  obtain ⟨b, hb, rfl⟩ := h
  exact ⟨b, hb, rfl⟩
theorem pick_live {ρ : List Nat} {q : Nat} {B : Blk} (h : (pick H ρ)[q]? = some B) (hl : B.live) : ∃ b B0, ρ[q]? = some b ∧ H[b]? = some B0 ∧ B0.live ∧ B = B0.ren (place ρ) := by
  obtain ⟨b, hb, rfl⟩ := pick_get h
  rw [List.getD_eq_getElem?_getD] at hl ⊢
  cases hq : H[b]? with
  | none => rw [hq] at hl; exact hl.elim
  | some B0 =>
    rw [hq] at hl
    refine ⟨b, B0, hb, hq, ?_, rfl⟩
    cases B0 <;> first | exact hl.elim | trivial
theorem pick_of {ρ : List Nat} {q b : Nat} (hq : ρ[q]? = some b) : (pick H ρ)[q]? = some ((H.getD b .dead).ren (place ρ)) := by
  unfold pick
  rw [List.getElem?_map, hq]; rfl
theorem getD_some {b : Nat} {B : Blk} (h : H[b]? = some B) : H.getD b .dead = B := by rw [List.getD_eq_getElem?_getD, h]; rfl
theorem pick_len (H : List Blk) (ρ : List Nat) : (pick H ρ).length = ρ.length := by simp [pick]

theorem RoC.sub {N N' : Nat → Prop} (hs : ∀ g, N' g → N g) {t : Ty} {x : t.den} {cs : List Value} (h : RoC w N t x cs) : RoC w N' t x cs :=
  RoC.mov (fun g _ hn => ⟨fun h' => hn (hs g h'), rfl⟩) (Nat.le_refl _) h

theorem CRel.pick {ρ : List Nat} {N N' : Nat → Prop} (hs : ∀ g, N' g → N g) {x : Cell} {v : Value} (h : CRel j H w N x v) : CRel (j.pick ρ) (YtcdnofemnpafhaaM.pick H ρ) w N' (x.ren (place ρ)) v := by
  obtain ⟨h1, h⟩ := h
  have key : ∀ {b q : Nat}, place ρ b = some q → q < (YtcdnofemnpafhaaM.pick H ρ).length ∧ (j.pick ρ).blk q = j.blk b ∧ (j.pick ρ).cv q = j.cv b ∧ (YtcdnofemnpafhaaM.pick H ρ)[q]? = some ((H.getD b .dead).ren (place ρ)) := by
    intro b q hq
    have := place_some hq
    exact ⟨by rw [pick_len]; exact get_lt this, by simp [J.pick, this], by simp [J.pick, this], pick_of this⟩
  have live : ∀ {b : Nat} {B : Blk}, (H.getD b .dead).ren (place ρ) = B → B.live → ∃ B0, H[b]? = some B0 ∧ B0.ren (place ρ) = B := by
    intro b B hB hl
    rw [List.getD_eq_getElem?_getD] at hB
    cases hq : H[b]? with
    | none => rw [hq] at hB; subst hB; exact hl.elim
    | some B0 => rw [hq] at hB; exact ⟨B0, rfl, hB⟩
  cases x <;> simp only [Cell.ren]
  case int k n => exact ⟨h1, h⟩
  case bool b => exact ⟨h1, h⟩
  case str s => exact ⟨h1, h⟩
  case ro t l => exact ⟨h1, RoC.sub hs h⟩
  case nils => exact ⟨h1, h⟩
  case nilp => exact ⟨h1, h⟩
  case sfn f => exact ⟨h1, h⟩
  case nilf => exact ⟨h1, h⟩
  case nilm => exact ⟨h1, h⟩
  case top => exact ⟨h1, h⟩
  case rop t y o =>
    obtain ⟨e, d, hv, hN, hlt, hr, hc⟩ := h
    exact ⟨h1, e, d, hv, fun h' => hN (hs _ h'), hlt, RoC.sub hs hr, hc⟩
  case full b =>
    cases hq : place ρ b with
    | none => exact ⟨h1, trivial⟩
    | some q =>
      obtain ⟨k1, k2, k3, k4⟩ := key hq
      refine ⟨h1, k1, fun T t l hb => ?_⟩
      rw [k4] at hb
      obtain ⟨B0, hB0, e⟩ := live (Option.some.inj hb) trivial
      cases B0 <;> simp only [Blk.ren] at e <;> (first | (cases e; done) | skip)
      rw [k2]
      exact h.2 _ _ _ (by rw [hB0, e])
  case part b o n =>
    cases hq : place ρ b with
    | none => exact ⟨h1, trivial⟩
    | some q =>
      obtain ⟨k1, k2, k3, k4⟩ := key hq
      refine ⟨h1, k1, fun T t l hb => ?_⟩
      rw [k4] at hb
      obtain ⟨B0, hB0, e⟩ := live (Option.some.inj hb) trivial
      cases B0 <;> simp only [Blk.ren] at e <;> (first | (cases e; done) | skip)
      rw [k2]
      exact h.2 _ _ _ (by rw [hB0, e])
  case ptr b i o =>
    cases hq : place ρ b with
    | none => exact ⟨h1, trivial⟩
    | some q =>
      obtain ⟨k1, k2, k3, k4⟩ := key hq
      refine ⟨h1, k1, h.2.1, fun B hb => ?_⟩
      rw [k4] at hb
      cases B with
      | var T cs =>
        obtain ⟨B0, hB0, e⟩ := live (Option.some.inj hb) trivial
        cases B0 <;> simp only [Blk.ren] at e <;> (first | (cases e; done) | skip)
        have := h.2.2 _ hB0
        simp only at this ⊢
        rw [k2]; exact this
      | row T t l =>
        obtain ⟨B0, hB0, e⟩ := live (Option.some.inj hb) trivial
        cases B0 <;> simp only [Blk.ren] at e <;> (first | (cases e; done) | skip)
        cases e
        have := h.2.2 _ hB0
        simp only at this ⊢
        rw [k2]; exact this
      | _ => trivial
  case arr b o n i =>
    cases hq : place ρ b with
    | none => exact ⟨h1, trivial⟩
    | some q =>
      obtain ⟨k1, k2, k3, k4⟩ := key hq
      refine ⟨h1, k1, fun T cs hb => ?_⟩
      rw [k4] at hb
      obtain ⟨B0, hB0, e⟩ := live (Option.some.inj hb) trivial
      cases B0 <;> simp only [Blk.ren] at e <;> (first | (cases e; done) | skip)
      rw [k2]
      exact h.2 _ _ hB0
  case fn g b =>
    cases hq : place ρ b with
    | none => exact ⟨h1, trivial⟩
    | some q =>
      obtain ⟨k1, k2, k3, k4⟩ := key hq
      refine ⟨h1, k1, fun f a d hb => ?_⟩
      rw [k4] at hb
      obtain ⟨B0, hB0, e⟩ := live (Option.some.inj hb) trivial
      cases B0 <;> simp only [Blk.ren] at e <;> (first | (cases e; done) | skip)
      rw [k3]
      exact h.2 _ _ _ hB0
  case map b =>
    cases hq : place ρ b with
    | none => exact ⟨h1, trivial⟩
    | some q =>
      obtain ⟨k1, k2, k3, k4⟩ := key hq
      refine ⟨h1, k1, fun kt vt l hb => ?_⟩
      rw [k4] at hb
      obtain ⟨B0, hB0, e⟩ := live (Option.some.inj hb) trivial
      cases B0 <;> simp only [Blk.ren] at e <;> (first | (cases e; done) | skip)
      rw [k2]
      exact h.2 _ _ _ (by rw [hB0, e])
  case vsl b n =>
    cases hq : place ρ b with
    | none => exact ⟨h1, trivial⟩
    | some q =>
      obtain ⟨k1, k2, k3, k4⟩ := key hq
      refine ⟨h1, k1, fun T cs hb => ?_⟩
      rw [k4] at hb
      obtain ⟨B0, hB0, e⟩ := live (Option.some.inj hb) trivial
      cases B0 <;> simp only [Blk.ren] at e <;> (first | (cases e; done) | skip)
      cases e
      obtain ⟨e0, g, e1, e2⟩ := h.2 _ _ hB0
      exact ⟨by rw [List.length_map]; exact e0, g, k2.trans e1, e2⟩
  case yl b =>
    cases hq : place ρ b with
    | none => exact ⟨h1, trivial⟩
    | some q =>
      obtain ⟨k1, k2, k3, k4⟩ := key hq
      refine ⟨h1, k1, fun f a d hb => ?_⟩
      rw [k4] at hb
      obtain ⟨B0, hB0, e⟩ := live (Option.some.inj hb) trivial
      cases B0 <;> simp only [Blk.ren] at e <;> (first | (cases e; done) | skip)
      rw [k2]
      exact h.2 _ _ _ hB0
  case ofull b =>
    cases hq : place ρ b with
    | none => exact ⟨h1, trivial⟩
    | some q =>
      obtain ⟨k1, k2, k3, k4⟩ := key hq
      refine ⟨h1, k1, fun T t l hb => ?_⟩
      rw [k4] at hb
      obtain ⟨B0, hB0, e⟩ := live (Option.some.inj hb) trivial
      cases B0 <;> simp only [Blk.ren] at e <;> (first | (cases e; done) | skip)
      cases e
      rw [k2, k3]; exact h.2 _ _ _ hB0
  case optr b i o =>
    cases hq : place ρ b with
    | none => exact ⟨h1, trivial⟩
    | some q =>
      obtain ⟨k1, k2, k3, k4⟩ := key hq
      refine ⟨h1, k1, h.2.1, fun T t l hb => ?_⟩
      rw [k4] at hb
      obtain ⟨B0, hB0, e⟩ := live (Option.some.inj hb) trivial
      cases B0 <;> simp only [Blk.ren] at e <;> (first | (cases e; done) | skip)
      cases e
      rw [k2]; exact h.2.2 _ _ _ hB0
  case oin b i n =>
    cases hq : place ρ b with
    | none => exact ⟨h1, trivial⟩
    | some q =>
      obtain ⟨k1, k2, k3, k4⟩ := key hq
      refine ⟨h1, k1, fun T t l hb => ?_⟩
      rw [k4] at hb
      obtain ⟨B0, hB0, e⟩ := live (Option.some.inj hb) trivial
      cases B0 <;> simp only [Blk.ren] at e <;> (first | (cases e; done) | skip)
      cases e
      rw [k3]; exact h.2 _ _ _ hB0
  case oip b i k o =>
    cases hq : place ρ b with
    | none => exact ⟨h1, trivial⟩
    | some q =>
      obtain ⟨k1, k2, k3, k4⟩ := key hq
      refine ⟨h1, k1, h.2.1, fun T t l hb => ?_⟩
      rw [k4] at hb
      obtain ⟨B0, hB0, e⟩ := live (Option.some.inj hb) trivial
      cases B0 <;> simp only [Blk.ren] at e <;> (first | (cases e; done) | skip)
      cases e
      rw [k3]; exact h.2.2 _ _ _ hB0
  case lnk b i =>
    cases hq : place ρ b with
    | none => exact ⟨h1, trivial⟩
    | some q =>
      obtain ⟨k1, k2, k3, k4⟩ := key hq
      refine ⟨h1, k1, fun T t l hb => ?_⟩
      rw [k4] at hb
      obtain ⟨B0, hB0, e⟩ := live (Option.some.inj hb) trivial
      cases B0 <;> simp only [Blk.ren] at e <;> (first | (cases e; done) | skip)
      cases e
      rw [k3]
      exact h.2 _ _ _ hB0
  case nptr b i o =>
    cases hq : place ρ b with
    | none => exact ⟨h1, trivial⟩
    | some q =>
      obtain ⟨k1, k2, k3, k4⟩ := key hq
      refine ⟨h1, k1, h.2.1, fun T t l hb => ?_⟩
      rw [k4] at hb
      obtain ⟨B0, hB0, e⟩ := live (Option.some.inj hb) trivial
      cases B0 <;> simp only [Blk.ren] at e <;> (first | (cases e; done) | skip)
      cases e
      rw [k3]
      exact h.2.2 _ _ _ hB0
  case hole b o d i =>
    cases hq : place ρ b with
    | none => exact ⟨h1, trivial⟩
    | some q =>
      cases hq2 : place ρ d with
      | none => exact ⟨h1, trivial⟩
      | some q2 =>
        obtain ⟨k1, k2, k3, k4⟩ := key hq
        obtain ⟨m1, m2, m3, m4⟩ := key hq2
        obtain ⟨_, _, hp, h5, h6⟩ := h
        refine ⟨h1, k1, m1, hp, fun hi T cs hb => ?_, fun k hk T t l hb => ?_⟩
        · rw [k4] at hb
          obtain ⟨B0, hB0, e⟩ := live (Option.some.inj hb) trivial
          cases B0 <;> simp only [Blk.ren] at e <;> (first | (cases e; done) | skip)
          cases e
          rw [k2, List.length_map]
          exact h5 hi _ _ hB0
        · rw [m4] at hb
          obtain ⟨B0, hB0, e⟩ := live (Option.some.inj hb) trivial
          cases B0 <;> simp only [Blk.ren] at e <;> (first | (cases e; done) | skip)
          cases e
          rw [m3]
          exact h6 k hk _ _ _ hB0

theorem V1Rel.pick {ρ : List Nat} {N N' : Nat → Prop} (hs : ∀ g, N' g → N g) {x : V1} {v : Value} (h : V1Rel j H w N x v) : V1Rel (j.pick ρ) (YtcdnofemnpafhaaM.pick H ρ) w N' (x.ren (place ρ)) v := by
  cases x with
  | one y =>
    rcases h with rfl | h
    · exact .inl rfl
    · exact .inr (CRel.pick hs h)
  | agg cs =>
    obtain ⟨vs, rfl, h⟩ := h
    exact ⟨vs, rfl, All2.map_left (h.imp fun _ _ => CRel.pick hs)⟩

theorem BRel.pick {ρ : List Nat} {N N' : Nat → Prop} (hs : ∀ g, N' g → N g) {q b : Nat} (hq : ρ[q]? = some b) {B : Blk} (h : BRel P j H w N b B) : BRel P (j.pick ρ) (YtcdnofemnpafhaaM.pick H ρ) w N' q (B.ren (place ρ)) := by
  have e1 : (j.pick ρ).blk q = j.blk b := by simp [J.pick, hq]
  have e2 : (j.pick ρ).cv q = j.cv b := by simp [J.pick, hq]
  cases B with
  | dead => trivial
  | var T cs =>
    obtain ⟨g, vs, h1, h2, h3⟩ := h
    exact ⟨g, vs, e1.trans h1, h2, All2.map_left (h3.imp fun _ _ => CRel.pick hs)⟩
  | row T t l =>
    rcases h with ⟨h1, h2⟩ | ⟨g, cap, cells, h1, h2, h3, hz, h4, h5, h6⟩
    · exact .inl ⟨e1.trans h1, h2⟩
    · exact .inr ⟨g, cap, cells, e1.trans h1, h2, h3, hz, h4, h5, fun i x hx => by
        obtain ⟨d, hd, hc⟩ := h6 i x hx
        exact ⟨d, RoC.sub hs hd, hc⟩⟩
  | clo f a d =>
    obtain ⟨h0, A, C, h1, h2, h3⟩ := h
    exact ⟨e1.trans h0, A, C, e2.trans h1, All2.map_left (h2.imp fun _ _ => V1Rel.pick hs), All2.map_left (h3.imp fun _ _ => V1Rel.pick hs)⟩
  | map kt vt l =>
    obtain ⟨g, es, clock, h1, h2, h3⟩ := h
    exact ⟨g, es, clock, e1.trans h1, h2, h3⟩
  | yld f a d =>
    obtain ⟨g, r, h1, h2, h3, h5, h4⟩ := h
    exact ⟨g, r, e1.trans h1, h2, h3, h5, All2.map_left (h4.imp fun _ _ => V1Rel.pick hs)⟩
  | chn T t l =>
    obtain ⟨h1, h2, h3, h4, h5⟩ := h
    show _ ∧ _ ∧ _ ∧ _ ∧ _
    rw [e2]
    exact ⟨h1, h2, h3, h4, h5⟩
  | own T t l =>
    obtain ⟨h1, h2, h3, h4⟩ := h
    show _ ∧ _ ∧ _ ∧ _
    rw [e1, e2]
    exact ⟨h1, h2, h3, h4⟩

theorem ren_same {B : Blk} {f : Nat → Option Nat} (h : B.live) : B.same (B.ren f) := by
  cases B <;> simp only [Blk.ren, Blk.same] <;> (first | exact h.elim | simp)
theorem At.pick {ρ : List Nat} {q b g : Nat} {B0 : Blk} (h : ρ[q]? = some b) (hl : B0.live) : At (j.pick ρ) q (B0.ren (place ρ)) g ↔ At j b B0 g :=
  At.congr (ren_same hl) (by simp [J.pick, h]) (by simp [J.pick, h])

theorem own_pick {ρ : List Nat} {g : Nat} (h : Own (j.pick ρ) (YtcdnofemnpafhaaM.pick H ρ) g) : Own j H g := by
  obtain ⟨q, B, hb, hl, hg⟩ := h
  obtain ⟨b, B0, h1, h2, h3, rfl⟩ := pick_live hb hl
  exact ⟨b, B0, h2, h3, (At.pick h1 h3).1 hg⟩

theorem Inv.pick (h : Inv P c j H w) {ρ : List Nat} (hn : ρ.Nodup) (hp : ∀ i, i < c.n → ρ[i]? = some i) : Inv P c (j.pick ρ) (YtcdnofemnpafhaaM.pick H ρ) w := by
  have hs : ∀ g, NN c (j.pick ρ) (YtcdnofemnpafhaaM.pick H ρ) g → NN c j H g := fun g hg => hg.imp id own_pick
  have hlt : ∀ {i : Nat} {b : Nat}, c.n ≤ i → ρ[i]? = some b → c.n ≤ b := by
    intro i b hi hb
    by_cases hbn : b < c.n
    · have h1 := place_of hn hb
      have h2 := place_of hn (hp b hbn)
      rw [h1] at h2; cases h2; omega
    · omega
  have hlen : c.n ≤ ρ.length := by
    by_cases h0 : c.n = 0
    · omega
    · have := get_lt (hp (c.n - 1) (by omega)); omega
  refine ⟨by rw [pick_len]; exact hlen, fun i B hi hb hl => ?_, fun i B g hi hb hl hg => ?_, fun i B g hi hb hl hg => ?_, fun i i' B B' g hb hb' hl hl' hg hg' => ?_, h.frame, h.size, h.os, h.tape, h.output, h.apart, h.gl, fun i B hi hb hl => ?_, fun i T t l g cells hi hb hg hc => ?_, fun q B hb => ?_⟩
  · obtain ⟨b, B0, h1, h2, h3, _⟩ := pick_live hb hl
    rw [hp i hi] at h1; cases h1
    obtain ⟨k1, k2⟩ := h.keep i B0 hi h2 h3
    exact ⟨by simpa [J.pick, hp i hi] using k1, by simpa [J.pick, hp i hi] using k2⟩
  · obtain ⟨b, B0, h1, h2, h3, rfl⟩ := pick_live hb hl
    exact h.neu b B0 g (hlt hi h1) h2 h3 ((At.pick h1 h3).1 hg)
  · obtain ⟨b, B0, h1, h2, h3, rfl⟩ := pick_live hb hl
    rw [hp i hi] at h1; cases h1
    exact h.own i B0 g hi h2 h3 ((At.pick (hp i hi) h3).1 hg)
  · obtain ⟨b, B0, h1, h2, h3, rfl⟩ := pick_live hb hl
    obtain ⟨b', B0', h1', h2', h3', rfl⟩ := pick_live hb' hl'
    have := h.inj b b' B0 B0' g h2 h2' h3 h3' ((At.pick h1 h3).1 hg) ((At.pick h1' h3').1 hg')
    subst this
    have k1 := place_of hn h1
    have k2 := place_of hn h1'
    rw [k1] at k2; cases k2; rfl
  · obtain ⟨b, B0, h1, h2, h3, rfl⟩ := pick_live hb hl
    rw [hp i hi] at h1; cases h1
    obtain ⟨B1, k1, k2⟩ := h.same i B0 hi h2 h3
    exact ⟨B1, k1, Blk.same_trans k2 (ren_same h3)⟩
  · obtain ⟨b, B0, h1, h2, h3, e⟩ := pick_live hb trivial
    rw [hp i hi] at h1; cases h1
    cases B0 <;> simp only [Blk.ren] at e <;> (first | (cases e; done) | skip)
    cases e
    exact h.rowsz i _ _ _ g cells hi h2 hg hc
  · by_cases hl : B.live
    · obtain ⟨b, B0, h1, h2, h3, rfl⟩ := pick_live hb hl
      exact (h.heap b B0 h2).pick hs h1
    · cases B <;> first | exact absurd trivial hl | trivial
end
end Go.Proofs.YtcdnofemnpafhaaM

/- Values and blocks brought into a pattern. Conditions: none. -/
namespace Go.Proofs.YtcdnofemnpafhaaM
set_option linter.unusedVariables false
set_option linter.unusedSimpArgs false
set_option linter.unnecessarySimpa false
set_option linter.unusedSectionVars false
open Go

section
variable {P : Program} {c : Cx} {j : J} {H : List Blk} {w : World}

def To (P : Program) (c : Cx) (j : J) (H : List Blk) (w : World) (j' : J) (H' : List Blk) : Prop := Inv P c j' H' w ∧ Mov j H w (NN c j H) j' H' w (NN c j' H')
theorem To.refl (h : Inv P c j H w) : To P c j H w j H := ⟨h, Mov.refl _ _ _ _⟩
theorem To.trans {j1 j2 : J} {H1 H2 : List Blk} (h : To P c j H w j1 H1) (k : To P c j1 H1 w j2 H2) : To P c j H w j2 H2 := ⟨k.1, h.2.trans k.2⟩

theorem headOf_lt {q b o : Nat} : ∀ {H : List Blk} {n : Nat}, headOf q H n = some (b, o) → b < n + H.length
  | [], n, h => by simp [headOf] at h
  | B :: r, n, h => by
    have rest : headOf q r (n + 1) = some (b, o) → b < n + (B :: r).length := fun h => by have := headOf_lt h; simp; omega
    cases B <;> simp only [headOf] at h <;> (first | exact rest h | skip)
    split at h
    · cases h; simp
    · exact rest h

theorem CS.fit_sound (hI : Inv P c j H w) (bs : List BS) (s : CS) {x : Cell} {v : Value} (h : CRel j H w (NN c j H) x v) :
    ∃ j', To P c j H w j' (s.fit bs x H).2 ∧ CRel j' (s.fit bs x H).2 w (NN c j' (s.fit bs x H).2) (s.fit bs x H).1 v := by
  have same : ∃ j', To P c j H w j' H ∧ CRel j' H w (NN c j' H) x v := ⟨j, To.refl hI, h⟩
  cases s <;> simp only [CS.fit]
  case top => exact ⟨j, To.refl hI, h.1, trivial⟩
  case ro t =>
    cases x <;> simp only [CS.fit] <;> (first | exact same | skip)
    case nils =>
      refine ⟨j, To.refl hI, h.1, ?_⟩
      rw [h.2]
      exact ⟨none, 0, rfl, Nat.le_refl _, fun i y hy => by simp at hy⟩
    case full b =>
      cases hb : H[b]? with
      | none => exact same
      | some B =>
        cases B <;> (first | exact same | skip)
        rename_i T t' l
        simp only
        by_cases ht : t' = t
        · subst ht
          simp only [dif_pos]
          obtain ⟨v1, v2, e, k1, k2, k3, k4⟩ := dec_sound (.ro t') hI (cs := [.full b]) (vs := [v]) (x := l) (r := []) (H1 := H.set b .dead) (by simp [dec, hb]) (All2.cons h All2.nil)
          obtain rfl := k4.nil_left
          rw [List.append_nil] at e
          subst e
          exact ⟨j, ⟨k1, k2⟩, h.1, k3⟩
        · simp only [dif_neg ht]; exact same
  case full b =>
    cases x <;> simp only [CS.fit] <;> (first | exact same | skip)
    case nils =>
      cases hb : bs[b]? with
      | none => exact same
      | some B =>
        cases B <;> (first | exact same | skip)
        rename_i T t
        simp only
        obtain ⟨k1, k2⟩ := hI.push (B := .row T t []) (r := none) (v := undef) (w' := w) (Nat.le_refl _) rfl rfl rfl (fun _ _ => rfl) (fun _ hg => by cases hg) (fun m => .inl ⟨J.at_eq.1, rfl⟩)
        refine ⟨_, ⟨k1, k2⟩, h.1, by simp, fun T' t' l' hb' => ?_⟩
        rw [List.getElem?_append_right (Nat.le_refl _)] at hb'
        simp at hb'
        obtain ⟨rfl, rfl, hb'⟩ := hb'
        cases hb'
        exact .inl ⟨J.at_eq.1, h.2⟩
    case full b' =>
      split
      · rename_i T t l hb1 hb2
        obtain ⟨h1, h2, h3⟩ := h
        have h3 := h3 T t l hb2
        have hrow := hI.heap b' _ hb2
        obtain ⟨k1, k2⟩ := hI.app (B' := .row T t l) b' (r := j.blk b') (v := undef) (w' := w) (Nat.le_refl _) rfl rfl rfl (fun _ _ _ => rfl) (fun g hg => .inr ⟨_, hb2, trivial, hg⟩) (fun m => by
          rcases hrow with ⟨e1, e2⟩ | ⟨g, cap, cells, e1, e2, e3, e4, e5, e6, e7⟩
          · exact .inl ⟨J.at_eq.1.trans e1, e2⟩
          · refine .inr ⟨g, cap, cells, J.at_eq.1.trans e1, e2, e3, e4, e5, e6, fun i x hx => ?_⟩
            obtain ⟨cc, f1, f2⟩ := e7 i x hx
            refine ⟨cc, RoC.mov m.ro (Nat.le_refl _) f1, f2⟩)
        refine ⟨_, ⟨k1, k2⟩, h1, by simp, fun T' t' l' hb' => ?_⟩
        rw [List.getElem?_append_right (by simp)] at hb'
        simp at hb'
        obtain ⟨rfl, rfl, hb'⟩ := hb'
        cases hb'
        rcases h3 with ⟨e1, e2⟩ | ⟨g, cap, e1, e2, e3⟩
        · exact .inl ⟨J.at_eq.1.trans e1, e2⟩
        · exact .inr ⟨g, cap, J.at_eq.1.trans e1, e2, e3⟩
      · exact same
  case ofull b =>
    cases x <;> simp only [CS.fit] <;> (first | exact same | skip)
    case nils =>
      cases hb : bs[b]? with
      | none => exact same
      | some B =>
        cases B <;> (first | exact same | skip)
        rename_i T t
        simp only
        split
        · rename_i ht
          obtain ⟨k1, k2⟩ := hI.push (B := .own T t []) (r := none) (v := owV 0 []) (w' := w) (Nat.le_refl _) rfl rfl rfl (fun _ _ => rfl) (fun g hg => by
            rcases hg with hg | ⟨i, hi⟩
            · cases hg
            · rw [owOf_owV] at hi; simp at hi) (fun m => by
            show _ ∧ _ ∧ _ ∧ _
            rw [J.at_eq.1, J.at_eq.2, owOf_owV]
            exact ⟨ht, rfl, fun i k p hi => by simp at hi, .inl ⟨rfl, rfl⟩⟩)
          exact ⟨_, ⟨k1, k2⟩, h.1, by simp, fun T' t' l' hb' => .inl ⟨J.at_eq.1, h.2⟩⟩
        · exact same
    case ofull b' =>
      split
      · rename_i T t l hb1 hb2
        obtain ⟨h1, h2, h3⟩ := h
        have h3 := h3 T t l hb2
        obtain ⟨e1, e2, e3, e4⟩ := hI.heap b' _ hb2
        obtain ⟨k1, k2⟩ := hI.app (B' := .own T t l) b' (r := j.blk b') (v := j.cv b') (w' := w) (Nat.le_refl _) rfl rfl rfl (fun _ _ _ => rfl) (fun g hg => .inr ⟨_, hb2, trivial, hg⟩) (fun m => by
          show _ ∧ _ ∧ _ ∧ _
          rw [J.at_eq.1, J.at_eq.2]
          exact ⟨e1, e2, e3, e4⟩)
        refine ⟨_, ⟨k1, k2⟩, h1, by simp, fun T' t' l' hb' => ?_⟩
        rw [List.getElem?_append_right (by simp)] at hb'
        simp at hb'
        obtain ⟨rfl, rfl, hb'⟩ := hb'
        cases hb'
        rw [J.at_eq.1, J.at_eq.2]
        exact h3
      · exact same
  case lnk b =>
    cases x <;> simp only [CS.fit] <;> (first | exact same | skip)
    case nilp =>
      cases hb : bs[b]? with
      | none => exact same
      | some B =>
        cases B <;> (first | exact same | skip)
        rename_i T t
        simp only
        split
        · rename_i ht
          obtain ⟨ht1, ht2⟩ := ht
          obtain ⟨k1, k2⟩ := hI.push (B := .chn T t []) (r := none) (v := chV []) (w' := w) (Nat.le_refl _) rfl rfl rfl (fun _ _ => rfl) (fun g hg => by have hg : g ∈ chOf (chV []) := hg; rw [chOf_chV] at hg; cases hg) (fun m => by
            show _ ∧ _ ∧ _ ∧ _ ∧ _
            rw [J.at_eq.2, chOf_chV]
            exact ⟨ht1, ht2, rfl, List.nodup_nil, fun i g x hi => by simp at hi⟩)
          refine ⟨_, ⟨k1, k2⟩, h.1, by simp, fun T' t' l' hb' => ?_⟩
          rw [J.at_eq.2, chOf_chV, h.2]
          rfl
        · exact same
    case lnk b' i =>
      split
      · rename_i hi0
        subst hi0
        split
        · rename_i T t l hb1 hb2
          obtain ⟨h1, h2, h3⟩ := h
          have h3 := h3 T t l hb2
          obtain ⟨e1, e2, e3, e4, e5⟩ := hI.heap b' _ hb2
          obtain ⟨k1, k2⟩ := hI.app (B' := .chn T t l) b' (r := none) (v := j.cv b') (w' := w) (Nat.le_refl _) rfl rfl rfl (fun _ _ _ => rfl) (fun g hg => .inr ⟨_, hb2, trivial, hg⟩) (fun m => by
            show _ ∧ _ ∧ _ ∧ _ ∧ _
            rw [J.at_eq.2]
            exact ⟨e1, e2, e3, e4, e5⟩)
          refine ⟨_, ⟨k1, k2⟩, h1, by simp, fun T' t' l' hb' => ?_⟩
          rw [J.at_eq.2]
          exact h3
        · exact same
      · exact same
  case hole b0 o0 c0 =>
    cases x <;> simp only [CS.fit] <;> (first | exact same | skip)
    case ptr b i o =>
      split
      · rename_i hi0
        subst hi0
        split
        · rename_i T cs hb
          split
          · rename_i d k hd
            split
            · rename_i hk
              subst hk
              obtain ⟨h1, h2, h3, h4⟩ := h
              obtain ⟨g, vs, _, _, ha⟩ := hI.heap b _ hb
              obtain ⟨u, hu, hur⟩ := ha.get hd
              exact ⟨j, To.refl hI, h1, h2, hur.2.1, h3, fun _ T1 cs1 hb1 => by
                obtain ⟨_, g, hg, he⟩ := h4 _ hb1
                rw [hb] at hb1; cases hb1
                exact ⟨get_lt hd, g, hg, he⟩, fun k hk => by omega⟩
            · exact same
          · exact same
        · exact same
      · exact same
    case nptr d i o =>
      split
      · rename_i T t l b o' hd hh
        split
        · rename_i ho
          subst ho
          obtain ⟨h1, h2, h3, h4⟩ := h
          exact ⟨j, To.refl hI, h1, by have := headOf_lt hh; simpa using this, h2, h3, fun hi => by omega, fun k hk T1 t1 l1 hb1 => by
            have : k = i := by omega
            subst this
            obtain ⟨g, hg, he⟩ := h4 _ _ _ hb1
            rw [hd] at hb1; cases hb1
            exact ⟨g, hg, he⟩⟩
        · exact same
      · exact same
  all_goals exact same

theorem CSs.fit_sound (bs : List BS) : ∀ (l : List CS) {j : J} {H : List Blk} (_ : Inv P c j H w) {cs : List Cell} {vs : List Value}, All2 (CRel j H w (NN c j H)) cs vs →
    ∃ j', To P c j H w j' (CSs.fit bs l cs H).2 ∧ All2 (CRel j' (CSs.fit bs l cs H).2 w (NN c j' (CSs.fit bs l cs H).2)) (CSs.fit bs l cs H).1 vs
  | [], j, H, hI, cs, vs, h => ⟨j, by simpa [CSs.fit] using To.refl hI, by simpa [CSs.fit] using h⟩
  | s :: r, j, H, hI, [], vs, h => ⟨j, by simpa [CSs.fit] using To.refl hI, by simpa [CSs.fit] using h⟩
  | s :: r, j, H, hI, x :: cs, vs, h => by
    obtain ⟨v, m, rfl, hv, hm⟩ := h.cons_left
    obtain ⟨j1, t1, r1⟩ := CS.fit_sound hI bs s hv
    obtain ⟨j2, t2, r2⟩ := CSs.fit_sound bs r t1.1 (hm.imp fun _ _ => CRel.mov t1.2)
    exact ⟨j2, t1.trans t2, All2.cons (CRel.mov t2.2 r1) r2⟩

theorem VS.fit_sound (hI : Inv P c j H w) (bs : List BS) (s : VS) {x : V1} {v : Value} (h : V1Rel j H w (NN c j H) x v) :
    ∃ j', To P c j H w j' (s.fit bs x H).2 ∧ V1Rel j' (s.fit bs x H).2 w (NN c j' (s.fit bs x H).2) (s.fit bs x H).1 v := by
  have same : ∃ j', To P c j H w j' H ∧ V1Rel j' H w (NN c j' H) x v := ⟨j, To.refl hI, h⟩
  cases s with
  | one s =>
    cases x with
    | one y =>
      simp only [VS.fit]
      rcases h with rfl | h
      · by_cases hs : s = .top
        · subst hs; exact ⟨j, To.refl hI, .inl rfl⟩
        · cases s <;> (first | exact absurd rfl hs | exact ⟨j, To.refl hI, .inl rfl⟩)
      · obtain ⟨j', t, r⟩ := CS.fit_sound hI bs s h
        exact ⟨j', t, .inr r⟩
    | agg cs =>
      cases s <;> simp only [VS.fit] <;> (first | exact same | exact ⟨j, To.refl hI, .inl rfl⟩)
  | agg l =>
    cases x with
    | one y => simp only [VS.fit]; exact same
    | agg cs =>
      simp only [VS.fit]
      obtain ⟨vs, rfl, h⟩ := h
      obtain ⟨j', t, r⟩ := CSs.fit_sound bs l hI h
      exact ⟨j', t, vs, rfl, r⟩

theorem VSs.fit_sound (bs : List BS) : ∀ (l : List VS) {j : J} {H : List Blk} (_ : Inv P c j H w) {cs : List V1} {vs : List Value}, All2 (V1Rel j H w (NN c j H)) cs vs →
    ∃ j', To P c j H w j' (VSs.fit bs l cs H).2 ∧ All2 (V1Rel j' (VSs.fit bs l cs H).2 w (NN c j' (VSs.fit bs l cs H).2)) (VSs.fit bs l cs H).1 vs
  | [], j, H, hI, cs, vs, h => ⟨j, by simpa [VSs.fit] using To.refl hI, by simpa [VSs.fit] using h⟩
  | s :: r, j, H, hI, [], vs, h => ⟨j, by simpa [VSs.fit] using To.refl hI, by simpa [VSs.fit] using h⟩
  | s :: r, j, H, hI, x :: cs, vs, h => by
    obtain ⟨v, m, rfl, hv, hm⟩ := h.cons_left
    obtain ⟨j1, t1, r1⟩ := VS.fit_sound hI bs s hv
    obtain ⟨j2, t2, r2⟩ := VSs.fit_sound bs r t1.1 (hm.imp fun _ _ => V1Rel.mov t1.2)
    exact ⟨j2, t1.trans t2, All2.cons (V1Rel.mov t2.2 r1) r2⟩

theorem CSs.fit_nopush : ∀ (l : List CS) (cs : List Cell) (H : List Blk), (CSs.fit [] l cs H).2.length = H.length
  | [], _, _ => by simp [CSs.fit]
  | s :: r, [], _ => by simp [CSs.fit]
  | s :: r, x :: cs, H => by
    simp only [CSs.fit]
    rw [CSs.fit_nopush r cs]
    cases s <;> simp only [CS.fit] <;> cases x <;> simp only [CS.fit] <;> (first | rfl | skip)
    · split
      · split <;> simp
      · rfl
    · split
      · simp
      · rfl
    · split
      · split
        · split
          · split <;> rfl
          · rfl
        · rfl
      · rfl
    · split
      · split <;> rfl
      · rfl

theorem CS.fit_keep (bs : List BS) (s : CS) (x : Cell) {H : List Blk} {q : Nat} {T : TypeId} {cs : List Cell} (h : H[q]? = some (.var T cs)) : (s.fit bs x H).2[q]? = some (.var T cs) := by
  cases s <;> simp only [CS.fit] <;> (first | exact h | skip) <;> cases x <;> simp only [CS.fit] <;> (first | exact h | skip)
  · split
    · rename_i b _ _ _ hb
      split
      · rw [List.getElem?_set_ne (by rintro rfl; rw [h] at hb; cases hb)]; exact h
      · exact h
    · exact h
  · split
    · rw [List.getElem?_append_left (get_lt h)]; exact h
    · exact h
  · split
    · rename_i b _ _ _ _ hb
      rw [List.getElem?_append_left (by simpa using get_lt h), List.getElem?_set_ne (by rintro rfl; rw [h] at hb; cases hb)]; exact h
    · exact h
  · split
    · split
      · rw [List.getElem?_append_left (get_lt h)]; exact h
      · exact h
    · exact h
  · split
    · split
      · rename_i b _ _ _ _ _ _ hb
        rw [List.getElem?_append_left (by simpa using get_lt h), List.getElem?_set_ne (by rintro rfl; rw [h] at hb; cases hb)]; exact h
      · exact h
    · exact h
  · split
    · split
      · split
        · split <;> exact h
        · exact h
      · exact h
    · exact h
  · split
    · split <;> exact h
    · exact h
  · split
    · split
      · rw [List.getElem?_append_left (get_lt h)]; exact h
      · exact h
    · exact h
  · split
    · rename_i b _ _ _ _ hb
      rw [List.getElem?_append_left (by simpa using get_lt h), List.getElem?_set_ne (by rintro rfl; rw [h] at hb; cases hb)]; exact h
    · exact h
theorem CSs.fit_keep (bs : List BS) : ∀ (l : List CS) (cs' : List Cell) {H : List Blk} {q : Nat} {T : TypeId} {cs : List Cell}, H[q]? = some (.var T cs) → (CSs.fit bs l cs' H).2[q]? = some (.var T cs)
  | [], _, _, _, _, _, h => by simpa [CSs.fit] using h
  | s :: r, [], _, _, _, _, h => by simpa [CSs.fit] using h
  | s :: r, x :: cs', _, _, _, _, h => CSs.fit_keep bs r cs' (CS.fit_keep bs s x h)

theorem get_dead_or {H : List Blk} {b q : Nat} {B : Blk} (h : (H.set b .dead)[q]? = some B) : B = .dead ∨ H[q]? = some B := by
  rcases get_set h with ⟨_, h⟩ | ⟨_, h, _⟩
  · exact .inr h
  · exact .inl h

theorem Inv.revar (h : Inv P c j H w) {q : Nat} {T : TypeId} {cs cs' : List Cell} (hq : H[q]? = some (.var T cs)) (hl : cs'.length = cs.length)
    (hr : ∀ (g : Nat) (vs : Array Value), j.blk q = some g → w.heap[g]? = some (.cells vs T (0, 0)) → All2 (CRel j H w (NN c j H)) cs' vs.toList) : To P c j H w j (H.set q (.var T cs')) := by
  obtain ⟨g, vs, hg, hh, ha⟩ := h.heap q _ hq
  exact h.upd (B' := .var T cs') (w' := w) hq trivial ⟨rfl, hl.symm⟩ trivial hg rfl rfl rfl rfl (fun _ _ => rfl) (fun T cells hc => ⟨cells, hc, rfl⟩) (fun m => ⟨g, vs, hg, hh, (hr g vs hg hh).imp fun _ _ => CRel.mov m⟩)

theorem BSs.deep_sound (bs : List BS) : ∀ (n : Nat) (ps : List (Nat × Nat)) (seen : List Nat) {j : J} {H : List Blk} (_ : Inv P c j H w), ∃ j', To P c j H w j' (BSs.deep bs n ps seen H)
  | 0, _, _, j, H, hI => ⟨j, by simpa [BSs.deep] using To.refl hI⟩
  | n + 1, [], _, j, H, hI => ⟨j, by simpa [BSs.deep] using To.refl hI⟩
  | n + 1, (b, q) :: r, seen, j, H, hI => by
    simp only [BSs.deep]
    split
    · exact BSs.deep_sound bs n _ _ hI
    · split
      · rename_i T cs _ l hq hl'
        split
        · rename_i hl
          obtain ⟨g, vs, hg, hh, ha⟩ := hI.heap b _ hq
          obtain ⟨j1, t1, r1⟩ := CSs.fit_sound bs l hI ha
          have hk := CSs.fit_keep bs l cs hq
          obtain ⟨B0, k1, _, k2, _⟩ := t1.2.old (get_lt hq) hk trivial
          have t2 := t1.trans (t1.1.revar hk hl fun g' vs' hg' hh' => by
            rw [k2, hg] at hg'; cases hg'
            rw [hh] at hh'; cases hh'
            exact r1)
          obtain ⟨j3, t3⟩ := BSs.deep_sound bs n (r ++ pairsC l (CSs.fit bs l cs H).1) (b :: seen) t2.1
          exact ⟨j3, t2.trans t3⟩
        · exact BSs.deep_sound bs n _ _ hI
      · exact BSs.deep_sound bs n _ _ hI
      · exact BSs.deep_sound bs n _ _ hI
      · exact BSs.deep_sound bs n _ _ hI

theorem BSs.fit_sound : ∀ (l : List BS) (q : Nat) {j : J} {H : List Blk} (_ : Inv P c j H w), ∃ j', To P c j H w j' (BSs.fit l q H)
  | [], q, j, H, hI => ⟨j, by simpa [BSs.fit] using To.refl hI⟩
  | s :: r, q, j, H, hI => by
    have key : ∃ j1, To P c j H w j1 (match s, H[q]? with
        | .dead, _ => H.set q .dead
        | .var _ l, some (.var T cs) => let a := CSs.fit [] l cs H; if a.1.length = cs.length then a.2.set q (.var T a.1) else H
        | _, _ => H) := by
      cases s <;> simp only <;> (first | exact ⟨j, To.refl hI⟩ | skip)
      · exact ⟨j, hI.kill q⟩
      · rename_i T0 l
        cases hq : H[q]? with
        | none => exact ⟨j, To.refl hI⟩
        | some B =>
          cases B <;> simp only <;> (first | exact ⟨j, To.refl hI⟩ | skip)
          rename_i T cs
          by_cases hl : (CSs.fit [] l cs H).1.length = cs.length
          · rw [if_pos hl]
            obtain ⟨g, vs, hg, hh, ha⟩ := hI.heap q _ hq
            obtain ⟨j1, t1, r1⟩ := CSs.fit_sound [] l hI ha
            have hk := CSs.fit_keep [] l cs hq
            obtain ⟨B0, k1, _, k2, _⟩ := t1.2.old (get_lt hq) hk trivial
            refine ⟨j1, t1.trans (t1.1.revar hk hl fun g' vs' hg' hh' => ?_)⟩
            rw [k2, hg] at hg'; cases hg'
            rw [hh] at hh'; cases hh'
            exact r1
          · rw [if_neg hl]; exact ⟨j, To.refl hI⟩
    obtain ⟨j1, t1⟩ := key
    obtain ⟨j2, t2⟩ := BSs.fit_sound r (q + 1) t1.1
    exact ⟨j2, t1.trans t2⟩

/-! ### What fits a pattern is what the pattern makes -/
theorem CS.prj_inj (s : CS) {x : Cell} {y : s.den} (h : s.prj x = some y) : s.inj y = x := by
  cases s <;> cases x <;> simp only [CS.prj] at h <;> (first | (cases h; done) | skip)
  case int.int k k' n => split at h <;> (first | (cases h; done) | skip); rename_i e; subst e; cases h; rfl
  case bool.bool => cases h; rfl
  case str.str => cases h; rfl
  case ro.ro t t' l => split at h <;> (first | (cases h; done) | skip); rename_i e; subst e; cases h; rfl
  case full.full => split at h <;> (first | (cases h; done) | skip); rename_i e; subst e; rfl
  case ptr.ptr => (repeat' split at h) <;> (first | (cases h; done) | skip); subst_vars; rfl
  case ptrI.ptr => (repeat' split at h) <;> (first | (cases h; done) | skip); subst_vars; cases h; rfl
  case nilp.nilp => rfl
  case fn.fn => (repeat' split at h) <;> (first | (cases h; done) | skip); subst_vars; rfl
  case sfn.sfn => split at h <;> (first | (cases h; done) | skip); rename_i e; subst e; rfl
  case map.map => split at h <;> (first | (cases h; done) | skip); rename_i e; subst e; rfl
  case ofull.ofull => split at h <;> (first | (cases h; done) | skip); rename_i e; subst e; rfl
  case yl.yl => split at h <;> (first | (cases h; done) | skip); rename_i e; subst e; rfl
  case lnk.lnk => split at h <;> (first | (cases h; done) | skip); rename_i e; subst e; split at h <;> (first | (cases h; done) | skip); rename_i e; subst e; rfl
  case lnkI.lnk => split at h <;> (first | (cases h; done) | skip); rename_i e; subst e; cases h; rfl
  case hole.hole =>
    split at h <;> (first | (cases h; done) | skip); rename_i e; subst e
    split at h <;> (first | (cases h; done) | skip); rename_i e; subst e
    split at h <;> (first | (cases h; done) | skip); rename_i e; subst e
    cases h; rfl
  case top.top => rfl
theorem CSs.prj_inj : ∀ (l : List CS) {cs : List Cell} {y : CSs.den l}, CSs.prj l cs = some y → CSs.inj l y = cs
  | [], [], _, _ => rfl
  | [], _ :: _, _, h => by simp [CSs.prj] at h
  | _ :: _, [], _, h => by simp [CSs.prj] at h
  | s :: r, x :: cs, y, h => by
    simp only [CSs.prj] at h
    split at h
    · rename_i a b ha hb
      cases h
      simp only [CSs.inj, CS.prj_inj s ha, CSs.prj_inj r hb]
    · cases h
theorem VS.prj_inj (s : VS) {x : V1} {y : s.den} (h : s.prj x = some y) : s.inj y = x := by
  cases s <;> cases x <;> simp only [VS.prj] at h <;> (first | (cases h; done) | skip)
  · simp only [VS.inj, CS.prj_inj _ h]
  · simp only [VS.inj, CSs.prj_inj _ h]
theorem VSs.prj_inj : ∀ (l : List VS) {cs : List V1} {y : VSs.den l}, VSs.prj l cs = some y → VSs.inj l y = cs
  | [], [], _, _ => rfl
  | [], _ :: _, _, h => by simp [VSs.prj] at h
  | _ :: _, [], _, h => by simp [VSs.prj] at h
  | s :: r, x :: cs, y, h => by
    simp only [VSs.prj] at h
    split at h
    · rename_i a b ha hb
      cases h
      simp only [VSs.inj, VS.prj_inj s ha, VSs.prj_inj r hb]
    · cases h
theorem BS.prj_inj (s : BS) {x : Blk} {y : s.den} (h : s.prj x = some y) : s.inj y = x := by
  cases s <;> cases x <;> simp only [BS.prj] at h <;> (first | (cases h; done) | skip)
  case dead.dead => rfl
  case var.var => split at h <;> (first | (cases h; done) | skip); rename_i e; subst e; simp only [BS.inj, CSs.prj_inj _ h]
  case row.row => (repeat' split at h) <;> (first | (cases h; done) | skip); subst_vars; cases h; rfl
  case clo.clo =>
    split at h <;> (first | (cases h; done) | skip)
    rename_i e; subst e
    split at h
    · rename_i u v hu hv
      cases h
      simp only [BS.inj, VSs.prj_inj _ hu, VSs.prj_inj _ hv]
    · cases h
  case map.map => (repeat' split at h) <;> (first | (cases h; done) | skip); subst_vars; cases h; rfl
  case own.own =>
    split at h <;> (first | (cases h; done) | skip); rename_i e; subst e
    split at h <;> (first | (cases h; done) | skip); rename_i e; subst e
    cases h; rfl
  case chn.chn =>
    split at h <;> (first | (cases h; done) | skip); rename_i e; subst e
    split at h <;> (first | (cases h; done) | skip); rename_i e; subst e
    cases h; rfl
  case yld.yld =>
    split at h <;> (first | (cases h; done) | skip)
    rename_i e; subst e
    split at h
    · rename_i u hu
      cases h
      simp only [BS.inj, VSs.prj_inj _ hu]
    · cases h
theorem BSs.prj_inj : ∀ (l : List BS) {cs : List Blk} {y : BSs.den l}, BSs.prj l cs = some y → BSs.inj l y = cs
  | [], [], _, _ => rfl
  | [], _ :: _, _, h => by simp [BSs.prj] at h
  | _ :: _, [], _, h => by simp [BSs.prj] at h
  | s :: r, x :: cs, y, h => by
    simp only [BSs.prj] at h
    split at h
    · rename_i a b ha hb
      cases h
      simp only [BSs.inj, BS.prj_inj s ha, BSs.prj_inj r hb]
    · cases h
theorem Pat.prj_inj (p : Pat) {vs : List V1} {H : List Blk} {x : p.den} (h : p.prj vs H = some x) : p.inj x = (vs, H) := by
  unfold Pat.prj at h
  split at h
  · rename_i a b ha hb
    cases h
    simp only [Pat.inj, VSs.prj_inj _ ha, BSs.prj_inj _ hb]
  · cases h

theorem Pat.take_sound (p : Pat) (hI : Inv P c j H w) {vs : List V1} {vals : List Value} {x : p.den} (h : p.take c.n vs H = some x) (ha : All2 (V1Rel j H w (NN c j H)) vs vals) :
    ∃ j', Inv P c j' (p.inj x).2 w ∧ All2 (V1Rel j' (p.inj x).2 w (NN c j' (p.inj x).2)) (p.inj x).1 vals := by
  unfold Pat.take at h
  obtain ⟨j0, t0, r0⟩ := VSs.fit_sound p.bs p.vs hI ha
  simp only at h
  generalize VSs.fit p.bs p.vs vs H = a0 at h t0 r0
  obtain ⟨j1, t01⟩ := BSs.deep_sound p.bs fuelR ((List.range c.n).map (fun i => (i, i)) ++ pairsV p.vs a0.1) [] t0.1
  generalize BSs.deep p.bs fuelR ((List.range c.n).map (fun i => (i, i)) ++ pairsV p.vs a0.1) [] a0.2 = H1 at h t01
  have t1 := t0.trans t01
  have r1 : All2 (V1Rel j1 H1 w (NN c j1 H1)) a0.1 vals := r0.imp fun _ _ => V1Rel.mov t01.2
  generalize ha' : ((a0.1, H1) : List V1 × List Blk) = a at h
  have ha1 : a0.1 = a.1 := by rw [← ha']
  have ha2 : H1 = a.2 := by rw [← ha']
  rw [ha1] at h r1
  rw [ha2] at h r1 t1
  generalize hρ : reach a.2 fuelR ((a.2.take c.n).flatMap Blk.ids ++ a.1.flatMap V1.ids) (List.range c.n) = ρ at h
  have hnd : ρ.Nodup := by rw [← hρ]; exact reach_nodup _ _ _ _ List.nodup_range
  have hpre : ∀ i, i < c.n → ρ[i]? = some i := by
    intro i hi
    obtain ⟨e, he⟩ := reach_prefix a.2 fuelR ((a.2.take c.n).flatMap Blk.ids ++ a.1.flatMap V1.ids) (List.range c.n)
    rw [← hρ, he, List.getElem?_append_left (by simpa using hi), List.getElem?_range hi]
  have hI2 := t1.1.pick hnd hpre
  have r2 : All2 (V1Rel (j1.pick ρ) (YtcdnofemnpafhaaM.pick a.2 ρ) w (NN c (j1.pick ρ) (YtcdnofemnpafhaaM.pick a.2 ρ))) (a.1.map (V1.ren (place ρ))) vals :=
    All2.map_left (r1.imp fun _ _ h => V1Rel.pick (fun g hg => hg.imp id own_pick) h)
  obtain ⟨j3, t3⟩ := BSs.fit_sound p.bs 0 hI2
  have e := p.prj_inj h
  refine ⟨j3, by rw [e]; exact t3.1, ?_⟩
  rw [e]
  exact r2.imp fun _ _ => V1Rel.mov t3.2
end
end Go.Proofs.YtcdnofemnpafhaaM
