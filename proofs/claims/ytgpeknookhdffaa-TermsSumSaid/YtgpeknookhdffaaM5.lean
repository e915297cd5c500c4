/- Calls. Conditions: none. -/
import Derived.Test.YtgpeknookhdffaaM4
namespace Go.Proofs.YtgpeknookhdffaaM
set_option linter.unusedVariables false
set_option linter.unusedSimpArgs false
set_option linter.unnecessarySimpa false
set_option linter.unusedSectionVars false
open Go

section
variable {c : Cx} {j : J} {H : List Blk} {w : World}

def J.merge (j : J) (n : Nat) (ρ : List Nat) (j2 : J) : J := ⟨fun i => if i < n then j.blk i else j2.blk (ρ.length + (i - n)), fun i => if i < n then j.cv i else j2.cv (ρ.length + (i - n))⟩

theorem merge_len (H : List Blk) (ρ : List Nat) (H2 : List Blk) : (merge H ρ H2).length = H.length + (H2.length - ρ.length) := by simp [merge]
theorem merge_lt {ρ : List Nat} {H2 : List Blk} {i : Nat} (hi : i < H.length) : (merge H ρ H2)[i]? = some (match place ρ i with | some q => (H2.getD q .dead).ren (back ρ H.length) | none => H.getD i .dead) := by
  unfold merge
  rw [List.getElem?_append_left (by simpa using hi), List.getElem?_mapIdx, List.getElem?_eq_getElem hi]
  rw [Option.map_some, List.getD_eq_getElem?_getD, List.getElem?_eq_getElem hi]
  cases place ρ i <;> rfl
theorem merge_ge {ρ : List Nat} {H2 : List Blk} {i : Nat} (hi : H.length ≤ i) : (merge H ρ H2)[i]? = (H2[ρ.length + (i - H.length)]?).map (Blk.ren (back ρ H.length)) := by
  unfold merge
  rw [List.getElem?_append_right (by simpa using hi), List.getElem?_map, List.getElem?_drop]
  simp

theorem ren_live {B : Blk} {f : Nat → Option Nat} (h : (B.ren f).live) : B.live := by cases B <;> first | exact h | trivial

def cx1 (A1 : Nat → Prop) (ρ : List Nat) (j : J) (H : List Blk) (w : World) : Cx := ⟨A1, ρ.length, j.pick ρ, YtgpeknookhdffaaM.pick H ρ, Own (j.pick ρ) (YtgpeknookhdffaaM.pick H ρ), w⟩

variable {A1 : Nat → Prop} {ρ : List Nat} {j2 : J} {H2 : List Blk} {w2 : World}

theorem merge_old (hI : Inv c j H w) (hn : ρ.Nodup) (hI2 : Inv (cx1 A1 ρ j H w) j2 H2 w2) {i : Nat} {B : Blk} (hi : i < H.length) (h : (merge H ρ H2)[i]? = some B) (hl : B.live) :
    ∃ B0, H[i]? = some B0 ∧ B0.live ∧ B0.same B ∧ ((i ∉ ρ ∧ B = B0) ∨ ∃ q B2, ρ[q]? = some i ∧ q < ρ.length ∧ H2[q]? = some B2 ∧ B2.live ∧ B = B2.ren (back ρ H.length) ∧ j2.blk q = j.blk i ∧ j2.cv q = j.cv i) := by
  rw [merge_lt hi] at h
  cases hp : place ρ i with
  | none =>
    rw [hp] at h
    cases h
    simp only [List.getD_eq_getElem?_getD, List.getElem?_eq_getElem hi, Option.getD_some] at hl ⊢
    exact ⟨_, rfl, hl, Blk.same_refl hl, .inl ⟨place_none hp, rfl⟩⟩
  | some q =>
    rw [hp] at h
    cases h
    have hq := place_some hp
    have hl2 := ren_live hl
    rw [List.getD_eq_getElem?_getD] at hl2 ⊢
    cases hb : H2[q]? with
    | none => rw [hb] at hl2; exact hl2.elim
    | some B2 =>
      rw [hb] at hl2
      simp only [Option.getD_some] at hl2
      simp only [getD_some hb]
      obtain ⟨B0, h1, h2⟩ := hI2.same q B2 (get_lt hq) hb hl2
      obtain ⟨b, B3, k1, k2, k3, rfl⟩ := pick_live h1 (Blk.same_live h2).1
      rw [hq] at k1; cases k1
      obtain ⟨e1, e2⟩ := hI2.keep q B2 (get_lt hq) hb hl2
      have e1' : j2.blk q = j.blk i := by rw [e1]; simp [cx1, J.pick, hq]
      have e2' : j2.cv q = j.cv i := by rw [e2]; simp [cx1, J.pick, hq]
      exact ⟨B3, k2, k3, Blk.same_trans (ren_same k3) (Blk.same_trans h2 (ren_same hl2)), .inr ⟨q, B2, hq, get_lt hq, hb, hl2, rfl, e1', e2'⟩⟩

theorem own1_own {g : Nat} (h : Own (j.pick ρ) (YtgpeknookhdffaaM.pick H ρ) g) : ∃ b B, b ∈ ρ ∧ H[b]? = some B ∧ B.live ∧ j.blk b = some g := by
  obtain ⟨q, B, hb, hl, hg⟩ := h
  obtain ⟨b, B0, h1, h2, h3, _⟩ := pick_live hb hl
  exact ⟨b, B0, List.mem_of_getElem? h1, h2, h3, by simpa [J.pick, h1] using hg⟩

theorem back_at (hn : ρ.Nodup) (hlt : ∀ b ∈ ρ, b < H.length) (hI2 : Inv (cx1 A1 ρ j H w) j2 H2 w2) {q : Nat} {B : Blk} (hq : H2[q]? = some B) :
    ∃ s, back ρ H.length q = some s ∧ s < (merge H ρ H2).length ∧ (merge H ρ H2)[s]? = some (B.ren (back ρ H.length)) ∧ (B.live → (j.merge H.length ρ j2).blk s = j2.blk q ∧ (j.merge H.length ρ j2).cv s = j2.cv q) := by
  by_cases h : q < ρ.length
  · have hr : ρ[q]? = some (ρ.getD q 0) := by rw [List.getD_eq_getElem?_getD, List.getElem?_eq_getElem h]; rfl
    have hs := hlt _ (List.mem_of_getElem? hr)
    refine ⟨ρ.getD q 0, by simp [back, h], by rw [merge_len]; omega, ?_, fun hl => ?_⟩
    · rw [merge_lt hs, place_of hn hr]; simp only [getD_some hq]
    · obtain ⟨e1, e2⟩ := hI2.keep q B h hq hl
      exact ⟨by simp only [J.merge, if_pos hs]; rw [e1]; simp only [cx1, J.pick, hr], by simp only [J.merge, if_pos hs]; rw [e2]; simp only [cx1, J.pick, hr]⟩
  · have hlt2 := get_lt hq
    refine ⟨H.length + (q - ρ.length), by simp [back, h], by rw [merge_len]; omega, ?_, fun _ => ?_⟩
    · rw [merge_ge (by omega), show ρ.length + (H.length + (q - ρ.length) - H.length) = q by omega, hq]; rfl
    · have e : ρ.length + (H.length + (q - ρ.length) - H.length) = q := by omega
      exact ⟨by simp only [J.merge]; rw [if_neg (by omega), e], by simp only [J.merge]; rw [if_neg (by omega), e]⟩

theorem CRel.back (hn : ρ.Nodup) (hlt : ∀ b ∈ ρ, b < H.length) (hI2 : Inv (cx1 A1 ρ j H w) j2 H2 w2) {N N' : Nat → Prop} (hs : ∀ g, N' g → N g) {x : Cell} {v : Value} (h : CRel j2 H2 w2 N x v) :
    CRel (j.merge H.length ρ j2) (merge H ρ H2) w2 N' (x.ren (YtgpeknookhdffaaM.back ρ H.length)) v := by
  obtain ⟨h1, h⟩ := h
  have key : ∀ {q : Nat}, q < H2.length → ∃ s B, YtgpeknookhdffaaM.back ρ H.length q = some s ∧ s < (merge H ρ H2).length ∧ H2[q]? = some B ∧ (merge H ρ H2)[s]? = some (B.ren (YtgpeknookhdffaaM.back ρ H.length)) ∧ (B.live → (j.merge H.length ρ j2).blk s = j2.blk q ∧ (j.merge H.length ρ j2).cv s = j2.cv q) := by
    intro q hq
    obtain ⟨s, k1, k2, k3, k4⟩ := back_at hn hlt hI2 (List.getElem?_eq_getElem hq)
    exact ⟨s, _, k1, k2, List.getElem?_eq_getElem hq, k3, k4⟩
  cases x <;> simp only [Cell.ren]
  case int k n => exact ⟨h1, h⟩
  case bool b => exact ⟨h1, h⟩
  case str s => exact ⟨h1, h⟩
  case ro t l => exact ⟨h1, RoC.sub hs h⟩
  case nils => exact ⟨h1, h⟩
  case nilp => exact ⟨h1, h⟩
  case sfn f => exact ⟨h1, h⟩
  case nilf => exact ⟨h1, h⟩
  case nilm => exact ⟨h1, h⟩
  case top => exact ⟨h1, h⟩
  case rop t y o =>
    obtain ⟨e, d, hv, hN, hlt, hr, hc⟩ := h
    exact ⟨h1, e, d, hv, fun h' => hN (hs _ h'), hlt, RoC.sub hs hr, hc⟩
  case full q =>
    obtain ⟨s, B, k1, k2, k3, k4, k5⟩ := key h.1
    rw [k1]
    refine ⟨h1, k2, fun T t l hb => ?_⟩
    rw [k4] at hb
    cases B <;> simp only [Blk.ren] at hb <;> (first | (cases hb; done) | skip)
    cases hb
    rw [(k5 trivial).1]
    exact h.2 _ _ _ k3
  case part q o n =>
    obtain ⟨s, B, k1, k2, k3, k4, k5⟩ := key h.1
    rw [k1]
    refine ⟨h1, k2, fun T t l hb => ?_⟩
    rw [k4] at hb
    cases B <;> simp only [Blk.ren] at hb <;> (first | (cases hb; done) | skip)
    cases hb
    rw [(k5 trivial).1]
    exact h.2 _ _ _ k3
  case ptr q i o =>
    obtain ⟨s, B, k1, k2, k3, k4, k5⟩ := key h.1
    rw [k1]
    refine ⟨h1, k2, h.2.1, fun B' hb => ?_⟩
    rw [k4] at hb
    cases hb
    have := h.2.2 _ k3
    cases B <;> simp only [Blk.ren] at this ⊢
    · rw [(k5 trivial).1]; exact this
    · rw [(k5 trivial).1]; exact this
  case arr q o n i =>
    obtain ⟨s, B, k1, k2, k3, k4, k5⟩ := key h.1
    rw [k1]
    refine ⟨h1, k2, fun T cs hb => ?_⟩
    rw [k4] at hb
    cases B <;> simp only [Blk.ren] at hb <;> (first | (cases hb; done) | skip)
    rw [(k5 trivial).1]
    exact h.2 _ _ k3
  case fn g q =>
    obtain ⟨s, B, k1, k2, k3, k4, k5⟩ := key h.1
    rw [k1]
    refine ⟨h1, k2, fun f a d hb => ?_⟩
    rw [k4] at hb
    cases B <;> simp only [Blk.ren] at hb <;> (first | (cases hb; done) | skip)
    rw [(k5 trivial).2]
    exact h.2 _ _ _ k3
  case map q =>
    obtain ⟨s, B, k1, k2, k3, k4, k5⟩ := key h.1
    rw [k1]
    refine ⟨h1, k2, fun kt vt l hb => ?_⟩
    rw [k4] at hb
    cases B <;> simp only [Blk.ren] at hb <;> (first | (cases hb; done) | skip)
    cases hb
    rw [(k5 trivial).1]
    exact h.2 _ _ _ k3

theorem V1Rel.back (hn : ρ.Nodup) (hlt : ∀ b ∈ ρ, b < H.length) (hI2 : Inv (cx1 A1 ρ j H w) j2 H2 w2) {N N' : Nat → Prop} (hs : ∀ g, N' g → N g) {x : V1} {v : Value} (h : V1Rel j2 H2 w2 N x v) :
    V1Rel (j.merge H.length ρ j2) (merge H ρ H2) w2 N' (x.ren (YtgpeknookhdffaaM.back ρ H.length)) v := by
  cases x with
  | one y =>
    rcases h with rfl | h
    · exact .inl rfl
    · exact .inr (CRel.back hn hlt hI2 hs h)
  | agg cs =>
    obtain ⟨vs, rfl, h⟩ := h
    exact ⟨vs, rfl, All2.map_left (h.imp fun _ _ => CRel.back hn hlt hI2 hs)⟩
theorem AVRel.back (hn : ρ.Nodup) (hlt : ∀ b ∈ ρ, b < H.length) (hI2 : Inv (cx1 A1 ρ j H w) j2 H2 w2) {N N' : Nat → Prop} (hs : ∀ g, N' g → N g) {x : AV} {v : Value} (h : AVRel j2 H2 w2 N x v) :
    AVRel (j.merge H.length ρ j2) (merge H ρ H2) w2 N' (x.ren (YtgpeknookhdffaaM.back ρ H.length)) v := by
  cases x with
  | v y => exact V1Rel.back hn hlt hI2 hs h
  | tup l =>
    obtain ⟨vs, rfl, h⟩ := h
    exact ⟨vs, rfl, All2.map_left (h.imp fun _ _ => V1Rel.back hn hlt hI2 hs)⟩
theorem BRel.back (hn : ρ.Nodup) (hlt : ∀ b ∈ ρ, b < H.length) (hI2 : Inv (cx1 A1 ρ j H w) j2 H2 w2) {N N' : Nat → Prop} (hs : ∀ g, N' g → N g) {q s : Nat} {B : Blk} (h : BRel j2 H2 w2 N q B)
    (e1 : B.live → (j.merge H.length ρ j2).blk s = j2.blk q ∧ (j.merge H.length ρ j2).cv s = j2.cv q) : BRel (j.merge H.length ρ j2) (merge H ρ H2) w2 N' s (B.ren (YtgpeknookhdffaaM.back ρ H.length)) := by
  cases B with
  | dead => trivial
  | var T cs =>
    obtain ⟨g, vs, h1, h2, h3⟩ := h
    exact ⟨g, vs, (e1 trivial).1.trans h1, h2, All2.map_left (h3.imp fun _ _ => CRel.back hn hlt hI2 hs)⟩
  | row T t l =>
    rcases h with ⟨h1, h2⟩ | ⟨g, cap, cells, h1, h2, h3, hz, h4, h5, h6⟩
    · exact .inl ⟨(e1 trivial).1.trans h1, h2⟩
    · exact .inr ⟨g, cap, cells, (e1 trivial).1.trans h1, h2, h3, hz, h4, h5, fun i x hx => by
        obtain ⟨d, hd, hc⟩ := h6 i x hx
        exact ⟨d, RoC.sub hs hd, hc⟩⟩
  | clo f a d =>
    obtain ⟨h0, A, C, h1, h2, h3⟩ := h
    exact ⟨(e1 trivial).1.trans h0, A, C, (e1 trivial).2.trans h1, All2.map_left (h2.imp fun _ _ => V1Rel.back hn hlt hI2 hs), All2.map_left (h3.imp fun _ _ => V1Rel.back hn hlt hI2 hs)⟩
  | map kt vt l =>
    obtain ⟨g, es, clock, h1, h2, h3⟩ := h
    exact ⟨g, es, clock, (e1 trivial).1.trans h1, h2, h3⟩

theorem Inv.merge (hI : Inv c j H w) (hn : ρ.Nodup) (hlt : ∀ b ∈ ρ, b < H.length) (hI2 : Inv (cx1 A1 ρ j H w) j2 H2 w2) {N : Nat → Prop} (hs : ∀ g, NN c (j.merge H.length ρ j2) (YtgpeknookhdffaaM.merge H ρ H2) g → N g) (hB : ∀ q B, H2[q]? = some B → BRel j2 H2 w2 N q B) :
    Inv c (j.merge H.length ρ j2) (YtgpeknookhdffaaM.merge H ρ H2) w2 ∧ Mov j H w (NN c j H) (j.merge H.length ρ j2) (YtgpeknookhdffaaM.merge H ρ H2) w2 (NN c (j.merge H.length ρ j2) (YtgpeknookhdffaaM.merge H ρ H2)) := by
  have jlt : ∀ {i : Nat}, i < H.length → (j.merge H.length ρ j2).blk i = j.blk i ∧ (j.merge H.length ρ j2).cv i = j.cv i := fun hi => ⟨by simp [J.merge, hi], by simp [J.merge, hi]⟩
  have jge : ∀ {i : Nat}, H.length ≤ i → (j.merge H.length ρ j2).blk i = j2.blk (ρ.length + (i - H.length)) := fun hi => by simp only [J.merge]; rw [if_neg (by omega)]
  have ge : ∀ {i : Nat} {B : Blk}, H.length ≤ i → (YtgpeknookhdffaaM.merge H ρ H2)[i]? = some B → B.live → ∃ B2, H2[ρ.length + (i - H.length)]? = some B2 ∧ B2.live ∧ B = B2.ren (YtgpeknookhdffaaM.back ρ H.length) := by
    intro i B hi h hl
    rw [merge_ge hi, Option.map_eq_some_iff] at h
    obtain ⟨B2, h1, rfl⟩ := h
    exact ⟨B2, h1, ren_live hl, rfl⟩
  have own1 : ∀ {g : Nat}, Own (j.pick ρ) (YtgpeknookhdffaaM.pick H ρ) g → Own j H g := own_pick
  have neu2 : ∀ {q g : Nat} {B : Blk}, ρ.length ≤ q → H2[q]? = some B → B.live → j2.blk q = some g → w.heap.size ≤ g ∨ Own (j.pick ρ) (YtgpeknookhdffaaM.pick H ρ) g := fun hq hb hl hg => hI2.neu _ _ _ hq hb hl hg
  have hown : ∀ {g : Nat}, Own (j.merge H.length ρ j2) (YtgpeknookhdffaaM.merge H ρ H2) g → Own j H g ∨ w.heap.size ≤ g := by
    rintro g ⟨i, B, hb, hl, hg⟩
    by_cases hi : i < H.length
    · obtain ⟨B0, h1, h2, _⟩ := merge_old hI hn hI2 hi hb hl
      rw [(jlt hi).1] at hg
      exact .inl ⟨i, B0, h1, h2, hg⟩
    · obtain ⟨B2, h1, h2, _⟩ := ge (by omega) hb hl
      rw [jge (by omega)] at hg
      rcases neu2 (by omega) h1 h2 hg with h3 | h3
      · exact .inr h3
      · exact .inl (own1 h3)
  have keep : ∀ {g : Nat}, g < w.heap.size → ¬ Own (j.pick ρ) (YtgpeknookhdffaaM.pick H ρ) g → w2.heap[g]? = w.heap[g]? := fun hg hn' => hI2.frame _ hg hn'
  have hsz : w.heap.size ≤ w2.heap.size := hI2.size
  have m : Mov j H w (NN c j H) (j.merge H.length ρ j2) (YtgpeknookhdffaaM.merge H ρ H2) w2 (NN c (j.merge H.length ρ j2) (YtgpeknookhdffaaM.merge H ρ H2)) := by
    refine ⟨by rw [merge_len]; omega, fun b B hb => ?_, hsz, fun g hg hN => ⟨fun hN' => ?_, keep hg fun h => hN (.inr (own1 h))⟩, fun b T t l g cells hb hl hj hc => ?_⟩
    · have hlt' := get_lt hb
      refine ⟨_, merge_lt hlt', fun hl => ?_⟩
      obtain ⟨B0, h1, h2, h3, _⟩ := merge_old hI hn hI2 hlt' (merge_lt hlt') hl
      rw [hb] at h1; cases h1
      exact ⟨h3, jlt hlt'⟩
    · rcases hN' with hA | ho
      · exact hN (.inl hA)
      · rcases hown ho with h1 | h1
        · exact hN (.inr h1)
        · omega
    · obtain ⟨B0, h1, h2, h3, h4⟩ := merge_old hI hn hI2 hb hl trivial
      rcases h4 with ⟨h5, rfl⟩ | ⟨q, B2, k1, k2, k3, k4, k5, k6, _⟩
      · refine ⟨cells, (keep (Array.getElem?_eq_some_iff.1 hc).1 fun ho => ?_).trans hc, rfl⟩
        obtain ⟨b', B', e1, e2, e3, e4⟩ := own1_own ho
        have := hI.inj b b' _ _ g h1 e2 trivial e3 hj e4
        subst this
        exact h5 e1
      · cases B2 <;> simp only [Blk.ren] at k5 <;> (first | (cases k5; done) | skip)
        cases k5
        exact hI2.rowsz q _ _ _ g cells k2 k3 (by simp only [cx1, J.pick, k1]; exact hj) hc
  have hn0 := hI.n
  refine ⟨⟨by rw [merge_len]; omega, fun i B hi hb hl => ?_, fun i B g hi hb hl hg => ?_, fun i B g hi hb hl hg => ?_, fun i i' B B' g hb hb' hl hl' hg hg' => ?_, fun g hg hn' => ?_, Nat.le_trans hI.size hsz, hI2.os.trans hI.os, hI2.tape.trans hI.tape, hI2.output.trans hI.output, hI.apart, hI.same_step m, hI.rowsz_step m, fun i B hb => ?_⟩, m⟩
  · obtain ⟨B0, h1, h2, _⟩ := merge_old hI hn hI2 (by omega) hb hl
    obtain ⟨e1, e2⟩ := jlt (show i < H.length by omega)
    obtain ⟨k1, k2⟩ := hI.keep i B0 hi h1 h2
    exact ⟨e1.trans k1, e2.trans k2⟩
  · by_cases hlt' : i < H.length
    · obtain ⟨B0, h1, h2, _⟩ := merge_old hI hn hI2 hlt' hb hl
      rw [(jlt hlt').1] at hg
      exact hI.neu i B0 g hi h1 h2 hg
    · obtain ⟨B2, h1, h2, _⟩ := ge (by omega) hb hl
      rw [jge (by omega)] at hg
      rcases neu2 (by omega) h1 h2 hg with h3 | h3
      · exact .inl (Nat.le_trans hI.size h3)
      · obtain ⟨b, B0, _, k2, k3, k4⟩ := own1_own h3
        by_cases hbn : b < c.n
        · exact .inr (hI.own b B0 g hbn k2 k3 k4)
        · exact hI.neu b B0 g (by omega) k2 k3 k4
  · obtain ⟨B0, h1, h2, _⟩ := merge_old hI hn hI2 (by omega) hb hl
    rw [(jlt (show i < H.length by omega)).1] at hg
    exact hI.own i B0 g hi h1 h2 hg
  · have mixed : ∀ {i i' : Nat} {B B' : Blk}, i < H.length → H.length ≤ i' → (YtgpeknookhdffaaM.merge H ρ H2)[i]? = some B → (YtgpeknookhdffaaM.merge H ρ H2)[i']? = some B' → B.live → B'.live → (j.merge H.length ρ j2).blk i = some g → (j.merge H.length ρ j2).blk i' = some g → False := by
      intro i i' B B' h1 h2 hb hb' hl hl' hg hg'
      obtain ⟨B0, k1, k2, _, k3⟩ := merge_old hI hn hI2 h1 hb hl
      obtain ⟨B2, k4, k5, _⟩ := ge h2 hb' hl'
      rw [(jlt h1).1] at hg
      rw [jge h2] at hg'
      rcases neu2 (by omega) k4 k5 hg' with h3 | h3
      · have := hI.own_lt ⟨i, B0, k1, k2, hg⟩; omega
      · obtain ⟨b, B3, e1, e2, e3, e4⟩ := own1_own h3
        have := hI.inj i b B0 B3 g k1 e2 k2 e3 hg e4
        subst this
        rcases k3 with ⟨h5, _⟩ | ⟨q, B4, f1, f2, f3, f4, _, f5, _⟩
        · exact h5 e1
        · have := hI2.inj q _ B4 B2 g f3 k4 f4 k5 (f5.trans hg) hg'
          omega
    by_cases h1 : i < H.length <;> by_cases h2 : i' < H.length
    · obtain ⟨B0, k1, k2, _⟩ := merge_old hI hn hI2 h1 hb hl
      obtain ⟨B0', k1', k2', _⟩ := merge_old hI hn hI2 h2 hb' hl'
      rw [(jlt h1).1] at hg
      rw [(jlt h2).1] at hg'
      exact hI.inj i i' B0 B0' g k1 k1' k2 k2' hg hg'
    · exact (mixed h1 (by omega) hb hb' hl hl' hg hg').elim
    · exact (mixed h2 (by omega) hb' hb hl' hl hg' hg).elim
    · obtain ⟨B2, k4, k5, _⟩ := ge (by omega) hb hl
      obtain ⟨B2', k4', k5', _⟩ := ge (by omega) hb' hl'
      rw [jge (by omega)] at hg hg'
      have := hI2.inj _ _ B2 B2' g k4 k4' k5 k5' hg hg'
      omega
  · refine (keep (by have := hI.size; omega) fun ho => ?_).trans (hI.frame g hg hn')
    obtain ⟨b, B0, _, k2, k3, k4⟩ := own1_own ho
    by_cases hbn : b < c.n
    · exact hn' (hI.own b B0 g hbn k2 k3 k4)
    · rcases hI.neu b B0 g (by omega) k2 k3 k4 with h1 | h1
      · omega
      · exact hn' h1
  · by_cases hl : B.live
    · by_cases hlt' : i < H.length
      · obtain ⟨B0, h1, h2, h3, h4⟩ := merge_old hI hn hI2 hlt' hb hl
        rcases h4 with ⟨h5, rfl⟩ | ⟨q, B2, k1, k2, k3, k4, rfl, k6, k7⟩
        · obtain ⟨e1, e2⟩ := jlt hlt'
          refine (hI.heap i _ h1).mov m e1 e2 fun g hg => keep (hI.own_lt ⟨i, _, h1, h2, hg⟩) fun ho => ?_
          obtain ⟨b', B', e1, e2, e3, e4⟩ := own1_own ho
          have := hI.inj i b' _ _ g h1 e2 h2 e3 hg e4
          subst this
          exact h5 e1
        · obtain ⟨e1, e2⟩ := jlt hlt'
          exact (hB q B2 k3).back hn hlt hI2 hs fun _ => ⟨e1.trans k6.symm, e2.trans k7.symm⟩
      · obtain ⟨B2, k4, k5, rfl⟩ := ge (by omega) hb hl
        exact (hB _ B2 k4).back hn hlt hI2 hs fun _ => ⟨jge (by omega), by simp only [J.merge]; rw [if_neg hlt']⟩
    · cases B <;> first | exact absurd trivial hl | trivial
end
end Go.Proofs.YtgpeknookhdffaaM

/- Calls of the program's functions; operations, in the text's order. Conditions: none. -/
namespace Go.Proofs.YtgpeknookhdffaaM
set_option linter.unusedVariables false
set_option linter.unusedSimpArgs false
set_option linter.unnecessarySimpa false
set_option linter.unusedSectionVars false
open Go

section
variable {P : Program} {c : Cx} {j : J} {H : List Blk} {w : World}

def cx0 (A : Nat → Prop) (j : J) (H : List Blk) (w : World) : Cx := ⟨A, H.length, j, H, Own j H, w⟩

structure FSound (P : Program) (g : FuncId) (sp : FSpec) : Prop where
  fn : ∃ fn, P.funcs[g]? = some fn ∧ (fn.name == "runtime.NumGoroutine") = false ∧ fn.body.isNone = false
  ok : ∀ (A : Nat → Prop) (j : J) (H : List Blk) (w : World) (args : List V1) (vals : Array Value) (x : sp.X), sp.imp args H = some x →
    Inv (cx0 A j H w) j H w → All2 (V1Rel j H w (NN (cx0 A j H w) j H)) args vals.toList →
    Calls P g vals w fun e w' => ∃ V j', e = .returned V ∧ Inv (cx0 A j H w) j' (sp.out args H x).2 w' ∧ AVRel j' (sp.out args H x).2 w' (NN (cx0 A j H w) j' (sp.out args H x).2) (sp.out args H x).1 V

theorem run_callFunc {g : FuncId} {fn : Func} (h : P.funcs[g]? = some fn) (h1 : (fn.name == "runtime.NumGoroutine") = false) (h2 : fn.body.isNone = false) (args : Array Value) : (callFunc g args).run P w = .ok (.enter g args) w := by
  have h1' : ¬ fn.name = "runtime.NumGoroutine" := by simpa using h1
  have h2' : ¬ fn.body = none := by intro e; rw [e] at h2; cases h2
  simp [callFunc, h, h1', h2']

theorem cx_eq (A1 : Nat → Prop) (ρ : List Nat) (j : J) (H : List Blk) (w : World) : cx1 A1 ρ j H w = cx0 A1 (j.pick ρ) (YtgpeknookhdffaaM.pick H ρ) w := by
  simp [cx1, cx0, pick_len]

theorem Inv.start (hI : Inv c j H w) {ρ : List Nat} (hn : ρ.Nodup) {A1 : Nat → Prop} (hA : ∀ g, A1 g → g < w.heap.size ∧ ¬ Own (j.pick ρ) (YtgpeknookhdffaaM.pick H ρ) g) (hs : ∀ g, NN (cx1 A1 ρ j H w) (j.pick ρ) (YtgpeknookhdffaaM.pick H ρ) g → NN c j H g) :
    Inv (cx1 A1 ρ j H w) (j.pick ρ) (YtgpeknookhdffaaM.pick H ρ) w := by
  refine ⟨by simp [cx1, pick_len], fun i B hi hb hl => ⟨rfl, rfl⟩, fun i B g hi hb hl hg => ?_, fun i B g hi hb hl hg => ⟨i, B, hb, hl, hg⟩, fun i i' B B' g hb hb' hl hl' hg hg' => ?_, fun _ _ _ => rfl, Nat.le_refl _, rfl, rfl, rfl, fun g hg => ⟨(hA g hg).2, (hA g hg).1⟩, fun i B hi hb hl => ⟨B, hb, Blk.same_refl hl⟩, fun i T t l g cells hi hb hg hc => ⟨cells, hc, rfl⟩, fun q B hb => ?_⟩
  · have := get_lt hb
    rw [pick_len] at this
    simp [cx1] at hi
    omega
  · obtain ⟨b, B0, h1, h2, h3, _⟩ := pick_live hb hl
    obtain ⟨b', B0', h1', h2', h3', _⟩ := pick_live hb' hl'
    have := hI.inj b b' B0 B0' g h2 h2' h3 h3' (by simpa [J.pick, h1] using hg) (by simpa [J.pick, h1'] using hg')
    subst this
    have k1 := place_of hn h1
    have k2 := place_of hn h1'
    rw [k1] at k2; cases k2; rfl
  · by_cases hl : B.live
    · obtain ⟨b, B0, h1, h2, h3, rfl⟩ := pick_live hb hl
      exact (hI.heap b B0 h2).pick hs h1
    · cases B <;> first | exact absurd trivial hl | trivial

/-! ### What tells no row that is only read holds in whatever surroundings -/
theorem RoC.any {N N' : Nat → Prop} : ∀ {t : Ty} {x : t.den} {cs : List Value}, t.noRo = true → RoC w N t x cs → RoC w N' t x cs
  | .int _, _, _, _, h => h
  | .bool, _, _, _, h => h
  | .str, _, _, _, h => h
  | .unit, _, _, _, h => h
  | .pair a b, _, _, hn, h => by
    simp only [Ty.noRo, Bool.and_eq_true] at hn
    obtain ⟨c1, c2, rfl, h1, h2⟩ := h
    exact ⟨c1, c2, rfl, RoC.any hn.1 h1, RoC.any hn.2 h2⟩
  | .ro _, _, _, hn, _ => by simp [Ty.noRo] at hn
theorem CRel.any {N N' : Nat → Prop} {x : Cell} {v : Value} (hn : x.noRo = true) (h : CRel j H w N x v) : CRel j H w N' x v := by
  cases x <;> (first | exact h | (simp [Cell.noRo] at hn; done))
theorem V1Rel.any {N N' : Nat → Prop} {x : V1} {v : Value} (hn : x.noRo = true) (h : V1Rel j H w N x v) : V1Rel j H w N' x v := by
  cases x with
  | one y =>
    simp [V1.noRo, V1.cells] at hn
    exact h.imp id (CRel.any hn)
  | agg cs =>
    obtain ⟨vs, rfl, h⟩ := h
    refine ⟨vs, rfl, h.imp_mem fun x _ hx => CRel.any ?_⟩
    exact List.all_eq_true.1 hn x hx
theorem AVRel.any {N N' : Nat → Prop} {x : AV} {v : Value} (hn : x.noRo = true) (h : AVRel j H w N x v) : AVRel j H w N' x v := by
  cases x with
  | v y => exact V1Rel.any hn h
  | tup l =>
    obtain ⟨vs, rfl, h⟩ := h
    exact ⟨vs, rfl, h.imp_mem fun x _ hx => V1Rel.any (List.all_eq_true.1 hn x hx)⟩
theorem BRel.any {N N' : Nat → Prop} {b : Nat} {B : Blk} (hn : B.noRo = true) (h : BRel j H w N b B) : BRel j H w N' b B := by
  cases B with
  | dead => trivial
  | var T cs =>
    obtain ⟨g, vs, h1, h2, h3⟩ := h
    exact ⟨g, vs, h1, h2, h3.imp_mem fun x _ hx => CRel.any (List.all_eq_true.1 hn x hx)⟩
  | row T t l =>
    rcases h with h | ⟨g, cap, cells, h1, h2, h3, hz, h4, h5, h6⟩
    · exact .inl h
    · exact .inr ⟨g, cap, cells, h1, h2, h3, hz, h4, h5, fun i x hx => by
        obtain ⟨d, hd, hc⟩ := h6 i x hx
        exact ⟨d, RoC.any hn hd, hc⟩⟩
  | clo f a d =>
    simp only [Blk.noRo, List.all_append, Bool.and_eq_true] at hn
    obtain ⟨h0, A, C, h1, h2, h3⟩ := h
    exact ⟨h0, A, C, h1, h2.imp_mem fun x _ hx => V1Rel.any (List.all_eq_true.1 hn.1 x hx), h3.imp_mem fun x _ hx => V1Rel.any (List.all_eq_true.1 hn.2 x hx)⟩
  | map _ _ _ => exact h

/-! ### Rows of the call's own, lent -/
theorem lend_rel (hI : Inv c j H w) {ρ : List Nat} {x : Cell} {v : Value} (hx : (lentIds H x).all (fun b => !ρ.contains b) = true) (h : CRel j H w (NN c j H) x v) :
    CRel (j.pick ρ) (YtgpeknookhdffaaM.pick H ρ) w (NN (cx1 c.A ρ j H w) (j.pick ρ) (YtgpeknookhdffaaM.pick H ρ)) ((lend H x).ren (place ρ)) v := by
  have hs : ∀ g, NN (cx1 c.A ρ j H w) (j.pick ρ) (YtgpeknookhdffaaM.pick H ρ) g → NN c j H g := fun g hg => hg.imp id own_pick
  have far : ∀ {b g : Nat} {B : Blk}, H[b]? = some B → B.live → j.blk b = some g → b ∉ ρ → ¬ NN (cx1 c.A ρ j H w) (j.pick ρ) (YtgpeknookhdffaaM.pick H ρ) g := by
    intro b g B hb hl hg hr hN
    rcases hN with hA | ho
    · exact hI.own_apart ⟨b, B, hb, hl, hg⟩ hA
    · obtain ⟨b', B', e1, e2, e3, e4⟩ := own1_own ho
      have := hI.inj b b' _ _ g hb e2 hl e3 hg e4
      subst this
      exact hr e1
  have ro : ∀ {T : TypeId} {t : Ty} {l : List t.den} {b o n : Nat} {A : Option Addr} {cap : Nat}, H[b]? = some (.row T t l) → b ∉ ρ → o + n ≤ l.length → n ≤ cap → (0 < n → ∃ g, j.blk b = some g ∧ A = some ⟨g, o * t.sz, none⟩) →
      CRel (j.pick ρ) (YtgpeknookhdffaaM.pick H ρ) w (NN (cx1 c.A ρ j H w) (j.pick ρ) (YtgpeknookhdffaaM.pick H ρ)) (.ro t ((l.drop o).take n)) (.slice A n cap) := by
    intro T t l b o n A cap hb hr hon hnc hA
    have hlen : ((l.drop o).take n).length = n := by simp; omega
    refine ⟨rfl, A, cap, by rw [hlen], by rw [hlen]; exact hnc, fun i y hy => ?_⟩
    have hin : i < n := by rw [← hlen]; exact get_lt hy
    obtain ⟨g, hg, rfl⟩ := hA (by omega)
    rcases hI.heap b _ hb with ⟨h1, _⟩ | ⟨g', cap', cells, h1, h2, h3, hz, h4, h5, h6⟩
    · rw [hg] at h1; cases h1
    · rw [hg] at h1; cases h1
      rw [List.getElem?_take, if_pos hin, List.getElem?_drop] at hy
      obtain ⟨d, hd, hc⟩ := h6 _ y hy
      refine ⟨_, d, rfl, far hb trivial hg hr, (Array.getElem?_eq_some_iff.1 h2).1, RoC.sub hs hd, fun q u hu => ?_⟩
      rw [Addr.add_mid, cell_of_row w g _ cells T (0, 0) h2, show o * t.sz + (i * t.sz + q) = (o + i) * t.sz + q by rw [Nat.add_mul]; omega]
      exact hc q u hu
  have other : CRel (j.pick ρ) (YtgpeknookhdffaaM.pick H ρ) w (NN (cx1 c.A ρ j H w) (j.pick ρ) (YtgpeknookhdffaaM.pick H ρ)) (x.ren (place ρ)) v := CRel.pick hs h
  cases x <;> simp only [lend] <;> (first | exact other | skip)
  case full b =>
    cases hb : H[b]? with
    | none => exact other
    | some B =>
      cases B <;> (first | exact other | skip)
      rename_i T t l
      simp only [lentIds, hb, List.all_cons, List.all_nil, Bool.and_true, Bool.not_eq_true', List.contains_eq_mem, decide_eq_false_iff_not] at hx
      have hl0 : (l.drop 0).take l.length = l := by simp
      rcases h.2.2 _ _ _ hb with ⟨hj, rfl⟩ | ⟨g, cap, hj, rfl, cells, hh, hsz⟩
      · rcases hI.heap b _ hb with ⟨_, rfl⟩ | ⟨g, _, _, hg, _⟩
        · exact ro (o := 0) (n := 0) hb hx (by simp) (Nat.le_refl _) (fun h => by omega)
        · rw [hj] at hg; cases hg
      · rcases hI.heap b _ hb with ⟨hj', _⟩ | ⟨g', cap', cells', h1, h2, h3, hz, h4, _⟩
        · rw [hj] at hj'; cases hj'
        · rw [hj] at h1; cases h1
          rw [hh] at h2; cases h2
          rw [hsz] at h3
          have hcc := Nat.eq_of_mul_eq_mul_right hz h3
          subst hcc
          have := ro (o := 0) (n := l.length) (A := some ⟨g, 0, none⟩) (cap := cap) hb hx (by simp) h4 (fun _ => ⟨g, hj, by simp⟩)
          rw [hl0] at this
          exact this
  case part b o n =>
    cases hb : H[b]? with
    | none => exact other
    | some B =>
      cases B <;> (first | exact other | skip)
      rename_i T t l
      simp only [lentIds, hb, List.all_cons, List.all_nil, Bool.and_true, Bool.not_eq_true', List.contains_eq_mem, decide_eq_false_iff_not] at hx
      obtain ⟨k1, A, cap, rfl, k2, k3⟩ := h.2.2 _ _ _ hb
      exact ro hb hx k1 k2 k3

theorem lend1_rel (hI : Inv c j H w) {ρ : List Nat} {x : V1} {v : Value} (hx : (x.cells.flatMap (lentIds H)).all (fun b => !ρ.contains b) = true) (h : V1Rel j H w (NN c j H) x v) :
    V1Rel (j.pick ρ) (YtgpeknookhdffaaM.pick H ρ) w (NN (cx1 c.A ρ j H w) (j.pick ρ) (YtgpeknookhdffaaM.pick H ρ)) ((x.lend H).ren (place ρ)) v := by
  rw [List.all_flatMap] at hx
  cases x with
  | one y =>
    rcases h with rfl | h
    · exact .inl rfl
    · exact .inr (lend_rel hI (by simpa [V1.cells] using hx) h)
  | agg cs =>
    obtain ⟨vs, rfl, h⟩ := h
    refine ⟨vs, rfl, ?_⟩
    show All2 _ ((cs.map (lend H)).map (Cell.ren (place ρ))) _
    rw [List.map_map]
    refine All2.map_left (h.imp_mem fun y _ hy => ?_)
    exact lend_rel hI (List.all_eq_true.1 hx y hy)

variable {R : Type} {f : AV → List Blk → Option R} {r : R} {fs : FuncId → List V1 → List Blk → Option FSpec}

theorem callF_sound (hfs : ∀ g as H sp, fs g as H = some sp → FSound P g sp) (hI : Inv c j H w) {g : FuncId} {args : List V1} {vals : Array Value} (ha : All2 (V1Rel j H w (NN c j H)) args vals.toList) (h : callF fs g args H f = some r) :
    (∃ fn, P.funcs[g]? = some fn ∧ (fn.name == "runtime.NumGoroutine") = false ∧ fn.body.isNone = false) ∧
    Calls P g vals w fun e w' => ∃ V av H' j', e = .returned V ∧ f av H' = some r ∧ Inv c j' H' w' ∧ Mov j H w (NN c j H) j' H' w' (NN c j' H') ∧ AVRel j' H' w' (NN c j' H') av V := by
  rw [callF_def] at h
  split at h
  · rename_i sp hsp
    obtain ⟨hfn, hok⟩ := hfs g _ _ sp hsp
    refine ⟨hfn, ?_⟩
    split at h
    · (try simp only at h)
      generalize hρ : reach H fuelR ((args.map (V1.lend H)).flatMap V1.ids) [] = ρ at h
      have hnd : ρ.Nodup := by rw [← hρ]; exact reach_nodup _ _ _ _ List.nodup_nil
      split at h
      · rename_i hc
        rw [Bool.and_eq_true, List.all_flatMap] at hc
        obtain ⟨hc1, hc2⟩ := hc
        have hlt : ∀ b ∈ ρ, b < H.length := fun b hb => by simpa using List.all_eq_true.1 hc1 b hb
        rw [Option.bind_eq_some_iff] at h
        obtain ⟨x, hx, h⟩ := h
        split at h
        · rename_i hnr
          rw [Bool.and_eq_true] at hnr
          have hs : ∀ g, NN (cx1 c.A ρ j H w) (j.pick ρ) (YtgpeknookhdffaaM.pick H ρ) g → NN c j H g := fun g hg => hg.imp id own_pick
          have hI1 := hI.start hnd (A1 := c.A) (fun g hg => ⟨by have := (hI.apart g hg).2; have := hI.size; omega, fun ho => hI.own_apart (own_pick ho) hg⟩) hs
          have ha1 : All2 (V1Rel (j.pick ρ) (YtgpeknookhdffaaM.pick H ρ) w (NN (cx1 c.A ρ j H w) (j.pick ρ) (YtgpeknookhdffaaM.pick H ρ))) ((args.map (V1.lend H)).map (V1.ren (place ρ))) vals.toList := by
            rw [List.map_map]
            exact All2.map_left (ha.imp_mem fun x _ hx => lend1_rel hI (List.all_eq_true.1 hc2 x hx))
          rw [cx_eq] at hI1 ha1
          refine (hok c.A (j.pick ρ) (YtgpeknookhdffaaM.pick H ρ) w _ vals x hx hI1 ha1).mono fun e w' hpost => ?_
          obtain ⟨V, j2, he, hI2, hr⟩ := hpost
          rw [← cx_eq] at hI2 hr
          obtain ⟨m1, m2⟩ := hI.merge hnd hlt hI2 (N := fun _ => True) (fun _ _ => trivial) (fun q B hq => (hI2.heap q B hq).any (List.all_eq_true.1 hnr.2 B (List.mem_of_getElem? hq)))
          exact ⟨V, _, _, _, he, h, m1, m2, AVRel.back hnd hlt hI2 (N := fun _ => True) (fun _ _ => trivial) (AVRel.any hnr.1 hr)⟩
        · cases h
      · cases h
    · dsimp only at h
      generalize hρ : reach H fuelR (args.flatMap V1.ids) [] = ρ at h
      have hnd : ρ.Nodup := by rw [← hρ]; exact reach_nodup _ _ _ _ List.nodup_nil
      split at h
      · rename_i hc1
        have hlt : ∀ b ∈ ρ, b < H.length := fun b hb => by simpa using List.all_eq_true.1 hc1 b hb
        rw [Option.bind_eq_some_iff] at h
        obtain ⟨x, hx, h⟩ := h
        let A1 : Nat → Prop := fun g => c.A g ∨ (Own j H g ∧ ¬ Own (j.pick ρ) (YtgpeknookhdffaaM.pick H ρ) g)
        have hs : ∀ g, NN (cx1 A1 ρ j H w) (j.pick ρ) (YtgpeknookhdffaaM.pick H ρ) g → NN c j H g := fun g hg => by
          rcases hg with (hg | hg) | hg
          · exact .inl hg
          · exact .inr hg.1
          · exact .inr (own_pick hg)
        have hI1 := hI.start hnd (A1 := A1) (fun g hg => by
          rcases hg with hg | hg
          · exact ⟨by have := (hI.apart g hg).2; have := hI.size; omega, fun ho => hI.own_apart (own_pick ho) hg⟩
          · exact ⟨hI.own_lt hg.1, hg.2⟩) hs
        have ha1 : All2 (V1Rel (j.pick ρ) (YtgpeknookhdffaaM.pick H ρ) w (NN (cx1 A1 ρ j H w) (j.pick ρ) (YtgpeknookhdffaaM.pick H ρ))) (args.map (V1.ren (place ρ))) vals.toList :=
          All2.map_left (ha.imp fun x _ => V1Rel.pick hs)
        rw [cx_eq] at hI1 ha1
        refine (hok A1 (j.pick ρ) (YtgpeknookhdffaaM.pick H ρ) w _ vals x hx hI1 ha1).mono fun e w' hpost => ?_
        obtain ⟨V, j2, he, hI2, hr⟩ := hpost
        rw [← cx_eq] at hI2 hr
        have hN : ∀ g, NN c (j.merge H.length ρ j2) (YtgpeknookhdffaaM.merge H ρ (sp.out (args.map (V1.ren (place ρ))) (YtgpeknookhdffaaM.pick H ρ) x).2) g → NN (cx1 A1 ρ j H w) j2 (sp.out (args.map (V1.ren (place ρ))) (YtgpeknookhdffaaM.pick H ρ) x).2 g := by
          intro g hg
          rcases hg with hg | ⟨i, B, hb, hl, hg⟩
          · exact .inl (.inl hg)
          · by_cases hi : i < H.length
            · obtain ⟨B0, h1, h2, _, h4⟩ := merge_old hI hnd hI2 hi hb hl
              have hg' : j.blk i = some g := by simpa [J.merge, hi] using hg
              rcases h4 with ⟨h5, _⟩ | ⟨q, B2, k1, k2, k3, k4, _, k6, _⟩
              · refine .inl (.inr ⟨⟨i, B0, h1, h2, hg'⟩, fun ho => ?_⟩)
                obtain ⟨b', B', e1, e2, e3, e4⟩ := own1_own ho
                have := hI.inj i b' _ _ g h1 e2 h2 e3 hg' e4
                subst this
                exact h5 e1
              · exact .inr ⟨q, B2, k3, k4, k6.trans hg'⟩
            · rw [merge_ge (by omega), Option.map_eq_some_iff] at hb
              obtain ⟨B2, h1, rfl⟩ := hb
              have hg' : j2.blk (ρ.length + (i - H.length)) = some g := by simp only [J.merge] at hg; rw [if_neg hi] at hg; exact hg
              exact .inr ⟨_, B2, h1, ren_live hl, hg'⟩
        obtain ⟨m1, m2⟩ := hI.merge hnd hlt hI2 hN (fun q B hq => hI2.heap q B hq)
        exact ⟨V, _, _, _, he, h, m1, m2, AVRel.back hnd hlt hI2 hN hr⟩
      · cases h
  · cases h
end
end Go.Proofs.YtgpeknookhdffaaM

/- Operations, regions in the text's order. Conditions: none. -/
namespace Go.Proofs.YtgpeknookhdffaaM
set_option linter.unusedVariables false
set_option linter.unusedSimpArgs false
set_option linter.unnecessarySimpa false
set_option linter.unusedSectionVars false
open Go

section
variable {P : Program} {c : Cx} {j : J} {H : List Blk} {w : World} {R : Type} {r : R} {fs : FuncId → List V1 → List Blk → Option FSpec} {env : List AV} {a : Act}

theorem opV_sound {f : AV → List Blk → Option R} (hI : Inv c j H w) (he : ERel j H w (NN c j H) env a) {o : Oper} (h : opV P o.op env H f = some r) : Out c j H w f r ((execOp a.eval o).run P w) := by
  cases ho : o.op with
  | move x =>
    have e : (execOp a.eval o).run P w = .ok (.value (a.eval x)) w := by simp [execOp, ho]
    rw [e]; rw [ho] at h; exact move_sound hI he h
  | assign x =>
    have e : (execOp a.eval o).run P w = .ok (.value (a.eval x)) w := by simp [execOp, ho]
    rw [e]; rw [ho] at h; exact move_sound hI he h
  | pick x y z => exact pick_sound hI he ho h
  | alloc T => exact alloc_sound hI ho h
  | box T x => exact box_sound hI he ho h
  | build T ps => exact build_sound hI he ho h
  | buildSlice T n ps => exact buildSlice_sound hI he ho h
  | load T x => exact load_sound hI he ho h
  | store T x y => exact store_sound hI he ho h
  | nilCheck x => exact nilCheck_sound hI he ho h
  | binOp op T x y T2 => exact binOp_sound hI he ho h fun p q b vp vq h1 h2 h3 => eq_agg h1 h2 h3
  | unOp op T x => exact unOp_sound hI he ho h
  | convert s d x => exact convert_sound hI he ho h
  | makeFunc fn l m => exact makeFunc_sound hI he ho h
  | makeSlice T x y => exact makeSlice_sound hI he ho h
  | slice T x lo hi mx => exact slice_sound hI he ho h
  | fieldAddr T x i => exact fieldAddr_sound hI he ho h
  | field T x i => exact field_sound hI he ho h
  | indexAddr T x i => exact idxAddr_sound hI he ho h
  | index T x i => exact idx_sound hI he ho h
  | extract x i => exact extract_sound hI he ho h
  | makeMap T x =>
    cases x with
    | none => exact makeMap_sound hI ho h
    | some x => rw [ho] at h; simp [opV] at h
  | lookup T x i ok => exact lookup_sound hI he ho h
  | mapUpdate T x i y => exact mapUpdate_sound hI he ho h
  | _ => rw [ho] at h; simp [opV] at h

theorem valsOf_rel {N : Nat → Prop} (he : ERel j H w N env a) : ∀ {l : List Operand} {vs : List V1}, valsOf env l = some vs → All2 (V1Rel j H w N) vs (l.map a.eval)
  | [], vs, h => by simp [valsOf] at h; subst h; exact All2.nil
  | x :: l, vs, h => by
    simp only [valsOf] at h
    split at h
    · rename_i v l' hv hl
      cases h
      have hx := evalV_rel he x
      rw [ofAV_eq hv] at hx
      exact All2.cons hx (valsOf_rel he hl)
    · cases h

theorem opX_sound (hfs : ∀ g as H sp, fs g as H = some sp → FSound P g sp) {f : AV → List Blk → Option R} (hI : Inv c j H w) (he : ERel j H w (NN c j H) env a) {o : Oper} (h : opX P fs o.op env H f = some r) {K : Act → World → Prop} {Q : Exit → Act → World → Prop}
    (hK : ∀ V w' av H' j', f av H' = some r → Inv c j' H' w' → Mov j H w (NN c j H) j' H' w' (NN c j' H') → AVRel j' H' w' (NN c j' H') av V → K (a.put o.dst V) w') : o.wp P a w K Q := by
  have out : ∀ {res : Result Next}, (execOp a.eval o).run P w = res → Out c j H w f r res → o.wp P a w K Q := by
    intro res hres ho
    obtain ⟨V, w', hv, av, H', j', h1, h2, h3, h4⟩ := ho
    unfold Oper.wp
    rw [hres]
    rcases hv with rfl | ⟨rfl, rfl⟩
    · exact hK V w' av H' j' h1 h2 h3 h4
    · exact hK undef w' av H' j' h1 h2 h3 h4
  cases ho : o.op with
  | call cl =>
    rw [ho] at h
    simp only [opX, callX] at h
    split at h
    · rename_i args hargs
      have ha := valsOf_rel he hargs
      split at h
      · rename_i b hc
        refine out rfl ?_
        have e : (execOp a.eval o).run P w = (builtin b cl.argTypes o.type (cl.args.map fun | .const _ => true | _ => false) (cl.args.map a.eval)).run P w := by
          simp [execOp, ho, resolve, hc, invoke]
          rfl
        rw [e]
        exact builtin_sound hI (by rw [Array.toList_map]; exact ha) h
      · rename_i g hc
        have hg := evalV_rel he g
        split at h
        · rename_i g0 hg0
          rw [hg0] at hg
          have hv := (rel_one hg (by simp)).2
          obtain ⟨⟨fn, k1, k2, k3⟩, hcalls⟩ := callF_sound (P := P) (vals := cl.args.map a.eval) hfs hI (by rw [Array.toList_map]; exact ha) h
          have e : (execOp a.eval o).run P w = .ok (.enter g0 (cl.args.map a.eval)) w := by
            simp [execOp, ho, resolve, hc, hv, Deferred.ofValue, invoke, run_callFunc k1 k2 k3]
          unfold Oper.wp
          rw [e]
          refine hcalls.mono fun e' w' hpost => ?_
          obtain ⟨V, av, H', j', rfl, h1, h2, h3, h4⟩ := hpost
          exact hK V w' av H' j' h1 h2 h3 h4
        · rename_i g0 b hg0
          split at h
          · rename_i g' first cap hb
            split at h
            · rename_i hgg
              subst hgg
              rw [hg0] at hg
              have hv := (rel_one hg (by simp)).2.2 _ _ _ hb
              obtain ⟨_, A, C, hcv, h1, h2⟩ := hI.heap b _ hb
              rw [hcv] at hv
              obtain ⟨⟨fn, k1, k2, k3⟩, hcalls⟩ := callF_sound (P := P) (vals := A ++ cl.args.map a.eval ++ C) hfs hI (by
                simp only [Array.toList_append, Array.toList_map]
                exact (h1.append ha).append h2) h
              have e : (execOp a.eval o).run P w = .ok (.enter g' (A ++ cl.args.map a.eval ++ C)) w := by
                simp [execOp, ho, resolve, hc, hv, Deferred.ofValue, invoke, run_callFunc k1 k2 k3]
              unfold Oper.wp
              rw [e]
              refine hcalls.mono fun e' w' hpost => ?_
              obtain ⟨V, av, H', j', rfl, h1, h2, h3, h4⟩ := hpost
              exact hK V w' av H' j' h1 h2 h3 h4
            · cases h
          · cases h
        · cases h
      · cases h
    · cases h
  | _ =>
    rw [ho] at h
    simp only [opX] at h
    exact out rfl (opV_sound hI he (by rw [ho]; exact h))

def SRel (c : Cx) (s : St) (a : Act) (w : World) : Prop := ∃ j, Inv c j s.H w ∧ ERel j s.H w (NN c j s.H) s.env a

theorem undef_rel {j : J} {H : List Blk} {w : World} {N : Nat → Prop} : AVRel j H w N (.tup []) undef := ⟨#[], rfl, All2.nil⟩
theorem wanted_none {o : Oper} {y : Nat → Option Bool} (h : o.guard = none) : Region.wanted o y = true := by simp [Region.wanted, h]

theorem put_len (s : St) (d : Option Tmp) (v : AV) : (s.put d v).env.length = s.env.length := by cases d <;> simp [St.put]
theorem opsX_sound (hfs : ∀ g as H sp, fs g as H = some sp → FSound P g sp) (all : Array Oper) {k : St → Option R} {Q : Exit → Act → World → Prop} {m : Nat} (hQ : ∀ s a w, SRel c s a w → s.env.length = m → k s = some r → Q .normal a w) :
    ∀ (n : Nat) (l : List Oper), l = all.toList.drop n → n ≤ all.size → ∀ (s : St) (a : Act) (w : World), SRel c s a w → s.env.length = m → opsX P fs all l s k = some r → wpOps P all Q ((List.range all.size).drop n) a w := by
  intro n l
  induction l generalizing n with
  | nil =>
    intro hl hn s a w hs hm h
    have : all.size ≤ n := by
      have := congrArg List.length hl
      simp at this; omega
    have e : (List.range all.size).drop n = [] := List.drop_eq_nil_of_le (by simpa using this)
    rw [e]
    simp only [opsX] at h
    exact hQ s a w hs hm h
  | cons o l ih =>
    intro hl hn s a w hs hm h
    have hlt : n < all.size := by
      have := congrArg List.length hl
      simp at this; omega
    have ho : all[n]? = some o := by
      have := congrArg (fun l => l[0]?) hl
      simp only [List.getElem?_drop, Nat.add_zero, Array.getElem?_toList] at this
      exact this.symm
    have hl' : l = all.toList.drop (n + 1) := by
      have := congrArg List.tail hl
      rw [List.tail_drop] at this
      exact this
    have er : (List.range all.size).drop n = n :: (List.range all.size).drop (n + 1) := by
      rw [List.drop_eq_getElem_cons (by simpa using hlt)]
      simp
    rw [er]
    simp only [wpOps, ho]
    obtain ⟨j, hI, he⟩ := hs
    have step : ∀ {s : St} {a : Act}, s.env.length = m → Inv c j s.H w → ERel j s.H w (NN c j s.H) s.env a → opX P fs o.op s.env s.H (fun v H => opsX P fs all l (({ s with H := H } : St).put o.dst v) k) = some r →
        o.wp P a w (wpOps P all Q ((List.range all.size).drop (n + 1))) Q := by
      intro s a hm hI he h
      refine opX_sound hfs hI he h fun V w' av H' j' h1 h2 h3 h4 => ih (n + 1) hl' (by omega) _ _ w' ⟨j', ?_, ?_⟩ (by rw [put_len]; exact hm) h1
      · cases o.dst <;> exact h2
      · have := (he.mov h3).put h4 o.dst
        cases hd : o.dst <;> rw [hd] at this <;> exact this
    simp only [opsX] at h
    split at h
    · rename_i hg
      rw [if_pos (wanted_none hg)]
      exact .inl (step hm hI he h)
    · rename_i jg want hg
      split at h
      · rename_i d hd
        split at h
        · rename_i b hb
          have hv := evalV_rel he (.tmp d)
          simp only [evalV, hb] at hv
          have hvd : a.tmps.getD d undef = .bool b := rel_bool hv
          have hdl : d < s.env.length := by
            rcases Nat.lt_or_ge d s.env.length with h1 | h1
            · exact h1
            · rw [List.getD_eq_getElem?_getD, List.getElem?_eq_none h1] at hb
              cases hb
          have hdt : d < a.tmps.size := by have := he.2.1; simp at this; rw [← this]; exact hdl
          have hy : yielded all a.tmps jg = some b := by
            have e1 : a.tmps[d]? = some (.bool b) := by
              rw [Array.getD_eq_getD_getElem?, Array.getElem?_eq_getElem hdt] at hvd
              rw [Array.getElem?_eq_getElem hdt]
              simpa using hvd
            unfold yielded
            rw [hd]
            simp only [Option.bind_some, e1]
          have hset : ∀ t, b = t → ERel j s.H w (NN c j s.H) (s.env.set d (cellV (.bool t))) a := by
            intro t ht
            refine ⟨he.1, ?_⟩
            have := he.2.set (i := d) (a := cellV (.bool t)) (b := .bool t) (bool_rel t)
            have e2 : a.tmps.toList.set d (.bool t) = a.tmps.toList := by
              apply List.ext_getElem?
              intro p
              rw [List.getElem?_set]
              split
              · rename_i hp
                subst hp
                rw [if_pos (by simpa using hdt), Array.getElem?_toList, Array.getElem?_eq_getElem hdt]
                rw [Array.getD_eq_getD_getElem?, Array.getElem?_eq_getElem hdt] at hvd
                simp at hvd
                rw [hvd, ht]
              · rfl
            rw [e2] at this
            exact this
          have on : ∀ t, b = t → (if t = want then opX P fs o.op (s.env.set d (cellV (.bool t))) s.H (fun v H => opsX P fs all l (({ ({ s with env := s.env.set d (cellV (.bool t)) } : St) with H := H } : St).put o.dst v) k)
              else opsX P fs all l (({ s with env := s.env.set d (cellV (.bool t)) } : St).put o.dst (.tup [])) k) = some r →
              (if Region.wanted o (yielded all a.tmps) = true then o.wp P a w (wpOps P all Q ((List.range all.size).drop (n + 1))) Q ∨ o.asks P a w ∧ LetsOut Q else wpOps P all Q ((List.range all.size).drop (n + 1)) (a.put o.dst undef) w) := by
            intro t ht h
            have hwant : Region.wanted o (yielded all a.tmps) = decide (t = want) := by
              unfold Region.wanted
              rw [hg]
              simp only [hy, ht]
              cases t <;> cases want <;> rfl
            rw [hwant]
            split at h
            · rename_i htw
              rw [if_pos (by simpa using htw)]
              exact .inl (step (s := { s with env := s.env.set d (cellV (.bool t)) }) (by simpa using hm) hI (hset t ht) h)
            · rename_i htw
              rw [if_neg (by simpa using htw)]
              refine ih (n + 1) hl' (by omega) _ _ w ⟨j, ?_, ?_⟩ (by rw [put_len]; simpa using hm) h
              · cases o.dst <;> exact hI
              · have := (hset t ht).put (v := .tup []) (V := undef) undef_rel o.dst
                cases hd : o.dst <;> rw [hd] at this <;> exact this
          rcases byB_some h with ⟨hb1, h⟩ | ⟨hb1, h⟩
          · exact on true hb1 h
          · exact on false hb1 h
        · rename_i hb
          have hv := evalV_rel he (.tmp d)
          simp only [evalV, hb] at hv
          obtain ⟨vs, hv1, hv2⟩ := hv
          have hvs : vs = #[] := by
            have := hv2.1
            simp at this
            exact Array.size_eq_zero_iff.1 this.symm
          subst hvs
          have hy : yielded all a.tmps jg = none := by
            unfold yielded
            rw [hd]
            simp only [Option.bind_some]
            simp only [Act.eval, Array.getD_eq_getD_getElem?] at hv1
            cases e1 : a.tmps[d]? with
            | none => rfl
            | some x => rw [e1] at hv1; simp at hv1; subst hv1; rfl
          have hwant : Region.wanted o (yielded all a.tmps) = false := by
            unfold Region.wanted
            rw [hg]
            simp only [hy]
            rfl
          rw [hwant, if_neg (by simp)]
          refine ih (n + 1) hl' (by omega) _ _ w ⟨j, ?_, ?_⟩ (by rw [put_len]; exact hm) h
          · cases o.dst <;> exact hI
          · have := he.put (v := .tup []) (V := undef) undef_rel o.dst
            cases hd : o.dst <;> rw [hd] at this <;> exact this
        · cases h
      · cases h
end
end Go.Proofs.YtgpeknookhdffaaM
