/- Calls. Conditions: none. -/
import Derived.Test.YtcdnofemnpafhaaM4
import Derived.OrdersIn
import Derived.RangeFuncRecord
import Derived.Scope
import Derived.Laws.IdiomStrings
namespace Go.Proofs.YtcdnofemnpafhaaM
set_option linter.unusedVariables false
set_option linter.unusedSimpArgs false
set_option linter.unnecessarySimpa false
set_option linter.unusedSectionVars false
open Go

section
variable {P : Program} {c : Cx} {j : J} {H : List Blk} {w : World}

def J.merge (j : J) (n : Nat) (ρ : List Nat) (j2 : J) : J := ⟨fun i => if i < n then j.blk i else j2.blk (ρ.length + (i - n)), fun i => if i < n then j.cv i else j2.cv (ρ.length + (i - n))⟩

theorem merge_len (H : List Blk) (ρ : List Nat) (H2 : List Blk) : (merge H ρ H2).length = H.length + (H2.length - ρ.length) := by simp [merge]
theorem merge_lt {ρ : List Nat} {H2 : List Blk} {i : Nat} (hi : i < H.length) : (merge H ρ H2)[i]? = some (match place ρ i with | some q => (H2.getD q .dead).ren (back ρ H.length) | none => H.getD i .dead) := by
  unfold merge
  rw [List.getElem?_append_left (by simpa using hi), List.getElem?_mapIdx, List.getElem?_eq_getElem hi]
  rw [Option.map_some, List.getD_eq_getElem?_getD, List.getElem?_eq_getElem hi]
  cases place ρ i <;> rfl
theorem merge_ge {ρ : List Nat} {H2 : List Blk} {i : Nat} (hi : H.length ≤ i) : (merge H ρ H2)[i]? = (H2[ρ.length + (i - H.length)]?).map (Blk.ren (back ρ H.length)) := by
  unfold merge
  rw [List.getElem?_append_right (by simpa using hi), List.getElem?_map, List.getElem?_drop]
  simp

theorem ren_live {B : Blk} {f : Nat → Option Nat} (h : (B.ren f).live) : B.live := by cases B <;> first | exact h | trivial

def cx1 (A1 : Nat → Prop) (ρ : List Nat) (j : J) (H : List Blk) (w : World) : Cx := ⟨A1, ρ.length, j.pick ρ, YtcdnofemnpafhaaM.pick H ρ, Own (j.pick ρ) (YtcdnofemnpafhaaM.pick H ρ), w⟩

variable {A1 : Nat → Prop} {ρ : List Nat} {j2 : J} {H2 : List Blk} {w2 : World}

theorem merge_old (hI : Inv P c j H w) (hn : ρ.Nodup) (hI2 : Inv P (cx1 A1 ρ j H w) j2 H2 w2) {i : Nat} {B : Blk} (hi : i < H.length) (h : (merge H ρ H2)[i]? = some B) (hl : B.live) :
    ∃ B0, H[i]? = some B0 ∧ B0.live ∧ B0.same B ∧ ((i ∉ ρ ∧ B = B0) ∨ ∃ q B2, ρ[q]? = some i ∧ q < ρ.length ∧ H2[q]? = some B2 ∧ B2.live ∧ B = B2.ren (back ρ H.length) ∧ j2.blk q = j.blk i ∧ j2.cv q = j.cv i) := by
  rw [merge_lt hi] at h
  cases hp : place ρ i with
  | none =>
    rw [hp] at h
    cases h
    simp only [List.getD_eq_getElem?_getD, List.getElem?_eq_getElem hi, Option.getD_some] at hl ⊢
    exact ⟨_, rfl, hl, Blk.same_refl hl, .inl ⟨place_none hp, rfl⟩⟩
  | some q =>
    rw [hp] at h
    cases h
    have hq := place_some hp
    have hl2 := ren_live hl
    rw [List.getD_eq_getElem?_getD] at hl2 ⊢
    cases hb : H2[q]? with
    | none => rw [hb] at hl2; exact hl2.elim
    | some B2 =>
      rw [hb] at hl2
      simp only [Option.getD_some] at hl2
      simp only [getD_some hb]
      obtain ⟨B0, h1, h2⟩ := hI2.same q B2 (get_lt hq) hb hl2
      obtain ⟨b, B3, k1, k2, k3, rfl⟩ := pick_live h1 (Blk.same_live h2).1
      rw [hq] at k1; cases k1
      obtain ⟨e1, e2⟩ := hI2.keep q B2 (get_lt hq) hb hl2
      have e1' : j2.blk q = j.blk i := by rw [e1]; simp [cx1, J.pick, hq]
      have e2' : j2.cv q = j.cv i := by rw [e2]; simp [cx1, J.pick, hq]
      exact ⟨B3, k2, k3, Blk.same_trans (ren_same k3) (Blk.same_trans h2 (ren_same hl2)), .inr ⟨q, B2, hq, get_lt hq, hb, hl2, rfl, e1', e2'⟩⟩

theorem own1_own {g : Nat} (h : Own (j.pick ρ) (YtcdnofemnpafhaaM.pick H ρ) g) : ∃ b B, b ∈ ρ ∧ H[b]? = some B ∧ B.live ∧ At j b B g := by
  obtain ⟨q, B, hb, hl, hg⟩ := h
  obtain ⟨b, B0, h1, h2, h3, rfl⟩ := pick_live hb hl
  exact ⟨b, B0, List.mem_of_getElem? h1, h2, h3, (At.pick h1 h3).1 hg⟩

theorem back_at (hn : ρ.Nodup) (hlt : ∀ b ∈ ρ, b < H.length) (hI2 : Inv P (cx1 A1 ρ j H w) j2 H2 w2) {q : Nat} {B : Blk} (hq : H2[q]? = some B) :
    ∃ s, back ρ H.length q = some s ∧ s < (merge H ρ H2).length ∧ (merge H ρ H2)[s]? = some (B.ren (back ρ H.length)) ∧ (B.live → (j.merge H.length ρ j2).blk s = j2.blk q ∧ (j.merge H.length ρ j2).cv s = j2.cv q) := by
  by_cases h : q < ρ.length
  · have hr : ρ[q]? = some (ρ.getD q 0) := by rw [List.getD_eq_getElem?_getD, List.getElem?_eq_getElem h]; rfl
    have hs := hlt _ (List.mem_of_getElem? hr)
    refine ⟨ρ.getD q 0, by simp [back, h], by rw [merge_len]; omega, ?_, fun hl => ?_⟩
    · rw [merge_lt hs, place_of hn hr]; simp only [getD_some hq]
    · obtain ⟨e1, e2⟩ := hI2.keep q B h hq hl
      exact ⟨by simp only [J.merge, if_pos hs]; rw [e1]; simp only [cx1, J.pick, hr], by simp only [J.merge, if_pos hs]; rw [e2]; simp only [cx1, J.pick, hr]⟩
  · have hlt2 := get_lt hq
    refine ⟨H.length + (q - ρ.length), by simp [back, h], by rw [merge_len]; omega, ?_, fun _ => ?_⟩
    · rw [merge_ge (by omega), show ρ.length + (H.length + (q - ρ.length) - H.length) = q by omega, hq]; rfl
    · have e : ρ.length + (H.length + (q - ρ.length) - H.length) = q := by omega
      exact ⟨by simp only [J.merge]; rw [if_neg (by omega), e], by simp only [J.merge]; rw [if_neg (by omega), e]⟩

theorem CRel.back (hn : ρ.Nodup) (hlt : ∀ b ∈ ρ, b < H.length) (hI2 : Inv P (cx1 A1 ρ j H w) j2 H2 w2) {N N' : Nat → Prop} (hs : ∀ g, N' g → N g) {x : Cell} {v : Value} (h : CRel j2 H2 w2 N x v) :
    CRel (j.merge H.length ρ j2) (merge H ρ H2) w2 N' (x.ren (YtcdnofemnpafhaaM.back ρ H.length)) v := by
  obtain ⟨h1, h⟩ := h
  have key : ∀ {q : Nat}, q < H2.length → ∃ s B, YtcdnofemnpafhaaM.back ρ H.length q = some s ∧ s < (merge H ρ H2).length ∧ H2[q]? = some B ∧ (merge H ρ H2)[s]? = some (B.ren (YtcdnofemnpafhaaM.back ρ H.length)) ∧ (B.live → (j.merge H.length ρ j2).blk s = j2.blk q ∧ (j.merge H.length ρ j2).cv s = j2.cv q) := by
    intro q hq
    obtain ⟨s, k1, k2, k3, k4⟩ := back_at hn hlt hI2 (List.getElem?_eq_getElem hq)
    exact ⟨s, _, k1, k2, List.getElem?_eq_getElem hq, k3, k4⟩
  cases x <;> simp only [Cell.ren]
  case int k n => exact ⟨h1, h⟩
  case bool b => exact ⟨h1, h⟩
  case str s => exact ⟨h1, h⟩
  case ro t l => exact ⟨h1, RoC.sub hs h⟩
  case nils => exact ⟨h1, h⟩
  case nilp => exact ⟨h1, h⟩
  case sfn f => exact ⟨h1, h⟩
  case nilf => exact ⟨h1, h⟩
  case nilm => exact ⟨h1, h⟩
  case top => exact ⟨h1, h⟩
  case rop t y o =>
    obtain ⟨e, d, hv, hN, hlt, hr, hc⟩ := h
    exact ⟨h1, e, d, hv, fun h' => hN (hs _ h'), hlt, RoC.sub hs hr, hc⟩
  case full q =>
    obtain ⟨s, B, k1, k2, k3, k4, k5⟩ := key h.1
    rw [k1]
    refine ⟨h1, k2, fun T t l hb => ?_⟩
    rw [k4] at hb
    cases B <;> simp only [Blk.ren] at hb <;> (first | (cases hb; done) | skip)
    cases hb
    rw [(k5 trivial).1]
    exact h.2 _ _ _ k3
  case part q o n =>
    obtain ⟨s, B, k1, k2, k3, k4, k5⟩ := key h.1
    rw [k1]
    refine ⟨h1, k2, fun T t l hb => ?_⟩
    rw [k4] at hb
    cases B <;> simp only [Blk.ren] at hb <;> (first | (cases hb; done) | skip)
    cases hb
    rw [(k5 trivial).1]
    exact h.2 _ _ _ k3
  case ptr q i o =>
    obtain ⟨s, B, k1, k2, k3, k4, k5⟩ := key h.1
    rw [k1]
    refine ⟨h1, k2, h.2.1, fun B' hb => ?_⟩
    rw [k4] at hb
    cases hb
    have := h.2.2 _ k3
    cases B <;> simp only [Blk.ren] at this ⊢
    · rw [(k5 trivial).1]; exact this
    · rw [(k5 trivial).1]; exact this
  case arr q o n i =>
    obtain ⟨s, B, k1, k2, k3, k4, k5⟩ := key h.1
    rw [k1]
    refine ⟨h1, k2, fun T cs hb => ?_⟩
    rw [k4] at hb
    cases B <;> simp only [Blk.ren] at hb <;> (first | (cases hb; done) | skip)
    rw [(k5 trivial).1]
    exact h.2 _ _ k3
  case fn g q =>
    obtain ⟨s, B, k1, k2, k3, k4, k5⟩ := key h.1
    rw [k1]
    refine ⟨h1, k2, fun f a d hb => ?_⟩
    rw [k4] at hb
    cases B <;> simp only [Blk.ren] at hb <;> (first | (cases hb; done) | skip)
    rw [(k5 trivial).2]
    exact h.2 _ _ _ k3
  case map q =>
    obtain ⟨s, B, k1, k2, k3, k4, k5⟩ := key h.1
    rw [k1]
    refine ⟨h1, k2, fun kt vt l hb => ?_⟩
    rw [k4] at hb
    cases B <;> simp only [Blk.ren] at hb <;> (first | (cases hb; done) | skip)
    cases hb
    rw [(k5 trivial).1]
    exact h.2 _ _ _ k3
  case vsl q n =>
    obtain ⟨s, B, k1, k2, k3, k4, k5⟩ := key h.1
    rw [k1]
    refine ⟨h1, k2, fun T cs hb => ?_⟩
    rw [k4] at hb
    cases B <;> simp only [Blk.ren] at hb <;> (first | (cases hb; done) | skip)
    cases hb
    obtain ⟨e0, g, e1, e2⟩ := h.2 _ _ k3
    exact ⟨by rw [List.length_map]; exact e0, g, (k5 trivial).1.trans e1, e2⟩
  case yl q =>
    obtain ⟨s, B, k1, k2, k3, k4, k5⟩ := key h.1
    rw [k1]
    refine ⟨h1, k2, fun f a d hb => ?_⟩
    rw [k4] at hb
    cases B <;> simp only [Blk.ren] at hb <;> (first | (cases hb; done) | skip)
    rw [(k5 trivial).1]
    exact h.2 _ _ _ k3
  case ofull q =>
    obtain ⟨s, B, k1, k2, k3, k4, k5⟩ := key h.1
    rw [k1]
    refine ⟨h1, k2, fun T t l hb => ?_⟩
    rw [k4] at hb
    cases B <;> simp only [Blk.ren] at hb <;> (first | (cases hb; done) | skip)
    cases hb
    rw [(k5 trivial).1, (k5 trivial).2]; exact h.2 _ _ _ k3
  case optr q i o =>
    obtain ⟨s, B, k1, k2, k3, k4, k5⟩ := key h.1
    rw [k1]
    refine ⟨h1, k2, h.2.1, fun T t l hb => ?_⟩
    rw [k4] at hb
    cases B <;> simp only [Blk.ren] at hb <;> (first | (cases hb; done) | skip)
    cases hb
    rw [(k5 trivial).1]; exact h.2.2 _ _ _ k3
  case oin q i n =>
    obtain ⟨s, B, k1, k2, k3, k4, k5⟩ := key h.1
    rw [k1]
    refine ⟨h1, k2, fun T t l hb => ?_⟩
    rw [k4] at hb
    cases B <;> simp only [Blk.ren] at hb <;> (first | (cases hb; done) | skip)
    cases hb
    rw [(k5 trivial).2]; exact h.2 _ _ _ k3
  case oip q i k o =>
    obtain ⟨s, B, k1, k2, k3, k4, k5⟩ := key h.1
    rw [k1]
    refine ⟨h1, k2, h.2.1, fun T t l hb => ?_⟩
    rw [k4] at hb
    cases B <;> simp only [Blk.ren] at hb <;> (first | (cases hb; done) | skip)
    cases hb
    rw [(k5 trivial).2]; exact h.2.2 _ _ _ k3
  case lnk q i =>
    obtain ⟨s, B, k1, k2, k3, k4, k5⟩ := key h.1
    rw [k1]
    refine ⟨h1, k2, fun T t l hb => ?_⟩
    rw [k4] at hb
    cases B <;> simp only [Blk.ren] at hb <;> (first | (cases hb; done) | skip)
    rw [(k5 trivial).2]
    exact h.2 _ _ _ k3
  case nptr q i o =>
    obtain ⟨s, B, k1, k2, k3, k4, k5⟩ := key h.1
    rw [k1]
    refine ⟨h1, k2, h.2.1, fun T t l hb => ?_⟩
    rw [k4] at hb
    cases B <;> simp only [Blk.ren] at hb <;> (first | (cases hb; done) | skip)
    rw [(k5 trivial).2]
    exact h.2.2 _ _ _ k3
  case hole b o q i =>
    obtain ⟨hb0, hq0, hp, h5, h6⟩ := h
    obtain ⟨s, B, k1, k2, k3, k4, k5⟩ := key hb0
    obtain ⟨s2, B2, m1, m2, m3, m4, m5⟩ := key hq0
    rw [k1, m1]
    refine ⟨h1, k2, m2, hp, fun hi T cs hb => ?_, fun k hk T t l hb => ?_⟩
    · rw [k4] at hb
      cases B <;> simp only [Blk.ren] at hb <;> (first | (cases hb; done) | skip)
      cases hb
      rw [(k5 trivial).1, List.length_map]
      exact h5 hi _ _ k3
    · rw [m4] at hb
      cases B2 <;> simp only [Blk.ren] at hb <;> (first | (cases hb; done) | skip)
      cases hb
      rw [(m5 trivial).2]
      exact h6 k hk _ _ _ m3

theorem V1Rel.back (hn : ρ.Nodup) (hlt : ∀ b ∈ ρ, b < H.length) (hI2 : Inv P (cx1 A1 ρ j H w) j2 H2 w2) {N N' : Nat → Prop} (hs : ∀ g, N' g → N g) {x : V1} {v : Value} (h : V1Rel j2 H2 w2 N x v) :
    V1Rel (j.merge H.length ρ j2) (merge H ρ H2) w2 N' (x.ren (YtcdnofemnpafhaaM.back ρ H.length)) v := by
  cases x with
  | one y =>
    rcases h with rfl | h
    · exact .inl rfl
    · exact .inr (CRel.back hn hlt hI2 hs h)
  | agg cs =>
    obtain ⟨vs, rfl, h⟩ := h
    exact ⟨vs, rfl, All2.map_left (h.imp fun _ _ => CRel.back hn hlt hI2 hs)⟩
theorem AVRel.back (hn : ρ.Nodup) (hlt : ∀ b ∈ ρ, b < H.length) (hI2 : Inv P (cx1 A1 ρ j H w) j2 H2 w2) {N N' : Nat → Prop} (hs : ∀ g, N' g → N g) {x : AV} {v : Value} (h : AVRel j2 H2 w2 N x v) :
    AVRel (j.merge H.length ρ j2) (merge H ρ H2) w2 N' (x.ren (YtcdnofemnpafhaaM.back ρ H.length)) v := by
  cases x with
  | v y => exact V1Rel.back hn hlt hI2 hs h
  | tup l =>
    obtain ⟨vs, rfl, h⟩ := h
    exact ⟨vs, rfl, All2.map_left (h.imp fun _ _ => V1Rel.back hn hlt hI2 hs)⟩
theorem BRel.back (hn : ρ.Nodup) (hlt : ∀ b ∈ ρ, b < H.length) (hI2 : Inv P (cx1 A1 ρ j H w) j2 H2 w2) {N N' : Nat → Prop} (hs : ∀ g, N' g → N g) {q s : Nat} {B : Blk} (h : BRel P j2 H2 w2 N q B)
    (e1 : B.live → (j.merge H.length ρ j2).blk s = j2.blk q ∧ (j.merge H.length ρ j2).cv s = j2.cv q) : BRel P (j.merge H.length ρ j2) (merge H ρ H2) w2 N' s (B.ren (YtcdnofemnpafhaaM.back ρ H.length)) := by
  cases B with
  | dead => trivial
  | var T cs =>
    obtain ⟨g, vs, h1, h2, h3⟩ := h
    exact ⟨g, vs, (e1 trivial).1.trans h1, h2, All2.map_left (h3.imp fun _ _ => CRel.back hn hlt hI2 hs)⟩
  | row T t l =>
    rcases h with ⟨h1, h2⟩ | ⟨g, cap, cells, h1, h2, h3, hz, h4, h5, h6⟩
    · exact .inl ⟨(e1 trivial).1.trans h1, h2⟩
    · exact .inr ⟨g, cap, cells, (e1 trivial).1.trans h1, h2, h3, hz, h4, h5, fun i x hx => by
        obtain ⟨d, hd, hc⟩ := h6 i x hx
        exact ⟨d, RoC.sub hs hd, hc⟩⟩
  | clo f a d =>
    obtain ⟨h0, A, C, h1, h2, h3⟩ := h
    exact ⟨(e1 trivial).1.trans h0, A, C, (e1 trivial).2.trans h1, All2.map_left (h2.imp fun _ _ => V1Rel.back hn hlt hI2 hs), All2.map_left (h3.imp fun _ _ => V1Rel.back hn hlt hI2 hs)⟩
  | map kt vt l =>
    obtain ⟨g, es, clock, h1, h2, h3⟩ := h
    exact ⟨g, es, clock, (e1 trivial).1.trans h1, h2, h3⟩
  | yld f a d =>
    obtain ⟨g, r, h1, h2, h3, h5, h4⟩ := h
    exact ⟨g, r, (e1 trivial).1.trans h1, h2, h3, h5, All2.map_left (h4.imp fun _ _ => V1Rel.back hn hlt hI2 hs)⟩
  | chn T t l =>
    obtain ⟨h1, h2, h3, h4, h5⟩ := h
    show _ ∧ _ ∧ _ ∧ _ ∧ _
    rw [(e1 trivial).2]
    exact ⟨h1, h2, h3, h4, h5⟩
  | own T t l =>
    obtain ⟨h1, h2, h3, h4⟩ := h
    show _ ∧ _ ∧ _ ∧ _
    rw [(e1 trivial).1, (e1 trivial).2]
    exact ⟨h1, h2, h3, h4⟩

theorem Inv.merge (hI : Inv P c j H w) (hn : ρ.Nodup) (hlt : ∀ b ∈ ρ, b < H.length) (hI2 : Inv P (cx1 A1 ρ j H w) j2 H2 w2) {N : Nat → Prop} (hs : ∀ g, NN c (j.merge H.length ρ j2) (YtcdnofemnpafhaaM.merge H ρ H2) g → N g) (hB : ∀ q B, H2[q]? = some B → BRel P j2 H2 w2 N q B) :
    Inv P c (j.merge H.length ρ j2) (YtcdnofemnpafhaaM.merge H ρ H2) w2 ∧ Mov j H w (NN c j H) (j.merge H.length ρ j2) (YtcdnofemnpafhaaM.merge H ρ H2) w2 (NN c (j.merge H.length ρ j2) (YtcdnofemnpafhaaM.merge H ρ H2)) := by
  have jlt : ∀ {i : Nat}, i < H.length → (j.merge H.length ρ j2).blk i = j.blk i ∧ (j.merge H.length ρ j2).cv i = j.cv i := fun hi => ⟨by simp [J.merge, hi], by simp [J.merge, hi]⟩
  have jge : ∀ {i : Nat}, H.length ≤ i → (j.merge H.length ρ j2).blk i = j2.blk (ρ.length + (i - H.length)) := fun hi => by simp only [J.merge]; rw [if_neg (by omega)]
  have ge : ∀ {i : Nat} {B : Blk}, H.length ≤ i → (YtcdnofemnpafhaaM.merge H ρ H2)[i]? = some B → B.live → ∃ B2, H2[ρ.length + (i - H.length)]? = some B2 ∧ B2.live ∧ B = B2.ren (YtcdnofemnpafhaaM.back ρ H.length) := by
    intro i B hi h hl
    rw [merge_ge hi, Option.map_eq_some_iff] at h
    obtain ⟨B2, h1, rfl⟩ := h
    exact ⟨B2, h1, ren_live hl, rfl⟩
  have jge2 : ∀ {i : Nat}, H.length ≤ i → (j.merge H.length ρ j2).cv i = j2.cv (ρ.length + (i - H.length)) := fun hi => by simp only [J.merge]; rw [if_neg (by omega)]
  have atlt : ∀ {i g : Nat} {B0 B : Blk}, i < H.length → B0.same B → At (j.merge H.length ρ j2) i B g → At j i B0 g := fun hi hs h => (At.congr hs (jlt hi).1 (jlt hi).2).1 h
  have atge : ∀ {i g : Nat} {B2 : Blk}, H.length ≤ i → B2.live → At (j.merge H.length ρ j2) i (B2.ren (YtcdnofemnpafhaaM.back ρ H.length)) g → At j2 (ρ.length + (i - H.length)) B2 g := fun hi hl h => (At.congr (ren_same hl) (jge hi) (jge2 hi)).1 h
  have own1 : ∀ {g : Nat}, Own (j.pick ρ) (YtcdnofemnpafhaaM.pick H ρ) g → Own j H g := own_pick
  have neu2 : ∀ {q g : Nat} {B : Blk}, ρ.length ≤ q → H2[q]? = some B → B.live → At j2 q B g → w.heap.size ≤ g ∨ Own (j.pick ρ) (YtcdnofemnpafhaaM.pick H ρ) g := fun hq hb hl hg => hI2.neu _ _ _ hq hb hl hg
  have hown : ∀ {g : Nat}, Own (j.merge H.length ρ j2) (YtcdnofemnpafhaaM.merge H ρ H2) g → Own j H g ∨ w.heap.size ≤ g := by
    rintro g ⟨i, B, hb, hl, hg⟩
    by_cases hi : i < H.length
    · obtain ⟨B0, h1, h2, hsm, _⟩ := merge_old hI hn hI2 hi hb hl
      exact .inl ⟨i, B0, h1, h2, atlt hi hsm hg⟩
    · obtain ⟨B2, h1, h2, rfl⟩ := ge (by omega) hb hl
      rcases neu2 (by omega) h1 h2 (atge (by omega) h2 hg) with h3 | h3
      · exact .inr h3
      · exact .inl (own1 h3)
  have keep : ∀ {g : Nat}, g < w.heap.size → ¬ Own (j.pick ρ) (YtcdnofemnpafhaaM.pick H ρ) g → w2.heap[g]? = w.heap[g]? := fun hg hn' => hI2.frame _ hg hn'
  have hsz : w.heap.size ≤ w2.heap.size := hI2.size
  have m : Mov j H w (NN c j H) (j.merge H.length ρ j2) (YtcdnofemnpafhaaM.merge H ρ H2) w2 (NN c (j.merge H.length ρ j2) (YtcdnofemnpafhaaM.merge H ρ H2)) := by
    refine ⟨by rw [merge_len]; omega, fun b B hb => ?_, hsz, fun g hg hN => ⟨fun hN' => ?_, keep hg fun h => hN (.inr (own1 h))⟩, fun b T t l g cells hb hl hj hc => ?_⟩
    · have hlt' := get_lt hb
      refine ⟨_, merge_lt hlt', fun hl => ?_⟩
      obtain ⟨B0, h1, h2, h3, _⟩ := merge_old hI hn hI2 hlt' (merge_lt hlt') hl
      rw [hb] at h1; cases h1
      exact ⟨h3, jlt hlt'⟩
    · rcases hN' with hA | ho
      · exact hN (.inl hA)
      · rcases hown ho with h1 | h1
        · exact hN (.inr h1)
        · omega
    · obtain ⟨B0, h1, h2, h3, h4⟩ := merge_old hI hn hI2 hb hl trivial
      rcases h4 with ⟨h5, rfl⟩ | ⟨q, B2, k1, k2, k3, k4, k5, k6, _⟩
      · refine ⟨cells, Cls.of_eq (keep hc.lt fun ho => ?_) hc, rfl⟩
        obtain ⟨b', B', e1, e2, e3, e4⟩ := own1_own ho
        have := hI.inj b b' _ _ g h1 e2 trivial e3 hj e4
        subst this
        exact h5 e1
      · cases B2 <;> simp only [Blk.ren] at k5 <;> (first | (cases k5; done) | skip)
        cases k5
        exact hI2.rowsz q _ _ _ g cells k2 k3 (by simp only [cx1, J.pick, k1]; exact hj) hc
  have hn0 := hI.n
  refine ⟨⟨by rw [merge_len]; omega, fun i B hi hb hl => ?_, fun i B g hi hb hl hg => ?_, fun i B g hi hb hl hg => ?_, fun i i' B B' g hb hb' hl hl' hg hg' => ?_, fun g hg hn' => ?_, Nat.le_trans hI.size hsz, hI2.os.trans hI.os, hI2.tape.trans hI.tape, hI2.output.trans hI.output, hI.apart, hI.gl, hI.same_step m, hI.rowsz_step m, fun i B hb => ?_⟩, m⟩
  · obtain ⟨B0, h1, h2, _⟩ := merge_old hI hn hI2 (by omega) hb hl
    obtain ⟨e1, e2⟩ := jlt (show i < H.length by omega)
    obtain ⟨k1, k2⟩ := hI.keep i B0 hi h1 h2
    exact ⟨e1.trans k1, e2.trans k2⟩
  · by_cases hlt' : i < H.length
    · obtain ⟨B0, h1, h2, hsm, _⟩ := merge_old hI hn hI2 hlt' hb hl
      exact hI.neu i B0 g hi h1 h2 (atlt hlt' hsm hg)
    · obtain ⟨B2, h1, h2, rfl⟩ := ge (by omega) hb hl
      rcases neu2 (by omega) h1 h2 (atge (by omega) h2 hg) with h3 | h3
      · exact .inl (Nat.le_trans hI.size h3)
      · obtain ⟨b, B0, _, k2, k3, k4⟩ := own1_own h3
        by_cases hbn : b < c.n
        · exact .inr (hI.own b B0 g hbn k2 k3 k4)
        · exact hI.neu b B0 g (by omega) k2 k3 k4
  · obtain ⟨B0, h1, h2, hsm, _⟩ := merge_old hI hn hI2 (by omega) hb hl
    exact hI.own i B0 g hi h1 h2 (atlt (by omega) hsm hg)
  · have mixed : ∀ {i i' : Nat} {B B' : Blk}, i < H.length → H.length ≤ i' → (YtcdnofemnpafhaaM.merge H ρ H2)[i]? = some B → (YtcdnofemnpafhaaM.merge H ρ H2)[i']? = some B' → B.live → B'.live → At (j.merge H.length ρ j2) i B g → At (j.merge H.length ρ j2) i' B' g → False := by
      intro i i' B B' h1 h2 hb hb' hl hl' hg hg'
      obtain ⟨B0, k1, k2, hsm, k3⟩ := merge_old hI hn hI2 h1 hb hl
      obtain ⟨B2, k4, k5, rfl⟩ := ge h2 hb' hl'
      have hg := atlt h1 hsm hg
      have hg' := atge h2 k5 hg'
      rcases neu2 (by omega) k4 k5 hg' with h3 | h3
      · have := hI.own_lt ⟨i, B0, k1, k2, hg⟩; omega
      · obtain ⟨b, B3, e1, e2, e3, e4⟩ := own1_own h3
        have := hI.inj i b B0 B3 g k1 e2 k2 e3 hg e4
        subst this
        rcases k3 with ⟨h5, _⟩ | ⟨q, B4, f1, f2, f3, f4, f6, f5, f7⟩
        · exact h5 e1
        · have hs4 : B0.same B4 := Blk.same_trans hsm (f6 ▸ Blk.same_symm (ren_same f4))
          have := hI2.inj q _ B4 B2 g f3 k4 f4 k5 ((At.congr hs4 f5 f7).2 hg) hg'
          omega
    by_cases h1 : i < H.length <;> by_cases h2 : i' < H.length
    · obtain ⟨B0, k1, k2, hsm, _⟩ := merge_old hI hn hI2 h1 hb hl
      obtain ⟨B0', k1', k2', hsm', _⟩ := merge_old hI hn hI2 h2 hb' hl'
      exact hI.inj i i' B0 B0' g k1 k1' k2 k2' (atlt h1 hsm hg) (atlt h2 hsm' hg')
    · exact (mixed h1 (by omega) hb hb' hl hl' hg hg').elim
    · exact (mixed h2 (by omega) hb' hb hl' hl hg' hg).elim
    · obtain ⟨B2, k4, k5, rfl⟩ := ge (by omega) hb hl
      obtain ⟨B2', k4', k5', rfl⟩ := ge (by omega) hb' hl'
      have := hI2.inj _ _ B2 B2' g k4 k4' k5 k5' (atge (by omega) k5 hg) (atge (by omega) k5' hg')
      omega
  · refine (keep (by have := hI.size; omega) fun ho => ?_).trans (hI.frame g hg hn')
    obtain ⟨b, B0, _, k2, k3, k4⟩ := own1_own ho
    by_cases hbn : b < c.n
    · exact hn' (hI.own b B0 g hbn k2 k3 k4)
    · rcases hI.neu b B0 g (by omega) k2 k3 k4 with h1 | h1
      · omega
      · exact hn' h1
  · by_cases hl : B.live
    · by_cases hlt' : i < H.length
      · obtain ⟨B0, h1, h2, h3, h4⟩ := merge_old hI hn hI2 hlt' hb hl
        rcases h4 with ⟨h5, rfl⟩ | ⟨q, B2, k1, k2, k3, k4, rfl, k6, k7⟩
        · obtain ⟨e1, e2⟩ := jlt hlt'
          refine (hI.heap i _ h1).mov m e1 e2 fun g hg => keep (hI.own_lt ⟨i, _, h1, h2, hg⟩) fun ho => ?_
          obtain ⟨b', B', e1, e2, e3, e4⟩ := own1_own ho
          have := hI.inj i b' _ _ g h1 e2 h2 e3 hg e4
          subst this
          exact h5 e1
        · obtain ⟨e1, e2⟩ := jlt hlt'
          exact (hB q B2 k3).back hn hlt hI2 hs fun _ => ⟨e1.trans k6.symm, e2.trans k7.symm⟩
      · obtain ⟨B2, k4, k5, rfl⟩ := ge (by omega) hb hl
        exact (hB _ B2 k4).back hn hlt hI2 hs fun _ => ⟨jge (by omega), by simp only [J.merge]; rw [if_neg hlt']⟩
    · cases B <;> first | exact absurd trivial hl | trivial
end
end Go.Proofs.YtcdnofemnpafhaaM

/- Calls of the program's functions; operations, in the text's order. Conditions: none. -/
namespace Go.Proofs.YtcdnofemnpafhaaM
set_option linter.unusedVariables false
set_option linter.unusedSimpArgs false
set_option linter.unnecessarySimpa false
set_option linter.unusedSectionVars false
open Go

section
variable {P : Program} {c : Cx} {j : J} {H : List Blk} {w : World}

@[reducible] def FF (ro : Option Nat) : Fence := { Fence.wide with round := ro }

def cx0 (A : Nat → Prop) (j : J) (H : List Blk) (w : World) : Cx := ⟨A, H.length, j, H, Own j H, w⟩

structure FnSound (P : Program) (g : FuncId) (sp : FSpec) : Prop where
  fn : ∃ fn, P.funcs[g]? = some fn ∧ (fn.name == "runtime.NumGoroutine") = false ∧ fn.body.isNone = false
  ok : ∀ (A : Nat → Prop) (j : J) (H : List Blk) (w : World) (args : List V1) (vals : Array Value) (x : sp.X), sp.imp args H = some x →
    Inv P (cx0 A j H w) j H w → All2 (V1Rel j H w (NN (cx0 A j H w) j H)) args vals.toList →
    Calls P g vals w fun e w' => ∃ V j', e = .returned V ∧ Inv P (cx0 A j H w) j' (sp.out args H x).2 w' ∧ AVRel j' (sp.out args H x).2 w' (NN (cx0 A j H w) j' (sp.out args H x).2) (sp.out args H x).1 V

def RndSound (P : Program) (f : Nat) (m : Nat) (sp : FSpec) : Prop :=
  ∃ ps as body, rinfo P f = some (ps, as, body) ∧ ps.size = m ∧
  ∀ (A : Nat → Prop) (j : J) (H : List Blk) (w : World) (args : List V1) (tmps yv : Array Value) (x : sp.X), sp.imp args H = some x → tmps.size = rnt P f → yv.size = m →
    Inv P (cx0 A j H w) j H w → All2 (V1Rel j H w (NN (cx0 A j H w) j H)) args ((rslots ps as body).map (fun i => tmps.getD i undef) ++ yv.toList) →
    ∀ (ro : Option Nat) (l : Nat) (r : Loop) (fn : FuncId), A l → w.heap[l]? = some (.loop r) → r.state = .ready →
    RoundIn (FF ro) 0 P l fn ((ps.zip yv).foldl (fun tmps (t, a) => tmps.setIfInBounds t a) tmps) as body w fun e w' => ∃ d j', (sp.out args H x).1 = .v (.one (.bool d)) ∧ e = .returned (.bool (!d)) ∧ Inv P (cx0 A j H (w.putObj l (.loop (finL r d)))) j' (sp.out args H x).2 w'

def FSound (P : Program) (g : FuncId) (sp : FSpec) : Prop := (sp.round = none → FnSound P g sp) ∧ (∀ m, sp.round = some m → RndSound P g m sp)

theorem run_callFunc {g : FuncId} {fn : Func} (h : P.funcs[g]? = some fn) (h1 : (fn.name == "runtime.NumGoroutine") = false) (h2 : fn.body.isNone = false) (args : Array Value) : (callFunc g args).run P w = .ok (.enter g args) w := by
  have h1' : ¬ fn.name = "runtime.NumGoroutine" := by simpa using h1
  have h2' : ¬ fn.body = none := by intro e; rw [e] at h2; cases h2
  simp [callFunc, h, h1', h2']

theorem cx_eq (A1 : Nat → Prop) (ρ : List Nat) (j : J) (H : List Blk) (w : World) : cx1 A1 ρ j H w = cx0 A1 (j.pick ρ) (YtcdnofemnpafhaaM.pick H ρ) w := by
  simp [cx1, cx0, pick_len]

theorem Inv.start (hI : Inv P c j H w) {ρ : List Nat} (hn : ρ.Nodup) {A1 : Nat → Prop} (hA : ∀ g, A1 g → g < w.heap.size ∧ ¬ Own (j.pick ρ) (YtcdnofemnpafhaaM.pick H ρ) g) (hs : ∀ g, NN (cx1 A1 ρ j H w) (j.pick ρ) (YtcdnofemnpafhaaM.pick H ρ) g → NN c j H g) :
    Inv P (cx1 A1 ρ j H w) (j.pick ρ) (YtcdnofemnpafhaaM.pick H ρ) w := by
  refine ⟨by simp [cx1, pick_len], fun i B hi hb hl => ⟨rfl, rfl⟩, fun i B g hi hb hl hg => ?_, fun i B g hi hb hl hg => ⟨i, B, hb, hl, hg⟩, fun i i' B B' g hb hb' hl hl' hg hg' => ?_, fun _ _ _ => rfl, Nat.le_refl _, rfl, rfl, rfl, fun g hg => ⟨(hA g hg).2, (hA g hg).1⟩, hI.gl_now.mov (Nat.le_refl _) (fun g _ hn => ⟨fun ho => hn (own_pick ho), rfl⟩), fun i B hi hb hl => ⟨B, hb, Blk.same_refl hl⟩, fun i T t l g cells hi hb hg hc => ⟨cells, hc, rfl⟩, fun q B hb => ?_⟩
  · have := get_lt hb
    rw [pick_len] at this
    simp [cx1] at hi
    omega
  · obtain ⟨b, B0, h1, h2, h3, rfl⟩ := pick_live hb hl
    obtain ⟨b', B0', h1', h2', h3', rfl⟩ := pick_live hb' hl'
    have := hI.inj b b' B0 B0' g h2 h2' h3 h3' ((At.pick h1 h3).1 hg) ((At.pick h1' h3').1 hg')
    subst this
    have k1 := place_of hn h1
    have k2 := place_of hn h1'
    rw [k1] at k2; cases k2; rfl
  · by_cases hl : B.live
    · obtain ⟨b, B0, h1, h2, h3, rfl⟩ := pick_live hb hl
      exact (hI.heap b B0 h2).pick hs h1
    · cases B <;> first | exact absurd trivial hl | trivial

/-! ### What tells no row that is only read holds in whatever surroundings -/
theorem RoC.any {N N' : Nat → Prop} : ∀ {t : Ty} {x : t.den} {cs : List Value}, t.noRo = true → RoC w N t x cs → RoC w N' t x cs
  | .int _, _, _, _, h => h
  | .bool, _, _, _, h => h
  | .str, _, _, _, h => h
  | .unit, _, _, _, h => h
  | .pair a b, _, _, hn, h => by
    simp only [Ty.noRo, Bool.and_eq_true] at hn
    obtain ⟨c1, c2, rfl, h1, h2⟩ := h
    exact ⟨c1, c2, rfl, RoC.any hn.1 h1, RoC.any hn.2 h2⟩
  | .ro _, _, _, hn, _ => by simp [Ty.noRo] at hn
theorem CRel.any {N N' : Nat → Prop} {x : Cell} {v : Value} (hn : x.noRo = true) (h : CRel j H w N x v) : CRel j H w N' x v := by
  cases x <;> (first | exact h | (simp [Cell.noRo] at hn; done))
theorem V1Rel.any {N N' : Nat → Prop} {x : V1} {v : Value} (hn : x.noRo = true) (h : V1Rel j H w N x v) : V1Rel j H w N' x v := by
  cases x with
  | one y =>
    simp [V1.noRo, V1.cells] at hn
    exact h.imp id (CRel.any hn)
  | agg cs =>
    obtain ⟨vs, rfl, h⟩ := h
    refine ⟨vs, rfl, h.imp_mem fun x _ hx => CRel.any ?_⟩
    exact List.all_eq_true.1 hn x hx
theorem AVRel.any {N N' : Nat → Prop} {x : AV} {v : Value} (hn : x.noRo = true) (h : AVRel j H w N x v) : AVRel j H w N' x v := by
  cases x with
  | v y => exact V1Rel.any hn h
  | tup l =>
    obtain ⟨vs, rfl, h⟩ := h
    exact ⟨vs, rfl, h.imp_mem fun x _ hx => V1Rel.any (List.all_eq_true.1 hn x hx)⟩
theorem BRel.any {N N' : Nat → Prop} {b : Nat} {B : Blk} (hn : B.noRo = true) (h : BRel P j H w N b B) : BRel P j H w N' b B := by
  cases B with
  | dead => trivial
  | var T cs =>
    obtain ⟨g, vs, h1, h2, h3⟩ := h
    exact ⟨g, vs, h1, h2, h3.imp_mem fun x _ hx => CRel.any (List.all_eq_true.1 hn x hx)⟩
  | row T t l =>
    rcases h with h | ⟨g, cap, cells, h1, h2, h3, hz, h4, h5, h6⟩
    · exact .inl h
    · exact .inr ⟨g, cap, cells, h1, h2, h3, hz, h4, h5, fun i x hx => by
        obtain ⟨d, hd, hc⟩ := h6 i x hx
        exact ⟨d, RoC.any hn hd, hc⟩⟩
  | clo f a d =>
    simp only [Blk.noRo, List.all_append, Bool.and_eq_true] at hn
    obtain ⟨h0, A, C, h1, h2, h3⟩ := h
    exact ⟨h0, A, C, h1, h2.imp_mem fun x _ hx => V1Rel.any (List.all_eq_true.1 hn.1 x hx), h3.imp_mem fun x _ hx => V1Rel.any (List.all_eq_true.1 hn.2 x hx)⟩
  | map _ _ _ => exact h
  | yld f a d =>
    obtain ⟨g, r, h1, h2, h3, h5, h4⟩ := h
    exact ⟨g, r, h1, h2, h3, h5, h4.imp_mem fun x _ hx => V1Rel.any (List.all_eq_true.1 hn x hx)⟩
  | chn _ _ _ => exact h
  | own _ _ _ => exact h

/-! ### Rows of the call's own, lent -/
theorem ow_roc {N : Nat → Prop} {p : Option Nat} (hp : ∀ g, p = some g → ¬ N g ∧ g < w.heap.size) : ∀ {t : Ty} {x : t.den} {c : List Value}, t.own = true → OwC w t x p c → RoC w N t x c
  | .ro u, l, c, ho, h => by
    simp only [Ty.own, Bool.and_eq_true, decide_eq_true_eq] at ho
    obtain ⟨A, cap, rfl, h2, h3⟩ := h
    refine ⟨A, cap, rfl, h2, fun k y hy => ?_⟩
    obtain ⟨g, arr, U, k1, rfl, k3, k4, k5⟩ := h3 (by rintro rfl; simp at hy)
    obtain ⟨n1, n2⟩ := hp g k1
    exact ⟨_, _, rfl, n1, n2, roc_val y ho.1, fun q v hv => by rw [Addr.add_mid, k3.cell, Nat.zero_add]; exact k5 k y hy q v hv⟩
  | .pair a d, x, c, ho, h => by
    simp only [Ty.own, Bool.and_eq_true] at ho
    obtain ⟨c2, rfl, h2⟩ := h
    exact ⟨_, _, rfl, roc_val x.1 ho.1, ow_roc hp ho.2 h2⟩
  | .int _, _, _, _, h => h.elim
  | .bool, _, _, _, h => h.elim
  | .str, _, _, _, h => h.elim
  | .unit, _, _, _, h => h.elim
theorem lend_rel (hI : Inv P c j H w) {ρ : List Nat} {x : Cell} {v : Value} (hx : (lentIds H x).all (fun b => !ρ.contains b) = true) (h : CRel j H w (NN c j H) x v) :
    CRel (j.pick ρ) (YtcdnofemnpafhaaM.pick H ρ) w (NN (cx1 c.A ρ j H w) (j.pick ρ) (YtcdnofemnpafhaaM.pick H ρ)) ((lend H x).ren (place ρ)) v := by
  have hs : ∀ g, NN (cx1 c.A ρ j H w) (j.pick ρ) (YtcdnofemnpafhaaM.pick H ρ) g → NN c j H g := fun g hg => hg.imp id own_pick
  have far : ∀ {b g : Nat} {B : Blk}, H[b]? = some B → B.live → At j b B g → b ∉ ρ → ¬ NN (cx1 c.A ρ j H w) (j.pick ρ) (YtcdnofemnpafhaaM.pick H ρ) g := by
    intro b g B hb hl hg hr hN
    rcases hN with hA | ho
    · exact hI.own_apart ⟨b, B, hb, hl, hg⟩ hA
    · obtain ⟨b', B', e1, e2, e3, e4⟩ := own1_own ho
      have := hI.inj b b' _ _ g hb e2 hl e3 hg e4
      subst this
      exact hr e1
  have ro : ∀ {T : TypeId} {t : Ty} {l : List t.den} {b o n : Nat} {A : Option Addr} {cap : Nat}, H[b]? = some (.row T t l) → b ∉ ρ → o + n ≤ l.length → n ≤ cap → (0 < n → ∃ g, j.blk b = some g ∧ A = some ⟨g, o * t.sz, none⟩) →
      CRel (j.pick ρ) (YtcdnofemnpafhaaM.pick H ρ) w (NN (cx1 c.A ρ j H w) (j.pick ρ) (YtcdnofemnpafhaaM.pick H ρ)) (.ro t ((l.drop o).take n)) (.slice A n cap) := by
    intro T t l b o n A cap hb hr hon hnc hA
    have hlen : ((l.drop o).take n).length = n := by simp; omega
    refine ⟨rfl, A, cap, by rw [hlen], by rw [hlen]; exact hnc, fun i y hy => ?_⟩
    have hin : i < n := by rw [← hlen]; exact get_lt hy
    obtain ⟨g, hg, rfl⟩ := hA (by omega)
    rcases hI.heap b _ hb with ⟨h1, _⟩ | ⟨g', cap', cells, h1, h2, h3, hz, h4, h5, h6⟩
    · rw [hg] at h1; cases h1
    · rw [hg] at h1; cases h1
      rw [List.getElem?_take, if_pos hin, List.getElem?_drop] at hy
      obtain ⟨d, hd, hc⟩ := h6 _ y hy
      refine ⟨_, d, rfl, far hb trivial hg hr, h2.lt, RoC.sub hs hd, fun q u hu => ?_⟩
      rw [Addr.add_mid, h2.cell, show o * t.sz + (i * t.sz + q) = (o + i) * t.sz + q by rw [Nat.add_mul]; omega]
      exact hc q u hu
  have other : CRel (j.pick ρ) (YtcdnofemnpafhaaM.pick H ρ) w (NN (cx1 c.A ρ j H w) (j.pick ρ) (YtcdnofemnpafhaaM.pick H ρ)) (x.ren (place ρ)) v := CRel.pick hs h
  cases x <;> simp only [lend] <;> (first | exact other | skip)
  case full b =>
    cases hb : H[b]? with
    | none => exact other
    | some B =>
      cases B <;> (first | exact other | skip)
      rename_i T t l
      simp only [lentIds, hb, List.all_cons, List.all_nil, Bool.and_true, Bool.not_eq_true', List.contains_eq_mem, decide_eq_false_iff_not] at hx
      have hl0 : (l.drop 0).take l.length = l := by simp
      rcases h.2.2 _ _ _ hb with ⟨hj, rfl⟩ | ⟨g, cap, hj, rfl, cells, hh, hsz⟩
      · rcases hI.heap b _ hb with ⟨_, rfl⟩ | ⟨g, _, _, hg, _⟩
        · exact ro (o := 0) (n := 0) hb hx (by simp) (Nat.le_refl _) (fun h => by omega)
        · rw [hj] at hg; cases hg
      · rcases hI.heap b _ hb with ⟨hj', _⟩ | ⟨g', cap', cells', h1, h2, h3, hz, h4, _⟩
        · rw [hj] at hj'; cases hj'
        · rw [hj] at h1; cases h1
          obtain rfl := hh.inj h2
          rw [hsz] at h3
          have hcc := Nat.eq_of_mul_eq_mul_right hz h3
          subst hcc
          have := ro (o := 0) (n := l.length) (A := some ⟨g, 0, none⟩) (cap := cap) hb hx (by simp) h4 (fun _ => ⟨g, hj, by simp⟩)
          rw [hl0] at this
          exact this
  case ofull b =>
    cases hb : H[b]? with
    | none => exact other
    | some B =>
      cases B <;> (first | exact other | skip)
      rename_i T t l
      simp only [lentIds, hb, List.all_cons, List.all_nil, Bool.and_true, Bool.not_eq_true', List.contains_eq_mem, decide_eq_false_iff_not] at hx
      rcases hI.heap b _ hb with ⟨ho, hol, _, h4⟩
      refine ⟨h.1, ?_⟩
      rcases h.2.2 _ _ _ hb with ⟨hj, rfl⟩ | ⟨g, hj, rfl⟩
      · rcases h4 with ⟨_, rfl⟩ | ⟨g, _, hg, _⟩
        · exact ⟨none, 0, rfl, Nat.le_refl _, fun q x hx => by simp at hx⟩
        · rw [hj] at hg; cases hg
      · rcases h4 with ⟨hg, _⟩ | ⟨g', cells, hg, k2, k3, k4, k5, k6, k7⟩
        · rw [hj] at hg; cases hg
        · rw [hj] at hg; cases hg
          refine ⟨_, _, rfl, k4, fun i x hxi => ?_⟩
          have hio : i < (owOf (j.cv b)).length := by rw [hol]; exact get_lt hxi
          have hel := k7 i x _ hxi (List.getElem?_eq_getElem hio)
          refine ⟨_, _, rfl, far hb trivial (.inl hj) hx, (Array.getElem?_eq_some_iff.1 k2).1, ow_roc (fun p hp => ?_) ho hel, fun q u hu => ?_⟩
          · have hpi : (owOf (j.cv b))[i]? = some (some p) := by rw [List.getElem?_eq_getElem hio, hp]
            obtain ⟨_, _, hcl⟩ := (k6 i p hpi).2
            exact ⟨far hb trivial (.inr ⟨i, hpi⟩) hx, hcl.lt⟩
          · rw [Addr.add_mid, Nat.zero_add, cell_of_row w g _ cells T (0, 0) k2, ← Array.getElem?_toList]
            rw [List.getElem?_take] at hu
            split at hu
            · rw [List.getElem?_drop] at hu; exact hu
            · cases hu
  case part b o n =>
    cases hb : H[b]? with
    | none => exact other
    | some B =>
      cases B <;> (first | exact other | skip)
      rename_i T t l
      simp only [lentIds, hb, List.all_cons, List.all_nil, Bool.and_true, Bool.not_eq_true', List.contains_eq_mem, decide_eq_false_iff_not] at hx
      obtain ⟨k1, A, cap, rfl, k2, k3⟩ := h.2.2 _ _ _ hb
      exact ro hb hx k1 k2 k3

theorem lend1_rel (hI : Inv P c j H w) {ρ : List Nat} {x : V1} {v : Value} (hx : (x.cells.flatMap (lentIds H)).all (fun b => !ρ.contains b) = true) (h : V1Rel j H w (NN c j H) x v) :
    V1Rel (j.pick ρ) (YtcdnofemnpafhaaM.pick H ρ) w (NN (cx1 c.A ρ j H w) (j.pick ρ) (YtcdnofemnpafhaaM.pick H ρ)) ((x.lend H).ren (place ρ)) v := by
  rw [List.all_flatMap] at hx
  cases x with
  | one y =>
    rcases h with rfl | h
    · exact .inl rfl
    · exact .inr (lend_rel hI (by simpa [V1.cells] using hx) h)
  | agg cs =>
    obtain ⟨vs, rfl, h⟩ := h
    refine ⟨vs, rfl, ?_⟩
    show All2 _ ((cs.map (lend H)).map (Cell.ren (place ρ))) _
    rw [List.map_map]
    refine All2.map_left (h.imp_mem fun y _ hy => ?_)
    exact lend_rel hI (List.all_eq_true.1 hx y hy)

variable {R : Type} {f : AV → List Blk → Option R} {r : R} {fs : FuncId → List V1 → List Blk → Option FSpec}

theorem callF_sound (hfs : ∀ g as H sp, fs g as H = some sp → FSound P g sp) (hI : Inv P c j H w) {g : FuncId} {args : List V1} {vals : Array Value} (ha : All2 (V1Rel j H w (NN c j H)) args vals.toList) (h : callF fs g args H f = some r) :
    (∃ fn, P.funcs[g]? = some fn ∧ (fn.name == "runtime.NumGoroutine") = false ∧ fn.body.isNone = false) ∧
    Calls P g vals w fun e w' => ∃ V av H' j', e = .returned V ∧ f av H' = some r ∧ Inv P c j' H' w' ∧ Mov j H w (NN c j H) j' H' w' (NN c j' H') ∧ AVRel j' H' w' (NN c j' H') av V := by
  rw [callF_def] at h
  split at h
  · rename_i sp hsp
    split at h
    · cases h
    rename_i hrd
    obtain ⟨hfn, hok⟩ := (hfs g _ _ sp hsp).1 (by simpa using hrd)
    refine ⟨hfn, ?_⟩
    split at h
    · (try simp only at h)
      generalize hρ : reach H fuelR ((args.map (V1.lend H)).flatMap V1.ids) [] = ρ at h
      have hnd : ρ.Nodup := by rw [← hρ]; exact reach_nodup _ _ _ _ List.nodup_nil
      split at h
      · rename_i hc
        rw [Bool.and_eq_true, List.all_flatMap] at hc
        obtain ⟨hc1, hc2⟩ := hc
        have hlt : ∀ b ∈ ρ, b < H.length := fun b hb => by simpa using List.all_eq_true.1 hc1 b hb
        rw [Option.bind_eq_some_iff] at h
        obtain ⟨x, hx, h⟩ := h
        split at h
        · rename_i hnr
          rw [Bool.and_eq_true] at hnr
          have hs : ∀ g, NN (cx1 c.A ρ j H w) (j.pick ρ) (YtcdnofemnpafhaaM.pick H ρ) g → NN c j H g := fun g hg => hg.imp id own_pick
          have hI1 := hI.start hnd (A1 := c.A) (fun g hg => ⟨by have := (hI.apart g hg).2; have := hI.size; omega, fun ho => hI.own_apart (own_pick ho) hg⟩) hs
          have ha1 : All2 (V1Rel (j.pick ρ) (YtcdnofemnpafhaaM.pick H ρ) w (NN (cx1 c.A ρ j H w) (j.pick ρ) (YtcdnofemnpafhaaM.pick H ρ))) ((args.map (V1.lend H)).map (V1.ren (place ρ))) vals.toList := by
            rw [List.map_map]
            exact All2.map_left (ha.imp_mem fun x _ hx => lend1_rel hI (List.all_eq_true.1 hc2 x hx))
          rw [cx_eq] at hI1 ha1
          refine (hok c.A (j.pick ρ) (YtcdnofemnpafhaaM.pick H ρ) w _ vals x hx hI1 ha1).mono fun e w' hpost => ?_
          obtain ⟨V, j2, he, hI2, hr⟩ := hpost
          rw [← cx_eq] at hI2 hr
          obtain ⟨m1, m2⟩ := hI.merge hnd hlt hI2 (N := fun _ => True) (fun _ _ => trivial) (fun q B hq => (hI2.heap q B hq).any (List.all_eq_true.1 hnr.2 B (List.mem_of_getElem? hq)))
          exact ⟨V, _, _, _, he, h, m1, m2, AVRel.back hnd hlt hI2 (N := fun _ => True) (fun _ _ => trivial) (AVRel.any hnr.1 hr)⟩
        · cases h
      · cases h
    · dsimp only at h
      generalize hρ : reach H fuelR (args.flatMap V1.ids) [] = ρ at h
      have hnd : ρ.Nodup := by rw [← hρ]; exact reach_nodup _ _ _ _ List.nodup_nil
      split at h
      · rename_i hc1
        have hlt : ∀ b ∈ ρ, b < H.length := fun b hb => by simpa using List.all_eq_true.1 hc1 b hb
        rw [Option.bind_eq_some_iff] at h
        obtain ⟨x, hx, h⟩ := h
        let A1 : Nat → Prop := fun g => c.A g ∨ (Own j H g ∧ ¬ Own (j.pick ρ) (YtcdnofemnpafhaaM.pick H ρ) g)
        have hs : ∀ g, NN (cx1 A1 ρ j H w) (j.pick ρ) (YtcdnofemnpafhaaM.pick H ρ) g → NN c j H g := fun g hg => by
          rcases hg with (hg | hg) | hg
          · exact .inl hg
          · exact .inr hg.1
          · exact .inr (own_pick hg)
        have hI1 := hI.start hnd (A1 := A1) (fun g hg => by
          rcases hg with hg | hg
          · exact ⟨by have := (hI.apart g hg).2; have := hI.size; omega, fun ho => hI.own_apart (own_pick ho) hg⟩
          · exact ⟨hI.own_lt hg.1, hg.2⟩) hs
        have ha1 : All2 (V1Rel (j.pick ρ) (YtcdnofemnpafhaaM.pick H ρ) w (NN (cx1 A1 ρ j H w) (j.pick ρ) (YtcdnofemnpafhaaM.pick H ρ))) (args.map (V1.ren (place ρ))) vals.toList :=
          All2.map_left (ha.imp fun x _ => V1Rel.pick hs)
        rw [cx_eq] at hI1 ha1
        refine (hok A1 (j.pick ρ) (YtcdnofemnpafhaaM.pick H ρ) w _ vals x hx hI1 ha1).mono fun e w' hpost => ?_
        obtain ⟨V, j2, he, hI2, hr⟩ := hpost
        rw [← cx_eq] at hI2 hr
        have hN : ∀ g, NN c (j.merge H.length ρ j2) (YtcdnofemnpafhaaM.merge H ρ (sp.out (args.map (V1.ren (place ρ))) (YtcdnofemnpafhaaM.pick H ρ) x).2) g → NN (cx1 A1 ρ j H w) j2 (sp.out (args.map (V1.ren (place ρ))) (YtcdnofemnpafhaaM.pick H ρ) x).2 g := by
          intro g hg
          rcases hg with hg | ⟨i, B, hb, hl, hg⟩
          · exact .inl (.inl hg)
          · by_cases hi : i < H.length
            · obtain ⟨B0, h1, h2, hsm, h4⟩ := merge_old hI hnd hI2 hi hb hl
              have hg' : At j i B0 g := (At.congr hsm (by simp [J.merge, hi]) (by simp [J.merge, hi])).1 hg
              rcases h4 with ⟨h5, _⟩ | ⟨q, B2, k1, k2, k3, k4, k5, k6, k7⟩
              · refine .inl (.inr ⟨⟨i, B0, h1, h2, hg'⟩, fun ho => ?_⟩)
                obtain ⟨b', B', e1, e2, e3, e4⟩ := own1_own ho
                have := hI.inj i b' _ _ g h1 e2 h2 e3 hg' e4
                subst this
                exact h5 e1
              · exact .inr ⟨q, B2, k3, k4, (At.congr (Blk.same_trans hsm (k5 ▸ Blk.same_symm (ren_same k4))) k6 k7).2 hg'⟩
            · rw [merge_ge (by omega), Option.map_eq_some_iff] at hb
              obtain ⟨B2, h1, rfl⟩ := hb
              exact .inr ⟨_, B2, h1, ren_live hl, (At.congr (ren_same (ren_live hl)) (by simp only [J.merge]; rw [if_neg hi]) (by simp only [J.merge]; rw [if_neg hi])).1 hg⟩
        obtain ⟨m1, m2⟩ := hI.merge hnd hlt hI2 hN (fun q B hq => hI2.heap q B hq)
        exact ⟨V, _, _, _, he, h, m1, m2, AVRel.back hnd hlt hI2 hN hr⟩
      · cases h
  · cases h
end
end Go.Proofs.YtcdnofemnpafhaaM

/- Calls of 'yield': a round. Conditions: none. -/
namespace Go.Proofs.YtcdnofemnpafhaaM
set_option linter.unusedVariables false
set_option linter.unusedSimpArgs false
set_option linter.unnecessarySimpa false
set_option linter.unusedSectionVars false
open Go

section
variable {P : Program} {c : Cx} {j : J} {H : List Blk} {w : World}
variable {R : Type} {k : AV → List Blk → Option R} {r : R} {fs : FuncId → List V1 → List Blk → Option FSpec}

theorem pick_set {ρ : List Nat} {b : Nat} {B : Blk} (h : b ∉ ρ) : YtcdnofemnpafhaaM.pick (H.set b B) ρ = YtcdnofemnpafhaaM.pick H ρ := by
  unfold YtcdnofemnpafhaaM.pick
  refine List.map_congr_left fun i hi => ?_
  have : i ≠ b := by rintro rfl; exact h hi
  rw [List.getD_eq_getElem?_getD, List.getD_eq_getElem?_getD, List.getElem?_set_ne (Ne.symm this)]

theorem finL_finL (r : Loop) (d d' : Bool) : finL (finL r d) d' = finL r d' := rfl

theorem callR_sound (hfs : ∀ g as H sp, fs g as H = some sp → FSound P g sp) (hI : Inv P c j H w) {f b : Nat} {a args : List V1} {vals : Array Value} (hb : H[b]? = some (.yld f a false))
    (ha : All2 (V1Rel j H w (NN c j H)) args vals.toList) (h : callR fs f a args b H k = some r) :
    ∃ (l : Nat) (rec : Loop), j.blk b = some l ∧ w.heap[l]? = some (.loop (finL rec false)) ∧ vals.size = rec.params.size ∧ ∀ (ro : Option Nat) (fn : FuncId),
      RoundIn (FF ro) 0 P l fn ((rec.params.zip vals).foldl (fun tmps (t, a) => tmps.setIfInBounds t a) rec.tmps) rec.assign rec.body w fun e w' =>
        ∃ V av H' j', e = .returned V ∧ k av H' = some r ∧ Inv P c j' H' w' ∧ Mov j H w (NN c j H) j' H' w' (NN c j' H') ∧ AVRel j' H' w' (NN c j' H') av V := by
  obtain ⟨l, rec, hl, hh, hri, hnt, hta⟩ := hI.heap b _ hb
  rw [callR_def] at h
  split at h
  · rename_i sp hsp
    split at h
    · rename_i hrd
      obtain ⟨ps, as, body, hri', hps, hok⟩ := (hfs f _ _ sp hsp).2 _ hrd
      rw [hri] at hri'
      simp only [Option.some.injEq, Prod.mk.injEq] at hri'
      obtain ⟨rfl, rfl, rfl⟩ := hri'
      have hvs : vals.size = rec.params.size := by rw [hps]; exact ha.1.symm
      refine ⟨l, rec, hl, hh, hvs, fun ro fn => ?_⟩
      have hall : All2 (V1Rel j H w (NN c j H)) (a ++ args) ((rslots rec.params rec.assign rec.body).map (fun i => rec.tmps.getD i undef) ++ vals.toList) := hta.append ha
      dsimp only at h
      generalize hρ : reach H fuelR ((a ++ args).flatMap V1.ids) [] = ρ at h
      have hnd : ρ.Nodup := by rw [← hρ]; exact reach_nodup _ _ _ _ List.nodup_nil
      split at h
      · rename_i hc
        rw [Bool.and_eq_true] at hc
        have hlt : ∀ b ∈ ρ, b < H.length := fun b hb => by simpa using List.all_eq_true.1 hc.1 b hb
        have hbρ : b ∉ ρ := by simpa using hc.2
        rw [Option.bind_eq_some_iff] at h
        obtain ⟨x, hx, h⟩ := h
        let A1 : Nat → Prop := fun g => c.A g ∨ (Own j H g ∧ ¬ Own (j.pick ρ) (YtcdnofemnpafhaaM.pick H ρ) g)
        have hs : ∀ g, NN (cx1 A1 ρ j H w) (j.pick ρ) (YtcdnofemnpafhaaM.pick H ρ) g → NN c j H g := fun g hg => by
          rcases hg with (hg | hg) | hg
          · exact .inl hg
          · exact .inr hg.1
          · exact .inr (own_pick hg)
        have hI1 := hI.start hnd (A1 := A1) (fun g hg => by
          rcases hg with hg | hg
          · exact ⟨by have := (hI.apart g hg).2; have := hI.size; omega, fun ho => hI.own_apart (own_pick ho) hg⟩
          · exact ⟨hI.own_lt hg.1, hg.2⟩) hs
        have ha1 : All2 (V1Rel (j.pick ρ) (YtcdnofemnpafhaaM.pick H ρ) w (NN (cx1 A1 ρ j H w) (j.pick ρ) (YtcdnofemnpafhaaM.pick H ρ))) ((a ++ args).map (V1.ren (place ρ))) ((rslots rec.params rec.assign rec.body).map (fun i => rec.tmps.getD i undef) ++ vals.toList) :=
          All2.map_left (hall.imp fun x _ => V1Rel.pick hs)
        rw [cx_eq] at hI1 ha1
        have hA1 : A1 l := by
          refine .inr ⟨⟨b, _, hb, trivial, hl⟩, fun ho => ?_⟩
          obtain ⟨b', B', e1, e2, e3, e4⟩ := own1_own ho
          have := hI.inj b b' _ _ l hb e2 trivial e3 hl e4
          subst this
          exact hbρ e1
        refine (hok A1 (j.pick ρ) (YtcdnofemnpafhaaM.pick H ρ) w _ _ _ x hx hnt (hvs.trans hps) hI1 ha1 ro l (finL rec false) fn hA1 hh rfl).mono fun e w' hpost => ?_
        obtain ⟨d, j2, hout, he, hI2⟩ := hpost
        rw [hout] at h
        rw [finL_finL] at hI2
        have hk : k (cellV (.bool (!d))) (merge (H.set b (.yld f a d)) ρ (sp.out ((a ++ args).map (V1.ren (place ρ))) (YtcdnofemnpafhaaM.pick H ρ) x).2) = some r := by
          rcases byB_some h with ⟨rfl, h⟩ | ⟨rfl, h⟩ <;> exact h
        obtain ⟨hI', m1⟩ := hI.upd (B' := .yld f a d) hb trivial rfl trivial hl (w' := w.putObj l (.loop (finL rec d))) World.putObj_size rfl rfl rfl (fun k hk => World.putObj_heap_other hk)
          (fun T cells hc => by obtain ⟨_, _, hc, _⟩ := hc; rw [hh] at hc; cases hc)
          (fun m => ⟨l, rec, hl, World.putObj_heap_same (Array.getElem?_eq_some_iff.1 hh).1, hri, hnt, hta.imp fun _ _ => V1Rel.mov m⟩)
        generalize (sp.out ((a ++ args).map (V1.ren (place ρ))) (YtcdnofemnpafhaaM.pick H ρ) x).2 = H2 at hI2 hk
        rw [← pick_set (B := .yld f a d) hbρ] at hI2
        rw [← cx_eq] at hI2
        have hlt' : ∀ q ∈ ρ, q < (H.set b (.yld f a d)).length := by simpa using hlt
        have own' : ∀ {i g : Nat} {B : Blk}, (H.set b (.yld f a d))[i]? = some B → B.live → At j i B g → Own j H g := by
          intro i g B hi hli hg
          rcases get_set hi with ⟨_, h1⟩ | ⟨rfl, rfl, _⟩
          · exact ⟨i, B, h1, hli, hg⟩
          · exact ⟨i, _, hb, trivial, hg⟩
        generalize hH : H.set b (.yld f a d) = H1 at hI' m1 hI2 hlt' hk own'
        generalize hw1 : w.putObj l (.loop (finL rec d)) = w1 at hI' m1 hI2
        have hpk : YtcdnofemnpafhaaM.pick H1 ρ = YtcdnofemnpafhaaM.pick H ρ := by rw [← hH]; exact pick_set hbρ
        have hN : ∀ g, NN c (j.merge H1.length ρ j2) (YtcdnofemnpafhaaM.merge H1 ρ H2) g → NN (cx1 A1 ρ j H1 w1) j2 H2 g := by
          intro g hg
          rcases hg with hg | ⟨i, B, hbi, hli, hg⟩
          · exact .inl (.inl hg)
          · by_cases hi : i < H1.length
            · obtain ⟨B0, h1, h2, hsm, h4⟩ := merge_old hI' hnd hI2 hi hbi hli
              have hg' : At j i B0 g := (At.congr hsm (by simp [J.merge, hi]) (by simp [J.merge, hi])).1 hg
              rcases h4 with ⟨h5, _⟩ | ⟨q, B2, k1, k2, k3, k4, k5, k6, k7⟩
              · refine .inl (.inr ⟨own' h1 h2 hg', fun ho => ?_⟩)
                rw [← hpk] at ho
                obtain ⟨b', B', e1, e2, e3, e4⟩ := own1_own ho
                have := hI'.inj i b' _ _ g h1 e2 h2 e3 hg' e4
                subst this
                exact h5 e1
              · exact .inr ⟨q, B2, k3, k4, (At.congr (Blk.same_trans hsm (k5 ▸ Blk.same_symm (ren_same k4))) k6 k7).2 hg'⟩
            · rw [merge_ge (by omega), Option.map_eq_some_iff] at hbi
              obtain ⟨B2, h1, rfl⟩ := hbi
              exact .inr ⟨_, B2, h1, ren_live hli, (At.congr (ren_same (ren_live hli)) (by simp only [J.merge]; rw [if_neg hi]) (by simp only [J.merge]; rw [if_neg hi])).1 hg⟩
        obtain ⟨m2, m3⟩ := hI'.merge hnd hlt' hI2 hN (fun q B hq => hI2.heap q B hq)
        exact ⟨_, _, _, _, he, hk, m2, m1.trans m3, bool_rel _⟩
      · cases h
    · cases h
  · cases h
end
end Go.Proofs.YtcdnofemnpafhaaM

/- The fence of all functions, in a round of a range over a function or not; sequences in it. Conditions: none. -/
namespace Go.Proofs.YtcdnofemnpafhaaM
set_option linter.unusedVariables false
set_option linter.unusedSimpArgs false
set_option linter.unnecessarySimpa false
set_option linter.unusedSectionVars false
open Go

section
variable {P : Program} {ro : Option Nat} {Q : Exit → Act → World → Prop} {a : Act} {w : World}

theorem FF_room (n : Nat) : (FF ro).room n := fun _ h => by simp [FF, Fence.wide] at h
theorem callsFF {f : FuncId} {args : Array Value} {R : Ending → World → Prop} {n : Nat} (h : Calls P f args w R) : CallsIn (FF ro) n P f args w R := callsIn_wide (n := n).2 h

theorem stepR_scope {b : Frame} {c : Code} {k : List Item} {cs : List Frame} : step P (lone (b.atR a (.code (.scope c) :: k)) cs w) = .next (lone (b.atR a (.code c :: .inScope c :: k)) cs w) :=
  step_lone_go (by simp [stepG, stepG.exec, Frame.atR])
theorem stepR_inScope {b : Frame} {c : Code} {k : List Item} {cs : List Frame} : step P (lone (b.atR a (.inScope c :: k)) cs w) = .next (lone (b.atR a k) cs w) :=
  step_lone_go (by simp [stepG, stepG.exec, Frame.atR])

theorem wpIn_scope_straight {F : Fence} {n : Nat} {c : Code} (h : c.wpIn F n P (Exit.noGoto Q) a w) : (Code.scope c).wpIn F n P Q a w := by
  intro b k cs hro hb hr
  have h0 : (lone (b.atR a (.code (.scope c) :: k)) cs w).fenced P F := fenced_calm hb hr rfl
  obtain ⟨e, a₁, w₁, hq, harr⟩ := h b (.inScope c :: k) cs hro hb hr
  cases e with
  | normal => exact ⟨.normal, a₁, w₁, hq, .head h0 stepR_scope (StepsIn.trans harr (.one (fenced_calm hb hr rfl) stepR_inScope))⟩
  | exit id =>
    have hx : exitTo id (.inScope c :: k) = exitTo id k := by simp [exitTo]
    exact ⟨.exit id, a₁, w₁, hq, fun k' hk => .head h0 stepR_scope (harr.1 k' (by rw [hx]; exact hk)),
      fun hr' hk => let ⟨k₁, h1, h2⟩ := harr.2 hr' (by rw [hx]; exact hk); ⟨k₁, h1, .head h0 stepR_scope h2⟩⟩
  | goto l => exact hq.elim
  | ret => exact ⟨_, a₁, w₁, hq, .of_steps (.one h0 stepR_scope) harr⟩
  | panic ch => exact ⟨_, a₁, w₁, hq, .of_steps (.one h0 stepR_scope) harr⟩
  | outgrown => exact ⟨_, a₁, w₁, hq, .of_steps (.one h0 stepR_scope) harr⟩

theorem wpIn_loop_n {F : Fence} {n0 : Nat} {x : Code} (J : Nat → Act → World → Prop) (round : ∀ n a w, J n a w → x.wpIn F n0 P (Exit.then (fun a' w' => ∃ n', n' < n ∧ J n' a' w') Q) a w) :
    ∀ n a w, J n a w → (Code.loop x).wpIn F n0 P Q a w := by
  intro n a w h₀ b k cs hro hb hr
  have key : ∀ n a w, J n a w → ∃ e a' w', Q e a' w' ∧ ArrivesIn (Machine.fenced P F) P (lone (b.atR a (.code x :: .inLoop x :: k)) cs w) b k cs e a' w' := by
    intro n
    induction n using Nat.strongRecOn with
    | _ n ih =>
      intro a w hI
      obtain ⟨e, a₁, w₁, hq, harr⟩ := round n a w hI b (.inLoop x :: k) cs hro hb hr
      cases e with
      | normal =>
        obtain ⟨n', hlt, hI₁⟩ := hq
        obtain ⟨e₂, a₂, w₂, hq₂, harr₂⟩ := ih n' hlt a₁ w₁ hI₁
        exact ⟨e₂, a₂, w₂, hq₂, .of_steps (StepsIn.trans harr (.one (fenced_calm hb hr rfl) stepR_inLoop)) harr₂⟩
      | exit id => exact ⟨_, a₁, w₁, hq, .pass (x := .inLoop x) rfl (fun _ _ => .inl (by simp)) harr⟩
      | goto l => exact ⟨_, a₁, w₁, hq, .pass (x := .inLoop x) rfl (fun _ _ => .inl (by simp)) harr⟩
      | ret => exact ⟨_, a₁, w₁, hq, .pass (x := .inLoop x) rfl (fun _ _ => .inl (by simp)) harr⟩
      | panic ch => exact ⟨_, a₁, w₁, hq, .pass (x := .inLoop x) rfl (fun _ _ => .inl (by simp)) harr⟩
      | outgrown => exact ⟨_, a₁, w₁, hq, .pass (x := .inLoop x) rfl (fun _ _ => .inl (by simp)) harr⟩
  obtain ⟨e, a', w', hq, harr⟩ := key n a w h₀
  exact ⟨e, a', w', hq, .of_steps (.one (fenced_calm hb hr rfl) stepR_loop) harr⟩

theorem wpInFF {o : Oper} {K : Act → World → Prop} (hd : ∀ c, o.op ≠ .defer c) (h : o.uponIn (FF ro) 0 P a K Q ((execOp a.eval o).run P w)) : o.wpIn (FF ro) 0 P a w K Q :=
  ⟨fun _ _ => trivial, by rw [Oper.semAt_eq _ _ _ hd]; exact h⟩
end
end Go.Proofs.YtcdnofemnpafhaaM

/- Conversions; memory that is nobody's. Conditions: none. -/
namespace Go.Proofs.YtcdnofemnpafhaaM
set_option linter.unusedVariables false
set_option linter.unusedSimpArgs false
set_option linter.unnecessarySimpa false
set_option linter.unusedSectionVars false
open Go

section
variable {P : Program} {c : Cx} {j : J} {H : List Blk} {w : World} {R : Type} {f : AV → List Blk → Option R} {r : R} {env : List AV} {a : Act}

theorem Inv.more {w' : World} (h : Inv P c j H w) (hs : w.heap.size ≤ w'.heap.size) (ho : w'.os = w.os) (ht : w'.tape = w.tape) (hout : w'.output = w.output) (hold : ∀ g, g < w.heap.size → w'.heap[g]? = w.heap[g]?) :
    Inv P c j H w' ∧ Mov j H w (NN c j H) j H w' (NN c j H) := by
  have m : Mov j H w (NN c j H) j H w' (NN c j H) := ⟨Nat.le_refl _, fun b B hb => ⟨B, hb, fun hl => ⟨Blk.same_refl hl, rfl, rfl⟩⟩, hs, fun g hg hn => ⟨hn, hold g hg⟩, fun b T t l g cells _ _ _ hg => ⟨cells, Cls.of_eq (hold g hg.lt) hg, rfl⟩⟩
  refine ⟨⟨h.n, h.keep, h.neu, h.own, h.inj, fun g hg hn => (hold g (by have := h.size; omega)).trans (h.frame g hg hn), Nat.le_trans h.size hs, ho.trans h.os, ht.trans h.tape, hout.trans h.output, h.apart, h.gl, h.same, h.rowsz_step m, fun b B hb => ?_⟩, m⟩
  by_cases hl : B.live
  · exact (h.heap b B hb).mov m rfl rfl fun g hg => hold g (h.own_lt ⟨b, B, hb, hl, hg⟩)
  · cases B <;> first | exact absurd trivial hl | trivial

theorem convert_sound (hI : Inv P c j H w) (he : ERel c j H w (NN c j H) env a) {o : Oper} {s d : TypeId} {x : Operand} {own : Bool} (ho : o.op = .convert s d x) (h : convX P own s d x env H f = some r) : Out P c j H w f r ((execOp a.eval o).run P w) := by
  simp only [convX] at h
  have hx := evalV_rel he x
  split at h
  · rename_i k0 k k1 n hs hd hz
    rw [hz] at hx
    exact .pure hI (by simp [execOp, ho, rel_int hx, convert, run_underlying hs, run_underlying hd, Conv.intToInt]) h (int_rel _ _)
  · rename_i n hs hd hz
    rw [hz] at hx
    exact .pure hI (by simp [execOp, ho, rel_str hx, convert, run_underlying hs, run_underlying hd]) h (str_rel _)
  · rename_i e s0 hs hd hz
    rw [hz] at hx
    split at h
    · rename_i hu
      have hv := rel_str hx
      have e0 : (execOp a.eval o).run P w = .ok (.value (.slice (some ⟨w.heap.size, 0, none⟩) s0.size (grownCap w s0.size 0 e))) (w.drew.alloc (.cells (bytesRow s0 (grownCap w s0.size 0 e)) e ((bytesRow s0 (grownCap w s0.size 0 e)).size, (bytesRow s0 (grownCap w s0.size 0 e)).size + 1))) := by
        have e1 : (execOp a.eval o).run P w = (do pure (Next.value (← Go.convert s d (.string s0))) : Sem Next).run P w := by
          simp [execOp, ho, hv]
        rw [e1]
        exact run_val (run_bytes_of_string w s d e s0 hs hd hu)
      cases own with
      | true =>
        simp only [if_true] at h
        split at h
        · rename_i hsm
          have hcz : (bytesRow s0 (grownCap w s0.size 0 e)).size = grownCap w s0.size 0 e := by
            have := grownCap_ge w s0.size 0 e
            simp [bytesRow]
            omega
          have hlen : (ofBytes s0).length = s0.size := by
            unfold ofBytes
            rw [List.length_map, Array.length_toList]
            rfl
          obtain ⟨r1, r2⟩ := hI.push (B := .row (1000000 + e) (.int .u8) (ofBytes s0)) (r := some w.heap.size) (v := undef) (w' := w.drew.alloc (.cells (bytesRow s0 (grownCap w s0.size 0 e)) e ((bytesRow s0 (grownCap w s0.size 0 e)).size, (bytesRow s0 (grownCap w s0.size 0 e)).size + 1))) (by
            show w.heap.size ≤ (w.heap.push _).size
            simp) rfl rfl rfl (fun g hg => RowKit.Below.heap_alloc w.drew _ g hg) (fun g hg => by cases hg; exact Nat.le_refl _)
            (fun m => .inr ⟨w.heap.size, grownCap w s0.size 0 e, _, J.at_eq.1, ⟨e, _, alloc_new, fun i hi h => by have h1 := h.1; dsimp only at h1; omega, fun h => absurd h (Nat.not_lt.2 (Nat.le_add_right 1000000 e))⟩, by rw [hcz]; exact (Nat.mul_one _).symm, by decide, by rw [hlen]; exact grownCap_ge .., grownCap_le_maxLen w s0.size 0 e (by unfold maxLen; omega), fun i x hq => by
              have hq' : i < s0.data.size := by
                have := (List.getElem?_eq_some_iff.1 hq).1
                rw [hlen] at this
                exact this
              refine ⟨[.int .u8 x], rfl, fun q u hu => ?_⟩
              have hp : q = 0 := by
                have := (List.getElem?_eq_some_iff.1 hu).1
                simpa using this
              subst hp
              simp only [List.getElem?_cons_zero, Option.some.injEq] at hu
              subst hu
              show (bytesRow s0 (grownCap w s0.size 0 e))[i * 1 + 0]? = _
              rw [Nat.mul_one, Nat.add_zero, bytesRow_at s0 _ i hq']
              unfold ofBytes at hq
              rw [List.getElem?_map, Array.getElem?_toList, Array.getElem?_eq_getElem hq', Option.map_some] at hq
              cases hq; rfl⟩)
          refine Out.val e0 h r1 r2 (.inr ⟨rfl, by simp, fun T' t' l' hb' => ?_⟩)
          rw [List.getElem?_append_right (Nat.le_refl _), Nat.sub_self] at hb'
          cases hb'
          exact .inr ⟨w.heap.size, grownCap w s0.size 0 e, J.at_eq.1, by rw [hlen], _, ⟨e, _, alloc_new, fun i hi h => by have h1 := h.1; dsimp only at h1; omega, fun h => absurd h (Nat.not_lt.2 (Nat.le_add_right 1000000 e))⟩, by rw [hcz]; exact (Nat.mul_one _).symm⟩
        · cases h
      | false =>
      simp only [Bool.false_eq_true, if_false] at h
      obtain ⟨m1, m2⟩ := hI.more (w' := w.drew.alloc (.cells (bytesRow s0 (grownCap w s0.size 0 e)) e ((bytesRow s0 (grownCap w s0.size 0 e)).size, (bytesRow s0 (grownCap w s0.size 0 e)).size + 1))) (by
        show w.heap.size ≤ (w.heap.push _).size
        simp) rfl rfl rfl (fun g hg => RowKit.Below.heap_alloc w.drew _ g hg)
      have hnn : ¬ NN c j H w.heap.size := by
        rintro (hA | ho)
        · have := (hI.apart _ hA).2; have := hI.size; omega
        · have := hI.own_lt ho; omega
      have hlen : (ofBytes s0).length = s0.size := by
        unfold ofBytes
        rw [List.length_map, Array.length_toList]
        rfl
      refine Out.val e0 h m1 m2 (.inr ⟨rfl, ?_⟩)
      refine ⟨some ⟨w.heap.size, 0, none⟩, grownCap w s0.size 0 e, by rw [hlen], by rw [hlen]; exact grownCap_ge .., fun q x hq => ?_⟩
      refine ⟨_, [.int .u8 x], rfl, hnn, ?_, rfl, fun p u hu => ?_⟩
      · show w.heap.size < (w.heap.push _).size
        simp
      · have hp : p = 0 := by
          have := (List.getElem?_eq_some_iff.1 hu).1
          simpa using this
        subst hp
        simp only [List.getElem?_cons_zero, Option.some.injEq] at hu
        subst hu
        have hq' : q < s0.data.size := by
          have := (List.getElem?_eq_some_iff.1 hq).1
          rw [hlen] at this
          exact this
        rw [Addr.add_mid, Nat.zero_add]
        refine (World.cell?_alloc_mark w.drew _ _ _ _).trans ?_
        show (bytesRow s0 (grownCap w s0.size 0 e))[q * 1 + 0]? = _
        rw [Nat.mul_one, Nat.add_zero, bytesRow_at s0 _ q hq']
        unfold ofBytes at hq
        rw [List.getElem?_map, Array.getElem?_toList, Array.getElem?_eq_getElem hq', Option.map_some] at hq
        cases hq; rfl
    · cases h
  · rename_i e c0 hs hd hz
    rw [hz] at hx
    split at h
    · rename_i l hu hl
      have hct : c0 ≠ .top := by rintro rfl; simp [rowOf] at hl
      obtain ⟨A, cap, news, hv, k1, _, k3, k4, k5⟩ := src_rel hI hl (rel_one hx hct)
      have e1 : (execOp a.eval o).run P w = (do pure (Next.value (← Go.convert s d (.slice A l.length cap))) : Sem Next).run P w := by
        simp [execOp, ho, hv]
      have hcv : (Go.convert s d (.slice A l.length cap)).run P w = .ok (.string (bytesOf l)) w := by
        rw [run_convert_bytes_string w s d e A l.length cap hs hu hd]
        cases A with
        | none =>
          rw [k3 rfl]
          simp [Conv.bytesToString, bytesOf]
          rfl
        | some ad =>
          have hnews : news = l.map (Value.int .u8) := by
            apply List.ext_getElem?
            intro q
            rw [List.getElem?_map]
            cases hq : l[q]? with
            | none =>
              rw [Option.map_none, List.getElem?_eq_none]
              rw [k1]
              have := List.getElem?_eq_none_iff.1 hq
              show l.length * 1 ≤ q
              omega
            | some x =>
              obtain ⟨d', d1, d2⟩ := k5 q x hq
              have d1' : d' = [.int .u8 x] := d1
              subst d1'
              have := d2 0 _ rfl
              rw [show q * Ty.sz (.int .u8) + 0 = q from by show q * 1 + 0 = q; omega] at this
              rw [this]; rfl
          have hload := run_loadCells_list (P := P) w ad news (fun q v hq => k4 ad rfl q v hq)
          rw [hnews] at hload
          simp only [List.length_map] at hload
          have := run_bytesToString w ad l.length cap l hload
          rw [this]
          congr 2
          have key : ∀ (l : List Int) (r : ByteArray), l.foldl (fun r n => r.push (UInt8.ofNat n.toNat)) r = ⟨r.data ++ (l.map fun n => UInt8.ofNat n.toNat).toArray⟩ := by
            intro l
            induction l with
            | nil => intro r; simp
            | cons n l ih => intro r; rw [List.foldl_cons, ih]; simp [ByteArray.push]
          rw [key]
          have he0 : ByteArray.empty.data = #[] := rfl
          rw [he0]
          simp [bytesOf]
      exact .pure hI (by rw [e1]; exact run_val hcv) h (str_rel _)
    · cases h
  · cases h
end
end Go.Proofs.YtcdnofemnpafhaaM

/- Operations, regions in the text's order. Conditions: none. -/
namespace Go.Proofs.YtcdnofemnpafhaaM
set_option linter.unusedVariables false
set_option linter.unusedSimpArgs false
set_option linter.unnecessarySimpa false
set_option linter.unusedSectionVars false
open Go

section
variable {P : Program} {c : Cx} {j : J} {H : List Blk} {w : World} {R : Type} {r : R} {fs : FuncId → List V1 → List Blk → Option FSpec} {env : List AV} {a : Act} {ro : Option Nat}

theorem opV_sound {f : AV → List Blk → Option R} (hI : Inv P c j H w) (he : ERel c j H w (NN c j H) env a) {o : Oper} (h : opV P o.op env H f = some r) : Out P c j H w f r ((execOp a.eval o).run P w) := by
  cases ho : o.op with
  | move x =>
    have e : (execOp a.eval o).run P w = .ok (.value (a.eval x)) w := by simp [execOp, ho]
    rw [e]; rw [ho] at h; exact move_sound hI he h
  | assign x =>
    have e : (execOp a.eval o).run P w = .ok (.value (a.eval x)) w := by simp [execOp, ho]
    rw [e]; rw [ho] at h; exact move_sound hI he h
  | pick x y z => exact pick_sound hI he ho h
  | alloc T => exact alloc_sound hI ho h
  | box T x => exact box_sound hI he ho h
  | build T ps => exact build_sound hI he ho h
  | buildSlice T n ps => exact buildSlice_sound hI he ho h
  | load T x => exact load_sound hI he ho h
  | store T x y => exact store_sound hI he ho h
  | nilCheck x => exact nilCheck_sound hI he ho h
  | binOp op T x y T2 => exact binOp_sound hI he ho h fun p q b vp vq h1 h2 h3 => eq_agg h1 h2 h3
  | unOp op T x => exact unOp_sound hI he ho h
  | convert s d x => exact convert_sound (own := true) hI he ho (by rw [ho] at h; exact h)
  | makeFunc fn l m => exact makeFunc_sound hI he ho h
  | makeSlice T x y => exact makeSlice_sound hI he ho h
  | slice T x lo hi mx => exact slice_sound hI he ho h
  | fieldAddr T x i => exact fieldAddr_sound hI he ho h
  | field T x i => exact field_sound hI he ho h
  | indexAddr T x i => exact idxAddr_sound hI he ho h
  | index T x i => exact idx_sound hI he ho h
  | extract x i => exact extract_sound hI he ho h
  | makeMap T x =>
    cases x with
    | none => exact makeMap_sound hI ho h
    | some x => rw [ho] at h; simp [opV] at h
  | lookup T x i ok => exact lookup_sound hI he ho h
  | mapUpdate T x i y => exact mapUpdate_sound hI he ho h
  | _ => rw [ho] at h; simp [opV] at h

theorem valsOf_rel {N : Nat → Prop} (he : ERel c j H w N env a) : ∀ {l : List Operand} {vs : List V1}, valsOf env l = some vs → All2 (V1Rel j H w N) vs (l.map a.eval)
  | [], vs, h => by simp [valsOf] at h; subst h; exact All2.nil
  | x :: l, vs, h => by
    simp only [valsOf] at h
    split at h
    · rename_i v l' hv hl
      cases h
      have hx := evalV_rel he x
      rw [ofAV_eq hv] at hx
      exact All2.cons hx (valsOf_rel he hl)
    · cases h

theorem opX_sound (hfs : ∀ g as H sp, fs g as H = some sp → FSound P g sp) {f : AV → List Blk → Option R} (hI : Inv P c j H w) (he : ERel c j H w (NN c j H) env a) {o : Oper} (h : opX P fs o.op env H f = some r) {K : Act → World → Prop} {Q : Exit → Act → World → Prop}
    (hK : ∀ V w' av H' j', f av H' = some r → Inv P c j' H' w' → Mov j H w (NN c j H) j' H' w' (NN c j' H') → AVRel j' H' w' (NN c j' H') av V → K (a.put o.dst V) w') : o.wpIn (FF ro) 0 P a w K Q := by
  have out : ∀ {res : Result Next}, (∀ c, o.op ≠ .defer c) → (execOp a.eval o).run P w = res → Out P c j H w f r res → o.wpIn (FF ro) 0 P a w K Q := by
    intro res hd hres ho
    obtain ⟨V, w', hv, av, H', j', h1, h2, h3, h4⟩ := ho
    refine wpInFF hd ?_
    rw [hres]
    rcases hv with rfl | ⟨rfl, rfl⟩
    · exact hK V w' av H' j' h1 h2 h3 h4
    · exact hK undef w' av H' j' h1 h2 h3 h4
  cases ho : o.op with
  | call cl =>
    rw [ho] at h
    simp only [opX, callX] at h
    split at h
    · rename_i args hargs
      have ha := valsOf_rel he hargs
      split at h
      · rename_i b hc
        refine out (fun c => by rw [ho]; exact fun h => by cases h) rfl ?_
        have e : (execOp a.eval o).run P w = (builtin b cl.argTypes o.type (cl.args.map fun | .const _ => true | _ => false) (cl.args.map a.eval)).run P w := by
          simp [execOp, ho, resolve, hc, invoke]
          rfl
        rw [e]
        exact builtin_sound hI (by rw [Array.toList_map]; exact ha) h
      · rename_i g hc
        have hg := evalV_rel he g
        split at h
        · rename_i g0 hg0
          rw [hg0] at hg
          have hv := (rel_one hg (by simp)).2
          obtain ⟨⟨fn, k1, k2, k3⟩, hcalls⟩ := callF_sound (P := P) (vals := cl.args.map a.eval) hfs hI (by rw [Array.toList_map]; exact ha) h
          have e : (execOp a.eval o).run P w = .ok (.enter g0 (cl.args.map a.eval)) w := by
            simp [execOp, ho, resolve, hc, hv, Deferred.ofValue, invoke, run_callFunc k1 k2 k3]
          refine wpInFF (fun c => by rw [ho]; exact fun h => by cases h) ?_
          rw [e]
          refine ⟨fun h => (by cases h), callsFF (hcalls.mono fun e' w' hpost => ?_)⟩
          obtain ⟨V, av, H', j', rfl, h1, h2, h3, h4⟩ := hpost
          exact hK V w' av H' j' h1 h2 h3 h4
        · rename_i g0 b hg0
          split at h
          · rename_i g' first cap hb
            split at h
            · rename_i hgg
              subst hgg
              rw [hg0] at hg
              have hv := (rel_one hg (by simp)).2.2 _ _ _ hb
              obtain ⟨_, A, C, hcv, h1, h2⟩ := hI.heap b _ hb
              rw [hcv] at hv
              obtain ⟨⟨fn, k1, k2, k3⟩, hcalls⟩ := callF_sound (P := P) (vals := A ++ cl.args.map a.eval ++ C) hfs hI (by
                simp only [Array.toList_append, Array.toList_map]
                exact (h1.append ha).append h2) h
              have e : (execOp a.eval o).run P w = .ok (.enter g' (A ++ cl.args.map a.eval ++ C)) w := by
                simp [execOp, ho, resolve, hc, hv, Deferred.ofValue, invoke, run_callFunc k1 k2 k3]
              refine wpInFF (fun c => by rw [ho]; exact fun h => by cases h) ?_
              rw [e]
              refine ⟨fun h => (by cases h), callsFF (hcalls.mono fun e' w' hpost => ?_)⟩
              obtain ⟨V, av, H', j', rfl, h1, h2, h3, h4⟩ := hpost
              exact hK V w' av H' j' h1 h2 h3 h4
            · cases h
          · cases h
        · rename_i b hg0
          split at h
          · rename_i g' a' d' hb
            rcases byB_some h with ⟨_, h⟩ | ⟨hd, h⟩
            · cases h
            · subst hd
              rw [hg0] at hg
              obtain ⟨l, rec, hl, hh, hsz, hrun⟩ := callR_sound (vals := cl.args.map a.eval) hfs hI hb (by rw [Array.toList_map]; exact ha) h
              obtain ⟨l', hl', hv⟩ := (rel_one hg (by simp)).2.2 _ _ _ hb
              rw [hl] at hl'; cases hl'
              have e : (execOp a.eval o).run P w = .ok (.round l rec.fn ((rec.params.zip (cl.args.map a.eval)).foldl (fun tmps (t, a) => tmps.setIfInBounds t a) rec.tmps) rec.assign rec.body) w := by
                have e1 := run_yield (P := P) (args := cl.args.map a.eval) hh hsz
                have e2 : (execOp a.eval o).run P w = (Instr.yield l (cl.args.map a.eval)).run P w := by
                  simp [execOp, ho, resolve, hc, hv, Deferred.ofValue, invoke]
                rw [e2, e1]
                rfl
              refine wpInFF (fun c => by rw [ho]; exact fun h => by cases h) ?_
              rw [e]
              refine ⟨fun h => (by cases h), (hrun ro _).mono fun e' w' hpost => ?_⟩
              obtain ⟨V, av, H', j', rfl, h1, h2, h3, h4⟩ := hpost
              exact hK V w' av H' j' h1 h2 h3 h4
          · cases h
        · cases h
      · cases h
    · cases h
  | defer c => rw [ho] at h; simp [opX, opV] at h
  | _ =>
    rw [ho] at h
    simp only [opX] at h
    exact out (fun c => by rw [ho]; exact fun h => by cases h) rfl (opV_sound hI he (by rw [ho]; exact h))

theorem dec_nil : ∀ (t : Ty) {cs : List Cell} {x : t.den} {r : List Cell} {H1 : List Blk}, dec t [] cs = some (x, r, H1) → H1 = [] ∧ ∀ H, dec t H cs = some (x, r, H)
  | .int k, cs, x, r, H1, h => by
    rcases cs with _ | ⟨y, cs⟩
    · cases h
    · cases y <;> simp only [dec] at h ⊢ <;> (first | (cases h; done) | skip)
      split at h
      · rename_i e; cases h; exact ⟨rfl, fun H => by rw [if_pos e]⟩
      · cases h
  | .bool, cs, x, r, H1, h => by
    rcases cs with _ | ⟨y, cs⟩
    · cases h
    · cases y <;> simp only [dec] at h ⊢ <;> (first | (cases h; done) | skip)
      cases h; exact ⟨rfl, fun _ => rfl⟩
  | .str, cs, x, r, H1, h => by
    rcases cs with _ | ⟨y, cs⟩
    · cases h
    · cases y <;> simp only [dec] at h ⊢ <;> (first | (cases h; done) | skip)
      cases h; exact ⟨rfl, fun _ => rfl⟩
  | .ro t, cs, x, r, H1, h => by
    rcases cs with _ | ⟨y, cs⟩
    · cases h
    · cases y <;> simp only [dec] at h ⊢ <;> (first | (cases h; done) | skip)
      · split at h
        · rename_i e; subst e; cases h; exact ⟨rfl, fun H => by simp⟩
        · cases h
      · cases h; exact ⟨rfl, fun _ => rfl⟩
  | .unit, cs, x, r, H1, h => by
    simp only [dec] at h ⊢
    cases h; exact ⟨rfl, fun _ => rfl⟩
  | .pair a b, cs, x, r, H1, h => by
    simp only [dec] at h ⊢
    split at h
    · rename_i y r1 H2 h1
      obtain ⟨rfl, k1⟩ := dec_nil a h1
      split at h
      · rename_i z r2 H3 h2
        obtain ⟨rfl, k2⟩ := dec_nil b h2
        cases h
        exact ⟨rfl, fun H => by rw [k1 H]; simp only; rw [k2 H]⟩
      · cases h
    · cases h
theorem decRow_nil {t : Ty} : ∀ (n : Nat) {cs : List Cell} {l : List t.den} {H1 : List Blk}, decRow t n [] cs = some (l, H1) → H1 = [] ∧ ∀ H, decRow t n H cs = some (l, H)
  | 0, cs, l, H1, h => by
    cases cs with
    | nil => simp only [decRow] at h ⊢; cases h; exact ⟨rfl, fun _ => rfl⟩
    | cons _ _ => cases h
  | n + 1, cs, l, H1, h => by
    simp only [decRow] at h ⊢
    split at h
    · rename_i y r1 H2 h1
      obtain ⟨rfl, k1⟩ := dec_nil t h1
      split at h
      · rename_i z H3 h2
        obtain ⟨rfl, k2⟩ := decRow_nil n h2
        cases h
        exact ⟨rfl, fun H => by rw [k1 H]; simp only; rw [k2 H]⟩
      · cases h
    · cases h

theorem buildSliceQ_sound {f : AV → List Blk → Option R} (hI : Inv P c j H w) (he : ERel c j H w (NN c j H) env a) {o : Oper} {T : TypeId} {n : Nat} {parts : Array (Nat × Operand)} (ho : o.op = .buildSlice T n parts) (h : opQ P fs o.op env H f = some r) : Out P c j H w f r ((execOp a.eval o).run P w) := by
  rw [ho] at h
  simp only [opQ] at h
  split at h
  · rename_i e hu
    split at h
    · rename_i t z ps ht hz hps
      split at h
      · rename_i hb
        split at h
        · rename_i cs hcs
          split at h
          · rename_i l H1 hd
            obtain ⟨_, hd'⟩ := decRow_nil n hd
            obtain ⟨i, zv, hi, hzv, hzr⟩ := zero_rel (j := j) (H := H) (w := w) hz (NN c j H)
            have hp := partsOf_rel he hps
            have hsz := tyOfT_sz ht
            have hsz' : i.size = t.sz := by simpa [infoSz, hi] using hsz
            obtain ⟨b1, b2, b3⟩ := hb
            have hzc : zv.cells.size = t.sz := by have := hzr.1; simp at this; omega
            have hbase : All2 (CRel j H w (NN c j H)) (List.replicate n z).flatten (madeCells zv.cells (n * t.sz)).toList := by
              rw [made_flat hzc b2]
              exact all2_flat hzr n
            obtain ⟨cells, hf1, hr1⟩ := fill_rel hcs hbase hp
            obtain ⟨_, _, h1, h2, h3⟩ := decRow_sound n hI (hd' H) hr1
            have hc : P.cellsOf e = t.sz := by simp [Program.cellsOf, hi, hsz']
            have hf2 : Instr.fill (fun (i : Nat) => some (i * P.cellsOf e, P.cellsOf e)) ((Array.range (n * P.cellsOf e)).map (zv.cells[· % zv.cells.size]!)) (List.map (fun x => (x.fst, a.eval x.snd)) parts.toList) = some cells := by rw [hc]; exact hf1
            have e0 : (execOp a.eval o).run P w = .ok (.value (.slice (some ⟨w.heap.size, 0, none⟩) n n)) (w.alloc (.cells cells e)) := by
              have hlim : ¬ (n * P.cellsOf e > 16777216) := by rw [hc]; omega
              by_cases hn0 : n * P.cellsOf e = 0
              · have hf3 := hf2
                rw [hn0] at hf3
                simp only [Array.range_zero', Array.map_empty] at hf3
                simp [execOp, ho, Instr.buildSlice, run_underlying hu, run_sizeOf w hi, hn0, Array.range_zero', hf3, newRow]
              · simp [execOp, ho, Instr.buildSlice, run_underlying hu, run_sizeOf w hi, hlim, hn0, zeroValue, typeInfo, hi, hzv, hf2, newRow]
            obtain ⟨m1, m2⟩ := hI.more (w' := w.alloc (.cells cells e)) (by simp) rfl rfl rfl (fun g hg => RowKit.Below.heap_alloc w _ g hg)
            have hnn : ¬ NN c j H w.heap.size := by
              rintro (hA | ho)
              · have := (hI.apart _ hA).2; have := hI.size; omega
              · have := hI.own_lt ho; omega
            refine Out.val e0 h m1 m2 (.inr ⟨rfl, ?_⟩)
            refine ⟨some ⟨w.heap.size, 0, none⟩, n, by rw [h1], by omega, fun q x hx => ?_⟩
            obtain ⟨d, d1, d2⟩ := h3 q x hx
            refine ⟨_, d, rfl, hnn, by simp, RoC.mov m2.ro m2.size d1, fun p u hu => ?_⟩
            have hcell : (w.alloc (.cells cells e)).heap[w.heap.size]? = some (.cells cells e (0, 0)) := alloc_new
            rw [Addr.add_mid, Nat.zero_add, cell_of_row _ w.heap.size _ cells e (0, 0) hcell, ← Array.getElem?_toList]
            exact d2 p u hu
          · cases h
        · cases h
      · cases h
    · cases h
  · cases h

theorem opQ_sound (hfs : ∀ g as H sp, fs g as H = some sp → FSound P g sp) {f : AV → List Blk → Option R} (hI : Inv P c j H w) (he : ERel c j H w (NN c j H) env a) {o : Oper} (h : opQ P fs o.op env H f = some r) {K : Act → World → Prop} {Q : Exit → Act → World → Prop}
    (hK : ∀ V w' av H' j', f av H' = some r → Inv P c j' H' w' → Mov j H w (NN c j H) j' H' w' (NN c j' H') → AVRel j' H' w' (NN c j' H') av V → K (a.put o.dst V) w') : o.wpIn (FF ro) 0 P a w K Q := by
  by_cases hb : ∃ T n ps, o.op = .buildSlice T n ps
  · obtain ⟨T, n, ps, ho⟩ := hb
    obtain ⟨V, w', hv, av, H', j', h1, h2, h3, h4⟩ := buildSliceQ_sound hI he ho h
    refine wpInFF (fun c => by rw [ho]; exact fun h => by cases h) ?_
    rcases hv with hv | ⟨hv, rfl⟩
    · rw [hv]; exact hK V w' av H' j' h1 h2 h3 h4
    · rw [hv]; exact hK undef w' av H' j' h1 h2 h3 h4
  · by_cases hc : ∃ s d x, o.op = .convert s d x
    · obtain ⟨s, d, x, ho⟩ := hc
      obtain ⟨V, w', hv, av, H', j', h1, h2, h3, h4⟩ := convert_sound (own := false) hI he ho (by rw [ho] at h; exact h)
      refine wpInFF (fun c => by rw [ho]; exact fun h => by cases h) ?_
      rcases hv with hv | ⟨hv, rfl⟩
      · rw [hv]; exact hK V w' av H' j' h1 h2 h3 h4
      · rw [hv]; exact hK undef w' av H' j' h1 h2 h3 h4
    · refine opX_sound hfs hI he (f := f) ?_ hK
      unfold opQ at h
      split at h
      · rename_i T n ps e
        exact absurd ⟨T, n, ps, e⟩ hb
      · rename_i s d x e
        exact absurd ⟨s, d, x, e⟩ hc
      · exact h

def SRel (P : Program) (c : Cx) (s : St) (a : Act) (w : World) : Prop := ∃ j, Inv P c j s.H w ∧ ERel c j s.H w (NN c j s.H) s.env a

theorem undef_rel {j : J} {H : List Blk} {w : World} {N : Nat → Prop} : AVRel j H w N (.tup []) undef := ⟨#[], rfl, All2.nil⟩
theorem wanted_none {o : Oper} {y : Nat → Option Bool} (h : o.guard = none) : Region.wanted o y = true := by simp [Region.wanted, h]

theorem put_len (s : St) (d : Option Tmp) (v : AV) : (s.put d v).env.length = s.env.length := by cases d <;> simp [St.put]
theorem opsX_sound (hfs : ∀ g as H sp, fs g as H = some sp → FSound P g sp) (all : Array Oper) {k : St → Option R} {Q : Exit → Act → World → Prop} {m : Nat} (hQ : ∀ s a w, SRel P c s a w → s.env.length = m → k s = some r → Q .normal a w) :
    ∀ (n : Nat) (l : List Oper), l = all.toList.drop n → n ≤ all.size → ∀ (s : St) (a : Act) (w : World), SRel P c s a w → s.env.length = m → opsX P fs all l s k = some r → wpOpsIn (FF ro) 0 P all Q ((List.range all.size).drop n) a w := by
  intro n l
  induction l generalizing n with
  | nil =>
    intro hl hn s a w hs hm h
    have : all.size ≤ n := by
      have := congrArg List.length hl
      simp at this; omega
    have e : (List.range all.size).drop n = [] := List.drop_eq_nil_of_le (by simpa using this)
    rw [e]
    simp only [opsX] at h
    exact hQ s a w hs hm h
  | cons o l ih =>
    intro hl hn s a w hs hm h
    have hlt : n < all.size := by
      have := congrArg List.length hl
      simp at this; omega
    have ho : all[n]? = some o := by
      have := congrArg (fun l => l[0]?) hl
      simp only [List.getElem?_drop, Nat.add_zero, Array.getElem?_toList] at this
      exact this.symm
    have hl' : l = all.toList.drop (n + 1) := by
      have := congrArg List.tail hl
      rw [List.tail_drop] at this
      exact this
    have er : (List.range all.size).drop n = n :: (List.range all.size).drop (n + 1) := by
      rw [List.drop_eq_getElem_cons (by simpa using hlt)]
      simp
    rw [er]
    simp only [wpOpsIn, ho]
    obtain ⟨j, hI, he⟩ := hs
    have step : ∀ {s : St} {a : Act}, s.env.length = m → Inv P c j s.H w → ERel c j s.H w (NN c j s.H) s.env a → opX P fs o.op s.env s.H (fun v H => opsX P fs all l (({ s with H := H } : St).put o.dst v) k) = some r →
        o.wpIn (FF ro) 0 P a w (wpOpsIn (FF ro) 0 P all Q ((List.range all.size).drop (n + 1))) Q := by
      intro s a hm hI he h
      refine opX_sound hfs hI he h fun V w' av H' j' h1 h2 h3 h4 => ih (n + 1) hl' (by omega) _ _ w' ⟨j', ?_, ?_⟩ (by rw [put_len]; exact hm) h1
      · cases o.dst <;> exact h2
      · have := (he.mov h3).put h4 o.dst
        cases hd : o.dst <;> rw [hd] at this <;> exact this
    simp only [opsX] at h
    split at h
    · rename_i hg
      rw [if_pos (wanted_none hg)]
      exact step hm hI he h
    · rename_i jg want hg
      split at h
      · rename_i d hd
        split at h
        · rename_i b hb
          have hv := evalV_rel he (.tmp d)
          simp only [evalV, hb] at hv
          have hvd : a.tmps.getD d undef = .bool b := rel_bool hv
          have hdl : d < s.env.length := by
            rcases Nat.lt_or_ge d s.env.length with h1 | h1
            · exact h1
            · rw [List.getD_eq_getElem?_getD, List.getElem?_eq_none h1] at hb
              cases hb
          have hdt : d < a.tmps.size := by have := he.2.1; simp at this; rw [← this]; exact hdl
          have hy : yielded all a.tmps jg = some b := by
            have e1 : a.tmps[d]? = some (.bool b) := by
              rw [Array.getD_eq_getD_getElem?, Array.getElem?_eq_getElem hdt] at hvd
              rw [Array.getElem?_eq_getElem hdt]
              simpa using hvd
            unfold yielded
            rw [hd]
            simp only [Option.bind_some, e1]
          have hset : ∀ t, b = t → ERel c j s.H w (NN c j s.H) (s.env.set d (cellV (.bool t))) a := by
            intro t ht
            refine ⟨he.1, ?_⟩
            have := he.2.set (i := d) (a := cellV (.bool t)) (b := .bool t) (bool_rel t)
            have e2 : a.tmps.toList.set d (.bool t) = a.tmps.toList := by
              apply List.ext_getElem?
              intro p
              rw [List.getElem?_set]
              split
              · rename_i hp
                subst hp
                rw [if_pos (by simpa using hdt), Array.getElem?_toList, Array.getElem?_eq_getElem hdt]
                rw [Array.getD_eq_getD_getElem?, Array.getElem?_eq_getElem hdt] at hvd
                simp at hvd
                rw [hvd, ht]
              · rfl
            rw [e2] at this
            exact this
          have on : ∀ t, b = t → (if t = want then opX P fs o.op (s.env.set d (cellV (.bool t))) s.H (fun v H => opsX P fs all l (({ ({ s with env := s.env.set d (cellV (.bool t)) } : St) with H := H } : St).put o.dst v) k)
              else opsX P fs all l (({ s with env := s.env.set d (cellV (.bool t)) } : St).put o.dst (.tup [])) k) = some r →
              (if Region.wanted o (yielded all a.tmps) = true then o.wpIn (FF ro) 0 P a w (wpOpsIn (FF ro) 0 P all Q ((List.range all.size).drop (n + 1))) Q else (∀ f, o.about P w a.eval = some f → (FF ro).fn f) ∧ wpOpsIn (FF ro) 0 P all Q ((List.range all.size).drop (n + 1)) (a.put o.dst undef) w) := by
            intro t ht h
            have hwant : Region.wanted o (yielded all a.tmps) = decide (t = want) := by
              unfold Region.wanted
              rw [hg]
              simp only [hy, ht]
              cases t <;> cases want <;> rfl
            rw [hwant]
            split at h
            · rename_i htw
              rw [if_pos (by simpa using htw)]
              exact (step (s := { s with env := s.env.set d (cellV (.bool t)) }) (by simpa using hm) hI (hset t ht) h)
            · rename_i htw
              rw [if_neg (by simpa using htw)]
              refine ⟨fun _ _ => trivial, ?_⟩
              refine ih (n + 1) hl' (by omega) _ _ w ⟨j, ?_, ?_⟩ (by rw [put_len]; simpa using hm) h
              · cases o.dst <;> exact hI
              · have := (hset t ht).put (v := .tup []) (V := undef) undef_rel o.dst
                cases hd : o.dst <;> rw [hd] at this <;> exact this
          rcases byB_some h with ⟨hb1, h⟩ | ⟨hb1, h⟩
          · exact on true hb1 h
          · exact on false hb1 h
        · rename_i hb
          have hv := evalV_rel he (.tmp d)
          simp only [evalV, hb] at hv
          obtain ⟨vs, hv1, hv2⟩ := hv
          have hvs : vs = #[] := by
            have := hv2.1
            simp at this
            exact Array.size_eq_zero_iff.1 this.symm
          subst hvs
          have hy : yielded all a.tmps jg = none := by
            unfold yielded
            rw [hd]
            simp only [Option.bind_some]
            simp only [Act.eval, Array.getD_eq_getD_getElem?] at hv1
            cases e1 : a.tmps[d]? with
            | none => rfl
            | some x => rw [e1] at hv1; simp at hv1; subst hv1; rfl
          have hwant : Region.wanted o (yielded all a.tmps) = false := by
            unfold Region.wanted
            rw [hg]
            simp only [hy]
            rfl
          rw [hwant, if_neg (by simp)]
          refine ⟨fun _ _ => trivial, ?_⟩
          refine ih (n + 1) hl' (by omega) _ _ w ⟨j, ?_, ?_⟩ (by rw [put_len]; exact hm) h
          · cases o.dst <;> exact hI
          · have := he.put (v := .tup []) (V := undef) undef_rel o.dst
            cases hd : o.dst <;> rw [hd] at this <;> exact this
        · cases h
      · cases h

theorem AVRel.frz {j2 : J} {H2 : List Blk} {w2 : World} {N N2 : Nat → Prop} {b : Nat} {t : Ty} {l : List t.den} (key : ∀ x v, CRel j H w N x v → CRel j2 H2 w2 N2 (x.frz b t l) v) {x : AV} {v : Value} (h : AVRel j H w N x v) : AVRel j2 H2 w2 N2 (x.frz b t l) v := by
  have one : ∀ {x : V1} {v : Value}, V1Rel j H w N x v → V1Rel j2 H2 w2 N2 (x.frz b t l) v := by
    intro x v h
    cases x with
    | one x =>
      rcases h with rfl | h
      · exact .inl rfl
      · exact .inr (key x v h)
    | agg cs => obtain ⟨vs, rfl, h⟩ := h; exact ⟨vs, rfl, All2.map_left (h.imp fun _ _ => key _ _)⟩
  cases x with
  | v x => exact one h
  | tup xs => obtain ⟨vs, rfl, h⟩ := h; exact ⟨vs, rfl, All2.map_left (h.imp fun _ _ => one)⟩

theorem opZ_sound (hfs : ∀ g as H sp, fs g as H = some sp → FSound P g sp) {f : AV → List AV → List Blk → Option R} (hI : Inv P c j H w) (he : ERel c j H w (NN c j H) env a) {o : Oper} (h : opZ P fs o.op env H f = some r) {K : Act → World → Prop} {Q : Exit → Act → World → Prop}
    (hK : ∀ V w' av env' H' j', f av env' H' = some r → env'.length = env.length → Inv P c j' H' w' → ERel c j' H' w' (NN c j' H') env' a → AVRel j' H' w' (NN c j' H') av V → K (a.put o.dst V) w') : o.wpIn (FF ro) 0 P a w K Q := by
  have other : (opX P fs o.op env H fun v H => f v env H) = some r → o.wpIn (FF ro) 0 P a w K Q := fun h =>
    opX_sound hfs hI he h fun V w' av H' j' h1 h2 h3 h4 => hK V w' av env H' j' h1 rfl h2 (he.mov h3) h4
  cases ho : o.op with
  | call cl =>
    rw [ho] at h
    simp only [opZ] at h
    split at h
    · rename_i x0 y T T' hc hargs hT hT'
      have ha := valsOf_rel he hargs
      obtain ⟨X, mm, hv, hX, hmm⟩ := ha.cons_left
      obtain ⟨Y, mm', hv', hY, hmm'⟩ := hmm.cons_left
      subst hv'
      obtain rfl := hmm'.nil_left
      have hvals : cl.args.map a.eval = #[X, Y] := by apply Array.ext'; simpa using hv
      have run : ∀ V w', (Builtin.append_ cl.argTypes o.type #[X, Y]).run P w = .ok V w' → (execOp a.eval o).run P w = .ok (.value V) w' := by
        intro V w' hap
        have e1 : (execOp a.eval o).run P w = (builtin .append cl.argTypes o.type (cl.args.map fun | .const _ => true | _ => false) (cl.args.map a.eval)).run P w := by
          simp [execOp, ho, resolve, hc, invoke]
          rfl
        rw [e1, hvals]
        simp [builtin, hap]
      split at h
      · rename_i d
        obtain ⟨V, w', k1, av, H', j', h1, h2, h3, h4⟩ := appO_sound (ty := o.type) hI hT hT' hX (rel_one hY (by simp)) h
        refine wpInFF (fun c => by rw [ho]; exact fun h => by cases h) ?_
        rw [run V w' k1]
        exact hK V w' av env H' j' h1 rfl h2 (he.mov h3) h4
      · split at h
        · rename_i b
          unfold appZ at h
          split at h
          · rename_i e e2 e' t l hu hu2 hb
            split at h
            · rename_i t' i m ht hi hm
              split at h
              · rename_i hst
                obtain ⟨rfl, rfl, he6, c3, c4, rfl, c5⟩ := hst
                split at h
                · rename_i c1
                  have c2 : l.length + m.length ≤ 9223372036854775807 := by
                    have := Nat.le_mul_of_pos_right (l.length + m.length) c5
                    omega
                  obtain ⟨V, w', k1, k2, k3, k4, k5⟩ := appendZ_sound (ty := o.type) hI hu ht hi hb he6 hm (rel_one hX (by simp)) (rel_one hY (by rintro rfl; simp [rowOf] at hm)) c1 c2 c3 c4
                  refine wpInFF (fun c => by rw [ho]; exact fun h => by cases h) ?_
                  rw [run V w' (by rw [← k1]; simp [Builtin.append_, hT, hT'])]
                  exact hK V w' _ _ _ j h (by simp) k2 ⟨he.1.mov k3, All2.map_left (he.2.imp fun _ _ hr => AVRel.frz k4 hr)⟩ (.inr k5)
                · cases h
              · cases h
            · cases h
          · cases h
        · cases h
    · cases h
  | buildSlice T n parts =>
    rw [ho] at h
    simp only [opZ] at h
    split at h
    · split at h
      · rename_i hn
        obtain ⟨_, rfl⟩ := hn
        obtain ⟨V, w', hv, av, H', j', h1, h2, h3, h4⟩ := bldO_sound hI he ho h
        refine wpInFF (fun c => by rw [ho]; exact fun h => by cases h) ?_
        rcases hv with hv | ⟨hv, rfl⟩ <;> rw [hv]
        · exact hK V w' av env H' j' h1 rfl h2 (he.mov h3) h4
        · exact hK undef w' av env H' j' h1 rfl h2 (he.mov h3) h4
      · exact other (by rw [ho]; exact h)
    · exact other (by rw [ho]; exact h)
  | _ => exact other (by rw [ho] at h ⊢; exact h)
theorem opsZ_sound (hfs : ∀ g as H sp, fs g as H = some sp → FSound P g sp) (all : Array Oper) {k : St → Option R} {Q : Exit → Act → World → Prop} {m : Nat} (hQ : ∀ s a w, SRel P c s a w → s.env.length = m → k s = some r → Q .normal a w) :
    ∀ (n : Nat) (l : List Oper), l = all.toList.drop n → n ≤ all.size → ∀ (s : St) (a : Act) (w : World), SRel P c s a w → s.env.length = m → opsZ P fs l s k = some r → wpOpsIn (FF ro) 0 P all Q ((List.range all.size).drop n) a w := by
  intro n l
  induction l generalizing n with
  | nil =>
    intro hl hn s a w hs hm h
    have : all.size ≤ n := by
      have := congrArg List.length hl
      simp at this; omega
    have e : (List.range all.size).drop n = [] := List.drop_eq_nil_of_le (by simpa using this)
    rw [e]
    simp only [opsZ] at h
    exact hQ s a w hs hm h
  | cons o l ih =>
    intro hl hn s a w hs hm h
    have hlt : n < all.size := by
      have := congrArg List.length hl
      simp at this; omega
    have ho : all[n]? = some o := by
      have := congrArg (fun l => l[0]?) hl
      simp only [List.getElem?_drop, Nat.add_zero, Array.getElem?_toList] at this
      exact this.symm
    have hl' : l = all.toList.drop (n + 1) := by
      have := congrArg List.tail hl
      rw [List.tail_drop] at this
      exact this
    have er : (List.range all.size).drop n = n :: (List.range all.size).drop (n + 1) := by
      rw [List.drop_eq_getElem_cons (by simpa using hlt)]
      simp
    rw [er]
    simp only [wpOpsIn, ho]
    obtain ⟨j, hI, he⟩ := hs
    simp only [opsZ] at h
    split at h
    · rename_i hg
      rw [if_pos (wanted_none hg)]
      refine opZ_sound hfs hI he h fun V w' av env' H' j' h1 hlen h2 h3 h4 => ih (n + 1) hl' (by omega) _ _ w' ⟨j', ?_, ?_⟩ (by rw [put_len]; exact hlen.trans hm) h1
      · cases o.dst <;> exact h2
      · have := h3.put h4 o.dst
        cases hd : o.dst <;> rw [hd] at this <;> exact this
    · cases h
end
end Go.Proofs.YtcdnofemnpafhaaM

/- Other objects than the call's own that turn: the marks of loops over functions, the loop's record in a round. Conditions: none. -/
namespace Go.Proofs.YtcdnofemnpafhaaM
set_option linter.unusedVariables false
set_option linter.unusedSimpArgs false
set_option linter.unnecessarySimpa false
set_option linter.unusedSectionVars false
open Go

section
variable {P : Program} {c : Cx} {j : J} {H : List Blk} {w w' : World} {N : Nat → Prop}

structure Turn (j : J) (H : List Blk) (w w' : World) : Prop where
  size : w'.heap.size = w.heap.size
  os : w'.os = w.os
  tape : w'.tape = w.tape
  output : w'.output = w.output
  cells : ∀ (g : Nat) (cs : Array Value) (T : TypeId) (f : Nat × Nat), w.heap[g]? = some (.cells cs T f) → w'.heap[g]? = some (.cells cs T f)
  own : ∀ g, Own j H g → w'.heap[g]? = w.heap[g]?

theorem Turn.cell (t : Turn j H w w') {a : Addr} {u : Value} (h : w.cell? a = some u) : w'.cell? a = some u := by
  have key : w'.heap[a.block]? = w.heap[a.block]? := by
    cases hb : w.heap[a.block]? with
    | none => simp [World.cell?, hb] at h
    | some o =>
      cases o <;> (first | (simp [World.cell?, hb] at h; done) | exact t.cells _ _ _ _ hb)
  rw [World.cell?_of_block key]; exact h

theorem RoC.turn (t : Turn j H w w') : ∀ {ty : Ty} {x : ty.den} {cs : List Value}, RoC w N ty x cs → RoC w' N ty x cs
  | .int _, _, _, h => h
  | .bool, _, _, h => h
  | .str, _, _, h => h
  | .unit, _, _, h => h
  | .pair a b, _, _, h => by
    obtain ⟨c1, c2, rfl, h1, h2⟩ := h
    exact ⟨c1, c2, rfl, RoC.turn t h1, RoC.turn t h2⟩
  | .ro ty, l, _, h => by
    obtain ⟨A, cap, rfl, hl, h⟩ := h
    refine ⟨A, cap, rfl, hl, fun i x hx => ?_⟩
    obtain ⟨a, d, hA, hN, hb, hr, hc⟩ := h i x hx
    exact ⟨a, d, hA, hN, by rw [t.size]; exact hb, RoC.turn t hr, fun q u hu => t.cell (hc q u hu)⟩

theorem CRel.turn (t : Turn j H w w') {x : Cell} {v : Value} (h : CRel j H w N x v) : CRel j H w' N x v := by
  obtain ⟨h1, h⟩ := h
  refine ⟨h1, ?_⟩
  cases x with
  | ro ty l => exact RoC.turn t h
  | rop ty y o =>
    obtain ⟨e, d, hv, hN, hlt, hr, hc⟩ := h
    exact ⟨e, d, hv, hN, by rw [t.size]; exact hlt, RoC.turn t hr, fun q u hu => t.cell (hc q u hu)⟩
  | full b =>
    obtain ⟨hb, h⟩ := h
    refine ⟨hb, fun T ty l hl => ?_⟩
    rcases h T ty l hl with k | ⟨g, cap, k1, k2, cells, k3, k4⟩
    · exact .inl k
    · exact .inr ⟨g, cap, k1, k2, cells, Cls.stay t.cells k3, k4⟩
  | _ => exact h
theorem V1Rel.turn (t : Turn j H w w') {x : V1} {v : Value} (h : V1Rel j H w N x v) : V1Rel j H w' N x v := by
  cases x with
  | one c => exact h.imp id (CRel.turn t)
  | agg cs => obtain ⟨vs, rfl, h⟩ := h; exact ⟨vs, rfl, h.imp fun _ _ => CRel.turn t⟩
theorem AVRel.turn (t : Turn j H w w') {x : AV} {v : Value} (h : AVRel j H w N x v) : AVRel j H w' N x v := by
  cases x with
  | v x => exact V1Rel.turn t h
  | tup xs => obtain ⟨vs, rfl, h⟩ := h; exact ⟨vs, rfl, h.imp fun _ _ => V1Rel.turn t⟩
theorem BRel.turn (t : Turn j H w w') {b : Nat} {B : Blk} (hb : H[b]? = some B) (h : BRel P j H w N b B) : BRel P j H w' N b B := by
  have key : ∀ {g : Nat}, B.live → At j b B g → w'.heap[g]? = w.heap[g]? := fun hl hg => t.own _ ⟨b, B, hb, hl, hg⟩
  cases B with
  | dead => trivial
  | var T cs =>
    obtain ⟨g, vs, h1, h2, h3⟩ := h
    exact ⟨g, vs, h1, (key trivial h1).trans h2, h3.imp fun _ _ => CRel.turn t⟩
  | row T ty l =>
    rcases h with ⟨h1, h2⟩ | ⟨g, cap, cells, h1, h2, h3, hz, h4, h5, h6⟩
    · exact .inl ⟨h1, h2⟩
    · exact .inr ⟨g, cap, cells, h1, Cls.of_eq (key trivial h1) h2, h3, hz, h4, h5, fun i x hx => by
        obtain ⟨d, hd, hq⟩ := h6 i x hx
        exact ⟨d, RoC.turn t hd, hq⟩⟩
  | clo f a d =>
    obtain ⟨h0, A, C, h1, h2, h3⟩ := h
    exact ⟨h0, A, C, h1, h2.imp fun _ _ => V1Rel.turn t, h3.imp fun _ _ => V1Rel.turn t⟩
  | map kt vt l =>
    obtain ⟨g, es, clock, h1, h2, h3⟩ := h
    exact ⟨g, es, clock, h1, (key trivial h1).trans h2, h3⟩
  | yld f a d =>
    obtain ⟨g, r, h1, h2, h3, h5, h4⟩ := h
    exact ⟨g, r, h1, (key trivial h1).trans h2, h3, h5, h4.imp fun _ _ => V1Rel.turn t⟩
  | own T ty l =>
    obtain ⟨h1, h2, h3, h4⟩ := h
    refine ⟨h1, h2, h3, ?_⟩
    rcases h4 with h4 | ⟨g, cells, k1, k2, k3, k4, k5, k6, k7⟩
    · exact .inl h4
    · exact .inr ⟨g, cells, k1, (key trivial (.inl k1)).trans k2, k3, k4, k5, fun i p hp => ⟨(k6 i p hp).1, (k6 i p hp).2.imp fun _ h => h.imp fun _ h => Cls.stay t.cells h⟩, fun i x p hx hp => OwC.mov (fun g' hg' => key trivial (.inr ⟨i, by rw [hp, hg']⟩)) (k7 i x p hx hp)⟩
  | chn T ty l =>
    obtain ⟨h1, h2, h3, h4, h5⟩ := h
    exact ⟨h1, h2, h3, h4, fun i g x hi hx => (key trivial (List.mem_of_getElem? hi)).trans (h5 i g x hi hx)⟩

theorem Inv.turn {w0 : World} (h : Inv P c j H w) (t : Turn j H w w') (hsz : w0.heap.size = c.w0.heap.size) (ho : w0.os = c.w0.os) (ht : w0.tape = c.w0.tape) (hout : w0.output = c.w0.output)
    (hf : ∀ g, g < c.w0.heap.size → ¬ c.own0 g → w.heap[g]? = c.w0.heap[g]? → w'.heap[g]? = w0.heap[g]?) (hc : ∀ (g : Nat) (cs : Array Value) (T : TypeId) (f : Nat × Nat), w0.heap[g]? = some (.cells cs T f) → c.w0.heap[g]? = some (.cells cs T f)) :
    Inv P { c with w0 := w0 } j H w' where
  n := h.n
  keep := h.keep
  neu := fun i B g hi hb hl hg => by rw [hsz]; exact h.neu i B g hi hb hl hg
  own := h.own
  inj := h.inj
  frame := fun g hg hn => by rw [hsz] at hg; exact hf g hg hn (h.frame g hg hn)
  size := by rw [hsz, t.size]; exact h.size
  os := by rw [t.os, ho]; exact h.os
  tape := by rw [t.tape, ht]; exact h.tape
  output := by rw [t.output, hout]; exact h.output
  apart := fun g hg => by rw [hsz]; exact h.apart g hg
  gl := fun g hg => by
    obtain ⟨k1, k2, k3⟩ := h.gl g hg
    refine ⟨k1, by rw [hsz]; exact k2, fun i hi => ?_⟩
    have e := h.frame g k2 k1
    have a1 : w.cell? ⟨g, i, none⟩ = some (.int .u8 (Lib.deBruijn64tab.getD i 0)) := by rw [← k3 i hi]; exact World.cell?_of_block e
    rw [← t.cell a1]
    exact World.cell?_of_block (hf g k2 k1 e).symm
  same := h.same
  rowsz := fun i T ty l g cells hi hb hg hcs => by
    obtain ⟨cells', k1, k2⟩ := h.rowsz i T ty l g cells hi hb hg (Cls.stay hc hcs)
    exact ⟨cells', Cls.stay t.cells k1, k2⟩
  heap := fun b B hb => BRel.turn t hb (h.heap b B hb)

theorem turn_put {l : Nat} {o o' : Obj} (ho : w.heap[l]? = some o) (hn : ∀ cs T f, o ≠ .cells cs T f) (hl : ¬ Own j H l) : Turn j H w (w.putObj l o') := by
  refine ⟨World.putObj_size, rfl, rfl, rfl, fun g cs T f hg => ?_, fun g hg => World.putObj_heap_other fun e => hl (e ▸ hg)⟩
  rw [World.putObj_heap_other (by rintro rfl; rw [ho] at hg; cases hg; exact hn _ _ _ rfl)]
  exact hg

theorem SRel.taken {s : St} {t : Array Value} {D : Nat} {ds : List Deferred} (h : SRel P c s { tmps := t, defers := { target := .collected D, args := #[] } :: ds } w) :
    w.heap[D]? = some (.deferred (some [])) ∧ SRel P c s { tmps := t, defers := ds } (w.putObj D (.deferred none)) := by
  obtain ⟨j, hI, ⟨hnd, hd⟩, he⟩ := h
  obtain ⟨D', e, hN, hge, hh⟩ := hd _ (List.mem_cons_self ..)
  simp only [Deferred.mk.injEq, Target.collected.injEq, and_true] at e
  subst e
  have t := turn_put (o' := .deferred none) hh (fun _ _ _ h => by cases h) (fun ho => hN (.inr ho))
  have hI' := hI.turn t (w0 := c.w0) rfl rfl rfl rfl (fun g hg hn hw => by
    rw [World.putObj_heap_other (by omega)]; exact hw) (fun _ _ _ _ h => h)
  refine ⟨hh, j, hI', ⟨(List.nodup_cons.1 hnd).2, fun d hm => ?_⟩, he.imp fun _ _ => AVRel.turn t⟩
  obtain ⟨D2, e2, k1, k2, k3⟩ := hd d (List.mem_cons_of_mem _ hm)
  refine ⟨D2, e2, k1, k2, ?_⟩
  rw [World.putObj_heap_other]
  · exact k3
  · rintro rfl
    rw [e2] at hm
    exact (List.nodup_cons.1 hnd).1 hm

theorem leaves_of {F : Fence} {n : Nat} {fn : Func} {R : Ending → World → Prop} {s : St} {t : Array Value} (hR : ∀ w', SRel P c s { tmps := t, defers := [] } w' → ∃ v, (results fn t).run P w' = .ok v w' ∧ R (.returned v) w') :
    ∀ {ds : List Deferred} {w : World}, SRel P c s { tmps := t, defers := ds } w → LeavesInM F n P fn t R ds .returning w
  | [], w, h => hR w h
  | d :: ds, w, h => by
    obtain ⟨D, e, _⟩ := h.choose_spec.2.1.2 d (List.mem_cons_self ..)
    subst e
    obtain ⟨h1, h2⟩ := h.taken
    exact ⟨by simp, .inl ⟨D, _, rfl, run_takeDeferred h1, leaves_of hR h2⟩⟩
end
end Go.Proofs.YtcdnofemnpafhaaM
