/- The law TasksetReads (second form), with no program in sight. Conditions: none. -/
import Derived.Test.YtcdnofemnpafhaaXL
namespace Go.Proofs.Ytcdnofemnpafhaa.Pure
open Go Go.Proofs.YtcdnofemnpafhaaM Go.Proofs.YtcdnofemnpafhaaX Go.Proofs.YtcdnofemnpafhaaL Go.Proofs.YtcdnofemnpafhaaC
set_option linter.unusedVariables false
set_option linter.unusedSimpArgs false
theorem tasksD_good : ∀ (k : Nat) (st : RS) (out : List Tk), (∀ t ∈ out, t.2.2.2.length ≤ 4) → (tasksD k st out).1.length = out.length + k ∧ ∀ t ∈ (tasksD k st out).1, t.2.2.2.length ≤ 4
  | 0, st, out, h => ⟨rfl, h⟩
  | k + 1, st, out, h => by
    have := tasksD_good k (taskD st).2 (out ++ [(taskD st).1]) fun t ht => by
      rcases List.mem_append.1 ht with ht | ht
      · exact h t ht
      · rw [List.mem_singleton] at ht
        subst ht
        unfold taskD
        dsimp only
        rw [secsD_len]
        have := mn_le 4 (nx (nx (nx st).2).2).2 (by decide)
        simp only [List.length_nil]
        omega
    rw [tasksD]
    refine ⟨?_, this.2⟩
    rw [this.1, List.length_append]
    show out.length + 1 + k = _
    omega
theorem z0_good : goodS z0 := ⟨Nat.zero_le _, fun t ht => by cases ht⟩
theorem decD_good (l : List Int) : goodS (decD l).1 := by
  unfold decD
  dsimp only
  split
  · generalize (nx (nx (nx (nx (nx (nx (nx (nx (nx (l, 0)).2).2).2).2).2).2).2).2).2 = st
    have hm := mn_le 24 st (by decide)
    have := tasksD_good (mn 24 st).1.toNat (mn 24 st).2 [] fun t ht => by cases ht
    simp only [List.length_nil] at this
    split
    · exact ⟨by show (tasksD _ _ _).1.length ≤ 24; omega, this.2⟩
    · exact z0_good
  · exact z0_good
theorem decS_good (b : ByteArray) : goodS (decS b).1 := by
  unfold decS decB
  split
  · split
    · exact decD_good _
    · exact z0_good
  · exact z0_good
theorem good_room {N : Nat} {s : Sy} (hN : 1000 < N) (h : goodS s) : roomS N s := by
  have := nums_len h
  constructor <;> omega
section
variable {N : Nat} {Q : (Bool × Unit) × Unit → Prop}
theorem wipe14 {again11 : _ → Option ((Bool × Unit) × Unit)} {b : ByteArray} {S1 S2 : Int × Int × Int × Int × Int × Int × Int × Int × List Tk × Unit} {C C' : Int × Int × Int × Int × Int × Int × Int × Int × Unit × Unit} {t105 t106 t111 t112 : Bool} {f turn : Int} {i : Nat} {l100 l : List Tk}
    (hN : 10 < N) (hl : l.length ≤ 24) (hi : i < l.length) (h4 : ∀ t ∈ l, t.2.2.2.length ≤ 4)
    (h : ∀ l' : List Tk, l'.length = l.length → (∀ t ∈ l', t.2.2.2.length ≤ 4) → Ev (again11 ((b, (), (), t105, t106, (), f, turn, (), ((i + 1 : Nat) : Int), t111, t112, ()), S1, S2, C, C', l100, l', ())) Q) :
    Ev (loopN N (TasksetReads_4_L14 N again11) ((b, (), (), t105, t106, (), f, turn, (), (i : Int), 0, t111, t112, ()), S1, S2, C, C', l100, l, ())) Q := by
  obtain ⟨v0, v1, v2, v3, v4, v5, v6, v7, v8, vu⟩ := S1
  obtain ⟨w0, w1, w2, w3, w4, w5, w6, w7, w8, wu⟩ := S2
  obtain ⟨c0, c1, c2, c3, c4, c5, c6, c7, c8, cu⟩ := C
  obtain ⟨d0, d1, d2, d3, d4, d5, d6, d7, d8, du⟩ := C'
  refine Ev.loop (k := 4) (fun k st => ∃ (q : Nat) (l' : List Tk), st = ((b, (), (), t105, t106, (), f, turn, (), (i : Int), (q : Int), t111, t112, ()), (v0, v1, v2, v3, v4, v5, v6, v7, v8, vu), (w0, w1, w2, w3, w4, w5, w6, w7, w8, wu), (c0, c1, c2, c3, c4, c5, c6, c7, c8, cu), (d0, d1, d2, d3, d4, d5, d6, d7, d8, du), l100, l', ()) ∧ k = 4 - q ∧ q ≤ 4 ∧ l'.length = l.length ∧ ∀ t ∈ l', t.2.2.2.length ≤ 4) ?_ ⟨0, l, rfl, rfl, by omega, rfl, h4⟩ (by omega)
  rintro k st again ⟨q, l', rfl, hk, hq, hl', h4'⟩ ih
  have e0 : IntKind.wrap .i64 ((i : Int) + 1) = ((i + 1 : Nat) : Int) := by rw [w64 (by omega) (by omega)]; omega
  have e1 : IntKind.wrap .i64 ((q : Int) + 1) = ((q + 1 : Nat) : Int) := by rw [w64 (by omega) (by omega)]; omega
  have hm := h4' _ (getD_mem (l := l') (i := i) (d := ((0, 0, 0, []) : Tk)) (by omega))
  unfold TasksetReads_4_L14
  dsimp only
  rw [Int.toNat_natCast, Int.toNat_natCast, e0, e1]
  generalize l'.getD i (0, 0, 0, []) = t at hm ⊢
  have keep : ∀ (t' : Tk), t'.2.2.2.length ≤ 4 → ∀ x ∈ l'.set i t', x.2.2.2.length ≤ 4 := by
    intro t' ht' x hx
    rcases List.mem_or_eq_of_mem_set hx with hx | rfl
    · exact h4' x hx
    · exact ht'
  rw [if_pos (by omega)]
  refine Ev.dec (fun h1 => ?_) fun h1 => ?_
  · rw [if_pos (by omega), if_pos (by omega), if_pos (by omega)]
    exact ih (4 - (q + 1)) _ (by omega) ⟨q + 1, _, rfl, rfl, by omega, by rw [List.length_set]; exact hl', keep _ (by rw [List.length_set]; exact hm)⟩
  · rw [if_pos (by omega)]
    exact h _ (by rw [List.length_set]; exact hl') (keep _ (Nat.zero_le _))
theorem wipe11 {again4 : _ → Option ((Bool × Unit) × Unit)} {b : ByteArray} {S1 S2 : Int × Int × Int × Int × Int × Int × Int × Int × List Tk × Unit} {C C' : Int × Int × Int × Int × Int × Int × Int × Int × Unit × Unit} {t105 t106 t111 t112 : Bool} {f turn : Int} {l100 l : List Tk}
    (hN : 100 < N) (hl : l.length ≤ 24) (h4 : ∀ t ∈ l, t.2.2.2.length ≤ 4)
    (h : Ev (again4 ((b, (), (), t105, t106, (), f, IntKind.wrap .i64 (turn + 1), ()), S1, S2, C, l100, ())) Q) :
    Ev (loopN N (TasksetReads_4_L11 N again4) ((b, (), (), t105, t106, (), f, turn, (), 0, t111, t112, ()), S1, S2, C, C', l100, l, ())) Q := by
  refine Ev.loop (k := l.length) (fun k st => ∃ (i : Nat) (l' : List Tk), st = ((b, (), (), t105, t106, (), f, turn, (), (i : Int), t111, t112, ()), S1, S2, C, C', l100, l', ()) ∧ k = l.length - i ∧ i ≤ l.length ∧ l'.length = l.length ∧ ∀ t ∈ l', t.2.2.2.length ≤ 4) ?_ ⟨0, l, rfl, rfl, by omega, rfl, h4⟩ (by omega)
  rintro k st again ⟨i, l', rfl, hk, hq, hl', h4'⟩ ih
  obtain ⟨v0, v1, v2, v3, v4, v5, v6, v7, v8, vu⟩ := S1
  obtain ⟨w0, w1, w2, w3, w4, w5, w6, w7, w8, wu⟩ := S2
  obtain ⟨c0, c1, c2, c3, c4, c5, c6, c7, c8, cu⟩ := C
  obtain ⟨d0, d1, d2, d3, d4, d5, d6, d7, d8, du⟩ := C'
  unfold TasksetReads_4_L11
  refine Ev.dec (fun h1 => ?_) fun h1 => h
  refine wipe14 (by omega) (by omega) (by omega) h4' fun l2 hl2 h42 => ?_
  exact ih (l.length - (i + 1)) _ (by omega) ⟨i + 1, l2, rfl, rfl, by omega, by omega, h42⟩
end
theorem room_of {N : Nat} {y : Sy} (hN : 1100000 < N) (h : (y.2.2.2.2.2.2.2.2.map (fun x => ((1 + (1 + (1 + ((x.2.2.2.map (fun x => ((1 + (1 + 1)) + 1))).sum + 1)))) + 1))).sum ≤ 1048576) : roomS N y := by
  have one : ∀ l : List Sec, (l.map (fun x => ((1 + (1 + 1)) + 1))).sum = 4 * l.length := by
    intro l
    induction l with
    | nil => rfl
    | cons a l ih => rw [List.map_cons, List.sum_cons, ih, List.length_cons]; omega
  have all : ∀ l : List Tk, (l.flatMap taskN).length ≤ (l.map (fun x => ((1 + (1 + (1 + ((x.2.2.2.map (fun x => ((1 + (1 + 1)) + 1))).sum + 1)))) + 1))).sum := by
    intro l
    induction l with
    | nil => exact Nat.le_refl _
    | cons a l ih =>
      have := taskN_len a
      rw [List.map_cons, List.sum_cons, one, List.flatMap_cons, List.length_append]
      omega
  have := all y.2.2.2.2.2.2.2.2
  have e : (nums y).length = 10 + (y.2.2.2.2.2.2.2.2.flatMap taskN).length := by unfold nums; rw [List.length_append]; rfl
  constructor <;> omega
theorem TasksetReads (y0 : ByteArray) (y1 : Int × Int × Int × Int × Int × Int × Int × Int × (List (Int × Int × Int × (List (Int × Int × Int))))) (y2 : Int × Int × Int × Int × Int × Int × Int × Int × (List (Int × Int × Int × (List (Int × Int × Int))))) (gy0 : y0.size ≤ 140737488351232) (gy1 : ((Lit.int .i64 y1.1).wf = true ∧ ((Lit.int .i64 y1.2.1).wf = true ∧ ((Lit.int .i64 y1.2.2.1).wf = true ∧ ((Lit.int .i64 y1.2.2.2.1).wf = true ∧ ((Lit.int .i64 y1.2.2.2.2.1).wf = true ∧ ((Lit.int .i64 y1.2.2.2.2.2.1).wf = true ∧ ((Lit.int .i64 y1.2.2.2.2.2.2.1).wf = true ∧ ((Lit.int .i64 y1.2.2.2.2.2.2.2.1).wf = true ∧ (y1.2.2.2.2.2.2.2.2.length * 48 ≤ 140737488351232 ∧ ∀ e0 ∈ y1.2.2.2.2.2.2.2.2, ((Lit.int .i64 e0.1).wf = true ∧ ((Lit.int .i64 e0.2.1).wf = true ∧ ((Lit.int .i64 e0.2.2.1).wf = true ∧ (e0.2.2.2.length * 24 ≤ 140737488351232 ∧ ∀ e1 ∈ e0.2.2.2, ((Lit.int .i64 e1.1).wf = true ∧ ((Lit.int .i64 e1.2.1).wf = true ∧ (Lit.int .i64 e1.2.2).wf = true)))))))))))))))) (gy2 : ((Lit.int .i64 y2.1).wf = true ∧ ((Lit.int .i64 y2.2.1).wf = true ∧ ((Lit.int .i64 y2.2.2.1).wf = true ∧ ((Lit.int .i64 y2.2.2.2.1).wf = true ∧ ((Lit.int .i64 y2.2.2.2.2.1).wf = true ∧ ((Lit.int .i64 y2.2.2.2.2.2.1).wf = true ∧ ((Lit.int .i64 y2.2.2.2.2.2.2.1).wf = true ∧ ((Lit.int .i64 y2.2.2.2.2.2.2.2.1).wf = true ∧ (y2.2.2.2.2.2.2.2.2.length * 48 ≤ 140737488351232 ∧ ∀ e0 ∈ y2.2.2.2.2.2.2.2.2, ((Lit.int .i64 e0.1).wf = true ∧ ((Lit.int .i64 e0.2.1).wf = true ∧ ((Lit.int .i64 e0.2.2.1).wf = true ∧ (e0.2.2.2.length * 24 ≤ 140737488351232 ∧ ∀ e1 ∈ e0.2.2.2, ((Lit.int .i64 e1.1).wf = true ∧ ((Lit.int .i64 e1.2.1).wf = true ∧ (Lit.int .i64 e1.2.2).wf = true)))))))))))))))) (hb : (y0.size + 1) + ((1 + (1 + (1 + (1 + (1 + (1 + (1 + (1 + ((y1.2.2.2.2.2.2.2.2.map (fun x => ((1 + (1 + (1 + ((x.2.2.2.map (fun x => ((1 + (1 + 1)) + 1))).sum + 1)))) + 1))).sum + 1))))))))) + 1) + ((1 + (1 + (1 + (1 + (1 + (1 + (1 + (1 + ((y2.2.2.2.2.2.2.2.2.map (fun x => ((1 + (1 + (1 + ((x.2.2.2.map (fun x => ((1 + (1 + 1)) + 1))).sum + 1)))) + 1))).sum + 1))))))))) + 1) ≤ 1048576) : ∃ N, TasksetReads_4 N ((y0, (y1.1, y1.2.1, y1.2.2.1, y1.2.2.2.1, y1.2.2.2.2.1, y1.2.2.2.2.2.1, y1.2.2.2.2.2.2.1, y1.2.2.2.2.2.2.2.1, y1.2.2.2.2.2.2.2.2, ()), (y2.1, y2.2.1, y2.2.2.1, y2.2.2.2.1, y2.2.2.2.2.1, y2.2.2.2.2.2.1, y2.2.2.2.2.2.2.1, y2.2.2.2.2.2.2.2.1, y2.2.2.2.2.2.2.2.2, ()), ()), ()) = some ((true, ()), ()) := by
  obtain ⟨N, hN⟩ : ∃ N, N = 2000000 := ⟨_, rfl⟩
  refine ⟨N, Ev.eq (Q := fun r => r = ((true, ()), ())) ?_ fun _ h => h⟩
  have key : ∀ a b c : Nat, (a + 1) + ((1 + (1 + (1 + (1 + (1 + (1 + (1 + (1 + (b + 1))))))))) + 1) + ((1 + (1 + (1 + (1 + (1 + (1 + (1 + (1 + (c + 1))))))))) + 1) ≤ 1048576 → a ≤ 1048576 ∧ b ≤ 1048576 ∧ c ≤ 1048576 := by intro a b c h; omega
  obtain ⟨hb0, hb1, hb2⟩ := key _ _ _ hb
  have r1 := room_of (N := N) (y := y1) (by omega) hb1
  have r2 := room_of (N := N) (y := y2) (by omega) hb2
  unfold TasksetReads_4
  dsimp only
  rw [ex07 (by omega), bnd]
  refine Ev.bind (rdecode_at (N := N) (by omega) (by omega)) ?_
  rintro y rfl
  have hg := decS_good y0
  have hdec := decode_at (N := N) (b := y0) (by omega) (by omega)
  generalize decS y0 = d at hg hdec ⊢
  obtain ⟨w, f⟩ := d
  have hr := good_room (N := N) (by omega) hg
  dsimp only [rs] at hdec ⊢
  refine Ev.loop (k := 2) (fun k st => ∃ (turn : Nat), st = ((y0, (), (), false, true, (), f, (turn : Int), ()), aS y1, aS y2, (w.1, w.2.1, w.2.2.1, w.2.2.2.1, w.2.2.2.2.1, w.2.2.2.2.2.1, w.2.2.2.2.2.2.1, w.2.2.2.2.2.2.2.1, (), ()), tksOf w, ()) ∧ k = 2 - turn ∧ turn ≤ 2) ?_ ⟨0, rfl, rfl, by omega⟩ (by omega)
  rintro k st again ⟨turn, rfl, hk, ht⟩ ih
  unfold TasksetReads_4_L4
  dsimp only
  refine Ev.dec (fun h1 => ?_) fun h1 => ?_
  · refine Ev.bind hdec ?_
    rintro y rfl
    dsimp only
    refine Ev.bind (rsame_at (N := N) (s := w) (t := w) hr hr) ?_
    rintro y rfl
    dsimp only
    rw [decide_eq_true rfl]
    refine Ev.bne (fun h2 => absurd rfl h2) fun h2 => ?_
    rw [byB_not, byB_true]
    refine wipe11 (by omega) hg.1 hg.2 ?_
    have e1 : IntKind.wrap .i64 ((turn : Int) + 1) = ((turn + 1 : Nat) : Int) := by rw [w64 (by omega) (by omega)]; omega
    rw [e1]
    exact ih (2 - (turn + 1)) _ (by omega) ⟨turn + 1, rfl, rfl, by omega⟩
  · rw [byB_true]
    refine Ev.bind (same_at (N := N) (s := y1) (t := y2) r1 r2) ?_
    rintro y rfl
    refine Ev.bind (rsame_at (N := N) (s := y1) (t := y2) r1 r2) ?_
    rintro y rfl
    exact Ev.mk (by rw [beq_self_eq_true])
end Go.Proofs.Ytcdnofemnpafhaa.Pure
