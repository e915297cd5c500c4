/- The law TasksetTells, with no program in sight. Conditions: none. -/
import Derived.Test.YtcdnofemnpafhaaXE
namespace Go.Proofs.Ytcdnofemnpafhaa.Pure
open Go Go.Proofs.YtcdnofemnpafhaaM Go.Proofs.YtcdnofemnpafhaaX Go.Proofs.YtcdnofemnpafhaaL Go.Proofs.YtcdnofemnpafhaaC
set_option linter.unusedVariables false
set_option linter.unusedSimpArgs false
theorem wfS_of {y0 : Sy} (g : ((Lit.int .i64 y0.1).wf = true ∧ ((Lit.int .i64 y0.2.1).wf = true ∧ ((Lit.int .i64 y0.2.2.1).wf = true ∧ ((Lit.int .i64 y0.2.2.2.1).wf = true ∧ ((Lit.int .i64 y0.2.2.2.2.1).wf = true ∧ ((Lit.int .i64 y0.2.2.2.2.2.1).wf = true ∧ ((Lit.int .i64 y0.2.2.2.2.2.2.1).wf = true ∧ ((Lit.int .i64 y0.2.2.2.2.2.2.2.1).wf = true ∧ (y0.2.2.2.2.2.2.2.2.length * 48 ≤ 140737488351232 ∧ ∀ e0 ∈ y0.2.2.2.2.2.2.2.2, ((Lit.int .i64 e0.1).wf = true ∧ ((Lit.int .i64 e0.2.1).wf = true ∧ ((Lit.int .i64 e0.2.2.1).wf = true ∧ (e0.2.2.2.length * 24 ≤ 140737488351232 ∧ ∀ e1 ∈ e0.2.2.2, ((Lit.int .i64 e1.1).wf = true ∧ ((Lit.int .i64 e1.2.1).wf = true ∧ (Lit.int .i64 e1.2.2).wf = true)))))))))))))))) : goodS y0 → wfS y0 := by
  intro hg x hx
  obtain ⟨g0, g1, g2, g3, g4, g5, g6, g7, gl, gt⟩ := g
  have one : (Lit.int .i64 1).wf = true := by decide
  have len : ∀ n : Nat, n ≤ 100 → (Lit.int .i64 (n : Int)).wf = true := fun n hn => wf64_mk (by omega) (by omega)
  unfold nums at hx
  rcases List.mem_append.1 hx with hx | hx
  · simp only [headN, List.mem_cons, List.not_mem_nil, or_false] at hx
    rcases hx with rfl | rfl | rfl | rfl | rfl | rfl | rfl | rfl | rfl | rfl
    · exact one
    · exact g0
    · exact g1
    · exact g2
    · exact g3
    · exact g4
    · exact g5
    · exact g6
    · exact g7
    · exact len _ (by have := hg.1; omega)
  · rw [List.mem_flatMap] at hx
    obtain ⟨t, ht, hx⟩ := hx
    obtain ⟨t0, t1, t2, tl, ts⟩ := gt t ht
    unfold taskN at hx
    rcases List.mem_append.1 hx with hx | hx
    · simp only [List.mem_cons, List.not_mem_nil, or_false] at hx
      rcases hx with rfl | rfl | rfl | rfl
      · exact t0
      · exact t1
      · exact t2
      · exact len _ (by have := hg.2 t ht; omega)
    · rw [List.mem_flatMap] at hx
      obtain ⟨c, hc, hx⟩ := hx
      obtain ⟨c0, c1, c2⟩ := ts c hc
      simp only [secN, List.mem_cons, List.not_mem_nil, or_false] at hx
      rcases hx with rfl | rfl | rfl
      · exact c0
      · exact c1
      · exact c2
theorem TasksetTells (y0 : Int × Int × Int × Int × Int × Int × Int × Int × (List (Int × Int × Int × (List (Int × Int × Int))))) (y1 : Int × Int × Int × Int × Int × Int × Int × Int × (List (Int × Int × Int × (List (Int × Int × Int))))) (gy0 : ((Lit.int .i64 y0.1).wf = true ∧ ((Lit.int .i64 y0.2.1).wf = true ∧ ((Lit.int .i64 y0.2.2.1).wf = true ∧ ((Lit.int .i64 y0.2.2.2.1).wf = true ∧ ((Lit.int .i64 y0.2.2.2.2.1).wf = true ∧ ((Lit.int .i64 y0.2.2.2.2.2.1).wf = true ∧ ((Lit.int .i64 y0.2.2.2.2.2.2.1).wf = true ∧ ((Lit.int .i64 y0.2.2.2.2.2.2.2.1).wf = true ∧ (y0.2.2.2.2.2.2.2.2.length * 48 ≤ 140737488351232 ∧ ∀ e0 ∈ y0.2.2.2.2.2.2.2.2, ((Lit.int .i64 e0.1).wf = true ∧ ((Lit.int .i64 e0.2.1).wf = true ∧ ((Lit.int .i64 e0.2.2.1).wf = true ∧ (e0.2.2.2.length * 24 ≤ 140737488351232 ∧ ∀ e1 ∈ e0.2.2.2, ((Lit.int .i64 e1.1).wf = true ∧ ((Lit.int .i64 e1.2.1).wf = true ∧ (Lit.int .i64 e1.2.2).wf = true)))))))))))))))) (gy1 : ((Lit.int .i64 y1.1).wf = true ∧ ((Lit.int .i64 y1.2.1).wf = true ∧ ((Lit.int .i64 y1.2.2.1).wf = true ∧ ((Lit.int .i64 y1.2.2.2.1).wf = true ∧ ((Lit.int .i64 y1.2.2.2.2.1).wf = true ∧ ((Lit.int .i64 y1.2.2.2.2.2.1).wf = true ∧ ((Lit.int .i64 y1.2.2.2.2.2.2.1).wf = true ∧ ((Lit.int .i64 y1.2.2.2.2.2.2.2.1).wf = true ∧ (y1.2.2.2.2.2.2.2.2.length * 48 ≤ 140737488351232 ∧ ∀ e0 ∈ y1.2.2.2.2.2.2.2.2, ((Lit.int .i64 e0.1).wf = true ∧ ((Lit.int .i64 e0.2.1).wf = true ∧ ((Lit.int .i64 e0.2.2.1).wf = true ∧ (e0.2.2.2.length * 24 ≤ 140737488351232 ∧ ∀ e1 ∈ e0.2.2.2, ((Lit.int .i64 e1.1).wf = true ∧ ((Lit.int .i64 e1.2.1).wf = true ∧ (Lit.int .i64 e1.2.2).wf = true)))))))))))))))) : ∃ N, TasksetTells_6 N (((y0.1, y0.2.1, y0.2.2.1, y0.2.2.2.1, y0.2.2.2.2.1, y0.2.2.2.2.2.1, y0.2.2.2.2.2.2.1, y0.2.2.2.2.2.2.2.1, y0.2.2.2.2.2.2.2.2, ()), (y1.1, y1.2.1, y1.2.2.1, y1.2.2.2.1, y1.2.2.2.2.1, y1.2.2.2.2.2.1, y1.2.2.2.2.2.2.1, y1.2.2.2.2.2.2.2.1, y1.2.2.2.2.2.2.2.2, ()), ()), ()) = some ((true, ()), ()) := by
  have w0 := wfS_of (y0 := y0) gy0
  have w1 := wfS_of (y0 := y1) gy1
  refine ⟨300000, Ev.eq (Q := fun r => r = ((true, ()), ())) ?_ fun _ h => h⟩
  unfold TasksetTells_6
  dsimp only
  rw [ex07 (by omega), bnd]
  refine Ev.bind (encode_at (N := 300000) (by omega) (s := y0) w0) fun a ha => ?_
  refine Ev.bind (encode_at (N := 300000) (by omega) (s := y1) w1) fun b hb => ?_
  dsimp only
  have bad : ∀ (e f : Int), (e ≠ 0 → e = 1 ∨ e = 7) → (f ≠ 0 → f = 1 ∨ f = 7) → (e ≠ 0 ∨ f ≠ 0) → Ev (byB (e == 1) (some ((true, ()), ())) (byB (e == 7) (some ((true, ()), ())) (byB (f == 1) (some ((true, ()), ())) (some ((f == 7, ()), ()))))) fun y => y = ((true, ()), ()) := by
    intro e f he hf hef
    refine Ev.beq (fun h => Ev.mk rfl) fun h1 => ?_
    refine Ev.beq (fun h => Ev.mk rfl) fun h2 => ?_
    refine Ev.beq (fun h => Ev.mk rfl) fun h3 => ?_
    rcases hef with h | h
    · rcases he h with h | h
      · exact absurd h h1
      · exact absurd h h2
    · rcases hf h with h | h
      · exact absurd h h3
      · exact Ev.mk (by rw [h]; rfl)
  have kind : ∀ (s : Sy) (y : (ByteArray × (Int × Unit)) × Unit), EncSaid s y → y.1.2.1 ≠ 0 → y.1.2.1 = 1 ∨ y.1.2.1 = 7 := by
    rintro s y (⟨_, rfl⟩ | ⟨_, _, rfl⟩ | ⟨_, _, rfl⟩) h
    · exact .inr rfl
    · exact .inl rfl
    · exact absurd rfl h
  have good : ∀ (s : Sy) (y : (ByteArray × (Int × Unit)) × Unit), EncSaid s y → y.1.2.1 = 0 → goodS s ∧ okL (nums s) ∧ y.1.1 = sealB (bytesL (nums s)) := by
    rintro s y (⟨_, rfl⟩ | ⟨_, _, rfl⟩ | ⟨h1, h2, rfl⟩) h
    · exact absurd h (by decide)
    · exact absurd h (by decide)
    · exact ⟨h1, h2, rfl⟩
  have ka := kind _ _ ha
  have kb := kind _ _ hb
  refine Ev.bne (fun h => ?_) fun h => ?_
  · rw [byB_true]
    exact bad _ _ ka kb (.inl h)
  refine Ev.bne (fun h2 => ?_) fun h2 => ?_
  · rw [byB_true]
    exact bad _ _ ka kb (.inr h2)
  obtain ⟨g0, o0, e0⟩ := good _ _ ha h
  obtain ⟨g1, o1, e1⟩ := good _ _ hb h2
  rw [byB_true, e0, e1]
  refine Ev.bind (same_at (N := 300000) (by omega) g0 g1) ?_
  rintro y rfl
  have key : (sealB (bytesL (nums y0)) = sealB (bytesL (nums y1))) = (nums y0 = nums y1) := by
    apply propext
    constructor
    · intro h
      have h3 := congrArg (fun s : ByteArray => s.data.toList) (sealB_inj h)
      have l0 := nums_len g0
      have l1 := nums_len g1
      exact encL_inj o0 o1 (by omega) (by omega) h3
    · intro h; rw [h]
  dsimp only
  rw [str_eq, show (decide (sealB (bytesL (nums y0)) = sealB (bytesL (nums y1))) == decide (nums y0 = nums y1)) = true by simp only [key, beq_self_eq_true], byB_true]
  refine Ev.bind (same_at (N := 300000) (by omega) g0 g0) ?_
  rintro y rfl
  exact Ev.mk (by rw [decide_eq_true rfl])
end Go.Proofs.Ytcdnofemnpafhaa.Pure
