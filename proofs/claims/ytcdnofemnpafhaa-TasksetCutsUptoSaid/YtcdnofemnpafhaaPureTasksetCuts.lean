/- The law TasksetCuts (second form), with no program in sight. Conditions: none. -/
import Derived.Test.YtcdnofemnpafhaaXH
import Derived.Test.YtcdnofemnpafhaaPureTasksetTells
namespace Go.Proofs.Ytcdnofemnpafhaa.Pure
open Go Go.Proofs.YtcdnofemnpafhaaM Go.Proofs.YtcdnofemnpafhaaX Go.Proofs.YtcdnofemnpafhaaL Go.Proofs.YtcdnofemnpafhaaC
set_option linter.unusedVariables false
set_option linter.unusedSimpArgs false
theorem write_long {N : Nat} {l : List Int} (h : 2000 < l.length) : Write_17 N ((l, ()), ()) = some ((⟨#[]⟩, 7, ()), ()) := by
  unfold Write_17
  dsimp only
  rw [byB_not, byB_f (by omega)]
theorem cuts_end {N : Nat} (hN : 200000 < N) {s : Sy} (hg : goodS s) (ho : okL (nums s)) {more : List Int} (hm : more.length ≤ 1048576) (hw : ∀ x ∈ more, (Lit.int .i64 x).wf = true) (cut : Int) (h0 : 0 ≤ cut) :
    Ev (TasksetCuts_7_J11 N ((cut, more, true, nums s, ()), ())) fun y => y = ((true, ()), ()) := by
  have hl := nums_len hg
  have hpos : 10 ≤ (nums s).length := by
    unfold nums
    rw [List.length_append]
    show 10 ≤ 10 + _
    omega
  unfold TasksetCuts_7_J11
  dsimp only
  rw [if_neg (by omega)]
  have ht := Int.tmod_eq_emod_of_nonneg (b := ((nums s).length : Int)) h0
  have ht0 := Int.emod_nonneg cut (b := ((nums s).length : Int)) (by omega)
  have ht1 := Int.emod_lt_of_pos cut (b := ((nums s).length : Int)) (by omega)
  obtain ⟨c, hc⟩ : ∃ c : Nat, cut % ((nums s).length : Int) = c := ⟨(cut % ((nums s).length : Int)).toNat, by omega⟩
  rw [hc] at ht0 ht1 ht
  rw [ht, if_pos ⟨by omega, by omega, by omega⟩, Int.toNat_natCast]
  have hcl : c < (nums s).length := by omega
  have okp : okL ((nums s).take c) := fun x hx => ho x (List.mem_of_mem_take hx)
  have lp : ((nums s).take c).length ≤ 2000 := by rw [List.length_take]; omega
  refine Ev.bind (write_at (N := N) lp (by omega) (okL_wf okp)) ?_
  rintro ⟨⟨w, e, u1⟩, u2⟩ hy
  dsimp only at hy ⊢
  rcases hy with ⟨_, rfl, hy⟩ | ⟨hy, _⟩
  · have hwb : w = bytesL ((nums s).take c) := ext_list (by rw [hy, bytesL_list])
    subst hwb
    have hsz := bytesL_size okp lp
    refine Ev.bind (seal_at (N := N) (by omega) (by omega)) ?_
    rintro y rfl
    dsimp only
    refine Ev.bind (decode_sealed (N := N) (by omega) okp lp) ?_
    rintro y rfl
    have hne : (nums s).take c ≠ nums s := fun e => by
      have := congrArg List.length e
      rw [List.length_take] at this
      omega
    rw [dec_pre hg (List.take_prefix _ _) hne, if_pos (by omega), if_pos (by omega)]
    -- with numbers behind
    have tail : ∀ (b : ByteArray) (f : Int), Ev ((Seal_18 N ((b, ()), ())).bind fun y42 => (Decode_12v1 N ((y42.1.1, ()), ())).bind fun y43 =>
        byB true
          (byB ((rs (z0, 8)).1.2.1 == 8)
            (byB ((more.length : Int) == 0)
              (some ((true, ()), ()))
              (byB (f != 0)
                  (some ((true, ()), ()))
                  (some ((y43.1.2.1 == 8, ()), ()))))
            (some ((false, ()), ())))
          (some ((false, ()), ()))) (fun y => y = ((true, ()), ())) → Ev ((Seal_18 N ((b, ()), ())).bind fun y42 => (Decode_12v1 N ((y42.1.1, ()), ())).bind fun y43 =>
        byB true
          (byB ((rs (z0, 8)).1.2.1 == 8)
            (byB ((more.length : Int) == 0)
              (some ((true, ()), ()))
              (byB (f != 0)
                  (some ((true, ()), ()))
                  (some ((y43.1.2.1 == 8, ()), ()))))
            (some ((false, ()), ())))
          (some ((false, ()), ()))) fun y => y = ((true, ()), ()) := fun _ _ h => h
    have none7 : ∀ f : Int, f ≠ 0 → Ev ((Seal_18 N (((⟨#[]⟩ : ByteArray), ()), ())).bind fun y42 => (Decode_12v1 N ((y42.1.1, ()), ())).bind fun y43 =>
        byB true
          (byB ((rs (z0, 8)).1.2.1 == 8)
            (byB ((more.length : Int) == 0)
              (some ((true, ()), ()))
              (byB (f != 0)
                  (some ((true, ()), ()))
                  (some ((y43.1.2.1 == 8, ()), ()))))
            (some ((false, ()), ())))
          (some ((false, ()), ()))) fun y => y = ((true, ()), ()) := by
      intro f hf
      have z : (⟨#[]⟩ : ByteArray).size = 0 := rfl
      refine Ev.bind (seal_at (N := N) (s := ⟨#[]⟩) (by omega) (by omega)) ?_
      rintro y rfl
      dsimp only
      have z2 := sealB_size ⟨#[]⟩
      refine Ev.bind (decode_at (N := N) (b := sealB ⟨#[]⟩) (by omega) (by omega)) fun y _ => ?_
      rw [byB_true, byB_eqt (show (rs (z0, 8)).1.2.1 = 8 from rfl)]
      refine Ev.beq (fun _ => Ev.mk rfl) fun _ => ?_
      rw [byB_net hf]
      exact Ev.mk rfl
    by_cases hlong : 2000 < (nums s ++ more).length
    · rw [write_long hlong, bnd]
      exact none7 7 (by decide)
    · have wfm : ∀ x ∈ nums s ++ more, (Lit.int .i64 x).wf = true := fun x hx => by
        rcases List.mem_append.1 hx with hx | hx
        · exact okL_wf ho x hx
        · exact hw x hx
      refine Ev.bind (write_at (N := N) (l := nums s ++ more) (by omega) (by omega) wfm) ?_
      rintro ⟨⟨w, e, u1⟩, u2⟩ hy
      dsimp only at hy ⊢
      rcases hy with ⟨ok2, rfl, hy⟩ | ⟨_, rfl, rfl⟩
      · have hwb : w = bytesL (nums s ++ more) := ext_list (by rw [hy, bytesL_list])
        subst hwb
        have hsz2 := bytesL_size ok2 (by omega)
        refine Ev.bind (seal_at (N := N) (by omega) (by omega)) ?_
        rintro y rfl
        dsimp only
        refine Ev.bind (decode_sealed (N := N) (by omega) ok2 (by omega)) ?_
        rintro y rfl
        rw [byB_true, byB_eqt (show (rs (z0, 8)).1.2.1 = 8 from rfl)]
        refine Ev.beq (fun _ => Ev.mk rfl) fun hme => ?_
        rw [byB_nef rfl, dec_more hg (fun e => hme (by rw [e]; rfl))]
        exact Ev.mk rfl
      · exact none7 1 (by decide)
  · exact absurd okp hy
theorem TasksetCuts (y0 : Int × Int × Int × Int × Int × Int × Int × Int × (List (Int × Int × Int × (List (Int × Int × Int))))) (y1 : Int) (y2 : List Int) (gy0 : ((Lit.int .i64 y0.1).wf = true ∧ ((Lit.int .i64 y0.2.1).wf = true ∧ ((Lit.int .i64 y0.2.2.1).wf = true ∧ ((Lit.int .i64 y0.2.2.2.1).wf = true ∧ ((Lit.int .i64 y0.2.2.2.2.1).wf = true ∧ ((Lit.int .i64 y0.2.2.2.2.2.1).wf = true ∧ ((Lit.int .i64 y0.2.2.2.2.2.2.1).wf = true ∧ ((Lit.int .i64 y0.2.2.2.2.2.2.2.1).wf = true ∧ (y0.2.2.2.2.2.2.2.2.length * 48 ≤ 140737488351232 ∧ ∀ e0 ∈ y0.2.2.2.2.2.2.2.2, ((Lit.int .i64 e0.1).wf = true ∧ ((Lit.int .i64 e0.2.1).wf = true ∧ ((Lit.int .i64 e0.2.2.1).wf = true ∧ (e0.2.2.2.length * 24 ≤ 140737488351232 ∧ ∀ e1 ∈ e0.2.2.2, ((Lit.int .i64 e1.1).wf = true ∧ ((Lit.int .i64 e1.2.1).wf = true ∧ (Lit.int .i64 e1.2.2).wf = true)))))))))))))))) (gy1 : (Lit.int .i64 y1).wf = true) (gy2 : (y2.length * 8 ≤ 140737488351232 ∧ ∀ e0 ∈ y2, (Lit.int .i64 e0).wf = true)) (hb : ((1 + (1 + (1 + (1 + (1 + (1 + (1 + (1 + ((y0.2.2.2.2.2.2.2.2.map (fun x => ((1 + (1 + (1 + ((x.2.2.2.map (fun x => ((1 + (1 + 1)) + 1))).sum + 1)))) + 1))).sum + 1))))))))) + 1) + 1 + ((y2.map (fun x => 1)).sum + 1) ≤ 1048576) : ∃ N, TasksetCuts_7 N (((y0.1, y0.2.1, y0.2.2.1, y0.2.2.2.1, y0.2.2.2.2.1, y0.2.2.2.2.2.1, y0.2.2.2.2.2.2.1, y0.2.2.2.2.2.2.2.1, y0.2.2.2.2.2.2.2.2, ()), y1, y2, ()), ()) = some ((true, ()), ()) := by
  have w0 := wfS_of (y0 := y0) gy0
  have g1 := wf64 gy1
  have hm : y2.length ≤ 1048576 := by
    have e : (y2.map (fun x => 1)).sum = y2.length := by
      clear gy2 hb
      induction y2 with
      | nil => rfl
      | cons a l ih => rw [List.map_cons, List.sum_cons, ih, List.length_cons]; omega
    omega
  refine ⟨300000, Ev.eq (Q := fun r => r = ((true, ()), ())) ?_ fun _ h => h⟩
  unfold TasksetCuts_7
  dsimp only
  rw [ex07 (by omega), bnd]
  refine Ev.bind (encode_at (N := 300000) (by omega) (s := y0) w0) fun a ha => ?_
  dsimp only
  rcases ha with ⟨_, rfl⟩ | ⟨_, _, rfl⟩ | ⟨g, o, rfl⟩
  · rw [byB_net (by decide), byB_true, byB_eqf (by decide)]
    exact Ev.mk rfl
  · rw [byB_net (by decide), byB_true, byB_eqt rfl]
    exact Ev.mk rfl
  · rw [byB_nef rfl]
    have hl := nums_len g
    have hsz := bytesL_size o (by omega)
    have hs2 := sealB_size (bytesL (nums y0))
    refine Ev.bind (open_at (N := 300000) (s := sealB (bytesL (nums y0))) (by omega) (by omega)) fun y hy => ?_
    rcases hy with ⟨e, _, _, hx⟩ | ⟨x, hx, he, rfl⟩
    · exact absurd ⟨bytesL (nums y0), by omega, rfl⟩ hx
    · obtain rfl := sealB_inj he
      dsimp only
      refine Ev.bind (read_at (N := 300000) (s := bytesL (nums y0)) (by omega) (by omega)) ?_
      rintro y rfl
      rw [read_bytesL o (by omega)]
      dsimp only
      have hpos : 10 ≤ (nums y0).length := by
        unfold nums
        rw [List.length_append]
        show 10 ≤ 10 + _
        omega
      rw [join_eq, byB_nef rfl, byB_nef rfl, decide_eq_false (by omega)]
      unfold TasksetCuts_7_J8
      dsimp only
      rw [byB_false, join_eq]
      refine Ev.dec (fun h => ?_) fun h => ?_
      · rw [w64 (show -9223372036854775808 ≤ y1 + 1 by omega) (by omega), w64 (by omega) (by omega)]
        exact cuts_end (by omega) g o hm gy2.2 _ (by omega)
      · exact cuts_end (by omega) g o hm gy2.2 _ (by omega)
end Go.Proofs.Ytcdnofemnpafhaa.Pure
