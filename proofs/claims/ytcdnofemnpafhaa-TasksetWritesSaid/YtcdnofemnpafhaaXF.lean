/- What the document's Encode tells. Conditions: as each theorem states them. -/
import Derived.Test.YtcdnofemnpafhaaXE
namespace Go.Proofs.YtcdnofemnpafhaaC
open Go Go.Proofs.YtcdnofemnpafhaaM Go.Proofs.YtcdnofemnpafhaaX Go.Proofs.YtcdnofemnpafhaaL
set_option linter.unusedVariables false
set_option linter.unusedSimpArgs false

/-! the sum -/
theorem xr64 {a b : Nat} (ha : a < 65536) (hb : b < 65536) : IntKind.wrap .i64 (BitVec.ofInt (IntKind.bits .i64) (a : Int) ^^^ BitVec.ofInt (IntKind.bits .i64) (b : Int)).toNat = ((a ^^^ b : Nat) : Int) := by
  have h1 := bv_toNat (a := a) (by omega)
  have h2 := bv_toNat (a := b) (by omega)
  have h3 := x16 ha hb
  rw [show IntKind.bits .i64 = IntKind.bits .u64 from rfl, BitVec.toNat_xor, h1, h2, w64 (by omega) (by omega)]
theorem rsum6 {s : ByteArray} {N i : Nat} (hi : i < s.size) (hN : 8 < N) {again3 : _ → Option ((Int × Unit) × Unit)} {Q : _ → Prop} {v : Nat} (hv : v < 65536)
    (h : Ev (again3 ((s, ((tN (s.data.toList.getD i 0).toNat 8 v : Nat) : Int), IntKind.wrap .i64 ((i : Int) + 1), ()), ())) Q) : Ev (loopN N (Sum_35_L6 N again3) ((s, (v : Int), (i : Int), 7, ()), ())) Q := by
  refine Ev.loop (k := 8) (fun k st => ∃ (n u : Nat), st = ((s, (u : Int), (i : Int), (n : Int) - 1, ()), ()) ∧ k = n ∧ n ≤ 8 ∧ u < 65536 ∧ tN (s.data.toList.getD i 0).toNat n u = tN (s.data.toList.getD i 0).toNat 8 v) ?_ ⟨8, v, rfl, rfl, by omega, hv, rfl⟩ hN
  rintro k st again ⟨n, u, rfl, hk, hn, hu, ht⟩ ih
  unfold Sum_35_L6
  dsimp only
  rw [byB_not]
  refine Ev.dec (fun h1 => ?_) fun h1 => ?_
  · have : n = 0 := by omega
    subst this
    rw [← ht] at h
    exact h
  · obtain ⟨m, rfl⟩ : ∃ m, n = m + 1 := ⟨n - 1, by omega⟩
    have em : ((m + 1 : Nat) : Int) - 1 = (m : Int) := by omega
    simp only [em]
    have q : 0 ≤ (i : Int) ∧ ((i : Int)).toNat < s.size := ⟨by omega, by rw [Int.toNat_natCast]; exact hi⟩
    obtain ⟨b, hb1, hb2⟩ := byte_at (s := s) (c := i) hi
    have hbd : s.data.toList.getD i 0 = b := by
      have := drop_getD (l := s.data.toList) (i := i) (d := 0) hi
      rw [this] at hb1
      exact (List.cons.inj hb1).1
    rw [hbd] at ht
    rw [dif_pos q]
    simp only [hb2 q]
    rw [if_neg (by omega)]
    have hb := byte_lt b
    have e1 : IntKind.wrap .i64 (2 * (u : Int)) = ((2 * u : Nat) : Int) := by rw [w64 (by omega) (by omega)]; omega
    have e2 : Int.tmod ((2 * u : Nat) : Int) 65536 = ((2 * u % 65536 : Nat) : Int) := by rw [Int.tmod_eq_emod_of_nonneg (by omega)]; omega
    have e3 : IntKind.wrap .i64 ((b.toNat : Nat) : Int) = ((b.toNat : Nat) : Int) := w64 (by omega) (by omega)
    have e4 : Int.fdiv ((b.toNat : Nat) : Int) (2 ^ (min ((m : Int)).toNat (IntKind.bits .i64))) = ((b.toNat / 2 ^ m : Nat) : Int) := by
      rw [Int.toNat_natCast, show min m (IntKind.bits .i64) = m from Nat.min_eq_left (by show m ≤ 64; omega), shr_nat]
    have e5 : Int.tmod ((b.toNat / 2 ^ m : Nat) : Int) 2 = ((b.toNat / 2 ^ m % 2 : Nat) : Int) := by
      rw [Int.tmod_eq_emod_of_nonneg (Int.natCast_nonneg _)]; rfl
    have e6 : IntKind.wrap .i64 (Int.tdiv (u : Int) 32768) = ((u / 32768 : Nat) : Int) := by
      rw [Int.tdiv_eq_ediv_of_nonneg (by omega), w64 (by omega) (by omega)]; omega
    have e7 : IntKind.wrap .i64 ((m : Int) - 1) = (m : Int) - 1 := w64 (by omega) (by omega)
    simp only [e1, e2, e3, e4, e5, e6, e7]
    rw [tN] at ht
    refine Ev.bne (fun h2 => ?_) fun h2 => ?_
    · have hx := xr64 (a := 2 * u % 65536) (b := 4129) (by omega) (by decide)
      rw [show ((4129 : Nat) : Int) = 4129 from rfl] at hx
      rw [hx]
      have ht1 : t1 u (b.toNat / 2 ^ m % 2) = (2 * u % 65536) ^^^ 4129 := by unfold t1; rw [if_neg (by omega)]
      rw [ht1] at ht
      exact ih m _ (by omega) ⟨m, _, rfl, rfl, by omega, x16 (by omega) (by decide), by rw [hbd]; exact ht⟩
    · have ht1 : t1 u (b.toNat / 2 ^ m % 2) = 2 * u % 65536 := by unfold t1; rw [if_pos (by omega)]
      rw [ht1] at ht
      exact ih m _ (by omega) ⟨m, _, rfl, rfl, by omega, by omega, by rw [hbd]; exact ht⟩
theorem rsum_at {s : ByteArray} {N : Nat} (hs : s.size < 140737488355328) (hN : s.size + 10 < N) : Ev (Sum_35 N ((s, ()), ())) fun y => y = ((((sumV s.data.toList : Nat) : Int), ()), ()) := by
  have hsl := size_len s
  unfold Sum_35
  dsimp only
  refine Ev.loop (k := s.size) (fun k st => ∃ i : Nat, st = ((s, ((cL (s.data.toList.take i) 65535 : Nat) : Int), (i : Int), ()), ()) ∧ k = s.size - i ∧ i ≤ s.size) ?_ ⟨0, rfl, rfl, by omega⟩ (by omega)
  rintro k st again ⟨i, rfl, hk, hi⟩ ih
  unfold Sum_35_L3
  refine Ev.dec (fun h1 => ?_) fun h1 => ?_
  · have hi' : i < s.size := by omega
    have ts := take_succ_getD (l := s.data.toList) (i := i) (d := 0) (by omega)
    have hv := cL_lt (s.data.toList.take i) (v := 65535) (by decide)
    have hcb : cL (s.data.toList.take (i + 1)) 65535 = cb (cL (s.data.toList.take i) 65535) (s.data.toList.getD i 0) := by
      rw [ts, cL_append, cL_cons, cL_nil]
    have hnext := fun (k' : Nat) => ih k' ((s, ((cL (s.data.toList.take (i + 1)) 65535 : Nat) : Int), ((i + 1 : Nat) : Int), ()), ())
    refine rsum6 hi' (by omega) hv ?_
    rw [tN_cb hv, ← hcb]
    have e2 : IntKind.wrap .i64 ((i : Int) + 1) = ((i + 1 : Nat) : Int) := by rw [w64 (by omega) (by omega)]; omega
    rw [e2]
    exact hnext (s.size - (i + 1)) (by omega) ⟨i + 1, rfl, rfl, by omega⟩
  · rw [List.take_of_length_le (by omega)]
    exact Ev.mk rfl
theorem rseal_at {s : ByteArray} {N : Nat} (hs : s.size ≤ 100000) (hN : s.size + 10 < N) : Ev (Seal_24 N ((s, ()), ())) fun y => y = ((sealB s, true, ()), ()) := by
  unfold Seal_24
  dsimp only
  rw [byB_not, byB_t (by omega)]
  refine Ev.bind (rsum_at (by omega) hN) ?_
  rintro y rfl
  dsimp only
  have hv := sumV_lt s.data.toList
  have e1 : IntKind.wrap .i64 (Int.tdiv ((sumV s.data.toList : Nat) : Int) 256) = ((sumV s.data.toList / 256 : Nat) : Int) := by
    rw [Int.tdiv_eq_ediv_of_nonneg (by omega), w64 (by omega) (by omega)]; omega
  have e2 : Int.tmod ((sumV s.data.toList : Nat) : Int) 256 = ((sumV s.data.toList % 256 : Nat) : Int) := by
    rw [Int.tmod_eq_emod_of_nonneg (by omega)]; omega
  have e3 : IntKind.wrap .u8 ((sumV s.data.toList / 256 : Nat) : Int) = ((sumV s.data.toList / 256 : Nat) : Int) := wu8 (by omega)
  have e4 : IntKind.wrap .u8 ((sumV s.data.toList % 256 : Nat) : Int) = ((sumV s.data.toList % 256 : Nat) : Int) := wu8 (by omega)
  rw [e1, e2, e3, e4]
  have et : bytesOf [((sumV s.data.toList / 256 : Nat) : Int), ((sumV s.data.toList % 256 : Nat) : Int)] = ⟨(tailB s.data.toList).toArray⟩ := rfl
  rw [et]
  have : (⟨(tailB s.data.toList).toArray⟩ : ByteArray).size = 2 := rfl
  rw [if_pos (by omega)]
  exact Ev.mk rfl

/-! numbers as bytes -/
theorem rw10 {N n : Nat} {i e : Int} {t : Bool} {l out : List Int} {again5 : _ → _} {Q : _ → Prop} (hn : n < 9223372036854775808) (hN : (enc1 n).length < N) (ho : out.length + (enc1 n).length ≤ 140737488355328)
    (h : Ev (again5 ((l, (), IntKind.wrap .i64 (i + 1), ()), out ++ encN n, ())) Q) :
    Ev (loopN N (Write_22_L10 N again5) ((l, (), i, (n : Int), e, t, ()), out, ())) Q := by
  refine Ev.loop (k := (enc1 n).length) (fun k st => ∃ (u : Nat) (o : List Int), st = ((l, (), i, (u : Int), e, t, ()), o, ()) ∧ u < 9223372036854775808 ∧ k = (enc1 u).length ∧ o ++ encN u = out ++ encN n ∧ o.length + (enc1 u).length ≤ 140737488355328) ?_ ⟨n, out, rfl, hn, rfl, rfl, ho⟩ hN
  rintro k st again ⟨u, o, rfl, hu, rfl, hc, hol⟩ ih
  unfold Write_22_L10
  dsimp only
  rw [byB_not]
  by_cases c : u < 128
  · rw [byB_t (by omega), if_pos (by rw [enc1_small c] at hol; simp at hol; omega), wu8 (by omega)]
    rw [encN_small c] at hc
    rw [hc]
    exact h
  · rw [enc1_big c] at hol ih
    simp only [List.length_cons] at hol ih
    have e1 : IntKind.wrap .i64 (Int.tdiv (u : Int) 128) = ((u / 128 : Nat) : Int) := by rw [Int.tdiv_eq_ediv_of_nonneg (by omega), w64 (by omega) (by omega)]; omega
    have e2 : Int.tmod (u : Int) 128 = ((u % 128 : Nat) : Int) := by rw [Int.tmod_eq_emod_of_nonneg (by omega)]; omega
    have e3 : IntKind.wrap .i64 (128 + ((u % 128 : Nat) : Int)) = ((u % 128 + 128 : Nat) : Int) := by rw [w64 (by omega) (by omega)]; omega
    rw [byB_f (by omega), if_pos (by omega), e1, e2, e3, wu8 (by omega)]
    refine ih _ _ (Nat.lt_succ_self _) ⟨u / 128, _, rfl, by omega, rfl, ?_, ?_⟩
    · rw [← hc, encN_big c, List.append_assoc]; rfl
    · rw [List.length_append, List.length_singleton]; omega
theorem rwrite_at {N : Nat} {l : List Int} (hl : l.length ≤ 2000) (hN : 3000 < N) (hw : ∀ x ∈ l, (Lit.int .i64 x).wf = true) :
    Ev (Write_22 N ((l, ()), ())) fun y => (okL l ∧ y.1.2.1 = 0 ∧ y.1.1.data.toList = encL l) ∨ (¬ okL l ∧ y.1.2.1 = 1 ∧ y.1.1 = ⟨#[]⟩) := by
  unfold Write_22
  dsimp only
  rw [byB_not, byB_t (by omega)]
  refine Ev.loop (k := l.length) (fun k st => ∃ i : Nat, st = ((l, (), (i : Int), ()), (l.take i).flatMap (fun x => encN x.toNat), ()) ∧ i + k = l.length ∧ ((l.take i).flatMap fun x => encN x.toNat).length ≤ 10 * i ∧ ∀ x ∈ l.take i, 0 ≤ x ∧ x ≤ 4611686018427387904) ?_ ⟨0, by simp, by omega, by simp, by simp⟩ (by omega)
  rintro k st again ⟨i, rfl, hk, hlen, hi⟩ ih
  unfold Write_22_L5
  dsimp only
  by_cases h : (i : Int) < l.length
  · have hin : i < l.length := by omega
    have hm := getD_mem (d := (0 : Int)) hin
    have hts := take_succ_getD (d := (0 : Int)) hin
    have hwf := wf64 (hw _ hm)
    rw [byB_t h, if_pos ⟨by omega, h⟩, Int.toNat_natCast]
    generalize l.getD i 0 = x at *
    refine Ev.dec (fun h1 => Ev.mk (.inr ⟨fun hk => ?_, rfl, rfl⟩)) fun h1 => ?_
    · have := hk x hm; omega
    by_cases h2 : ¬ x ≤ 4611686018427387904
    · rw [decide_eq_false h2, byB_not, byB_false]
      refine Ev.mk (.inr ⟨fun hk => ?_, rfl, rfl⟩)
      have := hk x hm; omega
    · rw [decide_eq_true (show x ≤ 4611686018427387904 by omega), byB_not, byB_true]
      obtain ⟨n, rfl⟩ : ∃ n : Nat, x = n := ⟨x.toNat, by omega⟩
      have hen := enc_len (n := n) (by omega)
      refine rw10 (by omega) (by omega) (by omega) ?_
      rw [w64 (by omega) (by omega)]
      refine ih (k - 1) _ (by omega) ⟨i + 1, ?_, by omega, ?_, fun y hy => ?_⟩
      · rw [hts, List.flatMap_append]; simp
      · rw [hts, List.flatMap_append, List.length_append]
        simp only [List.flatMap_cons, List.flatMap_nil, List.append_nil, Int.toNat_natCast]
        have : (encN n).length = (enc1 n).length := by unfold encN; rw [List.length_map]
        omega
      · rw [hts, List.mem_append, List.mem_singleton] at hy
        rcases hy with hy | rfl
        · exact hi y hy
        · omega
  · rw [byB_f h]
    rw [List.take_of_length_le (by omega)] at hi ⊢
    exact Ev.mk (.inl ⟨hi, rfl, bytes_enc l⟩)

/-! numbers of a system -/
theorem rn8 {N : Nat} {i : Int} {s : Sy} {t : Tk} {out : List Int} {again3 : _ → Option ((Unit × Unit) × (List Int × Unit))} {Q : _ → Prop} (hl : t.2.2.2.length ≤ 4) (hN : 4 < N) (ho : out.length ≤ 100000)
    (h : Ev (again3 (((), (), IntKind.wrap .i64 (i + 1), ()), aS s, out ++ t.2.2.2.flatMap secN, ())) Q) :
    Ev (loopN N (Numbers_23_L8 N again3) (((), (), i, (), 0, ()), aS s, out, (t.1, t.2.1, t.2.2.1, t.2.2.2, ()), ())) Q := by
  refine Ev.loop (k := t.2.2.2.length) (fun k st => ∃ q : Nat, st = (((), (), i, (), (q : Int), ()), aS s, out ++ (t.2.2.2.take q).flatMap secN, (t.1, t.2.1, t.2.2.1, t.2.2.2, ()), ()) ∧ k = t.2.2.2.length - q ∧ q ≤ t.2.2.2.length) ?_ ⟨0, by simp, rfl, by omega⟩ (by omega)
  rintro k st again ⟨q, rfl, hk, hq⟩ ih
  unfold Numbers_23_L8
  refine Ev.dec (fun h1 => ?_) fun h1 => ?_
  · have hq' : q < t.2.2.2.length := by omega
    have ts := take_succ_getD (l := t.2.2.2) (i := q) (d := (0, 0, 0)) hq'
    have hsl := secs_len (t.2.2.2.take q)
    rw [List.length_take] at hsl
    rw [if_pos (by omega), if_pos (by omega), if_pos (by omega), Int.toNat_natCast]
    rw [if_pos (by rw [List.length_append]; omega)]
    have e1 : IntKind.wrap .i64 ((q : Int) + 1) = ((q + 1 : Nat) : Int) := by rw [w64 (by omega) (by omega)]; omega
    rw [e1]
    refine ih (t.2.2.2.length - (q + 1)) _ (by omega) ⟨q + 1, ?_, rfl, by omega⟩
    rw [ts, List.flatMap_append, List.flatMap_singleton, List.append_assoc]
    rfl
  · rw [List.take_of_length_le (by omega)]
    exact h
theorem rnumbers_at {N : Nat} (hN : 100 < N) {s : Sy} (hg : goodS s) : Ev (Numbers_23 N ((aS s, ()), ())) fun y => y = (((), ()), nums s, ()) := by
  unfold Numbers_23
  dsimp only
  have h1 := hg.1
  refine Ev.loop (k := (tksOf s).length) (fun k st => ∃ i : Nat, st = (((), (), (i : Int), ()), aS s, headN s ++ ((tksOf s).take i).flatMap taskN, ()) ∧ k = (tksOf s).length - i ∧ i ≤ (tksOf s).length) ?_ ⟨0, by simp [headN], rfl, by omega⟩ (by omega)
  rintro k st again ⟨i, rfl, hk, hi⟩ ih
  have eT : s.2.2.2.2.2.2.2.2 = tksOf s := rfl
  unfold Numbers_23_L3
  dsimp only
  rw [eT]
  refine Ev.dec (fun h => ?_) fun h => ?_
  · have hi' : i < (tksOf s).length := by omega
    have ts := take_succ_getD (l := tksOf s) (i := i) (d := (0, 0, 0, [])) hi'
    have hm := getD_mem (d := ((0, 0, 0, []) : Tk)) hi'
    have ht := hg.2 _ hm
    have hlen := tasks_len ((tksOf s).take i) fun t ht => hg.2 t (List.mem_of_mem_take ht)
    rw [List.length_take] at hlen
    rw [if_pos (by omega), Int.toNat_natCast]
    obtain ⟨t, et⟩ : ∃ t, (tksOf s).getD i (0, 0, 0, []) = t := ⟨_, rfl⟩
    simp only [et] at ts hm ht ⊢
    have hh : (headN s).length = 10 := rfl
    rw [if_pos (by rw [List.length_append]; omega)]
    refine rn8 (s := s) ht (by omega) (by simp only [List.length_append, hh, List.length_cons, List.length_nil]; omega) ?_
    have e1 : IntKind.wrap .i64 ((i : Int) + 1) = ((i + 1 : Nat) : Int) := by rw [w64 (by omega) (by omega)]; omega
    rw [e1]
    refine ih ((tksOf s).length - (i + 1)) _ (by omega) ⟨i + 1, ?_, rfl, by omega⟩
    rw [ts, List.flatMap_append, List.flatMap_singleton]
    simp only [taskN, List.append_assoc]
  · rw [List.take_of_length_le (by omega)]
    exact Ev.mk rfl
theorem rencode_at {N : Nat} (hN : 200000 < N) {s : Sy} (hw : goodS s → wfS s) : Ev (Encode_10 N ((aS s, ()), ())) (EncSaid s) := by
  have eT : s.2.2.2.2.2.2.2.2 = tksOf s := rfl
  unfold Encode_10
  dsimp only
  rw [eT, byB_not]
  refine Ev.dec (fun h => ?_) fun h => Ev.mk (.inl ⟨fun hg => by have := hg.1; omega, rfl⟩)
  refine Ev.loop (k := (tksOf s).length) (fun k st => ∃ i : Nat, st = (((), (i : Int), ()), aS s, ()) ∧ k = (tksOf s).length - i ∧ i ≤ (tksOf s).length ∧ ∀ t ∈ (tksOf s).take i, t.2.2.2.length ≤ 4) ?_ ⟨0, rfl, rfl, by omega, by simp⟩ (by omega)
  rintro k st again ⟨i, rfl, hk, hi, ha⟩ ih
  unfold Encode_10_L4
  dsimp only
  rw [eT]
  refine Ev.dec (fun h1 => ?_) fun h1 => ?_
  · have hi' : i < (tksOf s).length := by omega
    have ts := take_succ_getD (l := tksOf s) (i := i) (d := (0, 0, 0, [])) hi'
    have hm := getD_mem (d := ((0, 0, 0, []) : Tk)) hi'
    rw [if_pos (by omega), Int.toNat_natCast, byB_not]
    obtain ⟨t, et⟩ : ∃ t, (tksOf s).getD i (0, 0, 0, []) = t := ⟨_, rfl⟩
    simp only [et] at ts hm ⊢
    refine Ev.dec (fun h2 => ?_) fun h2 => Ev.mk (.inl ⟨fun hg => by have := hg.2 t hm; omega, rfl⟩)
    have e1 : IntKind.wrap .i64 ((i : Int) + 1) = ((i + 1 : Nat) : Int) := by rw [w64 (by omega) (by omega)]; omega
    rw [e1]
    refine ih ((tksOf s).length - (i + 1)) _ (by omega) ⟨i + 1, rfl, rfl, by omega, fun x hx => ?_⟩
    rw [ts, List.mem_append, List.mem_singleton] at hx
    rcases hx with hx | rfl
    · exact ha x hx
    · omega
  · rw [List.take_of_length_le (by omega)] at ha
    have hg : goodS s := ⟨by omega, ha⟩
    refine Ev.bind (rnumbers_at (s := s) (by omega) hg) ?_
    rintro y rfl
    have hl := nums_len hg
    refine Ev.bind (rwrite_at (l := nums s) (by omega) (by omega) (hw hg)) ?_
    rintro ⟨⟨b, e, u1⟩, u2⟩ hy
    dsimp only at hy ⊢
    rcases hy with ⟨h3, rfl, h4⟩ | ⟨h3, rfl, rfl⟩
    · rw [byB_nef rfl]
      have hb : b = bytesL (nums s) := ext_list (by rw [h4, bytesL_list])
      subst hb
      have hle := encL_le _ h3
      have hsz : (bytesL (nums s)).size ≤ 3940 := by rw [size_len, bytesL_list]; omega
      refine Ev.bind (rseal_at (s := bytesL (nums s)) (by omega) (by omega)) ?_
      rintro y rfl
      exact Ev.mk (.inr (.inr ⟨hg, h3, rfl⟩))
    · rw [byB_net (by decide)]
      exact Ev.mk (.inr (.inl ⟨hg, h3, rfl⟩))
end Go.Proofs.YtcdnofemnpafhaaC
