/- What the document's Open and Same tell. Conditions: as each theorem states them. -/
import Derived.Test.YtcdnofemnpafhaaXE
namespace Go.Proofs.YtcdnofemnpafhaaC
open Go Go.Proofs.YtcdnofemnpafhaaM Go.Proofs.YtcdnofemnpafhaaX Go.Proofs.YtcdnofemnpafhaaL
set_option linter.unusedVariables false
set_option linter.unusedSimpArgs false

/-! the sum -/
theorem xr64 {a b : Nat} (ha : a < 65536) (hb : b < 65536) : IntKind.wrap .i64 (BitVec.ofInt (IntKind.bits .i64) (a : Int) ^^^ BitVec.ofInt (IntKind.bits .i64) (b : Int)).toNat = ((a ^^^ b : Nat) : Int) := by
  have h1 := bv_toNat (a := a) (by omega)
  have h2 := bv_toNat (a := b) (by omega)
  have h3 := x16 ha hb
  rw [show IntKind.bits .i64 = IntKind.bits .u64 from rfl, BitVec.toNat_xor, h1, h2, w64 (by omega) (by omega)]
theorem rsum6 {s : ByteArray} {N i : Nat} (hi : i < s.size) (hN : 8 < N) {again3 : _ → Option ((Int × Unit) × Unit)} {Q : _ → Prop} {v : Nat} (hv : v < 65536)
    (h : Ev (again3 ((s, ((tN (s.data.toList.getD i 0).toNat 8 v : Nat) : Int), IntKind.wrap .i64 ((i : Int) + 1), ()), ())) Q) : Ev (loopN N (Sum_35_L6 N again3) ((s, (v : Int), (i : Int), 7, ()), ())) Q := by
  refine Ev.loop (k := 8) (fun k st => ∃ (n u : Nat), st = ((s, (u : Int), (i : Int), (n : Int) - 1, ()), ()) ∧ k = n ∧ n ≤ 8 ∧ u < 65536 ∧ tN (s.data.toList.getD i 0).toNat n u = tN (s.data.toList.getD i 0).toNat 8 v) ?_ ⟨8, v, rfl, rfl, by omega, hv, rfl⟩ hN
  rintro k st again ⟨n, u, rfl, hk, hn, hu, ht⟩ ih
  unfold Sum_35_L6
  dsimp only
  rw [byB_not]
  refine Ev.dec (fun h1 => ?_) fun h1 => ?_
  · have : n = 0 := by omega
    subst this
    rw [← ht] at h
    exact h
  · obtain ⟨m, rfl⟩ : ∃ m, n = m + 1 := ⟨n - 1, by omega⟩
    have em : ((m + 1 : Nat) : Int) - 1 = (m : Int) := by omega
    simp only [em]
    have q : 0 ≤ (i : Int) ∧ ((i : Int)).toNat < s.size := ⟨by omega, by rw [Int.toNat_natCast]; exact hi⟩
    obtain ⟨b, hb1, hb2⟩ := byte_at (s := s) (c := i) hi
    have hbd : s.data.toList.getD i 0 = b := by
      have := drop_getD (l := s.data.toList) (i := i) (d := 0) hi
      rw [this] at hb1
      exact (List.cons.inj hb1).1
    rw [hbd] at ht
    rw [dif_pos q]
    simp only [hb2 q]
    rw [if_neg (by omega)]
    have hb := byte_lt b
    have e1 : IntKind.wrap .i64 (2 * (u : Int)) = ((2 * u : Nat) : Int) := by rw [w64 (by omega) (by omega)]; omega
    have e2 : Int.tmod ((2 * u : Nat) : Int) 65536 = ((2 * u % 65536 : Nat) : Int) := by rw [Int.tmod_eq_emod_of_nonneg (by omega)]; omega
    have e3 : IntKind.wrap .i64 ((b.toNat : Nat) : Int) = ((b.toNat : Nat) : Int) := w64 (by omega) (by omega)
    have e4 : Int.fdiv ((b.toNat : Nat) : Int) (2 ^ (min ((m : Int)).toNat (IntKind.bits .i64))) = ((b.toNat / 2 ^ m : Nat) : Int) := by
      rw [Int.toNat_natCast, show min m (IntKind.bits .i64) = m from Nat.min_eq_left (by show m ≤ 64; omega), shr_nat]
    have e5 : Int.tmod ((b.toNat / 2 ^ m : Nat) : Int) 2 = ((b.toNat / 2 ^ m % 2 : Nat) : Int) := by
      rw [Int.tmod_eq_emod_of_nonneg (Int.natCast_nonneg _)]; rfl
    have e6 : IntKind.wrap .i64 (Int.tdiv (u : Int) 32768) = ((u / 32768 : Nat) : Int) := by
      rw [Int.tdiv_eq_ediv_of_nonneg (by omega), w64 (by omega) (by omega)]; omega
    have e7 : IntKind.wrap .i64 ((m : Int) - 1) = (m : Int) - 1 := w64 (by omega) (by omega)
    simp only [e1, e2, e3, e4, e5, e6, e7]
    rw [tN] at ht
    refine Ev.bne (fun h2 => ?_) fun h2 => ?_
    · have hx := xr64 (a := 2 * u % 65536) (b := 4129) (by omega) (by decide)
      rw [show ((4129 : Nat) : Int) = 4129 from rfl] at hx
      rw [hx]
      have ht1 : t1 u (b.toNat / 2 ^ m % 2) = (2 * u % 65536) ^^^ 4129 := by unfold t1; rw [if_neg (by omega)]
      rw [ht1] at ht
      exact ih m _ (by omega) ⟨m, _, rfl, rfl, by omega, x16 (by omega) (by decide), by rw [hbd]; exact ht⟩
    · have ht1 : t1 u (b.toNat / 2 ^ m % 2) = 2 * u % 65536 := by unfold t1; rw [if_pos (by omega)]
      rw [ht1] at ht
      exact ih m _ (by omega) ⟨m, _, rfl, rfl, by omega, by omega, by rw [hbd]; exact ht⟩
theorem rsum_at {s : ByteArray} {N : Nat} (hs : s.size < 140737488355328) (hN : s.size + 10 < N) : Ev (Sum_35 N ((s, ()), ())) fun y => y = ((((sumV s.data.toList : Nat) : Int), ()), ()) := by
  have hsl := size_len s
  unfold Sum_35
  dsimp only
  refine Ev.loop (k := s.size) (fun k st => ∃ i : Nat, st = ((s, ((cL (s.data.toList.take i) 65535 : Nat) : Int), (i : Int), ()), ()) ∧ k = s.size - i ∧ i ≤ s.size) ?_ ⟨0, rfl, rfl, by omega⟩ (by omega)
  rintro k st again ⟨i, rfl, hk, hi⟩ ih
  unfold Sum_35_L3
  refine Ev.dec (fun h1 => ?_) fun h1 => ?_
  · have hi' : i < s.size := by omega
    have ts := take_succ_getD (l := s.data.toList) (i := i) (d := 0) (by omega)
    have hv := cL_lt (s.data.toList.take i) (v := 65535) (by decide)
    have hcb : cL (s.data.toList.take (i + 1)) 65535 = cb (cL (s.data.toList.take i) 65535) (s.data.toList.getD i 0) := by
      rw [ts, cL_append, cL_cons, cL_nil]
    have hnext := fun (k' : Nat) => ih k' ((s, ((cL (s.data.toList.take (i + 1)) 65535 : Nat) : Int), ((i + 1 : Nat) : Int), ()), ())
    refine rsum6 hi' (by omega) hv ?_
    rw [tN_cb hv, ← hcb]
    have e2 : IntKind.wrap .i64 ((i : Int) + 1) = ((i + 1 : Nat) : Int) := by rw [w64 (by omega) (by omega)]; omega
    rw [e2]
    exact hnext (s.size - (i + 1)) (by omega) ⟨i + 1, rfl, rfl, by omega⟩
  · rw [List.take_of_length_le (by omega)]
    exact Ev.mk rfl
theorem ropen_at {s : ByteArray} {N : Nat} (hs : s.size < 140737488355328) (hN : s.size + 10 < N) : Ev (Open_25 N ((s, ()), ())) fun y => y = (((openD s).1, (openD s).2, ()), ()) := by
  have hsl := size_len s
  unfold Open_25
  dsimp only
  have e0 : IntKind.wrap .i64 ((s.size : Int) - 2) = (s.size : Int) - 2 := w64 (by omega) (by omega)
  simp only [e0]
  refine Ev.dec (fun h => Ev.mk ?_) fun h => ?_
  · rw [openD_short (by omega)]
  rw [byB_not]
  refine Ev.dec (fun h2 => ?_) fun h2 => Ev.mk ?_
  · skip
    have e : (s.size : Int) - 2 = ((s.size - 2 : Nat) : Int) := by omega
    have e1 : IntKind.wrap .i64 (((s.size - 2 : Nat) : Int) + 1) = ((s.size - 1 : Nat) : Int) := by rw [w64 (by omega) (by omega)]; omega
    simp only [e, e1]
    have q : 0 ≤ ((s.size - 2 : Nat) : Int) ∧ (((s.size - 2 : Nat) : Int)).toNat < s.size := ⟨by omega, by rw [Int.toNat_natCast]; omega⟩
    have q' : 0 ≤ ((s.size - 1 : Nat) : Int) ∧ (((s.size - 1 : Nat) : Int)).toNat < s.size := ⟨by omega, by rw [Int.toNat_natCast]; omega⟩
    obtain ⟨p, hp1, hp2⟩ := byte_at (s := s) (c := s.size - 2) (by omega)
    obtain ⟨r, hr1, hr2⟩ := byte_at (s := s) (c := s.size - 1) (by omega)
    rw [dif_pos q, dif_pos q', if_pos ⟨by omega, by omega, by omega⟩]
    simp only [hp2 q, hr2 q']
    have hx : (s.extract 0 (s.size - 2)).data.toList = s.data.toList.take (s.size - 2) := by
      rw [ByteArray.data_extract]
      simp [List.extract]
    have hxl : (s.extract 0 (s.size - 2)).size = s.size - 2 := by rw [size_len, hx, List.length_take]; omega
    rw [Int.toNat_natCast]
    refine Ev.bind (rsum_at (by omega) (by omega)) ?_
    rintro y rfl
    dsimp only
    rw [hx]
    have hp := byte_lt p
    have hr := byte_lt r
    have e3 : IntKind.wrap .i64 ((p.toNat : Nat) : Int) = (p.toNat : Int) := w64 (by omega) (by omega)
    have e4 : IntKind.wrap .i64 ((r.toNat : Nat) : Int) = (r.toNat : Int) := w64 (by omega) (by omega)
    have e5 : IntKind.wrap .i64 ((p.toNat : Int) * 256) = (p.toNat : Int) * 256 := w64 (by omega) (by omega)
    have e6 : IntKind.wrap .i64 ((p.toNat : Int) * 256 + (r.toNat : Int)) = (p.toNat : Int) * 256 + (r.toNat : Int) := w64 (by omega) (by omega)
    rw [e3, e4, e5, e6]
    have h4 : s.data.toList = s.data.toList.take (s.size - 2) ++ [p, r] := by
      have h5 := List.take_append_drop (s.size - 2) s.data.toList
      rw [hp1, show s.size - 2 + 1 = s.size - 1 by omega, hr1, show s.size - 1 + 1 = s.size by omega, List.drop_of_length_le (by omega)] at h5
      exact h5.symm
    have key : sumV s.data.toList = 0 ↔ sumV (s.data.toList.take (s.size - 2)) = p.toNat * 256 + r.toNat := by
      unfold sumV
      rw [← cL_two (cL_lt _ (by decide)) p r, ← cL_append, ← h4]
    refine Ev.bne (fun h3 => Ev.mk ?_) fun h3 => ?_
    · rw [openD_bad (by omega) (by omega) (by rw [key]; omega)]
    · rw [if_pos ⟨by omega, by omega, by omega⟩, openD_good (by omega) (by omega) (by rw [key]; omega)]
      exact Ev.mk rfl
  · rw [openD_long (by omega)]
/-! numbers of a system -/
theorem rn8 {N : Nat} {i : Int} {s : Sy} {t : Tk} {out : List Int} {again3 : _ → Option ((Unit × Unit) × (List Int × Unit))} {Q : _ → Prop} (hN : t.2.2.2.length < N) (ho : out.length + 3 * t.2.2.2.length ≤ 17592186044416)
    (h : Ev (again3 (((), (), IntKind.wrap .i64 (i + 1), ()), aS s, out ++ t.2.2.2.flatMap secN, ())) Q) :
    Ev (loopN N (Numbers_23_L8 N again3) (((), (), i, (), 0, ()), aS s, out, (t.1, t.2.1, t.2.2.1, t.2.2.2, ()), ())) Q := by
  refine Ev.loop (k := t.2.2.2.length) (fun k st => ∃ q : Nat, st = (((), (), i, (), (q : Int), ()), aS s, out ++ (t.2.2.2.take q).flatMap secN, (t.1, t.2.1, t.2.2.1, t.2.2.2, ()), ()) ∧ k = t.2.2.2.length - q ∧ q ≤ t.2.2.2.length) ?_ ⟨0, by simp, rfl, by omega⟩ (by omega)
  rintro k st again ⟨q, rfl, hk, hq⟩ ih
  unfold Numbers_23_L8
  refine Ev.dec (fun h1 => ?_) fun h1 => ?_
  · have hq' : q < t.2.2.2.length := by omega
    have ts := take_succ_getD (l := t.2.2.2) (i := q) (d := (0, 0, 0)) hq'
    have hsl := secs_len (t.2.2.2.take q)
    rw [List.length_take] at hsl
    rw [if_pos (by omega), if_pos (by omega), if_pos (by omega), Int.toNat_natCast]
    rw [if_pos (by rw [List.length_append]; omega)]
    have e1 : IntKind.wrap .i64 ((q : Int) + 1) = ((q + 1 : Nat) : Int) := by rw [w64 (by omega) (by omega)]; omega
    rw [e1]
    refine ih (t.2.2.2.length - (q + 1)) _ (by omega) ⟨q + 1, ?_, rfl, by omega⟩
    rw [ts, List.flatMap_append, List.flatMap_singleton, List.append_assoc]
    rfl
  · rw [List.take_of_length_le (by omega)]
    exact h
theorem rnumbers_at {N : Nat} {s : Sy} (hg : roomS N s) : Ev (Numbers_23 N ((aS s, ()), ())) fun y => y = (((), ()), nums s, ()) := by
  unfold Numbers_23
  dsimp only
  obtain ⟨h1, h1b, hr⟩ := room_at hg
  refine Ev.loop (k := (tksOf s).length) (fun k st => ∃ i : Nat, st = (((), (), (i : Int), ()), aS s, headN s ++ ((tksOf s).take i).flatMap taskN, ()) ∧ k = (tksOf s).length - i ∧ i ≤ (tksOf s).length) ?_ ⟨0, by simp [headN], rfl, by omega⟩ (by omega)
  rintro k st again ⟨i, rfl, hk, hi⟩ ih
  have eT : s.2.2.2.2.2.2.2.2 = tksOf s := rfl
  unfold Numbers_23_L3
  dsimp only
  rw [eT]
  refine Ev.dec (fun h => ?_) fun h => ?_
  · have hi' : i < (tksOf s).length := by omega
    have ts := take_succ_getD (l := tksOf s) (i := i) (d := (0, 0, 0, [])) hi'
    obtain ⟨hr1, hr2⟩ := hr i hi'
    rw [if_pos (by omega), Int.toNat_natCast]
    obtain ⟨t, et⟩ : ∃ t, (tksOf s).getD i (0, 0, 0, []) = t := ⟨_, rfl⟩
    simp only [et] at ts hr1 hr2 ⊢
    have hh : (headN s).length = 10 := rfl
    rw [if_pos (by rw [List.length_append]; omega)]
    refine rn8 (s := s) (by omega) (by simp only [List.length_append, hh, List.length_cons, List.length_nil]; omega) ?_
    have e1 : IntKind.wrap .i64 ((i : Int) + 1) = ((i + 1 : Nat) : Int) := by rw [w64 (by omega) (by omega)]; omega
    rw [e1]
    refine ih ((tksOf s).length - (i + 1)) _ (by omega) ⟨i + 1, ?_, rfl, by omega⟩
    rw [ts, List.flatMap_append, List.flatMap_singleton]
    simp only [taskN, List.append_assoc]
  · rw [List.take_of_length_le (by omega)]
    exact Ev.mk rfl
theorem rsame_at {N : Nat} {s t : Sy} (hs : roomS N s) (ht : roomS N t) : Ev (Same_13 N ((aS s, aS t, ()), ())) fun y => y = ((decide (nums s = nums t), ()), ()) := by
  unfold Same_13
  dsimp only
  refine Ev.bind (rnumbers_at hs) ?_
  rintro y rfl
  refine Ev.bind (rnumbers_at ht) ?_
  rintro y rfl
  dsimp only
  have h1 := hs.1
  have h2 := hs.2
  generalize nums s = a at h1 h2 ⊢
  generalize nums t = b
  refine Ev.bne (fun h => Ev.mk ?_) fun h => ?_
  · rw [decide_eq_false fun e => h (by rw [e])]
  · have hl : a.length = b.length := by omega
    refine Ev.loop (k := a.length) (fun k st => ∃ i : Nat, st = (((), (), (i : Int), ()), a, b, ()) ∧ k = a.length - i ∧ i ≤ a.length ∧ a.take i = b.take i) ?_ ⟨0, rfl, rfl, by omega, by simp⟩ h1
    rintro k st again ⟨i, rfl, hk, hi, he⟩ ih
    unfold Same_13_L6
    refine Ev.dec (fun h1 => ?_) fun h1 => ?_
    · rw [if_pos (by omega), if_pos (by omega), Int.toNat_natCast]
      refine Ev.bne (fun h2 => Ev.mk ?_) fun h2 => ?_
      · rw [decide_eq_false fun e => h2 (by rw [e])]
      · have e1 : IntKind.wrap .i64 ((i : Int) + 1) = ((i + 1 : Nat) : Int) := by rw [w64 (by omega) (by omega)]; omega
        rw [e1]
        refine ih (a.length - (i + 1)) _ (by omega) ⟨i + 1, rfl, rfl, by omega, ?_⟩
        rw [take_succ_getD (d := (0 : Int)) (show i < a.length by omega), take_succ_getD (d := (0 : Int)) (show i < b.length by omega), he, h2]
    · rw [List.take_of_length_le (by omega), List.take_of_length_le (by omega)] at he
      exact Ev.mk (by rw [decide_eq_true he])
end Go.Proofs.YtcdnofemnpafhaaC
