/- What Sum, Seal and Open tell, by their texts. Conditions: bounds on lengths. -/
import Derived.Test.YtcdnofemnpafhaaXR
namespace Go.Proofs.YtcdnofemnpafhaaC
open Go Go.Proofs.YtcdnofemnpafhaaM Go.Proofs.YtcdnofemnpafhaaX Go.Proofs.YtcdnofemnpafhaaL
set_option linter.unusedVariables false
set_option linter.unusedSimpArgs false

theorem wu16 (n : Int) : IntKind.wrap .u16 n = n % 65536 := by simp [IntKind.wrap, IntKind.bits, IntKind.signed]
theorem bv16 {a : Nat} (h : a < 65536) : (BitVec.ofInt (IntKind.bits .u16) (a : Int)).toNat = a := by
  simp only [IntKind.bits, BitVec.ofInt_natCast, BitVec.toNat_ofNat]
  exact Nat.mod_eq_of_lt (by omega)
theorem xr16 {a b : Nat} (ha : a < 65536) (hb : b < 65536) : IntKind.wrap .u16 (BitVec.ofInt (IntKind.bits .u16) (a : Int) ^^^ BitVec.ofInt (IntKind.bits .u16) (b : Int)).toNat = ((a ^^^ b : Nat) : Int) := by
  rw [BitVec.toNat_xor, bv16 ha, bv16 hb, wu16]
  have := x16 ha hb
  omega
theorem an16 {a b : Nat} (ha : a < 65536) (hb : b < 65536) : IntKind.wrap .u16 (BitVec.ofInt (IntKind.bits .u16) (a : Int) &&& BitVec.ofInt (IntKind.bits .u16) (b : Int)).toNat = ((a &&& b : Nat) : Int) := by
  rw [BitVec.toNat_and, bv16 ha, bv16 hb, wu16]
  have : a &&& b < 65536 := Nat.lt_of_le_of_lt Nat.and_le_right hb
  omega
theorem turn16 {v : Nat} (h : v < 65536) : IntKind.wrap .u16 (BitVec.ofInt (IntKind.bits .u16) (IntKind.wrap .u16 ((v : Int) * 2 ^ 1)) ^^^ BitVec.ofInt (IntKind.bits .u16) (IntKind.wrap .u16 (BitVec.ofInt (IntKind.bits .u16) 4129 &&& BitVec.ofInt (IntKind.bits .u16) (IntKind.wrap .u16 (0 - (Int.fdiv (v : Int) (2 ^ 15))))).toNat)).toNat = ((c1 v : Nat) : Int) := by
  have e0 : Int.fdiv (v : Int) (2 ^ 15) = ((v / 32768 : Nat) : Int) := shr_nat v 15
  have e1 : IntKind.wrap .u16 ((v : Int) * 2 ^ 1) = ((2 * v % 65536 : Nat) : Int) := by rw [wu16, show (2 : Int) ^ 1 = 2 from rfl]; omega
  have e4 : (4129 : Int) = ((4129 : Nat) : Int) := rfl
  rw [e0, e1, e4]
  unfold c1
  by_cases hv : v < 32768
  · have e2 : IntKind.wrap .u16 (0 - ((v / 32768 : Nat) : Int)) = ((0 : Nat) : Int) := by rw [wu16]; omega
    rw [e2, an16 (by decide) (by decide), xr16 (by omega) (by decide), if_pos hv]
    simp
    omega
  · have e2 : IntKind.wrap .u16 (0 - ((v / 32768 : Nat) : Int)) = ((65535 : Nat) : Int) := by rw [wu16]; omega
    rw [e2, an16 (by decide) (by decide), xr16 (by omega) (by decide), if_neg hv, show 2 * v % 65536 = 2 * v - 65536 by omega]
    rfl
theorem sum7 {N v : Nat} (hv : v < 65536) (hN : 8 < N) {t : List Int} {t14 t15 : Int} {again3 : _ → Option ((Int × Unit) × Unit)} {Q : _ → Prop}
    (h : Ev (again3 ((((c8 8 v : Nat) : Int), (), t14, IntKind.wrap .i64 (t15 + 1), ()), t, ())) Q) : Ev (loopN N (Sum_32_L7 N again3) (((v : Int), (), t14, t15, 0, ()), t, ())) Q := by
  refine Ev.loop (k := 8) (fun k st => ∃ i : Nat, st = ((((c8 i v : Nat) : Int), (), t14, t15, (i : Int), ()), t, ()) ∧ k = 8 - i ∧ i ≤ 8) ?_ ⟨0, rfl, rfl, by omega⟩ hN
  rintro k st again ⟨i, rfl, hk, hi⟩ ih
  unfold Sum_32_L7
  refine Ev.dec (fun h1 => ?_) fun h1 => ?_
  · rw [turn16 (c8_lt hv i)]
    have e1 : IntKind.wrap .i64 ((i : Int) + 1) = ((i + 1 : Nat) : Int) := by rw [w64 (by omega) (by omega)]; omega
    rw [e1]
    exact ih (8 - (i + 1)) _ (by omega) ⟨i + 1, rfl, rfl, by omega⟩
  · have : i = 8 := by omega
    subst this
    exact h
theorem ofB_len (s : ByteArray) : (ofBytes s).length = s.size := by unfold ofBytes; rw [List.length_map]; rfl
theorem ofB_at {s : ByteArray} {i : Nat} (h : i < s.size) : (ofBytes s).getD i 0 = (((s.data.toList.getD i 0).toNat : Nat) : Int) := by
  have h' : i < s.data.toList.length := h
  unfold ofBytes
  rw [List.getD_eq_getElem?_getD, List.getElem?_map, List.getElem?_eq_getElem h', List.getD_eq_getElem?_getD, List.getElem?_eq_getElem h']
  rfl
abbrev sumV (l : List UInt8) : Nat := cL l 65535
theorem sumV_lt (l : List UInt8) : sumV l < 65536 := cL_lt _ (by decide)
theorem sum_at {s : ByteArray} {N : Nat} (hs : s.size < 140737488355328) (hN : s.size + 10 < N) : Ev (Sum_32 N ((s, ()), ())) fun y => y = ((((sumV s.data.toList : Nat) : Int), ()), ()) := by
  have hsl := size_len s
  unfold Sum_32
  dsimp only
  rw [if_pos (by omega), ofB_len]
  refine Ev.loop (k := s.size) (fun k st => ∃ i : Nat, st = ((((cL (s.data.toList.take i) 65535 : Nat) : Int), (), (s.size : Int), (i : Int), ()), ofBytes s, ()) ∧ k = s.size - i ∧ i ≤ s.size) ?_ ⟨0, rfl, rfl, by omega⟩ (by omega)
  rintro k st again ⟨i, rfl, hk, hi⟩ ih
  unfold Sum_32_L3
  refine Ev.dec (fun h1 => ?_) fun h1 => ?_
  · have hi' : i < s.size := by omega
    have ts := take_succ_getD (l := s.data.toList) (i := i) (d := 0) (by omega)
    have hb := byte_lt (s.data.toList.getD i 0)
    rw [ofB_len, if_pos (by omega), Int.toNat_natCast, ofB_at hi']
    have hv := cL_lt (s.data.toList.take i) (v := 65535) (by decide)
    have hcb : cL (s.data.toList.take (i + 1)) 65535 = c8 8 (cL (s.data.toList.take i) 65535 ^^^ ((s.data.toList.getD i 0).toNat * 256)) := by
      rw [ts, cL_append, cL_cons, cL_nil, cb]
    have hnext := fun (k' : Nat) => ih k' ((((cL (s.data.toList.take (i + 1)) 65535 : Nat) : Int), (), (s.size : Int), ((i + 1 : Nat) : Int), ()), ofBytes s, ())
    rw [hcb] at hnext
    obtain ⟨v, ev⟩ : ∃ v, cL (s.data.toList.take i) 65535 = v := ⟨_, rfl⟩
    obtain ⟨b, eb⟩ : ∃ b, s.data.toList.getD i 0 = b := ⟨_, rfl⟩
    rw [ev] at hv
    rw [eb] at hb
    rw [ev, eb] at hnext hcb
    rw [ev, eb]
    have e1 : IntKind.wrap .u16 ((IntKind.wrap .u16 ((b.toNat : Nat) : Int)) * 2 ^ 8) = ((b.toNat * 256 : Nat) : Int) := by
      rw [wu16, wu16, show (2 : Int) ^ 8 = 256 from rfl]; omega
    rw [e1, xr16 hv (by omega)]
    refine sum7 (x16 hv (by omega)) (by omega) ?_
    have e2 : IntKind.wrap .i64 ((i : Int) + 1) = ((i + 1 : Nat) : Int) := by rw [w64 (by omega) (by omega)]; omega
    rw [e2]
    exact hnext (s.size - (i + 1)) (by omega) ⟨i + 1, by rw [hcb], rfl, by omega⟩
  · have : i = s.size := by omega
    rw [List.take_of_length_le (by omega)]
    exact Ev.mk rfl
def tailB (l : List UInt8) : List UInt8 := [UInt8.ofNat (sumV l / 256), UInt8.ofNat (sumV l % 256)]
theorem tail_bytes (l : List UInt8) : bytesOf [IntKind.wrap .u8 (Int.fdiv ((sumV l : Nat) : Int) (2 ^ 8)), IntKind.wrap .u8 ((sumV l : Nat) : Int)] = ⟨(tailB l).toArray⟩ := by
  have h := sumV_lt l
  have e0 : Int.fdiv ((sumV l : Nat) : Int) (2 ^ 8) = ((sumV l / 256 : Nat) : Int) := shr_nat _ 8
  have e1 : IntKind.wrap .u8 ((sumV l / 256 : Nat) : Int) = ((sumV l / 256 : Nat) : Int) := wu8 (by omega)
  have e2 : IntKind.wrap .u8 ((sumV l : Nat) : Int) = ((sumV l % 256 : Nat) : Int) := by
    simp [IntKind.wrap, IntKind.bits, IntKind.signed]
  rw [e0, e1, e2]
  rfl
/-- A sealed text. -/
def sealB (s : ByteArray) : ByteArray := s ++ ⟨(tailB s.data.toList).toArray⟩
theorem sealB_list (s : ByteArray) : (sealB s).data.toList = s.data.toList ++ tailB s.data.toList := by
  unfold sealB
  simp
theorem seal_at {s : ByteArray} {N : Nat} (hs : s.size ≤ 100000) (hN : s.size + 10 < N) : Ev (Seal_18 N ((s, ()), ())) fun y => y = ((sealB s, 0, ()), ()) := by
  unfold Seal_18
  dsimp only
  rw [byB_not, byB_t (by omega)]
  refine Ev.bind (sum_at (by omega) hN) ?_
  rintro y rfl
  dsimp only
  rw [tail_bytes]
  have : (⟨(tailB s.data.toList).toArray⟩ : ByteArray).size = 2 := rfl
  rw [if_pos (by omega)]
  exact Ev.mk rfl
theorem seal_long {s : ByteArray} {N : Nat} (hs : ¬ s.size ≤ 100000) : Seal_18 N ((s, ()), ()) = some ((⟨#[]⟩, 7, ()), ()) := by
  unfold Seal_18
  dsimp only
  rw [byB_not, byB_f (by omega)]
theorem seal_sum (l : List UInt8) : sumV (l ++ tailB l) = 0 := by
  have h := sumV_lt l
  unfold tailB sumV at *
  rw [cL_append, cL_two (cL_lt _ (by decide))]
  rw [byte_of (by omega), byte_of (by omega)]
  omega
theorem ext_list {s t : ByteArray} (h : s.data.toList = t.data.toList) : s = t := by
  cases s; cases t
  simp at h
  simp [h]
theorem two_last {l : List UInt8} (h : 2 ≤ l.length) : l = l.take (l.length - 2) ++ [l.getD (l.length - 2) 0, l.getD (l.length - 1) 0] := by
  have e1 := drop_getD (l := l) (i := l.length - 2) (d := 0) (by omega)
  have e2 := drop_getD (l := l) (i := l.length - 1) (d := 0) (by omega)
  rw [show l.length - 2 + 1 = l.length - 1 by omega, e2, show l.length - 1 + 1 = l.length by omega, List.drop_length] at e1
  rw [← e1, List.take_append_drop]
theorem sealB_size (x : ByteArray) : (sealB x).size = x.size + 2 := by
  rw [size_len, sealB_list, List.length_append, ← size_len]
  rfl
theorem sealB_inj {x y : ByteArray} (h : sealB x = sealB y) : x = y := by
  have h1 := congrArg (fun s : ByteArray => s.data.toList) h
  simp only [sealB_list] at h1
  have h2 := congrArg ByteArray.size h
  rw [sealB_size, sealB_size] at h2
  have h3 := (List.append_inj h1 (by rw [← size_len, ← size_len]; omega)).1
  exact ext_list h3
/-- What Open tells, to the letter. -/
def openD (s : ByteArray) : ByteArray × Int :=
  if s.size < 2 then (⟨#[]⟩, 6) else if 100000 < s.size - 2 then (⟨#[]⟩, 7) else if sumV s.data.toList = 0 then (s.extract 0 (s.size - 2), 0) else (⟨#[]⟩, 9)
theorem openD_short {s : ByteArray} (h : s.size < 2) : openD s = (⟨#[]⟩, 6) := by unfold openD; rw [if_pos h]
theorem openD_long {s : ByteArray} (h : 100002 < s.size) : openD s = (⟨#[]⟩, 7) := by unfold openD; rw [if_neg (by omega), if_pos (by omega)]
theorem openD_good {s : ByteArray} (h0 : 2 ≤ s.size) (h1 : s.size ≤ 100002) (h : sumV s.data.toList = 0) : openD s = (s.extract 0 (s.size - 2), 0) := by unfold openD; rw [if_neg (by omega), if_neg (by omega), if_pos h]
theorem openD_bad {s : ByteArray} (h0 : 2 ≤ s.size) (h1 : s.size ≤ 100002) (h : ¬ sumV s.data.toList = 0) : openD s = (⟨#[]⟩, 9) := by unfold openD; rw [if_neg (by omega), if_neg (by omega), if_neg h]
theorem openD_size (s : ByteArray) : (openD s).1.size ≤ 100000 := by
  unfold openD
  split
  · exact Nat.zero_le _
  · split
    · exact Nat.zero_le _
    · split
      · rw [size_len, ByteArray.data_extract]
        simp [List.extract]
        omega
      · exact Nat.zero_le _
theorem open_at {s : ByteArray} {N : Nat} (hs : s.size < 140737488355328) (hN : s.size + 10 < N) : Ev (Open_15 N ((s, ()), ())) fun y => y = (((openD s).1, (openD s).2, ()), ()) := by
  have hsl := size_len s
  unfold Open_15
  dsimp only
  rw [w64 (by omega) (by omega)]
  refine Ev.dec (fun h => Ev.mk ?_) fun h => ?_
  · rw [openD_short (by omega)]
  rw [byB_not]
  refine Ev.dec (fun h2 => ?_) fun h2 => Ev.mk ?_
  · skip
    refine Ev.bind (sum_at hs hN) ?_
    rintro y rfl
    dsimp only
    refine Ev.bne (fun h3 => Ev.mk ?_) fun h3 => ?_
    · rw [openD_bad (by omega) (by omega) (by omega)]
    · rw [if_pos ⟨by omega, by omega, by omega⟩, openD_good (by omega) (by omega) (by omega)]
      have e : ((s.size : Int) - 2).toNat = s.size - 2 := by omega
      rw [e]
      exact Ev.mk rfl
  · rw [openD_long (by omega)]
end Go.Proofs.YtcdnofemnpafhaaC
