/- What Sum, Seal and Open tell, by their texts, where a row of bytes is the call's own. Conditions: bounds on lengths. -/
import Derived.Test.YtecefkenfpbfkaaX1
import Derived.Test.YtecefkenfpbfkaaXN
import Derived.Test.YtecefkenfpbfkaaXC
namespace Go.Proofs.YtecefkenfpbfkaaC
open Go Go.Proofs.YtecefkenfpbfkaaM Go.Proofs.YtecefkenfpbfkaaX Go.Proofs.YtecefkenfpbfkaaL
set_option linter.unusedVariables false
set_option linter.unusedSimpArgs false
theorem size_len (s : ByteArray) : s.size = s.data.toList.length := rfl
theorem byte_of {n : Nat} (h : n < 256) : (UInt8.ofNat n).toNat = n := by
  simp
  omega
theorem wu8 {n : Nat} (h : n < 256) : IntKind.wrap .u8 (n : Int) = (n : Int) := by
  simp [IntKind.wrap, IntKind.bits, IntKind.signed]
  omega
theorem wu16 (n : Int) : IntKind.wrap .u16 n = n % 65536 := by simp [IntKind.wrap, IntKind.bits, IntKind.signed]
theorem bv16 {a : Nat} (h : a < 65536) : (BitVec.ofInt (IntKind.bits .u16) (a : Int)).toNat = a := by
  simp only [IntKind.bits, BitVec.ofInt_natCast, BitVec.toNat_ofNat]
  exact Nat.mod_eq_of_lt (by omega)
theorem xr16 {a b : Nat} (ha : a < 65536) (hb : b < 65536) : IntKind.wrap .u16 (BitVec.ofInt (IntKind.bits .u16) (a : Int) ^^^ BitVec.ofInt (IntKind.bits .u16) (b : Int)).toNat = ((a ^^^ b : Nat) : Int) := by
  rw [BitVec.toNat_xor, bv16 ha, bv16 hb, wu16]
  have := x16 ha hb
  omega
theorem an16 {a b : Nat} (ha : a < 65536) (hb : b < 65536) : IntKind.wrap .u16 (BitVec.ofInt (IntKind.bits .u16) (a : Int) &&& BitVec.ofInt (IntKind.bits .u16) (b : Int)).toNat = ((a &&& b : Nat) : Int) := by
  rw [BitVec.toNat_and, bv16 ha, bv16 hb, wu16]
  have : a &&& b < 65536 := Nat.lt_of_le_of_lt Nat.and_le_right hb
  omega
theorem turn16 {v : Nat} (h : v < 65536) : IntKind.wrap .u16 (BitVec.ofInt (IntKind.bits .u16) (IntKind.wrap .u16 ((v : Int) * 2 ^ 1)) ^^^ BitVec.ofInt (IntKind.bits .u16) (IntKind.wrap .u16 (BitVec.ofInt (IntKind.bits .u16) 4129 &&& BitVec.ofInt (IntKind.bits .u16) (IntKind.wrap .u16 (0 - (Int.fdiv (v : Int) (2 ^ 15))))).toNat)).toNat = ((c1 v : Nat) : Int) := by
  have e0 : Int.fdiv (v : Int) (2 ^ 15) = ((v / 32768 : Nat) : Int) := shr_nat v 15
  have e1 : IntKind.wrap .u16 ((v : Int) * 2 ^ 1) = ((2 * v % 65536 : Nat) : Int) := by rw [wu16, show (2 : Int) ^ 1 = 2 from rfl]; omega
  have e4 : (4129 : Int) = ((4129 : Nat) : Int) := rfl
  rw [e0, e1, e4]
  unfold c1
  by_cases hv : v < 32768
  · have e2 : IntKind.wrap .u16 (0 - ((v / 32768 : Nat) : Int)) = ((0 : Nat) : Int) := by rw [wu16]; omega
    rw [e2, an16 (by decide) (by decide), xr16 (by omega) (by decide), if_pos hv]
    simp
    omega
  · have e2 : IntKind.wrap .u16 (0 - ((v / 32768 : Nat) : Int)) = ((65535 : Nat) : Int) := by rw [wu16]; omega
    rw [e2, an16 (by decide) (by decide), xr16 (by omega) (by decide), if_neg hv, show 2 * v % 65536 = 2 * v - 65536 by omega]
    rfl
theorem sum7 {N v : Nat} (hv : v < 65536) (hN : 8 < N) {t : List Int} {t14 t15 : Int} {again3 : _ → Option ((Int × Unit) × Unit)} {Q : _ → Prop}
    (h : Ev (again3 ((((c8 8 v : Nat) : Int), (), t14, IntKind.wrap .i64 (t15 + 1), ()), t, ())) Q) : Ev (loopN N (Sum_16_L7 N again3) (((v : Int), (), t14, t15, 0, ()), t, ())) Q := by
  refine Ev.loop (k := 8) (fun k st => ∃ i : Nat, st = ((((c8 i v : Nat) : Int), (), t14, t15, (i : Int), ()), t, ()) ∧ k = 8 - i ∧ i ≤ 8) ?_ ⟨0, rfl, rfl, by omega⟩ hN
  rintro k st again ⟨i, rfl, hk, hi⟩ ih
  unfold Sum_16_L7
  refine Ev.dec (fun h1 => ?_) fun h1 => ?_
  · rw [turn16 (c8_lt hv i)]
    have e1 : IntKind.wrap .i64 ((i : Int) + 1) = ((i + 1 : Nat) : Int) := by rw [w64 (by omega) (by omega)]; omega
    rw [e1]
    exact ih (8 - (i + 1)) _ (by omega) ⟨i + 1, rfl, rfl, by omega⟩
  · have : i = 8 := by omega
    subst this
    exact h
theorem ofB_len (s : ByteArray) : (ofBytes s).length = s.size := by unfold ofBytes; rw [List.length_map]; rfl
theorem ofB_at {s : ByteArray} {i : Nat} (h : i < s.size) : (ofBytes s).getD i 0 = (((s.data.toList.getD i 0).toNat : Nat) : Int) := by
  have h' : i < s.data.toList.length := h
  unfold ofBytes
  rw [List.getD_eq_getElem?_getD, List.getElem?_map, List.getElem?_eq_getElem h', List.getD_eq_getElem?_getD, List.getElem?_eq_getElem h']
  rfl
abbrev sumV (l : List UInt8) : Nat := cL l 65535
theorem sumV_lt (l : List UInt8) : sumV l < 65536 := cL_lt _ (by decide)
theorem sum_at {s : ByteArray} {N : Nat} (hs : s.size < 140737488355328) (hN : s.size + 10 < N) : Ev (Sum_16 N ((s, ()), ())) fun y => y = ((((sumV s.data.toList : Nat) : Int), ()), ()) := by
  have hsl := size_len s
  unfold Sum_16
  dsimp only
  rw [if_pos (by omega), ofB_len]
  refine Ev.loop (k := s.size) (fun k st => ∃ i : Nat, st = ((((cL (s.data.toList.take i) 65535 : Nat) : Int), (), (s.size : Int), (i : Int), ()), ofBytes s, ()) ∧ k = s.size - i ∧ i ≤ s.size) ?_ ⟨0, rfl, rfl, by omega⟩ (by omega)
  rintro k st again ⟨i, rfl, hk, hi⟩ ih
  unfold Sum_16_L3
  refine Ev.dec (fun h1 => ?_) fun h1 => ?_
  · have hi' : i < s.size := by omega
    have ts := take_succ_getD (l := s.data.toList) (i := i) (d := 0) (by omega)
    have hb := byte_lt (s.data.toList.getD i 0)
    rw [ofB_len, if_pos (by omega), Int.toNat_natCast, ofB_at hi']
    have hv := cL_lt (s.data.toList.take i) (v := 65535) (by decide)
    have hcb : cL (s.data.toList.take (i + 1)) 65535 = c8 8 (cL (s.data.toList.take i) 65535 ^^^ ((s.data.toList.getD i 0).toNat * 256)) := by
      rw [ts, cL_append, cL_cons, cL_nil, cb]
    have hnext := fun (k' : Nat) => ih k' ((((cL (s.data.toList.take (i + 1)) 65535 : Nat) : Int), (), (s.size : Int), ((i + 1 : Nat) : Int), ()), ofBytes s, ())
    rw [hcb] at hnext
    obtain ⟨v, ev⟩ : ∃ v, cL (s.data.toList.take i) 65535 = v := ⟨_, rfl⟩
    obtain ⟨b, eb⟩ : ∃ b, s.data.toList.getD i 0 = b := ⟨_, rfl⟩
    rw [ev] at hv
    rw [eb] at hb
    rw [ev, eb] at hnext hcb
    rw [ev, eb]
    have e1 : IntKind.wrap .u16 ((IntKind.wrap .u16 ((b.toNat : Nat) : Int)) * 2 ^ 8) = ((b.toNat * 256 : Nat) : Int) := by
      rw [wu16, wu16, show (2 : Int) ^ 8 = 256 from rfl]; omega
    rw [e1, xr16 hv (by omega)]
    refine sum7 (x16 hv (by omega)) (by omega) ?_
    have e2 : IntKind.wrap .i64 ((i : Int) + 1) = ((i + 1 : Nat) : Int) := by rw [w64 (by omega) (by omega)]; omega
    rw [e2]
    exact hnext (s.size - (i + 1)) (by omega) ⟨i + 1, by rw [hcb], rfl, by omega⟩
  · have : i = s.size := by omega
    rw [List.take_of_length_le (by omega)]
    exact Ev.mk rfl
def tailB (l : List UInt8) : List UInt8 := [UInt8.ofNat (sumV l / 256), UInt8.ofNat (sumV l % 256)]
theorem tail_bytes (l : List UInt8) : bytesOf [IntKind.wrap .u8 (Int.fdiv ((sumV l : Nat) : Int) (2 ^ 8)), IntKind.wrap .u8 ((sumV l : Nat) : Int)] = ⟨(tailB l).toArray⟩ := by
  have h := sumV_lt l
  have e0 : Int.fdiv ((sumV l : Nat) : Int) (2 ^ 8) = ((sumV l / 256 : Nat) : Int) := shr_nat _ 8
  have e1 : IntKind.wrap .u8 ((sumV l / 256 : Nat) : Int) = ((sumV l / 256 : Nat) : Int) := wu8 (by omega)
  have e2 : IntKind.wrap .u8 ((sumV l : Nat) : Int) = ((sumV l % 256 : Nat) : Int) := by
    simp [IntKind.wrap, IntKind.bits, IntKind.signed]
  rw [e0, e1, e2]
  rfl
/-- A sealed text. -/
def sealB (s : ByteArray) : ByteArray := s ++ ⟨(tailB s.data.toList).toArray⟩
theorem sealB_list (s : ByteArray) : (sealB s).data.toList = s.data.toList ++ tailB s.data.toList := by
  unfold sealB
  simp
theorem seal_at {s : ByteArray} {N : Nat} (hs : s.size ≤ 100000) (hN : s.size + 10 < N) : Ev (Seal_17 N ((s, ()), ())) fun y => y = ((sealB s, 0, ()), ()) := by
  unfold Seal_17
  dsimp only
  rw [byB_not, byB_t (by omega)]
  refine Ev.bind (sum_at (by omega) hN) ?_
  rintro y rfl
  dsimp only
  rw [tail_bytes]
  have : (⟨(tailB s.data.toList).toArray⟩ : ByteArray).size = 2 := rfl
  rw [if_pos (by omega)]
  exact Ev.mk rfl
theorem seal_long {s : ByteArray} {N : Nat} (hs : ¬ s.size ≤ 100000) : Seal_17 N ((s, ()), ()) = some ((⟨#[]⟩, 7, ()), ()) := by
  unfold Seal_17
  dsimp only
  rw [byB_not, byB_f (by omega)]
theorem seal_sum (l : List UInt8) : sumV (l ++ tailB l) = 0 := by
  have h := sumV_lt l
  unfold tailB sumV at *
  rw [cL_append, cL_two (cL_lt _ (by decide))]
  rw [byte_of (by omega), byte_of (by omega)]
  omega
theorem sealB_size (x : ByteArray) : (sealB x).size = x.size + 2 := by
  rw [size_len, sealB_list, List.length_append, ← size_len]
  rfl
theorem open_sum {s : ByteArray} {N : Nat} (h2 : 2 ≤ s.size) (hs : s.size ≤ 100002) (hN : s.size + 10 < N) (h : sumV s.data.toList ≠ 0) : Ev (Open_19 N ((s, ()), ())) fun y => y = ((⟨#[]⟩, 9, ()), ()) := by
  unfold Open_19
  dsimp only
  rw [w64 (by omega) (by omega), byB_f (by omega), byB_not, byB_t (by omega)]
  refine Ev.bind (sum_at (by omega) hN) ?_
  rintro y rfl
  dsimp only
  rw [byB_net (by omega)]
  exact Ev.mk rfl
theorem set_bytes {s : ByteArray} {i z : Nat} (hi : i < s.size) (hz : z < 256) : (bytesOf ((ofBytes s).set i (z : Int))).data.toList = s.data.toList.take i ++ UInt8.ofNat z :: s.data.toList.drop (i + 1) := by
  have hl : i < s.data.toList.length := hi
  have e : ((ofBytes s).set i (z : Int)).map (fun n => UInt8.ofNat n.toNat) = s.data.toList.set i (UInt8.ofNat z) := by
    rw [List.map_set]
    congr 1
    unfold ofBytes
    rw [List.map_map]
    have : ((fun n : Int => UInt8.ofNat n.toNat) ∘ fun b : UInt8 => ((b.toNat : Nat) : Int)) = id := by
      funext b
      simp
    rw [this, List.map_id]
  show (((ofBytes s).set i (z : Int)).map (fun n => UInt8.ofNat n.toNat)) = _
  rw [e, List.set_eq_take_append_cons_drop, if_pos hl]
theorem xor8 {a b : Nat} (ha : a < 256) (hb : b < 256) : IntKind.wrap .u8 (BitVec.ofInt (IntKind.bits .u8) (a : Int) ^^^ BitVec.ofInt (IntKind.bits .u8) (b : Int)).toNat = ((a ^^^ b : Nat) : Int) := by
  have e : ∀ n : Nat, n < 256 → (BitVec.ofInt (IntKind.bits .u8) (n : Int)).toNat = n := fun n h => by
    simp only [IntKind.bits, BitVec.ofInt_natCast, BitVec.toNat_ofNat]
    exact Nat.mod_eq_of_lt (by omega)
  rw [BitVec.toNat_xor, e a ha, e b hb]
  exact wu8 (Nat.xor_lt_two_pow (n := 8) ha hb)
/-- One bit turned makes another sum. -/
theorem turned_sum {x : ByteArray} {i k : Nat} (hi : i < (sealB x).size) (hk : k < 8) :
    sumV (bytesOf ((ofBytes (sealB x)).set i ((((sealB x).data.toList.getD i 0).toNat ^^^ 2 ^ k : Nat) : Int))).data.toList ≠ 0 := by
  have hb := byte_lt ((sealB x).data.toList.getD i 0)
  have hp : (2 : Nat) ^ k < 2 ^ 8 := Nat.pow_lt_pow_right (by decide) hk
  have hx : ((sealB x).data.toList.getD i 0).toNat ^^^ 2 ^ k < 256 := Nat.xor_lt_two_pow (n := 8) hb hp
  rw [set_bytes hi hx]
  intro h
  have hl : i < (sealB x).data.toList.length := hi
  have e0 : (sealB x).data.toList = (sealB x).data.toList.take i ++ (sealB x).data.toList.getD i 0 :: (sealB x).data.toList.drop (i + 1) := by
    rw [← drop_getD hl, List.take_append_drop]
  have h0 : sumV (sealB x).data.toList = 0 := by rw [sealB_list]; exact seal_sum _
  generalize (sealB x).data.toList.getD i 0 = b at *
  rw [e0] at h0
  have hcb := cL_byte ((sealB x).data.toList.take i) ((sealB x).data.toList.drop (i + 1)) (v := 65535) (by decide) (UInt8.ofNat (b.toNat ^^^ 2 ^ k)) b (h.trans h0.symm)
  have h1 := congrArg UInt8.toNat hcb
  rw [byte_of hx] at h1
  have h2 : b.toNat ^^^ (b.toNat ^^^ 2 ^ k) = b.toNat ^^^ b.toNat := by rw [h1]
  rw [← Nat.xor_assoc, Nat.xor_self, Nat.zero_xor] at h2
  have := Nat.two_pow_pos k
  omega
end Go.Proofs.YtecefkenfpbfkaaC
