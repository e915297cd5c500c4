/- What numbers, Encode and Same tell. Conditions: as each theorem states them. -/
import Derived.Test.YtcdnofemnpafhaaXS
namespace Go.Proofs.YtcdnofemnpafhaaC
open Go Go.Proofs.YtcdnofemnpafhaaM Go.Proofs.YtcdnofemnpafhaaX Go.Proofs.YtcdnofemnpafhaaL
set_option linter.unusedVariables false
set_option linter.unusedSimpArgs false

abbrev Sec := Int × Int × Int
abbrev Tk := Int × Int × Int × List Sec
abbrev Sy := Int × Int × Int × Int × Int × Int × Int × Int × List Tk
abbrev aS (s : Sy) : Int × (Int × (Int × (Int × (Int × (Int × (Int × (Int × (List Tk × Unit)))))))) := (s.1, s.2.1, s.2.2.1, s.2.2.2.1, s.2.2.2.2.1, s.2.2.2.2.2.1, s.2.2.2.2.2.2.1, s.2.2.2.2.2.2.2.1, s.2.2.2.2.2.2.2.2, ())
abbrev tksOf (s : Sy) : List Tk := s.2.2.2.2.2.2.2.2
def secN (x : Sec) : List Int := [x.1, x.2.1, x.2.2]
def taskN (t : Tk) : List Int := [t.1, t.2.1, t.2.2.1, (t.2.2.2.length : Int)] ++ t.2.2.2.flatMap secN
def headN (s : Sy) : List Int := [1, s.1, s.2.1, s.2.2.1, s.2.2.2.1, s.2.2.2.2.1, s.2.2.2.2.2.1, s.2.2.2.2.2.2.1, s.2.2.2.2.2.2.2.1, ((tksOf s).length : Int)]
def nums (s : Sy) : List Int := headN s ++ (tksOf s).flatMap taskN
def goodS (s : Sy) : Prop := (tksOf s).length ≤ 24 ∧ ∀ t ∈ tksOf s, t.2.2.2.length ≤ 4

theorem secs_len : ∀ l : List Sec, (l.flatMap secN).length = 3 * l.length
  | [] => rfl
  | x :: l => by
    rw [List.flatMap_cons, List.length_append, secs_len l, List.length_cons]
    show 3 + _ = _
    omega
theorem taskN_len (t : Tk) : (taskN t).length = 4 + 3 * t.2.2.2.length := by
  unfold taskN
  rw [List.length_append, secs_len]
  rfl
theorem tasks_len : ∀ l : List Tk, (∀ t ∈ l, t.2.2.2.length ≤ 4) → (l.flatMap taskN).length ≤ 16 * l.length
  | [], _ => by simp
  | x :: l, h => by
    have h1 := tasks_len l fun t ht => h t (List.mem_cons_of_mem _ ht)
    have h2 := h x List.mem_cons_self
    rw [List.flatMap_cons, List.length_append, taskN_len, List.length_cons]
    omega
theorem nums_len {s : Sy} (h : goodS s) : (nums s).length ≤ 394 := by
  unfold nums
  rw [List.length_append]
  have h1 := tasks_len _ h.2
  have h2 := h.1
  show 10 + _ ≤ _
  omega

/-- One task's sections, written. -/
theorem n7 {N : Nat} {tk : List Tk} {n i : Int} {l : List Sec} {out : List Int} {again3 : _ → Option ((Unit × Unit) × (List Int × Unit))} {Q : _ → Prop} (hl : l.length ≤ 4) (hN : 4 < N) (ho : out.length ≤ 100000)
    (h : Ev (again3 (((), tk, n, IntKind.wrap .i64 (i + 1), ()), out ++ l.flatMap secN, ())) Q) :
    Ev (loopN N (numbers_21_L7 N again3) (((), tk, n, i, l, (l.length : Int), 0, ()), out, ())) Q := by
  refine Ev.loop (k := l.length) (fun k st => ∃ q : Nat, st = (((), tk, n, i, l, (l.length : Int), (q : Int), ()), out ++ (l.take q).flatMap secN, ()) ∧ k = l.length - q ∧ q ≤ l.length) ?_ ⟨0, by simp, rfl, by omega⟩ (by omega)
  rintro k st again ⟨q, rfl, hk, hq⟩ ih
  unfold numbers_21_L7
  refine Ev.dec (fun h1 => ?_) fun h1 => ?_
  · have hq' : q < l.length := by omega
    have ts := take_succ_getD (l := l) (i := q) (d := (0, 0, 0)) hq'
    have hsl := secs_len (l.take q)
    rw [List.length_take] at hsl
    rw [if_pos (by omega), Int.toNat_natCast]
    dsimp only
    rw [if_pos (by rw [List.length_append]; omega)]
    have e1 : IntKind.wrap .i64 ((q : Int) + 1) = ((q + 1 : Nat) : Int) := by rw [w64 (by omega) (by omega)]; omega
    rw [e1]
    refine ih (l.length - (q + 1)) _ (by omega) ⟨q + 1, ?_, rfl, by omega⟩
    rw [ts, List.flatMap_append, List.flatMap_singleton, List.append_assoc]
    rfl
  · rw [List.take_of_length_le (by omega)]
    exact h
theorem numbers_at {N : Nat} (hN : 100 < N) {s : Sy} (hg : goodS s) : Ev (numbers_21 N ((aS s, ()), ())) fun y => y = (((), ()), nums s, ()) := by
  unfold numbers_21
  dsimp only
  have h1 := hg.1
  refine Ev.loop (k := (tksOf s).length) (fun k st => ∃ i : Nat, st = (((), tksOf s, ((tksOf s).length : Int), (i : Int), ()), headN s ++ ((tksOf s).take i).flatMap taskN, ()) ∧ k = (tksOf s).length - i ∧ i ≤ (tksOf s).length) ?_ ⟨0, by simp [headN], rfl, by omega⟩ (by omega)
  rintro k st again ⟨i, rfl, hk, hi⟩ ih
  unfold numbers_21_L3
  refine Ev.dec (fun h => ?_) fun h => ?_
  · have hi' : i < (tksOf s).length := by omega
    have ts := take_succ_getD (l := tksOf s) (i := i) (d := (0, 0, 0, [])) hi'
    have hm := getD_mem (d := ((0, 0, 0, []) : Tk)) hi'
    have ht := hg.2 _ hm
    have hlen := tasks_len ((tksOf s).take i) fun t ht => hg.2 t (List.mem_of_mem_take ht)
    rw [List.length_take] at hlen
    rw [if_pos (by omega), Int.toNat_natCast]
    dsimp only
    generalize (tksOf s).getD i (0, 0, 0, []) = t at *
    have hh : (headN s).length = 10 := rfl
    rw [if_pos (by rw [List.length_append]; omega)]
    refine n7 ht (by omega) (by simp only [List.length_append, hh, List.length_cons, List.length_nil]; omega) ?_
    have e1 : IntKind.wrap .i64 ((i : Int) + 1) = ((i + 1 : Nat) : Int) := by rw [w64 (by omega) (by omega)]; omega
    rw [e1]
    refine ih ((tksOf s).length - (i + 1)) _ (by omega) ⟨i + 1, ?_, rfl, by omega⟩
    rw [ts, List.flatMap_append, List.flatMap_singleton]
    simp only [taskN, List.append_assoc]
  · rw [List.take_of_length_le (by omega)]
    exact Ev.mk rfl

theorem long_at {N : Nat} (hN : 100 < N) {l : List Tk} (hl : l.length ≤ 24) : Ev (Task_20 N ((l, (), ()), ())) fun y => y = ((!decide (∀ t ∈ l, t.2.2.2.length ≤ 4), ()), ()) := by
  unfold Task_20
  dsimp only
  have key : Ev (Task_34 N ((l, (), ()), ())) fun y => ∃ n : Int, y = ((n, ()), ()) ∧ (n < 0 ↔ ∀ t ∈ l, t.2.2.2.length ≤ 4) := by
    unfold Task_34
    dsimp only
    refine Ev.loop (k := l.length) (fun k st => ∃ i : Nat, st = ((l, (), (l.length : Int), (i : Int), ()), ()) ∧ k = l.length - i ∧ i ≤ l.length ∧ ∀ t ∈ l.take i, t.2.2.2.length ≤ 4) ?_ ⟨0, rfl, rfl, by omega, by simp⟩ (by omega)
    rintro k st again ⟨i, rfl, hk, hi, ha⟩ ih
    unfold Task_34_L2
    refine Ev.dec (fun h => ?_) fun h => ?_
    · have hi' : i < l.length := by omega
      have ts := take_succ_getD (l := l) (i := i) (d := (0, 0, 0, [])) hi'
      have hm := getD_mem (d := ((0, 0, 0, []) : Tk)) hi'
      rw [if_pos (by omega), Int.toNat_natCast]
      dsimp only
      generalize l.getD i (0, 0, 0, []) = t at *
      unfold Encode1_19
      dsimp only
      rw [bnd]
      dsimp only
      rw [byB_not]
      refine Ev.dec (fun h1 => ?_) fun h1 => Ev.mk ⟨_, rfl, ⟨fun h2 => by omega, fun h2 => by have := h2 t hm; omega⟩⟩
      have e1 : IntKind.wrap .i64 ((i : Int) + 1) = ((i + 1 : Nat) : Int) := by rw [w64 (by omega) (by omega)]; omega
      rw [e1]
      refine ih (l.length - (i + 1)) _ (by omega) ⟨i + 1, rfl, rfl, by omega, fun x hx => ?_⟩
      rw [ts, List.mem_append, List.mem_singleton] at hx
      rcases hx with hx | rfl
      · exact ha x hx
      · omega
    · rw [List.take_of_length_le (by omega)] at ha
      exact Ev.mk ⟨-1, rfl, ⟨fun _ => ha, fun _ => by decide⟩⟩
  refine Ev.bind key ?_
  rintro y ⟨n, rfl, hn⟩
  refine Ev.mk ?_
  by_cases h : n < 0
  · rw [decide_eq_true h, decide_eq_true (hn.1 h)]
  · rw [decide_eq_false h, decide_eq_false fun h2 => h (hn.2 h2)]
theorem encL_le (l : List Int) (h : okL l) : (encL l).length ≤ 10 * l.length := by
  induction l with
  | nil => simp [encL]
  | cons x t ih =>
    have := ih fun y hy => h y (List.mem_cons_of_mem _ hy)
    have hx := h x List.mem_cons_self
    have e : encL (x :: t) = encB x.toNat ++ encL t := by rw [encL, List.flatMap_cons, ← encL]
    have h1 := encB_len x.toNat
    have h2 := enc_len (n := x.toNat) (by omega)
    rw [e, List.length_append, List.length_cons]
    omega
theorem encL_app (a b : List Int) : encL (a ++ b) = encL a ++ encL b := by unfold encL; rw [List.flatMap_append]
/-- Whatever is written is read as it was. -/
theorem encL_inj {a b : List Int} (ha : okL a) (hb : okL b) (la : a.length ≤ 2000) (lb : b.length ≤ 2000) (h : encL a = encL b) : a = b := by
  have h1 := readS_enc a ((encL a).length + 1) [] ha (by simp; omega) (by omega)
  have h2 := readS_enc b ((encL b).length + 1) [] hb (by simp; omega) (by omega)
  rw [h, h2] at h1
  simpa using h1.symm
def bytesL (l : List Int) : ByteArray := ⟨(encL l).toArray⟩
theorem bytesL_list (l : List Int) : (bytesL l).data.toList = encL l := rfl
/-- What Encode tells. -/
def EncSaid (s : Sy) (y : (ByteArray × (Int × Unit)) × Unit) : Prop :=
  (¬ goodS s ∧ y = ((⟨#[]⟩, 7, ()), ())) ∨ (goodS s ∧ ¬ okL (nums s) ∧ y = ((⟨#[]⟩, 1, ()), ())) ∨ (goodS s ∧ okL (nums s) ∧ y = ((sealB (bytesL (nums s)), 0, ()), ()))
def wfS (s : Sy) : Prop := ∀ x ∈ nums s, (Lit.int .i64 x).wf = true
theorem encode_at {N : Nat} (hN : 200000 < N) {s : Sy} (hw : goodS s → wfS s) : Ev (Encode_9 N ((aS s, ()), ())) (EncSaid s) := by
  have eT : (tksOf s).length = s.2.2.2.2.2.2.2.2.length := rfl
  unfold Encode_9
  dsimp only
  rw [byB_not]
  refine Ev.dec (fun h => ?_) fun h => Ev.mk (.inl ⟨fun hg => by have := hg.1; omega, rfl⟩)
  refine Ev.bind (long_at (by omega) (l := tksOf s) (by show (tksOf s).length ≤ 24; omega)) ?_
  rintro y rfl
  dsimp only
  rw [byB_not]
  refine Ev.dec (fun h2 => ?_) fun h2 => Ev.mk (.inl ⟨fun hg => h2 hg.2, rfl⟩)
  have hg : goodS s := ⟨by show (tksOf s).length ≤ 24; omega, h2⟩
  refine Ev.bind (numbers_at (by omega) hg) ?_
  rintro y rfl
  have hl := nums_len hg
  refine Ev.bind (write_at (l := nums s) (by omega) (by omega) (hw hg)) ?_
  rintro ⟨⟨b, e, u1⟩, u2⟩ hy
  dsimp only at hy ⊢
  rcases hy with ⟨h3, rfl, h4⟩ | ⟨h3, rfl, rfl⟩
  · rw [byB_nef rfl]
    have hb : b = bytesL (nums s) := ext_list (by rw [h4, bytesL_list])
    subst hb
    have hle := encL_le _ h3
    have hsz : (bytesL (nums s)).size ≤ 3940 := by rw [size_len, bytesL_list]; omega
    refine Ev.bind (seal_at (s := bytesL (nums s)) (by omega) (by omega)) ?_
    rintro y rfl
    exact Ev.mk (.inr (.inr ⟨hg, h3, rfl⟩))
  · rw [byB_net (by decide)]
    exact Ev.mk (.inr (.inl ⟨hg, h3, rfl⟩))

theorem equal_at {N : Nat} {a b : List Int} (ha : a.length < N) (hb : a.length < 9223372036854775807) : Ev (Equalintint_31 N ((a, b, ()), ())) fun y => y = ((decide (a = b), ()), ()) := by
  unfold Equalintint_31
  dsimp only
  refine Ev.bne (fun h => Ev.mk ?_) fun h => ?_
  · rw [decide_eq_false fun e => h (by rw [e])]
  · have hl : a.length = b.length := by omega
    refine Ev.loop (k := a.length) (fun k st => ∃ i : Nat, st = ((a, b, (a.length : Int), (i : Int), ()), ()) ∧ k = a.length - i ∧ i ≤ a.length ∧ a.take i = b.take i) ?_ ⟨0, rfl, rfl, by omega, by simp⟩ ha
    rintro k st again ⟨i, rfl, hk, hi, he⟩ ih
    unfold Equalintint_31_L4
    refine Ev.dec (fun h1 => ?_) fun h1 => ?_
    · rw [if_pos (by omega), if_pos (by omega), Int.toNat_natCast]
      refine Ev.bne (fun h2 => Ev.mk ?_) fun h2 => ?_
      · rw [decide_eq_false fun e => h2 (by rw [e])]
      · have e1 : IntKind.wrap .i64 ((i : Int) + 1) = ((i + 1 : Nat) : Int) := by rw [w64 (by omega) (by omega)]; omega
        rw [e1]
        refine ih (a.length - (i + 1)) _ (by omega) ⟨i + 1, rfl, rfl, by omega, ?_⟩
        rw [take_succ_getD (d := (0 : Int)) (show i < a.length by omega), take_succ_getD (d := (0 : Int)) (show i < b.length by omega), he, h2]
    · rw [List.take_of_length_le (by omega), List.take_of_length_le (by omega)] at he
      exact Ev.mk (by rw [decide_eq_true he])
theorem same_at {N : Nat} (hN : 1000 < N) {s t : Sy} (hs : goodS s) (ht : goodS t) : Ev (Same_14 N ((aS s, aS t, ()), ())) fun y => y = ((decide (nums s = nums t), ()), ()) := by
  unfold Same_14
  dsimp only
  refine Ev.bind (numbers_at (by omega) hs) ?_
  rintro y rfl
  refine Ev.bind (numbers_at (by omega) ht) ?_
  rintro y rfl
  have hl := nums_len hs
  refine Ev.bind (equal_at (a := nums s) (b := nums t) (by omega) (by omega)) ?_
  rintro y rfl
  exact Ev.mk rfl
theorem loop_list (bs : ByteArray) : ∀ (n i : Nat) (r : List UInt8), bs.size - i = n → ByteArray.toList.loop bs i r = r.reverse ++ bs.data.toList.drop i
  | 0, i, r, h => by
    rw [ByteArray.toList.loop, if_neg (by omega), List.drop_of_length_le (by rw [← size_len]; omega), List.append_nil]
  | n + 1, i, r, h => by
    have hi : i < bs.data.toList.length := by rw [← size_len]; omega
    rw [ByteArray.toList.loop, if_pos (by omega), loop_list bs n (i + 1) _ (by omega), List.drop_eq_getElem_cons hi]
    have e : bs.get! i = bs.data.toList[i] := by
      have : i < bs.data.size := hi
      simp only [ByteArray.get!, Array.getElem_toList]
      exact getElem!_pos bs.data i this
    rw [e]
    simp
theorem toList_data (s : ByteArray) : s.toList = s.data.toList := by
  rw [ByteArray.toList, loop_list s s.size 0 [] (by omega)]
  simp
theorem str_eq (a b : ByteArray) : (a.toList == b.toList) = decide (a = b) := by
  rw [toList_data, toList_data]
  by_cases h : a = b
  · subst h; simp
  · rw [decide_eq_false h, beq_eq_false_iff_ne]
    exact fun e => h (ext_list e)
theorem ex07 {N : Nat} (h : 300 ≤ N) : examples_8 N ((), ()) = some ((true, ()), ()) := by
  unfold examples_8
  rw [if_pos h]
end Go.Proofs.YtcdnofemnpafhaaC
