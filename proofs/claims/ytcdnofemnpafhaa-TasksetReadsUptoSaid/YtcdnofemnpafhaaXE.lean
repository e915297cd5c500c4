/- What numbers, Encode and Same tell. Conditions: as each theorem states them. -/
import Derived.Test.YtcdnofemnpafhaaXS
namespace Go.Proofs.YtcdnofemnpafhaaC
open Go Go.Proofs.YtcdnofemnpafhaaM Go.Proofs.YtcdnofemnpafhaaX Go.Proofs.YtcdnofemnpafhaaL
set_option linter.unusedVariables false
set_option linter.unusedSimpArgs false

abbrev Sec := Int × Int × Int
abbrev Tk := Int × Int × Int × List Sec
abbrev Sy := Int × Int × Int × Int × Int × Int × Int × Int × List Tk
abbrev aS (s : Sy) : Int × (Int × (Int × (Int × (Int × (Int × (Int × (Int × (List Tk × Unit)))))))) := (s.1, s.2.1, s.2.2.1, s.2.2.2.1, s.2.2.2.2.1, s.2.2.2.2.2.1, s.2.2.2.2.2.2.1, s.2.2.2.2.2.2.2.1, s.2.2.2.2.2.2.2.2, ())
abbrev tksOf (s : Sy) : List Tk := s.2.2.2.2.2.2.2.2
def secN (x : Sec) : List Int := [x.1, x.2.1, x.2.2]
def taskN (t : Tk) : List Int := [t.1, t.2.1, t.2.2.1, (t.2.2.2.length : Int)] ++ t.2.2.2.flatMap secN
def headN (s : Sy) : List Int := [1, s.1, s.2.1, s.2.2.1, s.2.2.2.1, s.2.2.2.2.1, s.2.2.2.2.2.1, s.2.2.2.2.2.2.1, s.2.2.2.2.2.2.2.1, ((tksOf s).length : Int)]
def nums (s : Sy) : List Int := headN s ++ (tksOf s).flatMap taskN
def goodS (s : Sy) : Prop := (tksOf s).length ≤ 24 ∧ ∀ t ∈ tksOf s, t.2.2.2.length ≤ 4

theorem secs_len : ∀ l : List Sec, (l.flatMap secN).length = 3 * l.length
  | [] => rfl
  | x :: l => by
    rw [List.flatMap_cons, List.length_append, secs_len l, List.length_cons]
    show 3 + _ = _
    omega
theorem taskN_len (t : Tk) : (taskN t).length = 4 + 3 * t.2.2.2.length := by
  unfold taskN
  rw [List.length_append, secs_len]
  rfl
theorem tasks_len : ∀ l : List Tk, (∀ t ∈ l, t.2.2.2.length ≤ 4) → (l.flatMap taskN).length ≤ 16 * l.length
  | [], _ => by simp
  | x :: l, h => by
    have h1 := tasks_len l fun t ht => h t (List.mem_cons_of_mem _ ht)
    have h2 := h x List.mem_cons_self
    rw [List.flatMap_cons, List.length_append, taskN_len, List.length_cons]
    omega
theorem nums_len {s : Sy} (h : goodS s) : (nums s).length ≤ 394 := by
  unfold nums
  rw [List.length_append]
  have h1 := tasks_len _ h.2
  have h2 := h.1
  show 10 + _ ≤ _
  omega

theorem taskN_pos : ∀ l : List Tk, l.length ≤ (l.flatMap taskN).length
  | [] => by simp
  | t :: l => by
    have := taskN_pos l
    have h := taskN_len t
    rw [List.flatMap_cons, List.length_append, List.length_cons]
    omega
/-- Room enough for a system's numbers. -/
def roomS (N : Nat) (s : Sy) : Prop := (nums s).length < N ∧ (nums s).length ≤ 17592186044416
theorem split_at {l : List Tk} {i : Nat} (h : i < l.length) : (l.flatMap taskN).length = ((l.take i).flatMap taskN).length + (taskN (l.getD i (0, 0, 0, []))).length + ((l.drop (i + 1)).flatMap taskN).length := by
  have e : l = l.take i ++ (l.getD i (0, 0, 0, []) :: l.drop (i + 1)) := by
    rw [← drop_getD h, List.take_append_drop]
  have := congrArg (fun l : List Tk => (l.flatMap taskN).length) e
  simp only [List.flatMap_append, List.flatMap_cons, List.length_append] at this
  omega
theorem room_at {N : Nat} {s : Sy} (h : roomS N s) : (tksOf s).length < N ∧ (tksOf s).length ≤ 17592186044416 ∧ ∀ i, i < (tksOf s).length → 10 + (((tksOf s).take i).flatMap taskN).length + 4 + 3 * ((tksOf s).getD i (0, 0, 0, [])).2.2.2.length ≤ 17592186044416 ∧ ((tksOf s).getD i (0, 0, 0, [])).2.2.2.length < N := by
  obtain ⟨h1, h2⟩ := h
  have hl : (nums s).length = 10 + ((tksOf s).flatMap taskN).length := by unfold nums; rw [List.length_append]; rfl
  have hp := taskN_pos (tksOf s)
  refine ⟨by omega, by omega, fun i hi => ?_⟩
  have hs := split_at hi
  have ht := taskN_len ((tksOf s).getD i (0, 0, 0, []))
  constructor <;> omega
/-- One task's sections, written. -/
theorem n7 {N : Nat} {tk : List Tk} {n i : Int} {l : List Sec} {out : List Int} {again3 : _ → Option ((Unit × Unit) × (List Int × Unit))} {Q : _ → Prop} (hN : l.length < N) (ho : out.length + 3 * l.length ≤ 17592186044416)
    (h : Ev (again3 (((), tk, n, IntKind.wrap .i64 (i + 1), ()), out ++ l.flatMap secN, ())) Q) :
    Ev (loopN N (numbers_21_L7 N again3) (((), tk, n, i, l, (l.length : Int), 0, ()), out, ())) Q := by
  refine Ev.loop (k := l.length) (fun k st => ∃ q : Nat, st = (((), tk, n, i, l, (l.length : Int), (q : Int), ()), out ++ (l.take q).flatMap secN, ()) ∧ k = l.length - q ∧ q ≤ l.length) ?_ ⟨0, by simp, rfl, by omega⟩ (by omega)
  rintro k st again ⟨q, rfl, hk, hq⟩ ih
  unfold numbers_21_L7
  refine Ev.dec (fun h1 => ?_) fun h1 => ?_
  · have hq' : q < l.length := by omega
    have ts := take_succ_getD (l := l) (i := q) (d := (0, 0, 0)) hq'
    have hsl := secs_len (l.take q)
    rw [List.length_take] at hsl
    rw [if_pos (by omega), Int.toNat_natCast]
    dsimp only
    rw [if_pos (by rw [List.length_append]; omega)]
    have e1 : IntKind.wrap .i64 ((q : Int) + 1) = ((q + 1 : Nat) : Int) := by rw [w64 (by omega) (by omega)]; omega
    rw [e1]
    refine ih (l.length - (q + 1)) _ (by omega) ⟨q + 1, ?_, rfl, by omega⟩
    rw [ts, List.flatMap_append, List.flatMap_singleton, List.append_assoc]
    rfl
  · rw [List.take_of_length_le (by omega)]
    exact h
theorem numbers_at {N : Nat} {s : Sy} (hg : roomS N s) : Ev (numbers_21 N ((aS s, ()), ())) fun y => y = (((), ()), nums s, ()) := by
  unfold numbers_21
  dsimp only
  obtain ⟨h1, h1b, hr⟩ := room_at hg
  refine Ev.loop (k := (tksOf s).length) (fun k st => ∃ i : Nat, st = (((), tksOf s, ((tksOf s).length : Int), (i : Int), ()), headN s ++ ((tksOf s).take i).flatMap taskN, ()) ∧ k = (tksOf s).length - i ∧ i ≤ (tksOf s).length) ?_ ⟨0, by simp [headN], rfl, by omega⟩ (by omega)
  rintro k st again ⟨i, rfl, hk, hi⟩ ih
  unfold numbers_21_L3
  refine Ev.dec (fun h => ?_) fun h => ?_
  · have hi' : i < (tksOf s).length := by omega
    have ts := take_succ_getD (l := tksOf s) (i := i) (d := (0, 0, 0, [])) hi'
    obtain ⟨hr1, hr2⟩ := hr i hi'
    rw [if_pos (by omega), Int.toNat_natCast]
    dsimp only
    generalize (tksOf s).getD i (0, 0, 0, []) = t at ts hr1 hr2 ⊢
    have hh : (headN s).length = 10 := rfl
    rw [if_pos (by rw [List.length_append]; omega)]
    refine n7 (by omega) (by simp only [List.length_append, hh, List.length_cons, List.length_nil]; omega) ?_
    have e1 : IntKind.wrap .i64 ((i : Int) + 1) = ((i + 1 : Nat) : Int) := by rw [w64 (by omega) (by omega)]; omega
    rw [e1]
    refine ih ((tksOf s).length - (i + 1)) _ (by omega) ⟨i + 1, ?_, rfl, by omega⟩
    rw [ts, List.flatMap_append, List.flatMap_singleton]
    simp only [taskN, List.append_assoc]
  · rw [List.take_of_length_le (by omega)]
    exact Ev.mk rfl

theorem equal_at {N : Nat} {a b : List Int} (ha : a.length < N) (hb : a.length < 9223372036854775807) : Ev (Equalintint_31 N ((a, b, ()), ())) fun y => y = ((decide (a = b), ()), ()) := by
  unfold Equalintint_31
  dsimp only
  refine Ev.bne (fun h => Ev.mk ?_) fun h => ?_
  · rw [decide_eq_false fun e => h (by rw [e])]
  · have hl : a.length = b.length := by omega
    refine Ev.loop (k := a.length) (fun k st => ∃ i : Nat, st = ((a, b, (a.length : Int), (i : Int), ()), ()) ∧ k = a.length - i ∧ i ≤ a.length ∧ a.take i = b.take i) ?_ ⟨0, rfl, rfl, by omega, by simp⟩ ha
    rintro k st again ⟨i, rfl, hk, hi, he⟩ ih
    unfold Equalintint_31_L4
    refine Ev.dec (fun h1 => ?_) fun h1 => ?_
    · rw [if_pos (by omega), if_pos (by omega), Int.toNat_natCast]
      refine Ev.bne (fun h2 => Ev.mk ?_) fun h2 => ?_
      · rw [decide_eq_false fun e => h2 (by rw [e])]
      · have e1 : IntKind.wrap .i64 ((i : Int) + 1) = ((i + 1 : Nat) : Int) := by rw [w64 (by omega) (by omega)]; omega
        rw [e1]
        refine ih (a.length - (i + 1)) _ (by omega) ⟨i + 1, rfl, rfl, by omega, ?_⟩
        rw [take_succ_getD (d := (0 : Int)) (show i < a.length by omega), take_succ_getD (d := (0 : Int)) (show i < b.length by omega), he, h2]
    · rw [List.take_of_length_le (by omega), List.take_of_length_le (by omega)] at he
      exact Ev.mk (by rw [decide_eq_true he])
theorem same_at {N : Nat} {s t : Sy} (hs : roomS N s) (ht : roomS N t) : Ev (Same_14 N ((aS s, aS t, ()), ())) fun y => y = ((decide (nums s = nums t), ()), ()) := by
  unfold Same_14
  dsimp only
  refine Ev.bind (numbers_at hs) ?_
  rintro y rfl
  refine Ev.bind (numbers_at ht) ?_
  rintro y rfl
  refine Ev.bind (equal_at (a := nums s) (b := nums t) hs.1 (by have := hs.2; omega)) ?_
  rintro y rfl
  exact Ev.mk rfl
theorem loop_list (bs : ByteArray) : ∀ (n i : Nat) (r : List UInt8), bs.size - i = n → ByteArray.toList.loop bs i r = r.reverse ++ bs.data.toList.drop i
  | 0, i, r, h => by
    rw [ByteArray.toList.loop, if_neg (by omega), List.drop_of_length_le (by rw [← size_len]; omega), List.append_nil]
  | n + 1, i, r, h => by
    have hi : i < bs.data.toList.length := by rw [← size_len]; omega
    rw [ByteArray.toList.loop, if_pos (by omega), loop_list bs n (i + 1) _ (by omega), List.drop_eq_getElem_cons hi]
    have e : bs.get! i = bs.data.toList[i] := by
      have : i < bs.data.size := hi
      simp only [ByteArray.get!, Array.getElem_toList]
      exact getElem!_pos bs.data i this
    rw [e]
    simp
theorem toList_data (s : ByteArray) : s.toList = s.data.toList := by
  rw [ByteArray.toList, loop_list s s.size 0 [] (by omega)]
  simp
theorem str_eq (a b : ByteArray) : (a.toList == b.toList) = decide (a = b) := by
  rw [toList_data, toList_data]
  by_cases h : a = b
  · subst h; simp
  · rw [decide_eq_false h, beq_eq_false_iff_ne]
    exact fun e => h (ext_list e)
theorem ex07 {N : Nat} (h : 300 ≤ N) : examples_8 N ((), ()) = some ((true, ()), ()) := by
  unfold examples_8
  rw [if_pos h]
end Go.Proofs.YtcdnofemnpafhaaC
