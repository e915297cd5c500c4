/- Chapter 20: what is admissible. Conditions: as each theorem states them. -/
import Derived.Test.YtlheebdnplcmcaaXScript
namespace Go.Proofs.YtlheebdnplcmcaaC
open Go Go.Proofs.YtlheebdnplcmcaaM Go.Proofs.YtlheebdnplcmcaaX Go.Proofs.YtlheebdnplcmcaaL
set_option linter.unusedVariables false
set_option linter.unusedSimpArgs false

def per (s8 : List Tk) (t : Int) : Int := (s8.getD t.toNat (0, 0, 0, [])).1
def wc (s8 : List Tk) (t : Int) : Int := (s8.getD t.toNat (0, 0, 0, [])).2.2.1
/-- Nobody asks for more than the task may, nor too early. -/
def RelsP (s8 : List Tk) (l : List Rel) : Prop := (∀ r ∈ l, r.2.2 ≤ wc s8 r.1) ∧ l.Pairwise fun a b => a.1 = b.1 → per s8 b.1 ≤ b.2.1 - a.2.1
def LatsP (s6 : Int) (x3 : List Int) : Prop := ∀ n ∈ x3, 1 ≤ n ∧ n ≤ s6
theorem RelsP.sub {s8 : List Tk} {l m : List Rel} (h : RelsP s8 l) (hs : m.Sublist l) : RelsP s8 m := ⟨fun r hr => h.1 r (hs.subset hr), h.2.sublist hs⟩
theorem RelsP.snoc {s8 : List Tk} {l : List Rel} {r : Rel} : RelsP s8 (l ++ [r]) ↔ RelsP s8 l ∧ r.2.2 ≤ wc s8 r.1 ∧ ∀ a ∈ l, a.1 = r.1 → per s8 r.1 ≤ r.2.1 - a.2.1 := by
  unfold RelsP
  rw [List.pairwise_append]
  constructor
  · rintro ⟨h1, h2, _, h3⟩
    exact ⟨⟨fun x hx => h1 x (by simp [hx]), h2⟩, h1 r (by simp), fun a ha => h3 a ha r (by simp)⟩
  · rintro ⟨⟨h1, h2⟩, h3, h4⟩
    refine ⟨fun x hx => ?_, h2, List.pairwise_singleton .., fun a ha b hb => ?_⟩
    · rcases List.mem_append.1 hx with hx | hx
      · exact h1 x hx
      · rw [List.mem_singleton] at hx; subst hx; exact h3
    · rw [List.mem_singleton] at hb; subst hb; exact h4 a ha

theorem get_put (t k v : Int) : ∀ m : List (Int × Int), mapGet (Ty.beqD (.int .i64)) t (mapPut (Ty.beqD (.int .i64)) k v m) = if t = k then some v else mapGet (Ty.beqD (.int .i64)) t m
  | [] => by
    simp only [mapPut, mapGet, Ty.beqD, decide_eq_true_eq]
  | p :: m => by
    have ih := get_put t k v m
    simp only [mapPut, Ty.beqD, decide_eq_true_eq] at ih ⊢
    by_cases h : (k : Int) = p.1
    · rw [if_pos h]
      simp only [mapGet, Ty.beqD, decide_eq_true_eq]
      by_cases h2 : t = k
      · rw [if_pos h2, if_pos h2]
      · rw [if_neg h2, if_neg h2, if_neg (by rw [← h]; exact h2)]
    · rw [if_neg h]
      simp only [mapGet, Ty.beqD, decide_eq_true_eq]
      by_cases h2 : t = p.1
      · rw [if_pos h2, if_pos h2, if_neg (by rw [h2]; exact fun e => h e.symm)]
      · rw [if_neg h2, if_neg h2]
        exact ih
/-- What the map tells of those that came. -/
def Last (m : List (Int × Int)) (l : List Rel) : Prop := ∀ t : Int, (mapGet (Ty.beqD (.int .i64)) t m = none → ∀ a ∈ l, a.1 ≠ t) ∧ (∀ v, mapGet (Ty.beqD (.int .i64)) t m = some v → (∃ a ∈ l, a.1 = t ∧ a.2.1 = v) ∧ ∀ a ∈ l, a.1 = t → a.2.1 ≤ v)
theorem Last.nil : Last [] [] := fun t => ⟨fun _ a ha => (by cases ha), fun v h => (by cases h)⟩
theorem Last.snoc {m : List (Int × Int)} {l : List Rel} {r : Rel} (h : Last m l) (hs : ∀ a ∈ l, a.2.1 ≤ r.2.1) : Last (mapPut (Ty.beqD (.int .i64)) r.1 r.2.1 m) (l ++ [r]) := by
  intro t
  rw [get_put]
  by_cases e : t = r.1
  · rw [if_pos e]
    refine ⟨fun h => (by cases h), fun v hv => ?_⟩
    cases hv
    refine ⟨⟨r, by simp, e.symm, rfl⟩, fun a ha _ => ?_⟩
    rcases List.mem_append.1 ha with ha | ha
    · exact hs a ha
    · rw [List.mem_singleton] at ha; subst ha; exact Int.le_refl _
  · rw [if_neg e]
    obtain ⟨h1, h2⟩ := h t
    refine ⟨fun hn a ha => ?_, fun v hv => ?_⟩
    · rcases List.mem_append.1 ha with ha | ha
      · exact h1 hn a ha
      · rw [List.mem_singleton] at ha; subst ha; exact fun h => e h.symm
    · obtain ⟨⟨a, k1, k2, k3⟩, h4⟩ := h2 v hv
      refine ⟨⟨a, by simp [k1], k2, k3⟩, fun b hb hbt => ?_⟩
      rcases List.mem_append.1 hb with hb | hb
      · exact h4 b hb hbt
      · rw [List.mem_singleton] at hb; subst hb; exact absurd hbt.symm e

theorem lats_at {N : Nat} {s0 s1 s2 s3 s4 s5 s6 s7 : Int} {s8 : List Tk} {x3 : List Int} (hl : (x3.length : Int) ≤ 9223372036854775806) (hN : x3.length < N) :
    Ev (loopN N (Admissible_15_L13 N) (((), x3, (x3.length : Int), 0, ()), (s0, s1, s2, s3, s4, s5, s6, s7, s8, ()), ())) fun z => z.1.1 = true ↔ LatsP s6 x3 := by
  refine Ev.loop (k := x3.length) (fun k st => ∃ i : Nat, st = (((), x3, (x3.length : Int), (i : Int), ()), (s0, s1, s2, s3, s4, s5, s6, s7, s8, ()), ()) ∧ i + k = x3.length ∧ ∀ n ∈ x3.take i, 1 ≤ n ∧ n ≤ s6) ?_ ⟨0, rfl, by omega, by simp⟩ hN
  rintro k st again ⟨i, rfl, hk, hi⟩ ih
  unfold Admissible_15_L13
  dsimp only
  by_cases h : (i : Int) < x3.length
  · have hin : i < x3.length := by omega
    have hm := getD_mem (d := (0 : Int)) hin
    rw [byB_t h, if_pos ⟨by omega, h⟩, Int.toNat_natCast]
    refine Ev.dec (fun h1 => Ev.mk ⟨fun h => (by cases h), fun hP => ?_⟩) fun h1 => ?_
    · have := hP _ hm; omega
    refine Ev.dec (fun h2 => Ev.mk ⟨fun h => (by cases h), fun hP => ?_⟩) fun h2 => ?_
    · have := hP _ hm; omega
    rw [w64 (by omega) (by omega)]
    refine ih (k - 1) _ (by omega) ⟨i + 1, by simp, by omega, fun n hn => ?_⟩
    rw [take_succ_getD (d := (0 : Int)) hin, List.mem_append, List.mem_singleton] at hn
    rcases hn with hn | rfl
    · exact hi n hn
    · omega
  · rw [byB_f h]
    rw [List.take_of_length_le (by omega)] at hi
    exact Ev.mk ⟨fun _ => hi, fun _ => rfl⟩

/-- What is admissible. -/
def AdmP (s0 s1 s2 s3 s4 s5 s6 s7 : Int) (s8 : List Tk) (x0 : Int) (x1 : List Rel) (x3 : List Int) : Prop := scB s0 s1 s2 s3 s4 s5 s6 s7 s8 x0 x1 = true ∧ RelsP s8 x1 ∧ LatsP s6 x3
theorem rel_tasks {n : Int} : ∀ {l : List Rel} {last : Int}, relB n last l = true → ∀ r ∈ l, 0 ≤ r.1 ∧ r.1 < n ∧ 1 ≤ r.2.2 ∧ r.2.2 ≤ 1099511627776
  | [], _, _, r, h => by cases h
  | x :: l, last, h, r, hr => by
    simp only [relB, Bool.and_eq_true, decide_eq_true_eq] at h
    rcases List.mem_cons.1 hr with rfl | hr
    · exact h.1.2
    · exact rel_tasks h.2 r hr
theorem adm_at {N : Nat} (hN : 3000 < N) {s0 s1 s2 s3 s4 s5 s6 s7 : Int} {s8 : List Tk} {x0 : Int} {x1 : List Rel} {x2 : List (List Int)} {x3 : List Int} (h3 : (x3.length : Int) ≤ 9223372036854775806) (hN3 : x3.length < N)
    (hw : ∀ r ∈ x1, (Lit.int .i64 r.2.1).wf = true) :
    Ev (Admissible_15 N (((s0, s1, s2, s3, s4, s5, s6, s7, s8, ()), (x0, x1, x2, x3, ()), ()), ())) fun z => z.1.1 = true ↔ AdmP s0 s1 s2 s3 s4 s5 s6 s7 s8 x0 x1 x3 := by
  unfold Admissible_15
  dsimp only
  rw [sright_at (by omega), bnd]
  dsimp only
  cases hr : scB s0 s1 s2 s3 s4 s5 s6 s7 s8 x0 x1 with
  | false =>
    rw [Bool.not_false, byB_true]
    exact Ev.mk ⟨fun h => (by cases h), fun h => (by rw [h.1] at hr; cases hr)⟩
  | true =>
    obtain ⟨_, _, _, hlen, hrel⟩ := scB_of hr
    obtain ⟨hge, hso⟩ := rel_sorted hrel
    have htk := rel_tasks hrel
    rw [Bool.not_true, byB_false]
    have no : ¬ RelsP s8 x1 → Ev (some ((false, ()), ())) fun z : (Bool × Unit) × Unit => z.1.1 = true ↔ AdmP s0 s1 s2 s3 s4 s5 s6 s7 s8 x0 x1 x3 := fun h => Ev.mk ⟨fun h => (by cases h), fun k => absurd k.2.1 h⟩
    refine Ev.loop (k := x1.length) (fun k st => ∃ (i : Nat) (m : List (Int × Int)), st = (((), (), (), x1, (x1.length : Int), (i : Int), ()), (s0, s1, s2, s3, s4, s5, s6, s7, s8, ()), (x0, x1, x2, x3, ()), m, ()) ∧ i + k = x1.length ∧ RelsP s8 (x1.take i) ∧ Last m (x1.take i)) ?_
      ⟨0, [], rfl, by omega, ⟨fun r h => (by simp at h), by simp⟩, by simpa using Last.nil⟩ (by omega)
    rintro k st again ⟨i, m, rfl, hk, hi, hm⟩ ih
    unfold Admissible_15_L5
    dsimp only
    by_cases h : (i : Int) < x1.length
    · have hin : i < x1.length := by omega
      have hmem := getD_mem (d := ((0, 0, 0) : Rel)) hin
      have hts := take_succ_getD (d := ((0, 0, 0) : Rel)) hin
      have hsplit : x1 = x1.take i ++ x1.getD i (0, 0, 0) :: x1.drop (i + 1) := by
        rw [← drop_getD hin, List.take_append_drop]
      have hbef : ∀ a ∈ x1.take i, a.2.1 ≤ (x1.getD i (0, 0, 0)).2.1 := by
        intro a ha
        have h1 := hso
        rw [hsplit, List.pairwise_append] at h1
        exact h1.2.2 a ha _ (List.mem_cons_self ..)
      have hsub : (x1.take i ++ [x1.getD i (0, 0, 0)]).Sublist x1 := by rw [← hts]; exact List.take_sublist ..
      rw [byB_t h, if_pos ⟨by omega, h⟩, Int.toNat_natCast]
      have ht := htk _ hmem
      have hat := wf64 (hw _ hmem)
      have hat0 := hge _ hmem
      rw [if_pos ⟨ht.1, ht.2.1⟩]
      generalize x1.getD i (0, 0, 0) = r at *
      have next : (∀ a ∈ x1.take i, a.1 = r.1 → per s8 r.1 ≤ r.2.1 - a.2.1) → r.2.2 ≤ wc s8 r.1 →
          Ev (again (((), (), (), x1, (x1.length : Int), IntKind.wrap .i64 ((i : Int) + 1), ()), (s0, s1, s2, s3, s4, s5, s6, s7, s8, ()), (x0, x1, x2, x3, ()), mapPut (Ty.beqD (.int .i64)) r.1 r.2.1 m, ())) fun z => z.1.1 = true ↔ AdmP s0 s1 s2 s3 s4 s5 s6 s7 s8 x0 x1 x3 := by
        intro g1 g2
        rw [w64 (by omega) (by omega)]
        refine ih (k - 1) _ (by omega) ⟨i + 1, mapPut (Ty.beqD (.int .i64)) r.1 r.2.1 m, by simp, by omega, ?_, ?_⟩
        · rw [hts]; exact RelsP.snoc.2 ⟨hi, g2, g1⟩
        · rw [hts]; exact hm.snoc hbef
      refine Ev.dec (fun h1 => no fun hP => ?_) fun h1 => ?_
      · have := (RelsP.snoc.1 (hP.sub hsub)).2.1
        unfold wc at this
        omega
      have g2 : r.2.2 ≤ wc s8 r.1 := by unfold wc; omega
      obtain ⟨l1, l2⟩ := hm r.1
      cases hg : mapGet (Ty.beqD (.int .i64)) r.1 m with
      | none =>
        rw [Option.isSome_none, byB_false]
        exact next (fun a ha e => absurd e (l1 hg a ha)) g2
      | some v =>
        obtain ⟨⟨a, a1, a2, a3⟩, l3⟩ := l2 v hg
        have hv := hbef a a1
        have hv0 := hge a (List.mem_of_mem_take a1)
        rw [Option.isSome_some, byB_true, if_pos ⟨ht.1, ht.2.1⟩]
        have ew : IntKind.wrap .i64 (r.2.1 - v) = r.2.1 - v := w64 (by omega) (by omega)
        simp only [Option.getD_some, ew]
        refine Ev.dec (fun h2 => no fun hP => ?_) fun h2 => ?_
        · have := (RelsP.snoc.1 (hP.sub hsub)).2.2 a a1 a2
          unfold per at this
          omega
        · refine next (fun b hb e => ?_) g2
          have := l3 b hb e
          unfold per
          omega
    · rw [byB_f h]
      rw [List.take_of_length_le (by omega)] at hi
      refine (lats_at h3 hN3).mono fun z hz => ?_
      exact ⟨fun h => ⟨hr, hi, hz.1 h⟩, fun h => hz.2 h.2.2⟩
end Go.Proofs.YtlheebdnplcmcaaC
