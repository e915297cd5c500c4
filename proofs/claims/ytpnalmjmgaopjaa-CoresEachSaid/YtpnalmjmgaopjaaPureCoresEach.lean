/- The plain law CoresEach. Conditions: its own. -/
import Derived.Test.YtpnalmjmgaopjaaXOrder
namespace Go.Proofs.Ytpnalmjmgaopjaa.Pure
open Go Go.Proofs.YtpnalmjmgaopjaaM Go.Proofs.YtpnalmjmgaopjaaX Go.Proofs.YtpnalmjmgaopjaaL Go.Proofs.YtpnalmjmgaopjaaC
set_option linter.unusedVariables false
set_option linter.unusedSimpArgs false

theorem see_mem {n : Int} {acc : List Int} {x y : Int} : y ∈ see n acc x ↔ y ∈ acc ∨ (y = x ∧ 0 ≤ x ∧ x < n) := by
  unfold see
  split
  · rename_i h
    simp only [List.mem_append, List.mem_singleton]
    constructor
    · rintro (h1 | h1)
      · exact .inl h1
      · exact .inr ⟨h1, h.1, h.2.1⟩
    · rintro (h1 | h1)
      · exact .inl h1
      · exact .inr h1.1
  · rename_i h
    constructor
    · exact .inl
    · rintro (h1 | ⟨rfl, h2, h3⟩)
      · exact h1
      · by_cases h4 : y ∈ acc
        · exact h4
        · exact absurd ⟨h2, h3, h4⟩ h
theorem sees_mem {n : Int} : ∀ {l acc : List Int} {y : Int}, y ∈ sees n acc l ↔ y ∈ acc ∨ (y ∈ l ∧ 0 ≤ y ∧ y < n)
  | [], acc, y => by simp [sees]
  | x :: l, acc, y => by
    rw [sees_cons, sees_mem, see_mem, List.mem_cons]
    constructor
    · rintro ((h | ⟨rfl, h⟩) | ⟨h, h2⟩)
      · exact .inl h
      · exact .inr ⟨.inl rfl, h⟩
      · exact .inr ⟨.inr h, h2⟩
    · rintro (h | ⟨rfl | h, h2⟩)
      · exact .inl (.inl h)
      · exact .inl (.inr ⟨rfl, h2⟩)
      · exact .inr ⟨h, h2⟩
theorem see_nodup {n : Int} {acc : List Int} {x : Int} (h : acc.Nodup) : (see n acc x).Nodup := by
  unfold see
  split
  · rename_i h1
    rw [List.nodup_append]
    refine ⟨h, by simp, ?_⟩
    intro a ha b hb e
    simp only [List.mem_singleton] at hb
    subst hb e
    exact h1.2.2 ha
  · exact h
theorem sees_nodup {n : Int} : ∀ {l acc : List Int}, acc.Nodup → (sees n acc l).Nodup
  | [], acc, h => h
  | x :: l, acc, h => sees_nodup (l := l) (see_nodup h)
theorem see_pre {n : Int} {acc : List Int} {x : Int} : ∃ t, see n acc x = acc ++ t := by
  unfold see
  split
  · exact ⟨_, rfl⟩
  · exact ⟨[], by simp⟩
theorem sees_pre {n : Int} : ∀ {l acc : List Int}, ∃ t, sees n acc l = acc ++ t
  | [], acc => ⟨[], by simp [sees]⟩
  | x :: l, acc => by
    obtain ⟨t, h⟩ := sees_pre (n := n) (l := l) (acc := see n acc x)
    obtain ⟨u, h2⟩ := see_pre (n := n) (acc := acc) (x := x)
    exact ⟨u ++ t, by rw [sees_cons, h, h2, List.append_assoc]⟩
theorem mem_upto {n i : Nat} {y : Int} : y ∈ upto n i ↔ (i : Int) ≤ y ∧ y < n := by
  unfold upto
  simp only [List.mem_map, List.mem_range'_1]
  constructor
  · rintro ⟨a, ⟨h1, h2⟩, rfl⟩
    simp only [Int.ofNat_eq_natCast]
    omega
  · rintro ⟨h1, h2⟩
    exact ⟨y.toNat, by omega, by simp only [Int.ofNat_eq_natCast]; omega⟩
theorem upto_nodup {n i : Nat} : (upto n i).Nodup := by
  unfold upto
  rw [List.Nodup, List.pairwise_map]
  have := List.nodup_range' (s := i) (n := n - i)
  exact List.Pairwise.imp (fun h e => h (Int.ofNat.inj e)) this
theorem ord_mem {n : Nat} {l : List Int} {y : Int} : y ∈ ord n l ↔ 0 ≤ y ∧ y < n := by
  unfold ord
  rw [sees_mem, sees_mem, mem_upto]
  simp only [List.not_mem_nil, false_or]
  constructor
  · rintro (⟨_, h⟩ | ⟨_, h⟩) <;> exact h
  · intro h
    exact .inr ⟨⟨by omega, h.2⟩, h⟩
theorem ord_nodup {n : Nat} {l : List Int} : (ord n l).Nodup := sees_nodup (sees_nodup List.nodup_nil)
theorem ord_len {n : Nat} {l : List Int} : (ord n l).length = n := by
  have h1 : (ord n l).length ≤ (upto n 0).length := List.Nodup.length_le_of_subset ord_nodup fun y hy => by
    rw [ord_mem] at hy; rw [mem_upto]; omega
  have h2 : (upto n 0).length ≤ (ord n l).length := List.Nodup.length_le_of_subset upto_nodup fun y hy => by
    rw [mem_upto] at hy; rw [ord_mem]; omega
  rw [upto_len] at h1 h2
  omega
/-- Where a core comes. -/
abbrev at' (a : List Int) (x : Nat) : Int := (a.idxOf (x : Int) : Int)
theorem at_new {n : Nat} {a A t : List Int} {x : Nat} (h : a = A ++ (x : Int) :: t) (hx : (x : Int) ∉ A) : at' a x = A.length := by
  rw [at', h, List.idxOf_append, if_neg hx, List.idxOf_cons_self]
  simp
theorem see_new {n : Int} {A : List Int} {x : Int} (h0 : 0 ≤ x) (h1 : x < n) (h2 : x ∉ A) : see n A x = A ++ [x] := if_pos ⟨h0, h1, h2⟩
theorem see_old {n : Int} {A : List Int} {x : Int} (h2 : x ∈ A) : see n A x = A := if_neg (by simp [h2])

/-- Then all others. -/
theorem each3 {N n : Nat} (hn : n ≤ 8) {l : List Int} {at0 : List Int} {seen : List Bool} (hat : at0.length = n) (hse : seen.length = n) (ha : ∀ x, x < n → at0.getD x 0 = at' (ord n l) x) {acc : List Int} (hs : ∀ x, x < n → (seen.getD x false = true ↔ (x : Int) ∈ acc)) :
    ∀ (d x : Nat) (A : List Int) (k : Nat), x + d = n → d < k → A.length ≤ 100 → (∀ y : Nat, x ≤ y → ((y : Int) ∈ A ↔ (y : Int) ∈ acc)) → ord n l = sees n A (upto n x) →
    loopN k (CoresEach_5_L30 N) (((n : Int), true, (), (), (A.length : Int) - 1, (x : Int), ()), at0, seen, ()) = some ((true, ()), ()) := by
  intro d
  induction d with
  | zero =>
    intro x A k hx hk hA hy ho
    obtain ⟨k, rfl⟩ : ∃ k', k = k' + 1 := ⟨k - 1, by omega⟩
    rw [loopN_succ, CoresEach_5_L30]
    simp (disch := omega) only [byB_f]
  | succ d ih =>
    intro x A k hx hk hA hy ho
    obtain ⟨k, rfl⟩ : ∃ k', k = k' + 1 := ⟨k - 1, by omega⟩
    rw [loopN_succ, CoresEach_5_L30]
    have hs' := hs x (by omega)
    have hy' := hy x (Nat.le_refl _)
    rw [upto_succ (by omega), sees_cons] at ho
    by_cases h : (x : Int) ∈ acc
    · simp (disch := omega) only [byB_t, if_pos, Int.toNat_natCast, hs'.2 h, byB_true, w64]
      rw [see_old (hy'.2 h)] at ho
      exact ih (x + 1) A k (by omega) (by omega) hA (fun y h => hy y (by omega)) ho
    · have hf : seen.getD x false = false := by
        cases e : seen.getD x false
        · rfl
        · exact absurd (hs'.1 e) h
      have hnA : (x : Int) ∉ A := fun hh => h (hy'.1 hh)
      rw [see_new (by omega) (by omega) hnA] at ho
      obtain ⟨t, ht⟩ := sees_pre (n := n) (l := upto n (x + 1)) (acc := A ++ [(x : Int)])
      have hax : at0.getD x 0 = A.length := by
        rw [ha x (by omega)]
        exact at_new (n := n) (A := A) (t := t) (by rw [ho, ht]; simp) hnA
      simp (disch := omega) only [byB_t, if_pos, Int.toNat_natCast, hf, byB_false, hax, w64, byB_nef]
      have hnd := ord_nodup (n := n) (l := l)
      rw [ho, ht] at hnd
      have hAn : A.Nodup := (List.nodup_append.1 (List.nodup_append.1 hnd).1).1
      have hAl := List.Nodup.length_le_of_subset (l₂ := ord n l) hAn (fun y hy => by rw [ho, ht]; simp [hy])
      rw [ord_len] at hAl
      have := ih (x + 1) (A ++ [(x : Int)]) k (by omega) (by omega) (by rw [List.length_append, List.length_singleton]; omega) (fun y h2 => by
        rw [List.mem_append, hy y (by omega), List.mem_singleton]
        constructor
        · rintro (h | h)
          · exact h
          · omega
        · exact .inl) ho
      rw [List.length_append, show (((A.length + [(x : Int)].length : Nat) : Int)) - 1 = (A.length : Int) by simp only [List.length_singleton]; omega] at this
      exact this
/-- First those of the list. -/
theorem each2 {N n : Nat} (hn : n ≤ 8) (hN : 20 < N) {l : List Int} (hl : l.length ≤ 281474976710656) {at0 : List Int} (hat : at0.length = n) (ha : ∀ x, x < n → at0.getD x 0 = at' (ord n l) x) :
    ∀ (d i : Nat) (A : List Int) (seen : List Bool) (k : Nat), i + d = l.length → d < k → seen.length = n → (∀ x, x < n → (seen.getD x false = true ↔ (x : Int) ∈ A)) → A.Nodup → (∀ y ∈ A, 0 ≤ y ∧ y < n) → sees n [] l = sees n A (l.drop i) →
    loopN k (CoresEach_5_L21 N) (((n : Int), l, true, (), (), (A.length : Int) - 1, (i : Int), ()), at0, seen, ()) = some ((true, ()), ()) := by
  intro d
  induction d with
  | zero =>
    intro i A seen k hi hk hse hs hnd hr ho
    obtain ⟨k, rfl⟩ : ∃ k', k = k' + 1 := ⟨k - 1, by omega⟩
    rw [loopN_succ, CoresEach_5_L21]
    obtain rfl : i = l.length := by omega
    simp (disch := omega) only [byB_f]
    have hAl : A.length ≤ (upto n 0).length := List.Nodup.length_le_of_subset hnd fun y hy => by rw [mem_upto]; have := hr y hy; omega
    rw [upto_len] at hAl
    refine each3 hn hat hse ha hs n 0 A N (by omega) (by omega) (by omega) (fun y _ => Iff.rfl) ?_
    rw [ord, ho, List.drop_length]
    rfl
  | succ d ih =>
    intro i A seen k hi hk hse hs hnd hr ho
    obtain ⟨k, rfl⟩ : ∃ k', k = k' + 1 := ⟨k - 1, by omega⟩
    rw [loopN_succ, CoresEach_5_L21]
    have hAl : A.length ≤ (upto n 0).length := List.Nodup.length_le_of_subset hnd fun y hy => by rw [mem_upto]; have := hr y hy; omega
    rw [upto_len] at hAl
    rw [drop_getD (d := 0) (show i < l.length by omega), sees_cons] at ho
    rw [byB_t (by omega), if_pos (by omega), Int.toNat_natCast]
    generalize l.getD i 0 = x at ho
    have skip (e : see n A x = A) : loopN k (CoresEach_5_L21 N) (((n : Int), l, true, (), (), (A.length : Int) - 1, (i : Int) + 1, ()), at0, seen, ()) = some ((true, ()), ()) := by
      rw [e] at ho
      exact ih (i + 1) A seen k (by omega) (by omega) hse hs hnd hr ho
    simp (disch := omega) only [w64]
    by_cases h0 : x < 0
    · rw [byB_t h0]; exact skip (see_no (.inl h0))
    · by_cases h1 : x ≥ (n : Int)
      · rw [byB_f h0, byB_t h1]; exact skip (see_no (.inr h1))
      · obtain ⟨q, rfl⟩ : ∃ q : Nat, x = q := ⟨x.toNat, by omega⟩
        have hs' := hs q (by omega)
        rw [byB_f h0, byB_f h1, if_pos (by omega)]
        by_cases hA : (q : Int) ∈ A
        · simp only [Int.toNat_natCast, hs'.2 hA, byB_true]
          exact skip (see_old hA)
        · have hf : seen.getD q false = false := by
            cases e : seen.getD q false
            · rfl
            · exact absurd (hs'.1 e) hA
          rw [see_new (by omega) (by omega) hA] at ho
          obtain ⟨t, ht⟩ := sees_pre (n := n) (l := l.drop (i + 1)) (acc := A ++ [(q : Int)])
          obtain ⟨u, hu⟩ := sees_pre (n := n) (l := upto n 0) (acc := sees n [] l)
          have hax : at0.getD q 0 = A.length := by
            rw [ha q (by omega)]
            refine at_new (n := n) (A := A) (t := t ++ u) ?_ hA
            rw [ord, hu, ho, ht]
            simp
          simp (disch := omega) only [Int.toNat_natCast, hf, byB_false, if_pos, hax, byB_nef]
          have := ih (i + 1) (A ++ [(q : Int)]) (seen.set q true) k (by omega) (by omega) (by simpa using hse) (fun x hx => by
            rw [getD_set (by omega), List.mem_append, List.mem_singleton, ← hs x hx]
            by_cases e : q = x
            · subst e; simp
            · rw [if_neg e]
              constructor
              · exact .inl
              · rintro (h | h)
                · exact h
                · omega) (by
            rw [List.nodup_append]
            refine ⟨hnd, by simp, fun a ha b hb e => ?_⟩
            simp only [List.mem_singleton] at hb
            subst hb e
            exact hA ha) (fun y hy => by
            rw [List.mem_append, List.mem_singleton] at hy
            rcases hy with h | rfl
            · exact hr y h
            · omega) ho
          rw [List.length_append] at this
          rw [show (((A.length + [(q : Int)].length : Nat) : Int)) - 1 = (A.length : Int) by simp only [List.length_singleton]; omega] at this
          exact this

/-- The places. -/
theorem each1 {N n : Nat} (hn : n ≤ 8) (hN : 20 < N) {l : List Int} (hl : l.length ≤ 281474976710656) (hN2 : l.length < N) :
    ∀ (d i : Nat) (at0 : List Int) (k : Nat), i + d = n → d < k → at0.length = n → (∀ x, x < n → at0.getD x 0 = if (x : Int) ∈ (ord n l).take i then at' (ord n l) x else -1) →
    loopN k (CoresEach_5_L13 N) (((n : Int), l, true, (), (), (i : Int), ()), ord n l, at0, ()) = some ((true, ()), ()) := by
  intro d
  induction d with
  | zero =>
    intro i at0 k hi hk hat ha
    obtain ⟨k, rfl⟩ : ∃ k', k = k' + 1 := ⟨k - 1, by omega⟩
    rw [loopN_succ, CoresEach_5_L13]
    obtain rfl : i = n := by omega
    simp (disch := omega) only [byB_f, if_pos, Int.toNat_natCast]
    refine each2 (n := i) hn hN hl hat (fun x hx => ?_) l.length 0 [] (List.replicate i false) N (by omega) hN2 (by simp) (fun x hx => by rw [getD_rep hx]; simp) List.nodup_nil (by simp) rfl
    rw [ha x hx, List.take_of_length_le (by rw [ord_len]; omega), if_pos (ord_mem.2 ⟨by omega, by omega⟩)]
  | succ d ih =>
    intro i at0 k hi hk hat ha
    obtain ⟨k, rfl⟩ : ∃ k', k = k' + 1 := ⟨k - 1, by omega⟩
    rw [loopN_succ, CoresEach_5_L13]
    have hlen := ord_len (n := n) (l := l)
    have hin : i < (ord n l).length := by omega
    have hm := ord_mem.1 (getD_mem (d := (0 : Int)) hin)
    obtain ⟨q, hq⟩ : ∃ q : Nat, (ord n l).getD i 0 = q := ⟨((ord n l).getD i 0).toNat, by omega⟩
    have hnd := ord_nodup (n := n) (l := l)
    have hsplit : ord n l = (ord n l).take i ++ (q : Int) :: (ord n l).drop (i + 1) := by
      rw [← hq, ← drop_getD hin, List.take_append_drop]
    have hnot : (q : Int) ∉ (ord n l).take i := by
      intro hh
      rw [hsplit, List.nodup_append] at hnd
      exact hnd.2.2 _ hh _ (by simp) rfl
    have hidx : at' (ord n l) q = i := by
      have := at_new (n := n) hsplit hnot
      rw [this, List.length_take]
      omega
    rw [hq] at hm
    have haq := ha q (by omega)
    rw [if_neg hnot] at haq
    simp (disch := omega) only [byB_t, byB_f, if_pos, Int.toNat_natCast, hq, haq, w64]
    refine ih (i + 1) _ k (by omega) (by omega) (by simpa using hat) fun x hx => ?_
    rw [getD_set (by omega), take_succ_getD (d := 0) hin, hq]
    by_cases e : q = x
    · subst e
      rw [if_pos rfl, if_pos (by simp), hidx]
    · rw [if_neg e, ha x hx]
      by_cases h2 : (x : Int) ∈ (ord n l).take i
      · rw [if_pos h2, if_pos (by simp [h2])]
      · rw [if_neg h2, if_neg (by rw [List.mem_append, List.mem_singleton]; rintro (h | h); exact h2 h; omega)]
theorem each0 {N n : Nat} (hn : n ≤ 8) (hN : 20 < N) {l : List Int} (hl : l.length ≤ 281474976710656) (hN2 : l.length < N) :
    ∀ (d i : Nat) (at0 : List Int) (k : Nat), i + d = n → d < k → at0.length = n → (∀ x, x < i → at0.getD x 0 = -1) →
    loopN k (CoresEach_5_L9 N) (((n : Int), l, true, (), (), (i : Int), ()), ord n l, at0, ()) = some ((true, ()), ()) := by
  intro d
  induction d with
  | zero =>
    intro i at0 k hi hk hat ha
    obtain ⟨k, rfl⟩ : ∃ k', k = k' + 1 := ⟨k - 1, by omega⟩
    rw [loopN_succ, CoresEach_5_L9]
    simp (disch := omega) only [byB_f]
    exact each1 hn hN hl hN2 n 0 at0 N (by omega) (by omega) hat fun x hx => by rw [ha x (by omega)]; simp
  | succ d ih =>
    intro i at0 k hi hk hat ha
    obtain ⟨k, rfl⟩ : ∃ k', k = k' + 1 := ⟨k - 1, by omega⟩
    rw [loopN_succ, CoresEach_5_L9]
    simp (disch := omega) only [byB_t, if_pos, Int.toNat_natCast, w64]
    refine ih (i + 1) _ k (by omega) (by omega) (by simpa using hat) fun x hx => ?_
    rw [getD_set (by omega)]
    by_cases e : i = x
    · rw [if_pos e]
    · rw [if_neg e, ha x (by omega)]

theorem CoresEach (y0 : Int) (y1 : List Int) (gy0 : (Lit.int .i64 y0).wf = true) (gy1 : (y1.length * 8 ≤ 140737488351232 ∧ ∀ e0 ∈ y1, (Lit.int .i64 e0).wf = true)) : ∃ N, CoresEach_5 N ((y0, y1, ()), ()) = some ((true, ()), ()) := by
  obtain ⟨N, hN⟩ : ∃ N, y1.length + 1000 ≤ N := ⟨_, Nat.le_refl _⟩
  refine ⟨N, ?_⟩
  unfold CoresEach_5
  by_cases h : 1 ≤ y0 ∧ y0 ≤ 8
  · obtain ⟨n, rfl⟩ : ∃ n : Nat, y0 = n := ⟨y0.toNat, by omega⟩
    simp only [examples_eq (N := N) (by omega), order_ok (N := N) (n := n) (l := y1) (by omega) (by omega) (by omega) (by omega) (by omega), bnd]
    have hlen := ord_len (n := n) (l := y1)
    simp (disch := omega) only [byB_f, byB_nef, if_pos, Int.toNat_natCast]
    exact each0 (by omega) (by omega) (by omega) (by omega) n 0 _ N (by omega) (by omega) (by simp) fun x hx => by omega
  · simp only [examples_eq (N := N) (by omega), order_no (N := N) (n := y0) (l := y1) (by omega), bnd, byB_true]
    by_cases h1 : y0 < 1
    · rw [byB_t h1]; simp
    · rw [byB_f h1, byB_t (by omega)]; simp
end Go.Proofs.Ytpnalmjmgaopjaa.Pure
