/- Plain lemmas that the plain laws of this seat share: choices, guards, loops, numbers, lists. Conditions: none. -/
import Derived.Test.YtcdnofemnpafhaaM6
namespace Go.Proofs.YtcdnofemnpafhaaL
open Go Go.Proofs.YtcdnofemnpafhaaM
set_option linter.unusedVariables false

theorem wf64 {n : Int} (h : (Lit.int .i64 n).wf = true) : -9223372036854775808 ≤ n ∧ n ≤ 9223372036854775807 := by
  simp [Lit.wf, IntKind.min, IntKind.max, IntKind.signed, IntKind.bits] at h
  omega
theorem wf64_mk {n : Int} (h0 : -9223372036854775808 ≤ n) (h1 : n ≤ 9223372036854775807) : (Lit.int .i64 n).wf = true := by
  simp [Lit.wf, IntKind.min, IntKind.max, IntKind.signed, IntKind.bits]
  omega
theorem wfu64 {n : Int} (h : (Lit.int .u64 n).wf = true) : 0 ≤ n ∧ n < 18446744073709551616 := by
  simp [Lit.wf, IntKind.min, IntKind.max, IntKind.signed, IntKind.bits] at h
  omega
theorem w64_def (n : Int) : IntKind.wrap .i64 n = (n + 9223372036854775808) % 18446744073709551616 - 9223372036854775808 := by
  rw [IntKind.wrap_i64]
theorem w64 {n : Int} (h0 : -9223372036854775808 ≤ n) (h1 : n ≤ 9223372036854775807) : IntKind.wrap .i64 n = n := by
  rw [w64_def]
  omega
theorem w64_range (n : Int) : -9223372036854775808 ≤ IntKind.wrap .i64 n ∧ IntKind.wrap .i64 n ≤ 9223372036854775807 := by
  rw [w64_def]
  omega
theorem wu64_def (n : Int) : IntKind.wrap .u64 n = n % 18446744073709551616 := by simp [IntKind.wrap, IntKind.bits, IntKind.signed]
theorem wu64 {n : Int} (h0 : 0 ≤ n) (h1 : n < 18446744073709551616) : IntKind.wrap .u64 n = n := by
  rw [wu64_def]
  omega

section
variable {R S : Type} {x y : Option R} {p : Prop} [Decidable p]
theorem byB_t (h : p) : byB (decide p) x y = x := by simp [byB, h]
theorem byB_f (h : ¬ p) : byB (decide p) x y = y := by simp [byB, h]
theorem byB_true : byB true x y = x := by simp [byB]
theorem byB_false : byB false x y = y := by simp [byB]
theorem bnd {a : S} {f : S → Option R} : (some a).bind f = f a := by simp
theorem byB_not {b : Bool} : byB (!b) x y = byB b y x := by cases b <;> rfl
theorem byB_eqt {a b : Int} (h : a = b) : byB (a == b) x y = x := by simp [byB, h]
theorem byB_eqf {a b : Int} (h : ¬ a = b) : byB (a == b) x y = y := by simp [byB, h]
theorem byB_net {a b : Int} (h : ¬ a = b) : byB (a != b) x y = x := by simp [byB, h]
theorem byB_nef {a b : Int} (h : a = b) : byB (a != b) x y = y := by simp [byB, h]
theorem byB_dec : byB (decide p) x y = if p then x else y := by
  by_cases h : p <;> simp [byB, h]
theorem byB_beq {a b : Int} : byB (a == b) x y = if a = b then x else y := by
  by_cases h : a = b <;> simp [byB, h]
theorem byB_bne {a b : Int} : byB (a != b) x y = if a = b then y else x := by
  by_cases h : a = b <;> simp [byB, h]
theorem byB_same {b : Bool} : byB b x x = x := by cases b <;> rfl
theorem loopN_succ {n : Nat} {F : (S → Option R) → S → Option R} {s : S} : loopN (n + 1) F s = F (loopN n F) s := rfl
theorem join_eq {g : S → Option R} {body : (S → Option R) → Option R} : withJoin g body = body g := by simp [withJoin]
/-- A loop that comes to its end within some rounds. -/
theorem loopN_ind {F : (S → Option R) → S → Option R} (I : Nat → S → Prop) (out : S → Option R) (h : ∀ k s (again : S → Option R), I k s → (∀ k' s', k' < k → I k' s' → again s' = out s') → F again s = out s) :
    ∀ (k : Nat) (s : S) (n : Nat), I k s → k < n → loopN n F s = out s := by
  intro k
  induction k using Nat.strongRecOn with
  | ind k ih =>
    intro s n hI hn
    match n, hn with
    | n + 1, hn =>
      rw [loopN_succ]
      exact h k s _ hI fun k' s' hk hI' => ih k' hk s' n hI' (by omega)
/-- What a run comes to. -/
def Ev (x : Option R) (Q : R → Prop) : Prop := ∃ r, x = some r ∧ Q r
theorem Ev.mk {r : R} {Q : R → Prop} (h : Q r) : Ev (some r) Q := ⟨r, rfl, h⟩
theorem Ev.mono {Q Q' : R → Prop} (h : Ev x Q) (k : ∀ r, Q r → Q' r) : Ev x Q' := let ⟨r, e, q⟩ := h; ⟨r, e, k r q⟩
theorem Ev.bind {a : Option S} {f : S → Option R} {Q : S → Prop} {Q' : R → Prop} (h : Ev a Q) (k : ∀ s, Q s → Ev (f s) Q') : Ev (a.bind f) Q' := by
  obtain ⟨r, rfl, q⟩ := h
  exact k r q
theorem Ev.dec {Q : R → Prop} (h : p → Ev x Q) (k : ¬ p → Ev y Q) : Ev (byB (decide p) x y) Q := by
  by_cases hp : p
  · rw [byB_t hp]; exact h hp
  · rw [byB_f hp]; exact k hp
theorem Ev.beq {a b : Int} {Q : R → Prop} (h : a = b → Ev x Q) (k : ¬ a = b → Ev y Q) : Ev (byB (a == b) x y) Q := by
  by_cases hp : a = b
  · rw [byB_eqt hp]; exact h hp
  · rw [byB_eqf hp]; exact k hp
theorem Ev.bne {a b : Int} {Q : R → Prop} (h : ¬ a = b → Ev x Q) (k : a = b → Ev y Q) : Ev (byB (a != b) x y) Q := by
  by_cases hp : a = b
  · rw [byB_nef hp]; exact k hp
  · rw [byB_net hp]; exact h hp
theorem Ev.by {b : Bool} {Q : R → Prop} (h : b = true → Ev x Q) (k : b = false → Ev y Q) : Ev (byB b x y) Q := by
  cases b
  · exact k rfl
  · exact h rfl
theorem Ev.guard {Q : R → Prop} (hp : p) (h : Ev x Q) : Ev (if p then x else none) Q := by rw [if_pos hp]; exact h
theorem Ev.not {Q : R → Prop} (hp : ¬ p) (h : Ev x Q) : Ev (if p then none else x) Q := by rw [if_neg hp]; exact h
/-- A loop by an invariant and a measure. -/
theorem Ev.loop {F : (S → Option R) → S → Option R} (I : Nat → S → Prop) {Q : R → Prop} (h : ∀ k s (again : S → Option R), I k s → (∀ k' s', k' < k → I k' s' → Ev (again s') Q) → Ev (F again s) Q) :
    ∀ {k : Nat} {s : S} {n : Nat}, I k s → k < n → Ev (loopN n F s) Q := by
  intro k
  induction k using Nat.strongRecOn with
  | ind k ih =>
    intro s n hI hn
    match n, hn with
    | n + 1, hn =>
      rw [loopN_succ]
      exact h k s _ hI fun k' s' hk hI' => ih k' hk hI' (by omega)
theorem Ev.eq {Q : R → Prop} {r : R} (h : Ev x Q) (k : ∀ s, Q s → s = r) : x = some r := by
  obtain ⟨s, rfl, q⟩ := h
  rw [k s q]
end

section
variable {α : Type}
theorem getD_set_eq {l : List α} {i : Nat} {a d : α} (h : i < l.length) : (l.set i a).getD i d = a := by
  simp [List.getD_eq_getElem?_getD, h]
theorem getD_set_ne {l : List α} {i j : Nat} {a d : α} (h : i ≠ j) : (l.set i a).getD j d = l.getD j d := by
  simp [List.getD_eq_getElem?_getD, List.getElem?_set_ne h]
theorem getD_set {l : List α} {i j : Nat} {a d : α} (h : i < l.length) : (l.set i a).getD j d = if i = j then a else l.getD j d := by
  by_cases e : i = j
  · subst e; rw [if_pos rfl, getD_set_eq h]
  · rw [if_neg e, getD_set_ne e]
theorem getD_mem {l : List α} {i : Nat} {d : α} (h : i < l.length) : l.getD i d ∈ l := by
  rw [List.getD_eq_getElem?_getD, List.getElem?_eq_getElem h]
  exact List.getElem_mem h
theorem getD_rep {n i : Nat} {a d : α} (h : i < n) : (List.replicate n a).getD i d = a := by
  simp [List.getD_eq_getElem?_getD, h]
theorem getD_app_l {l m : List α} {i : Nat} {d : α} (h : i < l.length) : (l ++ m).getD i d = l.getD i d := by
  simp [List.getD_eq_getElem?_getD, List.getElem?_append_left h]
theorem getD_app_r {l m : List α} {i : Nat} {d : α} (h : l.length ≤ i) : (l ++ m).getD i d = m.getD (i - l.length) d := by
  simp [List.getD_eq_getElem?_getD, List.getElem?_append_right h]
theorem getD_ge {l : List α} {i : Nat} {d : α} (h : l.length ≤ i) : l.getD i d = d := by
  simp [List.getD_eq_getElem?_getD, h]
theorem getD_eq {l : List α} {i : Nat} {d : α} (h : i < l.length) : l.getD i d = l[i] := by
  simp [List.getD_eq_getElem?_getD, h]
theorem take_succ_getD {l : List α} {i : Nat} {d : α} (h : i < l.length) : l.take (i + 1) = l.take i ++ [l.getD i d] := by
  rw [getD_eq h, List.take_succ_eq_append_getElem h]
theorem drop_getD {l : List α} {i : Nat} {d : α} (h : i < l.length) : l.drop i = l.getD i d :: l.drop (i + 1) := by
  rw [getD_eq h, List.drop_eq_getElem_cons h]
end

/-! bits -/
theorem bv_toNat {a : Nat} (ha : a < 18446744073709551616) : (BitVec.ofInt (IntKind.bits .u64) (a : Int)).toNat = a := by
  simp only [IntKind.bits, BitVec.ofInt_natCast, BitVec.toNat_ofNat]
  exact Nat.mod_eq_of_lt (by omega)
theorem bv_and {a b : Nat} (ha : a < 18446744073709551616) (hb : b < 18446744073709551616) : (BitVec.ofInt (IntKind.bits .u64) (a : Int) &&& BitVec.ofInt (IntKind.bits .u64) (b : Int)).toNat = a &&& b := by
  rw [BitVec.toNat_and, bv_toNat ha, bv_toNat hb]
theorem bv_or {a b : Nat} (ha : a < 18446744073709551616) (hb : b < 18446744073709551616) : (BitVec.ofInt (IntKind.bits .u64) (a : Int) ||| BitVec.ofInt (IntKind.bits .u64) (b : Int)).toNat = a ||| b := by
  rw [BitVec.toNat_or, bv_toNat ha, bv_toNat hb]
theorem shr_nat (a k : Nat) : Int.fdiv (a : Int) (2 ^ k) = ((a / 2 ^ k : Nat) : Int) := by
  rw [Int.fdiv_eq_ediv_of_nonneg _ (by exact Int.pow_nonneg (by omega))]
  simp
end Go.Proofs.YtcdnofemnpafhaaL
