/- What abstract values and blocks say of the machine's memory. Conditions: none. -/
import Derived.Test.YtcdnofemnpafhaaM1
import Derived.Below
import Derived.WalkKit
import Derived.Deep.MidRow
import Derived.Lib.TrailingZeros
namespace Go.Proofs.YtcdnofemnpafhaaM
set_option linter.unusedVariables false
set_option linter.unusedSimpArgs false
set_option linter.unnecessarySimpa false
set_option linter.unusedSectionVars false
open Go

def All2 {α β : Type} (R : α → β → Prop) (l : List α) (m : List β) : Prop := l.length = m.length ∧ ∀ (i : Nat) (a : α) (b : β), l[i]? = some a → m[i]? = some b → R a b
section
variable {α β γ : Type} {R S : α → β → Prop} {l l' : List α} {m m' : List β}
theorem All2.nil : All2 R [] [] := ⟨rfl, fun i a b h => by simp at h⟩
theorem All2.cons {a : α} {b : β} (h : R a b) (t : All2 R l m) : All2 R (a :: l) (b :: m) :=
  ⟨by simp [t.1], fun i x y hx hy => by
    cases i with
    | zero => simp at hx hy; subst hx; subst hy; exact h
    | succ i => simp at hx hy; exact t.2 i x y hx hy⟩
theorem All2.uncons {a : α} {b : β} (h : All2 R (a :: l) (b :: m)) : R a b ∧ All2 R l m :=
  ⟨h.2 0 a b rfl rfl, by simpa using h.1, fun i x y hx hy => h.2 (i + 1) x y (by simpa using hx) (by simpa using hy)⟩
theorem All2.cons_left {a : α} (h : All2 R (a :: l) m) : ∃ b m', m = b :: m' ∧ R a b ∧ All2 R l m' := by
  cases m with
  | nil => exact absurd h.1 (by simp)
  | cons b m => exact ⟨b, m, rfl, h.uncons.1, h.uncons.2⟩
theorem All2.nil_left (h : All2 R [] m) : m = [] := List.eq_nil_of_length_eq_zero (by have := h.1; simpa using this.symm)
theorem All2.imp (h : All2 R l m) (k : ∀ a b, R a b → S a b) : All2 S l m := ⟨h.1, fun i a b ha hb => k a b (h.2 i a b ha hb)⟩
theorem All2.imp_mem (h : All2 R l m) (k : ∀ a b, a ∈ l → R a b → S a b) : All2 S l m := ⟨h.1, fun i a b ha hb => k a b (List.mem_of_getElem? ha) (h.2 i a b ha hb)⟩
theorem All2.append (h : All2 R l m) (h' : All2 R l' m') : All2 R (l ++ l') (m ++ m') :=
  ⟨by simp [h.1, h'.1], fun i a b ha hb => by
    by_cases hi : i < l.length
    · rw [List.getElem?_append_left hi] at ha
      rw [List.getElem?_append_left (by rw [← h.1]; exact hi)] at hb
      exact h.2 i a b ha hb
    · rw [List.getElem?_append_right (by omega)] at ha
      rw [List.getElem?_append_right (by rw [← h.1]; omega), ← h.1] at hb
      exact h'.2 _ a b ha hb⟩
theorem All2.take (h : All2 R l m) (n : Nat) : All2 R (l.take n) (m.take n) :=
  ⟨by simp [h.1], fun i a b ha hb => by
    rw [List.getElem?_take] at ha hb
    by_cases hi : i < n
    · rw [if_pos hi] at ha hb; exact h.2 i a b ha hb
    · rw [if_neg hi] at ha; cases ha⟩
theorem All2.drop (h : All2 R l m) (n : Nat) : All2 R (l.drop n) (m.drop n) :=
  ⟨by simp [h.1], fun i a b ha hb => by
    rw [List.getElem?_drop] at ha hb
    exact h.2 _ a b ha hb⟩
theorem All2.get (h : All2 R l m) {i : Nat} {a : α} (ha : l[i]? = some a) : ∃ b, m[i]? = some b ∧ R a b := by
  have hi : i < m.length := by rw [← h.1]; exact (List.getElem?_eq_some_iff.1 ha).1
  exact ⟨m[i], List.getElem?_eq_getElem hi, h.2 i a _ ha (List.getElem?_eq_getElem hi)⟩
theorem All2.set (h : All2 R l m) {i : Nat} {a : α} {b : β} (hab : R a b) : All2 R (l.set i a) (m.set i b) :=
  ⟨by simp [h.1], fun q x y hx hy => by
    rw [List.getElem?_set] at hx hy
    by_cases hq : i = q
    · rw [if_pos hq] at hx hy
      split at hx
      · split at hy
        · cases hx; cases hy; exact hab
        · cases hy
      · cases hx
    · rw [if_neg hq] at hx hy; exact h.2 q x y hx hy⟩
theorem All2.map_left {f : γ → α} {l : List γ} (h : All2 (fun c b => R (f c) b) l m) : All2 R (l.map f) m :=
  ⟨by simp [h.1], fun i a b ha hb => by
    rw [List.getElem?_map, Option.map_eq_some_iff] at ha
    obtain ⟨c, hc, rfl⟩ := ha
    exact h.2 i c b hc hb⟩
theorem All2.splice (h : All2 R l m) (h' : All2 R l' m') (o : Nat) : All2 R (spliceL l o l') (spliceL m o m') := by
  unfold spliceL
  rw [h'.1]
  exact ((h.take o).append h').append (h.drop _)
theorem All2.replicate {a : α} {b : β} (h : R a b) (n : Nat) : All2 R (List.replicate n a) (List.replicate n b) :=
  ⟨by simp, fun i x y hx hy => by
    rw [List.getElem?_replicate] at hx hy
    by_cases hi : i < n
    · rw [if_pos hi] at hx hy; cases hx; cases hy; exact h
    · rw [if_neg hi] at hx; cases hx⟩
end

def RoC (w : World) (N : Nat → Prop) : (t : Ty) → t.den → List Value → Prop
  | .int k, n, cs => cs = [.int k n]
  | .bool, b, cs => cs = [.bool b]
  | .str, s, cs => cs = [.string s]
  | .unit, _, cs => cs = []
  | .pair a b, x, cs => ∃ c1 c2, cs = c1 ++ c2 ∧ RoC w N a x.1 c1 ∧ RoC w N b x.2 c2
  | .ro t, l, cs => ∃ A cap, cs = [.slice A l.length cap] ∧ l.length ≤ cap ∧
      ∀ (i : Nat) (x : t.den), l[i]? = some x → ∃ a c, A = some a ∧ ¬ N a.block ∧ a.block < w.heap.size ∧ RoC w N t x c ∧ ∀ (q : Nat) (u : Value), c[q]? = some u → w.cell? (a.add (i * t.sz + q)) = some u

theorem RoC.len {w : World} {N : Nat → Prop} : ∀ {t : Ty} {x : t.den} {cs : List Value}, RoC w N t x cs → cs.length = t.sz
  | .int _, _, _, h => by cases h; rfl
  | .bool, _, _, h => by cases h; rfl
  | .str, _, _, h => by cases h; rfl
  | .unit, _, _, h => by cases h; rfl
  | .pair a b, _, _, h => by
    obtain ⟨c1, c2, rfl, h1, h2⟩ := h
    rw [List.length_append, RoC.len h1, RoC.len h2]; rfl
  | .ro _, _, _, h => by
    obtain ⟨A, cap, rfl, _⟩ := h; rfl

theorem RoC.one {w : World} {N : Nat → Prop} : ∀ {t : Ty} {x : t.den} {cs : List Value}, RoC w N t x cs → ∀ u ∈ cs, u.oneCell' = true
  | .int _, _, _, h => by cases h; intro u hu; simp at hu; subst hu; rfl
  | .bool, _, _, h => by cases h; intro u hu; simp at hu; subst hu; rfl
  | .str, _, _, h => by cases h; intro u hu; simp at hu; subst hu; rfl
  | .unit, _, _, h => by cases h; intro u hu; simp at hu
  | .pair a b, _, _, h => by
    obtain ⟨c1, c2, rfl, h1, h2⟩ := h
    intro u hu
    rcases List.mem_append.1 hu with hu | hu
    · exact RoC.one h1 u hu
    · exact RoC.one h2 u hu
  | .ro _, _, _, h => by
    obtain ⟨A, cap, rfl, _⟩ := h; intro u hu; simp at hu; subst hu; rfl

theorem block_lt {w : World} {a : Addr} {v : Value} (h : w.cell? a = some v) : a.block < w.heap.size := World.block_lt_of_cell? w a h
theorem addr_add_block (a : Addr) (n : Nat) : (a.add n).block = a.block := by unfold Addr.add; split <;> rfl

theorem RoC.mov {w w' : World} {N N' : Nat → Prop} (hm : ∀ g, g < w.heap.size → ¬ N g → ¬ N' g ∧ w'.heap[g]? = w.heap[g]?) (hs : w.heap.size ≤ w'.heap.size) :
    ∀ {t : Ty} {x : t.den} {cs : List Value}, RoC w N t x cs → RoC w' N' t x cs
  | .int _, _, _, h => h
  | .bool, _, _, h => h
  | .str, _, _, h => h
  | .unit, _, _, h => h
  | .pair a b, _, _, h => by
    obtain ⟨c1, c2, rfl, h1, h2⟩ := h
    exact ⟨c1, c2, rfl, RoC.mov hm hs h1, RoC.mov hm hs h2⟩
  | .ro t, l, _, h => by
    obtain ⟨A, cap, rfl, hl, h⟩ := h
    refine ⟨A, cap, rfl, hl, fun i x hx => ?_⟩
    obtain ⟨a, c, hA, hN, hb, hr, hc⟩ := h i x hx
    obtain ⟨h1, h2⟩ := hm _ hb hN
    refine ⟨a, c, hA, h1, by omega, RoC.mov hm hs hr, fun q u hu => ?_⟩
    rw [← hc q u hu]
    exact World.cell?_of_block (by rw [addr_add_block]; exact h2)

def Cls (w : World) (g : Nat) (cells : Array Value) (T : TypeId) : Prop := ∃ (T' : TypeId) (fz : Nat × Nat), w.heap[g]? = some (.cells cells T' fz) ∧ (∀ i, i < cells.size → ¬ (fz.1 ≤ i ∧ i < fz.2)) ∧ (T < 1000000 → T' = T ∧ fz = (0, 0))
theorem Cls.mk0 {w : World} {g : Nat} {cells : Array Value} {T : TypeId} (h : w.heap[g]? = some (.cells cells T (0, 0))) : Cls w g cells T := ⟨T, (0, 0), h, fun i _ h => by omega, fun _ => ⟨rfl, rfl⟩⟩
theorem Cls.get {w : World} {g : Nat} {cells : Array Value} {T : TypeId} (h : Cls w g cells T) (hT : T < 1000000) : w.heap[g]? = some (.cells cells T (0, 0)) := by
  obtain ⟨T', fz, h, _, k⟩ := h
  obtain ⟨rfl, rfl⟩ := k hT
  exact h
theorem Cls.lt {w : World} {g : Nat} {cells : Array Value} {T : TypeId} (h : Cls w g cells T) : g < w.heap.size := by
  obtain ⟨T', fz, h, _⟩ := h
  exact (Array.getElem?_eq_some_iff.1 h).1
theorem Cls.inj {w : World} {g : Nat} {c c' : Array Value} {T T' : TypeId} (h : Cls w g c T) (h' : Cls w g c' T') : c = c' := by
  obtain ⟨_, fz, h, _⟩ := h
  obtain ⟨_, fz', h', _⟩ := h'
  rw [h] at h'
  cases h'
  rfl
theorem Cls.of_eq {w w' : World} {g : Nat} {c : Array Value} {T : TypeId} (e : w'.heap[g]? = w.heap[g]?) (h : Cls w g c T) : Cls w' g c T := by
  obtain ⟨T', fz, h, k⟩ := h
  exact ⟨T', fz, e.trans h, k⟩
theorem Cls.stay {w w' : World} {g : Nat} {c : Array Value} {T : TypeId} (t : ∀ (g : Nat) (cs : Array Value) (T : TypeId) (f : Nat × Nat), w.heap[g]? = some (.cells cs T f) → w'.heap[g]? = some (.cells cs T f)) (h : Cls w g c T) : Cls w' g c T := by
  obtain ⟨T', fz, h, k⟩ := h
  exact ⟨T', fz, t _ _ _ _ h, k⟩
theorem Cls.cell {w : World} {g : Nat} {c : Array Value} {T : TypeId} (h : Cls w g c T) (i : Nat) : w.cell? ⟨g, i, none⟩ = c[i]? := by
  obtain ⟨T', fz, h, _⟩ := h
  simp [World.cell?, h]
theorem Cls.free {w : World} {g : Nat} {c : Array Value} {T : TypeId} (h : Cls w g c T) {i : Nat} (hi : i < c.size) : w.frozen? ⟨g, i, none⟩ = false := by
  obtain ⟨T', fz, h, k, _⟩ := h
  have := k i hi
  simp [World.frozen?, h]
  omega
theorem Cls.turned {w w' : World} {g : Nat} {c c' : Array Value} {T0 T : TypeId} {fz : Nat × Nat} (hw : w.heap[g]? = some (.cells c T0 fz)) (hw' : w'.heap[g]? = some (.cells c' T0 fz)) (hs : c'.size = c.size) {c1 : Array Value} (h : Cls w g c1 T) : Cls w' g c' T ∧ c1 = c := by
  obtain ⟨T', fz', h, k, k2⟩ := h
  rw [hw] at h
  cases h
  exact ⟨⟨_, _, hw', by rw [hs]; exact k, k2⟩, rfl⟩

def chV (ps : List Nat) : Value := .agg (ps.map fun (n : Nat) => Value.int .i64 (n : Int)).toArray
def chOf : Value → List Nat
  | .agg vs => vs.toList.map fun | .int _ n => n.toNat | _ => 0
  | _ => []
theorem chOf_chV (ps : List Nat) : chOf (chV ps) = ps := by
  simp [chOf, chV, Function.comp_def]
def valT : (t : Ty) → t.den → List Value
  | .int k, n => [.int k n]
  | .bool, b => [.bool b]
  | .str, s => [.string s]
  | .ro _, _ => []
  | .unit, _ => []
  | .pair a b, x => valT a x.1 ++ valT b x.2
def owV (cap : Nat) (ps : List (Option Nat)) : Value := .agg (Value.int .i64 (cap : Int) :: ps.map fun (p : Option Nat) => match p with | some n => Value.int .i64 (n : Int) | none => Value.bool false).toArray
def owP : Value → Option Nat
  | .int _ n => some n.toNat
  | _ => none
def owCap : Value → Nat
  | .agg vs => match vs.toList with | .int _ n :: _ => n.toNat | _ => 0
  | _ => 0
def owOf : Value → List (Option Nat)
  | .agg vs => (vs.toList.drop 1).map owP
  | _ => []
theorem owCap_owV (cap : Nat) (ps : List (Option Nat)) : owCap (owV cap ps) = cap := by simp [owCap, owV]
theorem owOf_owV (cap : Nat) (ps : List (Option Nat)) : owOf (owV cap ps) = ps := by
  simp only [owOf, owV, List.drop_succ_cons, List.drop_zero, List.map_map]
  conv => rhs; rw [← List.map_id ps]
  refine List.map_congr_left fun p _ => ?_
  cases p <;> simp [owP]
def OwC (w : World) : (t : Ty) → t.den → Option Nat → List Value → Prop
  | .ro u, l, p, c => ∃ A cap, c = [.slice A l.length cap] ∧ l.length ≤ cap ∧ (l ≠ [] → ∃ g arr U, p = some g ∧ A = some ⟨g, 0, none⟩ ∧ Cls w g arr U ∧ l.length * u.sz ≤ arr.size ∧
      ∀ (k : Nat) (y : u.den), l[k]? = some y → ∀ (q : Nat) (v : Value), (valT u y)[q]? = some v → arr[k * u.sz + q]? = some v)
  | .pair a b, x, p, c => ∃ c2, c = valT a x.1 ++ c2 ∧ OwC w b x.2 p c2
  | _, _, _, _ => False
def linkV (ps : List Nat) (i : Nat) : Value := .pointer ((ps[i]?).map fun g => ⟨g, 0, none⟩)

structure J where
  blk : Nat → Option Nat
  cv : Nat → Value

def Blk.live : Blk → Prop
  | .dead => False
  | _ => True

def CRel (j : J) (H : List Blk) (w : World) (N : Nat → Prop) (c : Cell) (v : Value) : Prop :=
  v.oneCell' = true ∧
  match c with
  | .int k n => v = .int k n
  | .bool b => v = .bool b
  | .str s => v = .string s
  | .ro t l => RoC w N (.ro t) l [v]
  | .nils => v = .slice none 0 0
  | .full b => b < H.length ∧ ∀ T t l, H[b]? = some (.row T t l) → (j.blk b = none ∧ v = .slice none 0 0) ∨ ∃ g cap, j.blk b = some g ∧ v = .slice (some ⟨g, 0, none⟩) l.length cap ∧ ∃ cells, Cls w g cells T ∧ cells.size = cap * t.sz
  | .part b o n => b < H.length ∧ ∀ T t l, H[b]? = some (.row T t l) → o + n ≤ l.length ∧ ∃ A cap, v = .slice A n cap ∧ n ≤ cap ∧ (0 < n → ∃ g, j.blk b = some g ∧ A = some ⟨g, o * t.sz, none⟩)
  | .ptr b i o => b < H.length ∧ (∃ a, v = .pointer (some a)) ∧ ∀ B, H[b]? = some B → match B with
      | .var _ _ => i = 0 ∧ ∃ g, j.blk b = some g ∧ v = .pointer (some ⟨g, o, none⟩)
      | .row _ t l => i < l.length ∧ ∃ g, j.blk b = some g ∧ v = .pointer (some ⟨g, i * t.sz + o, none⟩)
      | _ => True
  | .arr b o n i => b < H.length ∧ ∀ T cs, H[b]? = some (.var T cs) → i < n ∧ ∃ g, j.blk b = some g ∧ v = .pointer (some ⟨g, o + i, none⟩)
  | .rop t x o => ∃ (e : Addr) (c : List Value), v = .pointer (some (e.add o)) ∧ ¬ N e.block ∧ e.block < w.heap.size ∧ RoC w N t x c ∧ ∀ (q : Nat) (u : Value), c[q]? = some u → w.cell? (e.add q) = some u
  | .nilp => v = .pointer none
  | .fn _ b => b < H.length ∧ ∀ f a c, H[b]? = some (.clo f a c) → v = j.cv b
  | .sfn f => v = .func (.func f) #[] #[]
  | .nilf => v = .nilFunc
  | .map b => b < H.length ∧ ∀ kt vt m, H[b]? = some (.map kt vt m) → ∃ g, j.blk b = some g ∧ v = .map (some g)
  | .nilm => v = .map none
  | .vsl b n => b < H.length ∧ ∀ T cs, H[b]? = some (.var T cs) → n = cs.length ∧ ∃ g, j.blk b = some g ∧ v = .slice (some ⟨g, 0, none⟩) n n
  | .yl b => b < H.length ∧ ∀ f a d, H[b]? = some (.yld f a d) → ∃ g, j.blk b = some g ∧ v = .func (.yield g) #[] #[]
  | .ofull b => b < H.length ∧ ∀ T t l, H[b]? = some (.own T t l) → (j.blk b = none ∧ v = .slice none 0 0) ∨ ∃ g, j.blk b = some g ∧ v = .slice (some ⟨g, 0, none⟩) l.length (owCap (j.cv b))
  | .optr b i o => b < H.length ∧ (∃ a, v = .pointer (some a)) ∧ ∀ T t l, H[b]? = some (.own T t l) → i < l.length ∧ ∃ g, j.blk b = some g ∧ v = .pointer (some ⟨g, i * t.sz + o, none⟩)
  | .oin b i n => b < H.length ∧ ∀ T t l, H[b]? = some (.own T t l) → ∃ A cap, v = .slice A n cap ∧ n ≤ cap ∧ (0 < n → ∃ g, (owOf (j.cv b))[i]? = some (some g) ∧ A = some ⟨g, 0, none⟩)
  | .oip b i k o => b < H.length ∧ (∃ a, v = .pointer (some a)) ∧ ∀ T t l, H[b]? = some (.own T t l) → ∃ g, (owOf (j.cv b))[i]? = some (some g) ∧ v = .pointer (some ⟨g, k * t.inn.sz + o, none⟩)
  | .lnk c i => c < H.length ∧ ∀ T t l, H[c]? = some (.chn T t l) → v = linkV (chOf (j.cv c)) i
  | .nptr c i o => c < H.length ∧ (∃ a, v = .pointer (some a)) ∧ ∀ T t l, H[c]? = some (.chn T t l) → ∃ g, (chOf (j.cv c))[i]? = some g ∧ v = .pointer (some ⟨g, o, none⟩)
  | .hole b o c i => b < H.length ∧ c < H.length ∧ (∃ a, v = .pointer (some a)) ∧ (i = 0 → ∀ T cs, H[b]? = some (.var T cs) → o < cs.length ∧ ∃ g, j.blk b = some g ∧ v = .pointer (some ⟨g, o, none⟩)) ∧
      ∀ k, i = k + 1 → ∀ T t l, H[c]? = some (.chn T t l) → ∃ g, (chOf (j.cv c))[k]? = some g ∧ v = .pointer (some ⟨g, t.sz, none⟩)
  | .top => True

def V1Rel (j : J) (H : List Blk) (w : World) (N : Nat → Prop) : V1 → Value → Prop
  | .one c, v => c = .top ∨ CRel j H w N c v
  | .agg cs, v => ∃ vs : Array Value, v = .agg vs ∧ All2 (CRel j H w N) cs vs.toList
def AVRel (j : J) (H : List Blk) (w : World) (N : Nat → Prop) : AV → Value → Prop
  | .v x, v => V1Rel j H w N x v
  | .tup xs, v => ∃ vs : Array Value, v = .tuple vs ∧ All2 (V1Rel j H w N) xs vs.toList

def valOf (t : Ty) (x : t.den) : Value := match t, x with
  | .pair a b, x => .agg (valT (.pair a b) x).toArray
  | t, x => (valT t x).headD (.bool false)

def finL (r : Loop) (d : Bool) : Loop := { r with state := if d = true then .done else .ready, pending := jumpC d }
def BRel (P : Program) (j : J) (H : List Blk) (w : World) (N : Nat → Prop) (b : Nat) : Blk → Prop
  | .dead => True
  | .var T cs => ∃ g vs, j.blk b = some g ∧ w.heap[g]? = some (.cells vs T (0, 0)) ∧ All2 (CRel j H w N) cs vs.toList
  | .row T t l => (j.blk b = none ∧ l = []) ∨ ∃ g cap cells, j.blk b = some g ∧ Cls w g cells T ∧ cells.size = cap * t.sz ∧ 0 < t.sz ∧ l.length ≤ cap ∧ cap ≤ maxLen ∧
      ∀ (i : Nat) (x : t.den), l[i]? = some x → ∃ c, RoC w N t x c ∧ ∀ (q : Nat) (u : Value), c[q]? = some u → cells[i * t.sz + q]? = some u
  | .clo f a c => j.blk b = none ∧ ∃ A C, j.cv b = .func (.func f) A C ∧ All2 (V1Rel j H w N) a A.toList ∧ All2 (V1Rel j H w N) c C.toList
  | .map kt vt m => ∃ g es clock, j.blk b = some g ∧ w.heap[g]? = some (.map es clock) ∧ es.toList.map (fun e => (e.key, e.val)) = m.map (fun p => (valOf kt p.1, valOf vt p.2))
  | .yld f a d => ∃ (g : Nat) (r : Loop), j.blk b = some g ∧ w.heap[g]? = some (.loop (finL r d)) ∧ rinfo P f = some (r.params, r.assign, r.body) ∧ r.tmps.size = rnt P f ∧ All2 (V1Rel j H w N) a ((rslots r.params r.assign r.body).map fun i => r.tmps.getD i undef)
  | .own T t l => t.own = true ∧ (owOf (j.cv b)).length = l.length ∧ (∀ (i k p : Nat), (owOf (j.cv b))[i]? = some (some p) → (owOf (j.cv b))[k]? = some (some p) → i = k) ∧
      ((j.blk b = none ∧ l = []) ∨ ∃ g cells, j.blk b = some g ∧ w.heap[g]? = some (.cells cells T (0, 0)) ∧ cells.size = owCap (j.cv b) * t.sz ∧ l.length ≤ owCap (j.cv b) ∧ owCap (j.cv b) ≤ maxLen ∧ (∀ (i p : Nat), (owOf (j.cv b))[i]? = some (some p) → p ≠ g ∧ ∃ arr U, Cls w p arr U) ∧
        ∀ (i : Nat) (x : t.den) (p : Option Nat), l[i]? = some x → (owOf (j.cv b))[i]? = some p → OwC w t x p ((cells.toList.drop (i * t.sz)).take t.sz))
  | .chn T t l => t.noRo = true ∧ 0 < t.sz ∧ (chOf (j.cv b)).length = l.length ∧ (chOf (j.cv b)).Nodup ∧ ∀ (i g : Nat) (x : t.den), (chOf (j.cv b))[i]? = some g → l[i]? = some x →
      w.heap[g]? = some (.cells ((valT t x ++ [linkV (chOf (j.cv b)) (i + 1)]).toArray) T (0, 0))

def At (j : J) (b : Nat) (B : Blk) (g : Nat) : Prop :=
  match B with
  | .chn _ _ _ => g ∈ chOf (j.cv b)
  | .own _ _ _ => j.blk b = some g ∨ ∃ i : Nat, (owOf (j.cv b))[i]? = some (some g)
  | _ => j.blk b = some g
def Own (j : J) (H : List Blk) (g : Nat) : Prop := ∃ b B, H[b]? = some B ∧ B.live ∧ At j b B g

theorem Cls.stay1 {w w' : World} {g : Nat} {c : Array Value} {T : TypeId} (e : w'.heap[g]? = w.heap[g]?) (h : Cls w g c T) : Cls w' g c T := Cls.of_eq e h
theorem OwC.mov {w w' : World} {p : Option Nat} (hp : ∀ g, p = some g → w'.heap[g]? = w.heap[g]?) : ∀ {t : Ty} {x : t.den} {c : List Value}, OwC w t x p c → OwC w' t x p c
  | .ro u, l, c, h => by
    obtain ⟨A, cap, h1, h2, h3⟩ := h
    refine ⟨A, cap, h1, h2, fun hl => ?_⟩
    obtain ⟨g, arr, U, k1, k2, k3, k4⟩ := h3 hl
    exact ⟨g, arr, U, k1, k2, Cls.of_eq (hp g k1) k3, k4⟩
  | .pair a b, x, c, h => by
    obtain ⟨c2, h1, h2⟩ := h
    exact ⟨c2, h1, OwC.mov hp h2⟩
  | .int _, _, _, h => h.elim
  | .bool, _, _, h => h.elim
  | .str, _, _, h => h.elim
  | .unit, _, _, h => h.elim

def Blk.same : Blk → Blk → Prop
  | .var T cs, .var T' cs' => T = T' ∧ cs.length = cs'.length
  | .row T t l, .row T' t' l' => T = T' ∧ t = t' ∧ l.length = l'.length
  | .clo f _ _, .clo f' _ _ => f = f'
  | .map k v _, .map k' v' _ => k = k' ∧ v = v'
  | .yld f _ _, .yld f' _ _ => f = f'
  | .chn T t l, .chn T' t' l' => T = T' ∧ t = t' ∧ l.length = l'.length
  | .own T t l, .own T' t' l' => T = T' ∧ t = t' ∧ l.length = l'.length
  | _, _ => False

theorem At.congr {j j' : J} {b b' : Nat} {B B' : Blk} {g : Nat} (h : B.same B') (e1 : j'.blk b' = j.blk b) (e2 : j'.cv b' = j.cv b) : At j' b' B' g ↔ At j b B g := by
  cases B <;> cases B' <;> simp only [Blk.same] at h <;> simp only [At, e1, e2]
theorem Blk.same_refl {B : Blk} (h : B.live) : B.same B := by cases B <;> first | exact h.elim | exact rfl | exact ⟨rfl, rfl⟩ | exact ⟨rfl, rfl, rfl⟩

structure Mov (j : J) (H : List Blk) (w : World) (N : Nat → Prop) (j' : J) (H' : List Blk) (w' : World) (N' : Nat → Prop) : Prop where
  len : H.length ≤ H'.length
  blk : ∀ b B, H[b]? = some B → ∃ B', H'[b]? = some B' ∧ (B'.live → B.same B' ∧ j'.blk b = j.blk b ∧ j'.cv b = j.cv b)
  size : w.heap.size ≤ w'.heap.size
  ro : ∀ g, g < w.heap.size → ¬ N g → ¬ N' g ∧ w'.heap[g]? = w.heap[g]?
  row : ∀ b T t l g cells, b < H.length → H'[b]? = some (.row T t l) → j.blk b = some g → Cls w g cells T → ∃ cells', Cls w' g cells' T ∧ cells'.size = cells.size

section
variable {P : Program} {j j' : J} {H H' : List Blk} {w w' : World} {N N' : Nat → Prop}

theorem Mov.old (m : Mov j H w N j' H' w' N') {b : Nat} {B' : Blk} (hb : b < H.length) (h : H'[b]? = some B') (hl : B'.live) :
    ∃ B, H[b]? = some B ∧ B.same B' ∧ j'.blk b = j.blk b ∧ j'.cv b = j.cv b := by
  obtain ⟨B2, h2, h3⟩ := m.blk b _ (List.getElem?_eq_getElem hb)
  rw [h] at h2
  cases h2
  exact ⟨_, List.getElem?_eq_getElem hb, h3 hl⟩

theorem CRel.mov (m : Mov j H w N j' H' w' N') {c : Cell} {v : Value} (h : CRel j H w N c v) : CRel j' H' w' N' c v := by
  obtain ⟨h1, h⟩ := h
  refine ⟨h1, ?_⟩
  cases c with
  | int k n => exact h
  | bool b => exact h
  | str s => exact h
  | ro t l => exact RoC.mov m.ro m.size h
  | nils => exact h
  | nilp => exact h
  | sfn f => exact h
  | nilf => exact h
  | nilm => exact h
  | top => trivial
  | rop t x o =>
    obtain ⟨e, c, hv, hN, hlt, hr, hc⟩ := h
    obtain ⟨h2, h3⟩ := m.ro _ hlt hN
    exact ⟨e, c, hv, h2, Nat.lt_of_lt_of_le hlt m.size, RoC.mov m.ro m.size hr, fun q u hu => by
      rw [← hc q u hu]
      exact World.cell?_of_block (by rw [addr_add_block]; exact h3)⟩
  | full b =>
    obtain ⟨hb, h⟩ := h
    refine ⟨Nat.lt_of_lt_of_le hb m.len, fun T t l hl => ?_⟩
    obtain ⟨B, hB, hs, e1, _⟩ := m.old hb hl trivial
    cases B <;> simp only [Blk.same] at hs
    rename_i T0 t0 l0
    obtain ⟨rfl, rfl, hlen⟩ := hs
    rcases h _ _ _ hB with ⟨k1, k2⟩ | ⟨g, cap, k1, k2, cells, k3, k4⟩
    · exact .inl ⟨e1.trans k1, k2⟩
    · obtain ⟨cells', k5, k6⟩ := m.row b _ _ _ g cells hb hl k1 k3
      exact .inr ⟨g, cap, e1.trans k1, by rw [← hlen]; exact k2, cells', k5, by rw [k6, k4]⟩
  | part b o n =>
    obtain ⟨hb, h⟩ := h
    refine ⟨Nat.lt_of_lt_of_le hb m.len, fun T t l hl => ?_⟩
    obtain ⟨B, hB, hs, e1, _⟩ := m.old hb hl trivial
    cases B <;> simp only [Blk.same] at hs
    obtain ⟨rfl, rfl, hlen⟩ := hs
    obtain ⟨k1, A, cap, k2, k3, k4⟩ := h _ _ _ hB
    exact ⟨by omega, A, cap, k2, k3, fun hn => by obtain ⟨g, k5, k6⟩ := k4 hn; exact ⟨g, e1.trans k5, k6⟩⟩
  | ptr b i o =>
    obtain ⟨hb, hp, h⟩ := h
    refine ⟨Nat.lt_of_lt_of_le hb m.len, hp, fun B' hl => ?_⟩
    cases B' with
    | var T cs =>
      obtain ⟨B, hB, hs, e1, _⟩ := m.old hb hl trivial
      cases B <;> simp only [Blk.same] at hs
      obtain ⟨k1, g, k2, k3⟩ := h _ hB
      exact ⟨k1, g, e1.trans k2, k3⟩
    | row T t l =>
      obtain ⟨B, hB, hs, e1, _⟩ := m.old hb hl trivial
      cases B <;> simp only [Blk.same] at hs
      obtain ⟨rfl, rfl, hlen⟩ := hs
      obtain ⟨k1, g, k2, k3⟩ := h _ hB
      exact ⟨by omega, g, e1.trans k2, k3⟩
    | _ => trivial
  | arr b o n i =>
    obtain ⟨hb, h⟩ := h
    refine ⟨Nat.lt_of_lt_of_le hb m.len, fun T cs hl => ?_⟩
    obtain ⟨B, hB, hs, e1, _⟩ := m.old hb hl trivial
    cases B <;> simp only [Blk.same] at hs
    obtain ⟨k1, g, k2, k3⟩ := h _ _ hB
    exact ⟨k1, g, e1.trans k2, k3⟩
  | fn f b =>
    obtain ⟨hb, h⟩ := h
    refine ⟨Nat.lt_of_lt_of_le hb m.len, fun f a c hl => ?_⟩
    obtain ⟨B, hB, hs, _, e2⟩ := m.old hb hl trivial
    cases B <;> simp only [Blk.same] at hs
    exact (h _ _ _ hB).trans e2.symm
  | map b =>
    obtain ⟨hb, h⟩ := h
    refine ⟨Nat.lt_of_lt_of_le hb m.len, fun kt vt l hl => ?_⟩
    obtain ⟨B, hB, hs, e1, _⟩ := m.old hb hl trivial
    cases B <;> simp only [Blk.same] at hs
    obtain ⟨g, k1, k2⟩ := h _ _ _ hB
    exact ⟨g, e1.trans k1, k2⟩
  | vsl b n =>
    obtain ⟨hb, h⟩ := h
    refine ⟨Nat.lt_of_lt_of_le hb m.len, fun T cs hl => ?_⟩
    obtain ⟨B, hB, hs, e1, _⟩ := m.old hb hl trivial
    cases B <;> simp only [Blk.same] at hs
    obtain ⟨k0, g, k1, k2⟩ := h _ _ hB
    exact ⟨k0.trans hs.2, g, e1.trans k1, k2⟩
  | yl b =>
    obtain ⟨hb, h⟩ := h
    refine ⟨Nat.lt_of_lt_of_le hb m.len, fun f a d hl => ?_⟩
    obtain ⟨B, hB, hs, e1, _⟩ := m.old hb hl trivial
    cases B <;> simp only [Blk.same] at hs
    obtain ⟨g, k1, k2⟩ := h _ _ _ hB
    exact ⟨g, e1.trans k1, k2⟩
  | ofull b =>
    obtain ⟨hb, h⟩ := h
    refine ⟨Nat.lt_of_lt_of_le hb m.len, fun T t l hl => ?_⟩
    obtain ⟨B, hB, hs, e1, e2⟩ := m.old hb hl trivial
    cases B <;> simp only [Blk.same] at hs
    obtain ⟨rfl, rfl, hlen⟩ := hs
    rw [e1, e2, ← hlen]
    exact h _ _ _ hB
  | optr b i o =>
    obtain ⟨hb, hp, h⟩ := h
    refine ⟨Nat.lt_of_lt_of_le hb m.len, hp, fun T t l hl => ?_⟩
    obtain ⟨B, hB, hs, e1, e2⟩ := m.old hb hl trivial
    cases B <;> simp only [Blk.same] at hs
    obtain ⟨rfl, rfl, hlen⟩ := hs
    rw [e1, ← hlen]
    exact h _ _ _ hB
  | oin b i n =>
    obtain ⟨hb, h⟩ := h
    refine ⟨Nat.lt_of_lt_of_le hb m.len, fun T t l hl => ?_⟩
    obtain ⟨B, hB, hs, _, e2⟩ := m.old hb hl trivial
    cases B <;> simp only [Blk.same] at hs
    rw [e2]
    exact h _ _ _ hB
  | oip b i k o =>
    obtain ⟨hb, hp, h⟩ := h
    refine ⟨Nat.lt_of_lt_of_le hb m.len, hp, fun T t l hl => ?_⟩
    obtain ⟨B, hB, hs, _, e2⟩ := m.old hb hl trivial
    cases B <;> simp only [Blk.same] at hs
    obtain ⟨rfl, rfl, _⟩ := hs
    rw [e2]
    exact h _ _ _ hB
  | lnk b i =>
    obtain ⟨hb, h⟩ := h
    refine ⟨Nat.lt_of_lt_of_le hb m.len, fun T t l hl => ?_⟩
    obtain ⟨B, hB, hs, _, e2⟩ := m.old hb hl trivial
    cases B <;> simp only [Blk.same] at hs
    rw [e2]
    exact h _ _ _ hB
  | nptr b i o =>
    obtain ⟨hb, hp, h⟩ := h
    refine ⟨Nat.lt_of_lt_of_le hb m.len, hp, fun T t l hl => ?_⟩
    obtain ⟨B, hB, hs, _, e2⟩ := m.old hb hl trivial
    cases B <;> simp only [Blk.same] at hs
    rw [e2]
    exact h _ _ _ hB
  | hole b o c i =>
    obtain ⟨hb, hc, hp, h0, h1⟩ := h
    refine ⟨Nat.lt_of_lt_of_le hb m.len, Nat.lt_of_lt_of_le hc m.len, hp, fun hi T cs hl => ?_, fun k hk T t l hl => ?_⟩
    · obtain ⟨B, hB, hs, e1, _⟩ := m.old hb hl trivial
      cases B <;> simp only [Blk.same] at hs
      obtain ⟨k1, g, k2, k3⟩ := h0 hi _ _ hB
      exact ⟨by omega, g, e1.trans k2, k3⟩
    · obtain ⟨B, hB, hs, _, e2⟩ := m.old hc hl trivial
      cases B <;> simp only [Blk.same] at hs
      obtain ⟨rfl, rfl, _⟩ := hs
      rw [e2]
      exact h1 k hk _ _ _ hB

theorem V1Rel.mov (m : Mov j H w N j' H' w' N') {x : V1} {v : Value} (h : V1Rel j H w N x v) : V1Rel j' H' w' N' x v := by
  cases x with
  | one c => exact h.imp id (CRel.mov m)
  | agg cs => obtain ⟨vs, rfl, h⟩ := h; exact ⟨vs, rfl, h.imp fun _ _ => CRel.mov m⟩
theorem AVRel.mov (m : Mov j H w N j' H' w' N') {x : AV} {v : Value} (h : AVRel j H w N x v) : AVRel j' H' w' N' x v := by
  cases x with
  | v x => exact V1Rel.mov m h
  | tup xs => obtain ⟨vs, rfl, h⟩ := h; exact ⟨vs, rfl, h.imp fun _ _ => V1Rel.mov m⟩

theorem BRel.mov (m : Mov j H w N j' H' w' N') {b : Nat} {B : Blk} (h : BRel P j H w N b B) (e1 : j'.blk b = j.blk b) (e2 : j'.cv b = j.cv b)
    (hg : ∀ g, At j b B g → w'.heap[g]? = w.heap[g]?) : BRel P j' H' w' N' b B := by
  cases B with
  | dead => trivial
  | var T cs =>
    obtain ⟨g, vs, h1, h2, h3⟩ := h
    exact ⟨g, vs, e1.trans h1, (hg g h1).trans h2, h3.imp fun _ _ => CRel.mov m⟩
  | row T t l =>
    rcases h with ⟨h1, h2⟩ | ⟨g, cap, cells, h1, h2, h3, hz, h4, h5, h6⟩
    · exact .inl ⟨e1.trans h1, h2⟩
    · exact .inr ⟨g, cap, cells, e1.trans h1, Cls.of_eq (hg g h1) h2, h3, hz, h4, h5, fun i x hx => by
        obtain ⟨c, hc, hq⟩ := h6 i x hx
        exact ⟨c, RoC.mov m.ro m.size hc, hq⟩⟩
  | clo f a c =>
    obtain ⟨h0, A, C, h1, h2, h3⟩ := h
    exact ⟨e1.trans h0, A, C, e2.trans h1, h2.imp fun _ _ => V1Rel.mov m, h3.imp fun _ _ => V1Rel.mov m⟩
  | map kt vt l =>
    obtain ⟨g, es, clock, h1, h2, h3⟩ := h
    exact ⟨g, es, clock, e1.trans h1, (hg g h1).trans h2, h3⟩
  | yld f a d =>
    obtain ⟨g, r, h1, h2, h3, h5, h4⟩ := h
    exact ⟨g, r, e1.trans h1, (hg g h1).trans h2, h3, h5, h4.imp fun _ _ => V1Rel.mov m⟩
  | own T t l =>
    obtain ⟨h1, h2, h3, h4⟩ := h
    show _ ∧ _ ∧ _ ∧ _
    rw [e1, e2]
    refine ⟨h1, h2, h3, ?_⟩
    rcases h4 with h4 | ⟨g, cells, k1, k2, k3, k4, k5, k6, k7⟩
    · exact .inl h4
    · exact .inr ⟨g, cells, k1, (hg g (.inl k1)).trans k2, k3, k4, k5, fun i p hp => ⟨(k6 i p hp).1, (k6 i p hp).2.imp fun _ h => h.imp fun _ h => Cls.of_eq (hg p (.inr ⟨i, hp⟩)) h⟩, fun i x p hx hp => OwC.mov (fun g' hg' => hg g' (.inr ⟨i, by rw [hp, hg']⟩)) (k7 i x p hx hp)⟩
  | chn T t l =>
    obtain ⟨h1, h2, h3, h4, h5⟩ := h
    refine ⟨h1, h2, by rw [e2]; exact h3, by rw [e2]; exact h4, fun i g x hi hx => ?_⟩
    rw [e2] at hi ⊢
    exact (hg g (List.mem_of_getElem? hi)).trans (h5 i g x hi hx)
end

structure Cx where
  A : Nat → Prop
  n : Nat
  j0 : J
  H0 : List Blk
  own0 : Nat → Prop
  w0 : World

def NN (c : Cx) (j : J) (H : List Blk) (g : Nat) : Prop := c.A g ∨ Own j H g

def TabIn (g : Nat) (tab : List Nat) (w : World) : Prop := ∀ j, j < tab.length → w.cell? ⟨g, j, none⟩ = some (.int .u8 (tab.getD j 0))
def isTab (P : Program) (g : Nat) : Prop := P.globals.findIdx? (fun x => x.name == "math/bits.deBruijn64tab") = some g
def GlobOk (P : Program) (w : World) (O : Nat → Prop) : Prop := ∀ g, isTab P g → ¬ O g ∧ g < w.heap.size ∧ TabIn g Lib.deBruijn64tab w
theorem GlobOk.mov {P : Program} {w w' : World} {O O' : Nat → Prop} (h : GlobOk P w O) (hs : w.heap.size ≤ w'.heap.size) (k : ∀ g, g < w.heap.size → ¬ O g → ¬ O' g ∧ w'.heap[g]? = w.heap[g]?) : GlobOk P w' O' := fun g hg => by
  obtain ⟨h1, h2, h3⟩ := h g hg
  obtain ⟨k1, k2⟩ := k g h2 h1
  exact ⟨k1, Nat.lt_of_lt_of_le h2 hs, fun j hj => by rw [← h3 j hj]; exact World.cell?_of_block k2⟩

structure Inv (P : Program) (c : Cx) (j : J) (H : List Blk) (w : World) : Prop where
  n : c.n ≤ H.length
  keep : ∀ i B, i < c.n → H[i]? = some B → B.live → j.blk i = c.j0.blk i ∧ j.cv i = c.j0.cv i
  neu : ∀ i B g, c.n ≤ i → H[i]? = some B → B.live → At j i B g → c.w0.heap.size ≤ g ∨ c.own0 g
  own : ∀ i B g, i < c.n → H[i]? = some B → B.live → At j i B g → c.own0 g
  inj : ∀ i i' B B' g, H[i]? = some B → H[i']? = some B' → B.live → B'.live → At j i B g → At j i' B' g → i = i'
  frame : ∀ g, g < c.w0.heap.size → ¬ c.own0 g → w.heap[g]? = c.w0.heap[g]?
  size : c.w0.heap.size ≤ w.heap.size
  os : w.os = c.w0.os
  tape : w.tape = c.w0.tape
  output : w.output = c.w0.output
  apart : ∀ g, c.A g → ¬ c.own0 g ∧ g < c.w0.heap.size
  gl : GlobOk P c.w0 c.own0
  same : ∀ i B, i < c.n → H[i]? = some B → B.live → ∃ B0, c.H0[i]? = some B0 ∧ B0.same B
  rowsz : ∀ i T t l g cells, i < c.n → H[i]? = some (.row T t l) → c.j0.blk i = some g → Cls c.w0 g cells T → ∃ cells', Cls w g cells' T ∧ cells'.size = cells.size
  heap : ∀ b B, H[b]? = some B → BRel P j H w (NN c j H) b B

theorem Blk.same_trans {A B C : Blk} (h : A.same B) (k : B.same C) : A.same C := by
  cases A <;> cases B <;> simp only [Blk.same] at h <;> cases C <;> simp only [Blk.same] at k ⊢
  · exact ⟨h.1.trans k.1, h.2.trans k.2⟩
  · exact ⟨h.1.trans k.1, h.2.1.trans k.2.1, h.2.2.trans k.2.2⟩
  · exact h.trans k
  · exact ⟨h.1.trans k.1, h.2.trans k.2⟩
  · exact h.trans k
  · exact ⟨h.1.trans k.1, h.2.1.trans k.2.1, h.2.2.trans k.2.2⟩
  · exact ⟨h.1.trans k.1, h.2.1.trans k.2.1, h.2.2.trans k.2.2⟩
theorem Blk.same_symm {A B : Blk} (h : A.same B) : B.same A := by
  cases A <;> cases B <;> simp only [Blk.same] at h ⊢
  · exact ⟨h.1.symm, h.2.symm⟩
  · exact ⟨h.1.symm, h.2.1.symm, h.2.2.symm⟩
  · exact h.symm
  · exact ⟨h.1.symm, h.2.symm⟩
  · exact h.symm
  · exact ⟨h.1.symm, h.2.1.symm, h.2.2.symm⟩
  · exact ⟨h.1.symm, h.2.1.symm, h.2.2.symm⟩
theorem Blk.same_live {A B : Blk} (h : A.same B) : A.live ∧ B.live := by
  cases A <;> cases B <;> simp only [Blk.same] at h <;> exact ⟨trivial, trivial⟩
theorem Inv.same_step {P : Program} {c : Cx} {j j' : J} {H H' : List Blk} {w w' : World} {N N' : Nat → Prop} (h : Inv P c j H w) (m : Mov j H w N j' H' w' N') :
    ∀ i B, i < c.n → H'[i]? = some B → B.live → ∃ B0, c.H0[i]? = some B0 ∧ B0.same B := by
  intro i B hi hb hl
  obtain ⟨B1, h1, h2, _⟩ := m.old (by have := h.n; omega) hb hl
  obtain ⟨B0, h3, h4⟩ := h.same i B1 hi h1 (Blk.same_live h2).1
  exact ⟨B0, h3, Blk.same_trans h4 h2⟩
theorem Inv.rowsz_step {P : Program} {c : Cx} {j j' : J} {H H' : List Blk} {w w' : World} {N N' : Nat → Prop} (h : Inv P c j H w) (m : Mov j H w N j' H' w' N') :
    ∀ i T t l g cells, i < c.n → H'[i]? = some (.row T t l) → c.j0.blk i = some g → Cls c.w0 g cells T → ∃ cells', Cls w' g cells' T ∧ cells'.size = cells.size := by
  intro i T t l g cells hi hb hg hc
  have hlt : i < H.length := by have := h.n; omega
  obtain ⟨B1, h1, h2, e1, _⟩ := m.old hlt hb trivial
  cases B1 <;> simp only [Blk.same] at h2
  obtain ⟨rfl, rfl, _⟩ := h2
  obtain ⟨cells1, k1, k2⟩ := h.rowsz i _ _ _ g cells hi h1 hg hc
  have hj : j.blk i = some g := ((h.keep i _ hi h1 trivial).1).trans hg
  obtain ⟨cells2, k3, k4⟩ := m.row i _ _ _ g cells1 hlt hb hj k1
  exact ⟨cells2, k3, k4.trans k2⟩
theorem Inv.own_lt {P : Program} {c : Cx} {j : J} {H : List Blk} {w : World} (h : Inv P c j H w) {g : Nat} (ho : Own j H g) : g < w.heap.size := by
  obtain ⟨b, B, hb, hl, hg⟩ := ho
  have hB := h.heap b B hb
  cases B with
  | dead => exact hl.elim
  | var T cs =>
    obtain ⟨g', vs, h1, h2, _⟩ := hB
    rw [hg] at h1; cases h1
    exact (Array.getElem?_eq_some_iff.1 h2).1
  | row T t l =>
    rcases hB with ⟨h1, _⟩ | ⟨g', cap, cells, h1, h2, _⟩
    · rw [hg] at h1; cases h1
    · rw [hg] at h1; cases h1
      exact h2.lt
  | clo f a c =>
    have hg : j.blk b = some g := hg
    rw [hB.1] at hg; cases hg
  | map kt vt l =>
    obtain ⟨g', es, clock, h1, h2, _⟩ := hB
    rw [hg] at h1; cases h1
    exact (Array.getElem?_eq_some_iff.1 h2).1
  | yld f a d =>
    obtain ⟨g', r, h1, h2, _⟩ := hB
    rw [hg] at h1; cases h1
    exact (Array.getElem?_eq_some_iff.1 h2).1
  | own T t l =>
    obtain ⟨_, hl2, _, h4⟩ := hB
    rcases h4 with ⟨h4, rfl⟩ | ⟨g', cells, k1, k2, _, _, _, k6, _⟩
    · rcases hg with hg | ⟨i, hi⟩
      · rw [h4] at hg; cases hg
      · rw [List.eq_nil_of_length_eq_zero hl2] at hi; simp at hi
    · rcases hg with hg | ⟨i, hi⟩
      · rw [k1] at hg; cases hg
        exact (Array.getElem?_eq_some_iff.1 k2).1
      · obtain ⟨arr, U, hc⟩ := (k6 i g hi).2
        exact hc.lt
  | chn T t l =>
    obtain ⟨_, _, h3, _, h5⟩ := hB
    obtain ⟨i, hi, e⟩ := List.getElem_of_mem hg
    have hi' : (chOf (j.cv b))[i]? = some g := by rw [List.getElem?_eq_getElem hi, e]
    exact (Array.getElem?_eq_some_iff.1 (h5 i g _ hi' (List.getElem?_eq_getElem (by rw [← h3]; exact hi)))).1
theorem Inv.gl_now {P : Program} {c : Cx} {j : J} {H : List Blk} {w : World} (h : Inv P c j H w) : GlobOk P w (Own j H) :=
  h.gl.mov h.size fun g hg hn => ⟨fun ho => by
    obtain ⟨b, B, hb, hl, hj⟩ := ho
    by_cases hi : b < c.n
    · exact hn (h.own b B g hi hb hl hj)
    · rcases h.neu b B g (by omega) hb hl hj with h3 | h3
      · omega
      · exact hn h3, h.frame g hg hn⟩
theorem Inv.own_apart {P : Program} {c : Cx} {j : J} {H : List Blk} {w : World} (h : Inv P c j H w) {g : Nat} (ho : Own j H g) : ¬ c.A g := by
  intro hA
  obtain ⟨h1, h2⟩ := h.apart g hA
  obtain ⟨b, B, hb, hl, hg⟩ := ho
  by_cases hn : b < c.n
  · exact h1 (h.own b B g hn hb hl hg)
  · rcases h.neu b B g (by omega) hb hl hg with h3 | h3
    · omega
    · exact h1 h3

end Go.Proofs.YtcdnofemnpafhaaM

/- How the memory's relation is kept by new blocks, writes, and rows that become rows that are only read. Conditions: none. -/
namespace Go.Proofs.YtcdnofemnpafhaaM
set_option linter.unusedVariables false
set_option linter.unusedSimpArgs false
set_option linter.unnecessarySimpa false
set_option linter.unusedSectionVars false
open Go

def J.at (j : J) (b : Nat) (r : Option Nat) (v : Value) : J := ⟨fun x => if x = b then r else j.blk x, fun x => if x = b then v else j.cv x⟩
theorem J.at_ne {j : J} {b x : Nat} {r : Option Nat} {v : Value} (h : x ≠ b) : (j.at b r v).blk x = j.blk x ∧ (j.at b r v).cv x = j.cv x := by simp [J.at, h]
theorem J.at_eq {j : J} {b : Nat} {r : Option Nat} {v : Value} : (j.at b r v).blk b = r ∧ (j.at b r v).cv b = v := by simp [J.at]

def NewAt (r : Option Nat) (v : Value) (B : Blk) (g : Nat) : Prop :=
  match B with
  | .chn _ _ _ => g ∈ chOf v
  | .own _ _ _ => r = some g ∨ ∃ i : Nat, (owOf v)[i]? = some (some g)
  | _ => r = some g
theorem At.at_ne {j : J} {b x : Nat} {r : Option Nat} {v : Value} {B : Blk} {g : Nat} (h : x ≠ b) : At (j.at b r v) x B g ↔ At j x B g := by
  obtain ⟨e1, e2⟩ := J.at_ne (j := j) (r := r) (v := v) h
  cases B <;> simp only [At, e1, e2]
theorem At.at_eq {j : J} {b : Nat} {r : Option Nat} {v : Value} {B : Blk} {g : Nat} : At (j.at b r v) b B g ↔ NewAt r v B g := by
  obtain ⟨e1, e2⟩ := J.at_eq (j := j) (b := b) (r := r) (v := v)
  cases B <;> simp only [At, NewAt, e1, e2]
theorem At.same {j : J} {b : Nat} {B B' : Blk} {g : Nat} (h : B.same B') : At j b B' g ↔ At j b B g := At.congr h rfl rfl

theorem get_push {α : Type} {l : List α} {a b : α} {i : Nat} (h : (l ++ [a])[i]? = some b) : (i < l.length ∧ l[i]? = some b) ∨ (i = l.length ∧ b = a) := by
  by_cases hi : i < l.length
  · rw [List.getElem?_append_left hi] at h; exact .inl ⟨hi, h⟩
  · rw [List.getElem?_append_right (by omega)] at h
    have hz : i - l.length = 0 := by
      have := (List.getElem?_eq_some_iff.1 h).1
      simp at this; omega
    rw [hz] at h; simp at h
    exact .inr ⟨by omega, h.symm⟩
theorem get_lt {α : Type} {l : List α} {b : α} {i : Nat} (h : l[i]? = some b) : i < l.length := (List.getElem?_eq_some_iff.1 h).1

section
variable {P : Program} {c : Cx} {j : J} {H : List Blk} {w : World}

theorem own_push {B : Blk} {r : Option Nat} {v : Value} {g : Nat} (h : Own (j.at H.length r v) (H ++ [B]) g) : Own j H g ∨ NewAt r v B g := by
  obtain ⟨b, B', hb, hl, hg⟩ := h
  rcases get_push hb with ⟨h1, h2⟩ | ⟨rfl, rfl⟩
  · exact .inl ⟨b, B', h2, hl, (At.at_ne (by omega)).1 hg⟩
  · exact .inr (At.at_eq.1 hg)

theorem Inv.push (h : Inv P c j H w) {B : Blk} {r : Option Nat} {v : Value} {w' : World} (hs : w.heap.size ≤ w'.heap.size) (ho : w'.os = w.os) (ht : w'.tape = w.tape) (hout : w'.output = w.output)
    (hold : ∀ g, g < w.heap.size → w'.heap[g]? = w.heap[g]?) (hr : ∀ g, NewAt r v B g → w.heap.size ≤ g)
    (hB : Mov j H w (NN c j H) (j.at H.length r v) (H ++ [B]) w' (NN c (j.at H.length r v) (H ++ [B])) → BRel P (j.at H.length r v) (H ++ [B]) w' (NN c (j.at H.length r v) (H ++ [B])) H.length B) :
    Inv P c (j.at H.length r v) (H ++ [B]) w' ∧ Mov j H w (NN c j H) (j.at H.length r v) (H ++ [B]) w' (NN c (j.at H.length r v) (H ++ [B])) := by
  have m : Mov j H w (NN c j H) (j.at H.length r v) (H ++ [B]) w' (NN c (j.at H.length r v) (H ++ [B])) := by
    refine ⟨by simp, fun b B1 hb => ?_, hs, fun g hg hn => ⟨fun hn' => ?_, hold g hg⟩, fun b T t l g cells hb hl hj hg => ⟨cells, Cls.of_eq (hold g hg.lt) hg, rfl⟩⟩
    · have := get_lt hb
      refine ⟨B1, by rw [List.getElem?_append_left this]; exact hb, fun hl => ⟨Blk.same_refl hl, J.at_ne (by omega)⟩⟩
    · rcases hn' with hA | ho'
      · exact hn (.inl hA)
      · rcases own_push ho' with h1 | h1
        · exact hn (.inr h1)
        · have := hr g h1; omega
  refine ⟨⟨by simp; have := h.n; omega, fun i B1 hi hb hl => ?_, fun i B1 g hi hb hl hg => ?_, fun i B1 g hi hb hl hg => ?_, fun i i' B1 B2 g hb hb' hl hl' hg hg' => ?_, fun g hg hn => ?_, Nat.le_trans h.size hs, ho.trans h.os, ht.trans h.tape, hout.trans h.output, h.apart, h.gl, h.same_step m, h.rowsz_step m, fun b B1 hb => ?_⟩, m⟩
  · have := h.n
    rcases get_push hb with ⟨h1, h2⟩ | ⟨h1, h2⟩
    · obtain ⟨e1, e2⟩ := J.at_ne (j := j) (r := r) (v := v) (show i ≠ H.length by omega)
      obtain ⟨k1, k2⟩ := h.keep i B1 hi h2 hl
      exact ⟨e1.trans k1, e2.trans k2⟩
    · omega
  · rcases get_push hb with ⟨h1, h2⟩ | ⟨h1, h2⟩
    · rw [At.at_ne (by omega)] at hg
      exact h.neu i B1 g hi h2 hl hg
    · subst h1
      subst h2
      rw [At.at_eq] at hg
      exact .inl (Nat.le_trans h.size (hr g hg))
  · have := h.n
    rcases get_push hb with ⟨h1, h2⟩ | ⟨h1, h2⟩
    · rw [At.at_ne (by omega)] at hg
      exact h.own i B1 g hi h2 hl hg
    · omega
  · rcases get_push hb with ⟨h1, h2⟩ | ⟨h1, h2⟩ <;> rcases get_push hb' with ⟨h3, h4⟩ | ⟨h3, h4⟩
    · rw [At.at_ne (by omega)] at hg hg'
      exact h.inj i i' B1 B2 g h2 h4 hl hl' hg hg'
    · subst h3
      subst h4
      rw [At.at_ne (by omega)] at hg
      rw [At.at_eq] at hg'
      have := h.own_lt ⟨i, B1, h2, hl, hg⟩
      have := hr g hg'
      omega
    · subst h1
      subst h2
      rw [At.at_ne (by omega)] at hg'
      rw [At.at_eq] at hg
      have := h.own_lt ⟨i', B2, h4, hl', hg'⟩
      have := hr g hg
      omega
    · omega
  · exact (hold g (by have := h.size; omega)).trans (h.frame g hg hn)
  · rcases get_push hb with ⟨h1, h2⟩ | ⟨h1, h2⟩
    · obtain ⟨e1, e2⟩ := J.at_ne (j := j) (r := r) (v := v) (show b ≠ H.length by omega)
      by_cases hl : B1.live
      · exact (h.heap b B1 h2).mov m e1 e2 fun g hg => hold g (h.own_lt ⟨b, B1, h2, hl, hg⟩)
      · cases B1 <;> first | exact absurd trivial hl | trivial
    · subst h1; subst h2; exact hB m

theorem get_set {α : Type} {l : List α} {a b : α} {i q : Nat} (h : (l.set q a)[i]? = some b) : (i ≠ q ∧ l[i]? = some b) ∨ (i = q ∧ b = a ∧ q < l.length) := by
  rw [List.getElem?_set] at h
  by_cases hq : q = i
  · rw [if_pos hq] at h
    split at h
    · cases h; exact .inr ⟨hq.symm, rfl, by assumption⟩
    · cases h
  · rw [if_neg hq] at h; exact .inl ⟨fun e => hq e.symm, h⟩

theorem Inv.upd (h : Inv P c j H w) {b g : Nat} {B B' : Blk} (hb : H[b]? = some B) (hl : B.live) (hs : B.same B') (hl' : B'.live) (hg : At j b B g) {w' : World}
    (hsz : w'.heap.size = w.heap.size) (ho : w'.os = w.os) (ht : w'.tape = w.tape) (hout : w'.output = w.output) (hold : ∀ k, k ≠ g → w'.heap[k]? = w.heap[k]?)
    (hrow : ∀ T cells, Cls w g cells T → ∃ cells', Cls w' g cells' T ∧ cells'.size = cells.size)
    (hB : Mov j H w (NN c j H) j (H.set b B') w' (NN c j (H.set b B')) → BRel P j (H.set b B') w' (NN c j (H.set b B')) b B') :
    Inv P c j (H.set b B') w' ∧ Mov j H w (NN c j H) j (H.set b B') w' (NN c j (H.set b B')) := by
  have hlt := get_lt hb
  have hown : ∀ k, Own j (H.set b B') k → Own j H k := by
    rintro k ⟨i, B1, hi, h1, h2⟩
    rcases get_set hi with ⟨h3, h4⟩ | ⟨rfl, rfl, _⟩
    · exact ⟨i, B1, h4, h1, h2⟩
    · exact ⟨i, B, hb, hl, (At.same hs).1 h2⟩
  have m : Mov j H w (NN c j H) j (H.set b B') w' (NN c j (H.set b B')) := by
    refine ⟨by simp, fun i B1 hi => ?_, by omega, fun k hk hn => ⟨fun hn' => hn (hn'.imp id (hown k)), hold k fun e => hn (.inr (by rw [e]; exact ⟨b, B, hb, hl, hg⟩))⟩, fun i T t l k cells hi _ hj hc => ?_⟩
    · by_cases hib : i = b
      · subst hib
        rw [hb] at hi; cases hi
        exact ⟨B', by rw [List.getElem?_set_self hlt], fun _ => ⟨hs, rfl, rfl⟩⟩
      · exact ⟨B1, by rw [List.getElem?_set_ne (fun e => hib e.symm)]; exact hi, fun hl => ⟨Blk.same_refl hl, rfl, rfl⟩⟩
    · by_cases hkg : k = g
      · subst hkg; exact hrow _ _ hc
      · exact ⟨cells, Cls.of_eq (hold k hkg) hc, rfl⟩
  refine ⟨⟨by simp; exact h.n, fun i B1 hi hb1 hl1 => ?_, fun i B1 k hi hb1 hl1 hk => ?_, fun i B1 k hi hb1 hl1 hk => ?_, fun i i' B1 B2 k h1 h2 hl1 hl2 hk hk' => ?_, fun k hk hn => ?_, by rw [hsz]; exact h.size, ho.trans h.os, ht.trans h.tape, hout.trans h.output, h.apart, h.gl, h.same_step m, h.rowsz_step m, fun i B1 hi => ?_⟩, m⟩
  · rcases get_set hb1 with ⟨h3, h4⟩ | ⟨rfl, rfl, _⟩
    · exact h.keep i B1 hi h4 hl1
    · exact h.keep i B hi hb hl
  · rcases get_set hb1 with ⟨h3, h4⟩ | ⟨rfl, rfl, _⟩
    · exact h.neu i B1 k hi h4 hl1 hk
    · exact h.neu i B k hi hb hl ((At.same hs).1 hk)
  · rcases get_set hb1 with ⟨h3, h4⟩ | ⟨rfl, rfl, _⟩
    · exact h.own i B1 k hi h4 hl1 hk
    · exact h.own i B k hi hb hl ((At.same hs).1 hk)
  · rcases get_set h1 with ⟨h3, h4⟩ | ⟨rfl, rfl, _⟩ <;> rcases get_set h2 with ⟨h5, h6⟩ | ⟨rfl, rfl, _⟩
    · exact h.inj i i' B1 B2 k h4 h6 hl1 hl2 hk hk'
    · exact h.inj i i' B1 B k h4 hb hl1 hl hk ((At.same hs).1 hk')
    · exact h.inj i i' B B2 k hb h6 hl hl2 ((At.same hs).1 hk) hk'
    · rfl
  · refine (hold k fun e => ?_).trans (h.frame k hk hn)
    by_cases hbn : b < c.n
    · exact hn (by rw [e]; exact h.own b B g hbn hb hl hg)
    · rcases h.neu b B g (by omega) hb hl hg with h1 | h1
      · omega
      · exact hn (by rw [e]; exact h1)
  · rcases get_set hi with ⟨h3, h4⟩ | ⟨rfl, rfl, _⟩
    · by_cases hl1 : B1.live
      · exact (h.heap i B1 h4).mov m rfl rfl fun k hk => hold k fun e => h3 (h.inj i b B1 B g h4 hb hl1 hl (by rw [← e]; exact hk) hg)
      · cases B1 <;> first | exact absurd trivial hl1 | trivial
    · exact hB m

theorem Inv.kill (h : Inv P c j H w) (b : Nat) : Inv P c j (H.set b .dead) w ∧ Mov j H w (NN c j H) j (H.set b .dead) w (NN c j (H.set b .dead)) := by
  have hown : ∀ k, Own j (H.set b .dead) k → Own j H k := by
    rintro k ⟨i, B1, hi, h1, h2⟩
    rcases get_set hi with ⟨h3, h4⟩ | ⟨rfl, rfl, _⟩
    · exact ⟨i, B1, h4, h1, h2⟩
    · exact h1.elim
  have m : Mov j H w (NN c j H) j (H.set b .dead) w (NN c j (H.set b .dead)) := by
    refine ⟨by simp, fun i B1 hi => ?_, Nat.le_refl _, fun k hk hn => ⟨fun hn' => hn (hn'.imp id (hown k)), rfl⟩, fun i T t l k cells hi _ hj hc => ⟨cells, hc, rfl⟩⟩
    by_cases hib : i = b
    · subst hib
      exact ⟨.dead, by rw [List.getElem?_set_self (get_lt hi)], fun hl => hl.elim⟩
    · exact ⟨B1, by rw [List.getElem?_set_ne (fun e => hib e.symm)]; exact hi, fun hl => ⟨Blk.same_refl hl, rfl, rfl⟩⟩
  have hget : ∀ (i : Nat) (B1 : Blk), (H.set b .dead)[i]? = some B1 → B1.live → H[i]? = some B1 := by
    intro i B1 hi hl
    rcases get_set hi with ⟨h3, h4⟩ | ⟨rfl, rfl, _⟩
    · exact h4
    · exact hl.elim
  refine ⟨⟨by simp; exact h.n, fun i B1 hi hb1 hl1 => h.keep i B1 hi (hget _ _ hb1 hl1) hl1, fun i B1 k hi hb1 hl1 hk => h.neu i B1 k hi (hget _ _ hb1 hl1) hl1 hk, fun i B1 k hi hb1 hl1 hk => h.own i B1 k hi (hget _ _ hb1 hl1) hl1 hk,
    fun i i' B1 B2 k h1 h2 hl1 hl2 hk hk' => h.inj i i' B1 B2 k (hget _ _ h1 hl1) (hget _ _ h2 hl2) hl1 hl2 hk hk', h.frame, h.size, h.os, h.tape, h.output, h.apart, h.gl, h.same_step m, h.rowsz_step m, fun i B1 hi => ?_⟩, m⟩
  by_cases hl1 : B1.live
  · exact (h.heap i B1 (hget _ _ hi hl1)).mov m rfl rfl fun k hk => rfl
  · cases B1 <;> first | exact absurd trivial hl1 | trivial

theorem kill_own {b g : Nat} {B : Blk} (h : Inv P c j H w) (hb : H[b]? = some B) (hl : B.live) (hg : At j b B g) : ¬ NN c j (H.set b .dead) g := by
  rintro (hA | ⟨i, B1, hi, h1, h2⟩)
  · exact h.own_apart ⟨b, B, hb, hl, hg⟩ hA
  · rcases get_set hi with ⟨h3, h4⟩ | ⟨rfl, rfl, _⟩
    · exact h3 (h.inj i b B1 B g h4 hb h1 hl h2 hg)
    · exact h1.elim

theorem Mov.refl (j : J) (H : List Blk) (w : World) (N : Nat → Prop) : Mov j H w N j H w N :=
  ⟨Nat.le_refl _, fun b B hb => ⟨B, hb, fun hl => ⟨Blk.same_refl hl, rfl, rfl⟩⟩, Nat.le_refl _, fun g _ hn => ⟨hn, rfl⟩, fun b T t l g cells _ _ _ hc => ⟨cells, hc, rfl⟩⟩
theorem Mov.trans {j1 j2 j3 : J} {H1 H2 H3 : List Blk} {w1 w2 w3 : World} {N1 N2 N3 : Nat → Prop} (m : Mov j1 H1 w1 N1 j2 H2 w2 N2) (k : Mov j2 H2 w2 N2 j3 H3 w3 N3) : Mov j1 H1 w1 N1 j3 H3 w3 N3 := by
  refine ⟨Nat.le_trans m.len k.len, fun b B hb => ?_, Nat.le_trans m.size k.size, fun g hg hn => ?_, fun b T t l g cells hb hl hj hc => ?_⟩
  · obtain ⟨B2, h2, h3⟩ := m.blk b B hb
    obtain ⟨B3, h4, h5⟩ := k.blk b B2 h2
    refine ⟨B3, h4, fun hl => ?_⟩
    obtain ⟨a1, a2, a3⟩ := h5 hl
    obtain ⟨b1, b2, b3⟩ := h3 (Blk.same_live a1).1
    exact ⟨Blk.same_trans b1 a1, a2.trans b2, a3.trans b3⟩
  · obtain ⟨h1, h2⟩ := m.ro g hg hn
    obtain ⟨h3, h4⟩ := k.ro g (Nat.lt_of_lt_of_le hg m.size) h1
    exact ⟨h3, h4.trans h2⟩
  · have hb2 := Nat.lt_of_lt_of_le hb m.len
    obtain ⟨B2, hB2, s1, e1, _⟩ := k.old hb2 hl trivial
    cases B2 <;> simp only [Blk.same] at s1
    obtain ⟨rfl, rfl, _⟩ := s1
    obtain ⟨B1, hB1, s2, e2, _⟩ := m.old hb hB2 trivial
    obtain ⟨cells2, c1, c2⟩ := m.row b _ _ _ g cells hb hB2 hj hc
    obtain ⟨cells3, c3, c4⟩ := k.row b _ _ _ g cells2 hb2 hl (e2.trans hj) c1
    exact ⟨cells3, c3, c4.trans c2⟩

theorem dec_sound : ∀ (t : Ty) {H : List Blk} (_ : Inv P c j H w) {cs : List Cell} {vs : List Value} {x : t.den} {r : List Cell} {H1 : List Blk}, dec t H cs = some (x, r, H1) → All2 (CRel j H w (NN c j H)) cs vs →
    ∃ v1 v2, vs = v1 ++ v2 ∧ Inv P c j H1 w ∧ Mov j H w (NN c j H) j H1 w (NN c j H1) ∧ RoC w (NN c j H1) t x v1 ∧ All2 (CRel j H1 w (NN c j H1)) r v2 := by
  intro t
  induction t with
  | int k =>
    intro H hI cs vs x r H1 hd ha
    cases cs with
    | nil => simp [dec] at hd
    | cons a cs =>
      cases a <;> simp only [dec] at hd <;> (first | (cases hd; done) | skip)
      split at hd
      · rename_i k' n hk
        subst hk
        simp only [Option.some.injEq, Prod.mk.injEq] at hd
        obtain ⟨rfl, rfl, rfl⟩ := hd
        obtain ⟨b, m, rfl, hb, hm⟩ := ha.cons_left
        obtain ⟨_, rfl⟩ := hb
        exact ⟨[_], m, rfl, hI, Mov.refl _ _ _ _, rfl, hm⟩
      · cases hd
  | bool =>
    intro H hI cs vs x r H1 hd ha
    cases cs with
    | nil => simp [dec] at hd
    | cons a cs =>
      cases a <;> simp only [dec] at hd <;> (first | (cases hd; done) | skip)
      simp only [Option.some.injEq, Prod.mk.injEq] at hd
      obtain ⟨rfl, rfl, rfl⟩ := hd
      obtain ⟨b, m, rfl, hb, hm⟩ := ha.cons_left
      obtain ⟨_, rfl⟩ := hb
      exact ⟨[_], m, rfl, hI, Mov.refl _ _ _ _, rfl, hm⟩
  | str =>
    intro H hI cs vs x r H1 hd ha
    cases cs with
    | nil => simp [dec] at hd
    | cons a cs =>
      cases a <;> simp only [dec] at hd <;> (first | (cases hd; done) | skip)
      simp only [Option.some.injEq, Prod.mk.injEq] at hd
      obtain ⟨rfl, rfl, rfl⟩ := hd
      obtain ⟨b, m, rfl, hb, hm⟩ := ha.cons_left
      obtain ⟨_, rfl⟩ := hb
      exact ⟨[_], m, rfl, hI, Mov.refl _ _ _ _, rfl, hm⟩
  | unit =>
    intro H hI cs vs x r H1 hd ha
    simp only [dec, Option.some.injEq, Prod.mk.injEq] at hd
    obtain ⟨_, rfl, rfl⟩ := hd
    exact ⟨[], vs, rfl, hI, Mov.refl _ _ _ _, rfl, ha⟩
  | pair a b iha ihb =>
    intro H hI cs vs x r H1 hd ha
    simp only [dec] at hd
    split at hd
    · rename_i y r1 H2 h1
      split at hd
      · rename_i z r2 H3 h2
        simp only [Option.some.injEq, Prod.mk.injEq] at hd
        obtain ⟨rfl, rfl, rfl⟩ := hd
        obtain ⟨v1, v2, rfl, hI1, m1, hr1, ha1⟩ := iha hI h1 ha
        obtain ⟨v3, v4, rfl, hI2, m2, hr2, ha2⟩ := ihb hI1 h2 ha1
        exact ⟨v1 ++ v3, v4, by simp, hI2, m1.trans m2, ⟨v1, v3, rfl, RoC.mov m2.ro m2.size hr1, hr2⟩, ha2⟩
      · cases hd
    · cases hd
  | ro t iht =>
    intro H hI cs vs x r H1 hd ha
    cases cs with
    | nil => simp [dec] at hd
    | cons a cs =>
      obtain ⟨b, m, rfl, hb, hm⟩ := ha.cons_left
      obtain ⟨hone, hb⟩ := hb
      cases a <;> simp only [dec] at hd <;> (first | (cases hd; done) | skip)
      case ro t' l =>
        split at hd
        · rename_i ht
          subst ht
          simp only [Option.some.injEq, Prod.mk.injEq] at hd
          obtain ⟨rfl, rfl, rfl⟩ := hd
          exact ⟨[b], m, rfl, hI, Mov.refl _ _ _ _, hb, hm⟩
        · cases hd
      case nils =>
        simp only [Option.some.injEq, Prod.mk.injEq] at hd
        obtain ⟨rfl, rfl, rfl⟩ := hd
        subst hb
        exact ⟨[_], m, rfl, hI, Mov.refl _ _ _ _, ⟨none, 0, rfl, Nat.le_refl _, fun i x hx => by simp at hx⟩, hm⟩
      case full q =>
        split at hd
        · rename_i T t' l hq
          split at hd
          · rename_i ht
            subst ht
            simp only [Option.some.injEq, Prod.mk.injEq] at hd
            obtain ⟨rfl, rfl, rfl⟩ := hd
            obtain ⟨hI1, m1⟩ := hI.kill q
            have hB := hI.heap q _ hq
            obtain ⟨hlt, hb⟩ := hb
            refine ⟨[b], m, rfl, hI1, m1, ?_, hm.imp fun _ _ => CRel.mov m1⟩
            rcases hb _ _ _ hq with ⟨k1, rfl⟩ | ⟨g, cap, k1, rfl, cells, k3, k4⟩
            · rcases hB with ⟨_, rfl⟩ | ⟨g, _, _, k2, _⟩
              · exact ⟨none, 0, rfl, Nat.le_refl _, fun i x hx => by simp at hx⟩
              · rw [k1] at k2; cases k2
            · rcases hB with ⟨k2, _⟩ | ⟨g', cap', cells', k2, k5, k6, hz, k7, k8, k9⟩
              · rw [k1] at k2; cases k2
              · rw [k1] at k2; cases k2
                obtain rfl := k3.inj k5
                have hN := kill_own hI hq trivial k1
                have hgl := k3.lt
                have hcap : cap = cap' := by
                  rw [k4] at k6
                  exact Nat.eq_of_mul_eq_mul_right hz k6
                subst hcap
                refine ⟨_, cap, rfl, k7, fun i x hx => ?_⟩
                obtain ⟨c1, h1, h2⟩ := k9 i x hx
                refine ⟨⟨g, 0, none⟩, c1, rfl, hN, hgl, RoC.mov m1.ro m1.size h1, fun p u hu => ?_⟩
                rw [Addr.add_mid, k3.cell]
                simpa using h2 p u hu
          · cases hd
        · cases hd
end
end Go.Proofs.YtcdnofemnpafhaaM

/- What each operation of the interpreter says of the machine's. Conditions: none. -/
namespace Go.Proofs.YtcdnofemnpafhaaM
set_option linter.unusedVariables false
set_option linter.unusedSimpArgs false
set_option linter.unnecessarySimpa false
set_option linter.unusedSectionVars false
open Go

section
variable {P : Program} {c : Cx} {j : J} {H : List Blk} {w : World}

theorem cellOf_rel {N : Nat → Prop} (v : Value) (h : v.oneCell' = true) : CRel j H w N (cellOf v) v := by
  cases v with
  | slice a l k =>
    cases a with
    | some a => exact ⟨rfl, trivial⟩
    | none =>
      cases l with
      | succ l => exact ⟨rfl, trivial⟩
      | zero =>
        cases k with
        | succ k => exact ⟨rfl, trivial⟩
        | zero => exact ⟨rfl, rfl⟩
  | pointer a => cases a <;> first | exact ⟨rfl, rfl⟩ | exact ⟨rfl, trivial⟩
  | map a => cases a <;> first | exact ⟨rfl, rfl⟩ | exact ⟨rfl, trivial⟩
  | agg _ => simp [Value.oneCell'] at h
  | tuple _ => simp [Value.oneCell'] at h
  | bool _ => exact ⟨rfl, rfl⟩
  | int _ _ => exact ⟨rfl, rfl⟩
  | string _ => exact ⟨rfl, rfl⟩
  | nilFunc => exact ⟨rfl, rfl⟩
  | _ => exact ⟨rfl, trivial⟩

theorem v1Of_rel {N : Nat → Prop} (v : Value) : V1Rel j H w N (v1Of v) v := by
  unfold v1Of
  split
  · rename_i cs
    split
    · rename_i hall
      refine ⟨cs, rfl, by simp, fun i x y hx hy => ?_⟩
      rw [List.getElem?_map, Option.map_eq_some_iff] at hx
      obtain ⟨u, hu, rfl⟩ := hx
      rw [hy] at hu; cases hu
      have := List.all_eq_true.1 hall y (List.mem_of_getElem? hy)
      exact cellOf_rel y (by cases y <;> simp_all [Value.oneCell'])
    · exact .inl rfl
  · rename_i hv
    by_cases h : v.oneCell' = true
    · exact .inr (cellOf_rel v h)
    · left
      cases v <;> first | (simp [Value.oneCell'] at h; done) | rfl | exact absurd rfl (hv _)

theorem cells?_rel {N : Nat → Prop} {x : V1} {v : Value} {cs : List Cell} (h : V1Rel j H w N x v) (hc : x.cells? = some cs) : All2 (CRel j H w N) cs v.cells.toList := by
  cases x with
  | one y =>
    have hy : y ≠ .top := by rintro rfl; simp [V1.cells?] at hc
    rcases h with h | h
    · exact absurd h hy
    · have : cs = [y] := by cases y <;> simp_all [V1.cells?]
      subst this
      have e : v.cells = #[v] := by have := h.1; cases v <;> simp_all [Value.oneCell', Value.cells]
      rw [e]
      exact All2.cons h All2.nil
  | agg l =>
    obtain ⟨vs, rfl, h⟩ := h
    simp only [V1.cells?, Option.some.injEq] at hc
    subst hc
    exact h

def DOk (c : Cx) (w : World) (N : Nat → Prop) (ds : List Deferred) : Prop :=
  ds.Nodup ∧ ∀ d ∈ ds, ∃ D, d = { target := .collected D, args := #[] } ∧ ¬ N D ∧ c.w0.heap.size ≤ D ∧ w.heap[D]? = some (.deferred (some []))
theorem DOk.nil {N : Nat → Prop} : DOk c w N [] := ⟨List.nodup_nil, fun _ h => by cases h⟩
theorem DOk.mov {j' : J} {H' : List Blk} {w' : World} {N N' : Nat → Prop} {ds : List Deferred} (m : Mov j H w N j' H' w' N') (h : DOk c w N ds) : DOk c w' N' ds :=
  ⟨h.1, fun d hd => by
    obtain ⟨D, h1, h2, h3, h4⟩ := h.2 d hd
    obtain ⟨k1, k2⟩ := m.ro D (Array.getElem?_eq_some_iff.1 h4).1 h2
    exact ⟨D, h1, k1, h3, k2.trans h4⟩⟩
def ERel (c : Cx) (j : J) (H : List Blk) (w : World) (N : Nat → Prop) (env : List AV) (a : Act) : Prop := DOk c w N a.defers ∧ All2 (AVRel j H w N) env a.tmps.toList

theorem evalV_rel {N : Nat → Prop} {env : List AV} {a : Act} (h : ERel c j H w N env a) (x : Operand) : AVRel j H w N (evalV env x) (a.eval x) := by
  cases x with
  | tmp t =>
    simp only [evalV, Act.eval]
    rw [List.getD_eq_getElem?_getD]
    cases he : env[t]? with
    | none => exact .inl rfl
    | some v =>
      obtain ⟨u, hu, hr⟩ := h.2.get he
      have : a.tmps.getD t undef = u := by
        rw [Array.getElem?_toList] at hu
        simp [Array.getD_eq_getD_getElem?, hu]
      rw [this]
      exact hr
  | const v => exact v1Of_rel v
  | func f => exact .inr ⟨rfl, rfl⟩
  | global g => exact .inl rfl

theorem ERel.mov {j' : J} {H' : List Blk} {w' : World} {N N' : Nat → Prop} {env : List AV} {a : Act} (m : Mov j H w N j' H' w' N') (h : ERel c j H w N env a) : ERel c j' H' w' N' env a := ⟨h.1.mov m, h.2.imp fun _ _ => AVRel.mov m⟩

theorem ERel.put {N : Nat → Prop} {env : List AV} {a : Act} (h : ERel c j H w N env a) {v : AV} {V : Value} (hv : AVRel j H w N v V) (d : Option Tmp) :
    ERel c j H w N (match d with | some i => env.set i v | none => env) (a.put d V) := by
  cases d with
  | none => exact h
  | some i =>
    refine ⟨h.1, ?_⟩
    simp only [Act.put]
    rw [Array.toList_setIfInBounds]
    exact h.2.set hv

def Out (P : Program) {R : Type} (c : Cx) (j : J) (H : List Blk) (w : World) (f : AV → List Blk → Option R) (r : R) (res : Result Next) : Prop :=
  ∃ V w', (res = .ok (.value V) w' ∨ (res = .ok .skip w' ∧ V = undef)) ∧
    ∃ av H' j', f av H' = some r ∧ Inv P c j' H' w' ∧ Mov j H w (NN c j H) j' H' w' (NN c j' H') ∧ AVRel j' H' w' (NN c j' H') av V

theorem run_val {s : Sem Value} {V : Value} {w' : World} (h : s.run P w = .ok V w') : (do pure (Next.value (← s)) : Sem Next).run P w = .ok (.value V) w' := by
  simp [Sem.run_bind, h]

variable {R : Type} {f : AV → List Blk → Option R} {r : R}

theorem Out.val {V : Value} {w' : World} {res : Result Next} (hr : res = .ok (.value V) w') {av : AV} {H' : List Blk} {j' : J} (hf : f av H' = some r) (hI : Inv P c j' H' w')
    (m : Mov j H w (NN c j H) j' H' w' (NN c j' H')) (hv : AVRel j' H' w' (NN c j' H') av V) : Out P c j H w f r res := ⟨V, w', .inl hr, av, H', j', hf, hI, m, hv⟩
theorem Out.pure {V : Value} {res : Result Next} (hI : Inv P c j H w) (hr : res = .ok (.value V) w) {av : AV} (hf : f av H = some r) (hv : AVRel j H w (NN c j H) av V) : Out P c j H w f r res :=
  ⟨V, w, .inl hr, av, H, j, hf, hI, Mov.refl _ _ _ _, hv⟩

theorem val_rel {N : Nat → Prop} {x : Cell} {v : Value} (h : CRel j H w N x v) : AVRel j H w N (cellV x) v := .inr h
theorem int_rel {N : Nat → Prop} (k : IntKind) (n : Int) : AVRel j H w N (cellV (.int k n)) (.int k n) := .inr ⟨rfl, rfl⟩
theorem bool_rel {N : Nat → Prop} (b : Bool) : AVRel j H w N (cellV (.bool b)) (.bool b) := .inr ⟨rfl, rfl⟩
theorem str_rel {N : Nat → Prop} (s : ByteArray) : AVRel j H w N (cellV (.str s)) (.string s) := .inr ⟨rfl, rfl⟩
theorem rel_int {N : Nat → Prop} {k : IntKind} {n : Int} {v : Value} (h : AVRel j H w N (.v (.one (.int k n))) v) : v = .int k n := by
  rcases h with h | h
  · cases h
  · exact h.2
theorem rel_bool {N : Nat → Prop} {b : Bool} {v : Value} (h : AVRel j H w N (.v (.one (.bool b))) v) : v = .bool b := by
  rcases h with h | h
  · cases h
  · exact h.2
theorem rel_str {N : Nat → Prop} {b : ByteArray} {v : Value} (h : AVRel j H w N (.v (.one (.str b))) v) : v = .string b := by
  rcases h with h | h
  · cases h
  · exact h.2
theorem rel_one {N : Nat → Prop} {x : Cell} {v : Value} (h : AVRel j H w N (.v (.one x)) v) (hx : x ≠ .top) : CRel j H w N x v := h.resolve_left hx

theorem byB_some {b : Bool} {x y : Option R} (h : byB b x y = some r) : (b = true ∧ x = some r) ∨ (b = false ∧ y = some r) := by
  cases b
  · exact .inr ⟨rfl, h⟩
  · exact .inl ⟨rfl, h⟩

variable {env : List AV} {a : Act}

theorem move_sound (hI : Inv P c j H w) (he : ERel c j H w (NN c j H) env a) {x : Operand} (h : f (evalV env x) H = some r) : Out P c j H w f r (.ok (.value (a.eval x)) w) :=
  .pure hI rfl h (evalV_rel he x)

theorem pick_sound (hI : Inv P c j H w) (he : ERel c j H w (NN c j H) env a) {o : Oper} {x y z : Operand} (ho : o.op = .pick x y z) (h : opV P o.op env H f = some r) : Out P c j H w f r ((execOp a.eval o).run P w) := by
  rw [ho] at h
  simp only [opV] at h
  split at h
  · rename_i t ht
    have hc := evalV_rel he x
    rw [ht] at hc
    have hx := rel_bool hc
    rcases byB_some h with ⟨rfl, h⟩ | ⟨rfl, h⟩
    · exact .pure hI (by simp [execOp, ho, hx, asBool]) h (evalV_rel he y)
    · exact .pure hI (by simp [execOp, ho, hx, asBool]) h (evalV_rel he z)
  · cases h

theorem rel_tup {N : Nat → Prop} {xs : List V1} {v : Value} (h : AVRel j H w N (.tup xs) v) : ∃ vs : Array Value, v = .tuple vs ∧ All2 (V1Rel j H w N) xs vs.toList := h

theorem extract_sound (hI : Inv P c j H w) (he : ERel c j H w (NN c j H) env a) {o : Oper} {x : Operand} {i : Nat} (ho : o.op = .extract x i) (h : opV P o.op env H f = some r) : Out P c j H w f r ((execOp a.eval o).run P w) := by
  rw [ho] at h
  simp only [opV] at h
  split at h
  · rename_i vs hv
    split at h
    · rename_i v hi
      have hc := evalV_rel he x
      rw [hv] at hc
      obtain ⟨us, hx, ha⟩ := hc
      obtain ⟨u, hu, hr⟩ := ha.get hi
      rw [Array.getElem?_toList] at hu
      exact .pure hI (by simp [execOp, ho, hx, Instr.extract, hu]) h hr
    · cases h
  · cases h

theorem alloc_new {o : Obj} {w : World} : (w.alloc o).heap[w.heap.size]? = some o := by
  show (w.heap.push o)[w.heap.size]? = _
  rw [Array.getElem?_push, if_pos rfl]

theorem var_sound (hI : Inv P c j H w) {T : TypeId} {cs : List Cell} {V : Value} (hc : All2 (CRel j H w (NN c j H)) cs V.cells.toList) (hf : f (cellV (.ptr H.length 0 0)) (H ++ [.var T cs]) = some r) :
    Out P c j H w f r (.ok (.value (.pointer (some ⟨w.heap.size, 0, none⟩))) (w.alloc (.cells V.cells T))) := by
  obtain ⟨h1, h2⟩ := hI.push (B := .var T cs) (r := some w.heap.size) (v := undef) (w' := w.alloc (.cells V.cells T)) (by simp) rfl rfl rfl (fun g hg => RowKit.Below.heap_alloc w _ g hg) (fun g hg => by cases hg; exact Nat.le_refl _)
    (fun m => ⟨w.heap.size, V.cells, J.at_eq.1, alloc_new, hc.imp fun _ _ => CRel.mov m⟩)
  refine .val rfl hf h1 h2 (val_rel ⟨rfl, by simp, ⟨_, rfl⟩, fun B hB => ?_⟩)
  rw [List.getElem?_append_right (Nat.le_refl _)] at hB
  simp at hB
  subst hB
  exact ⟨rfl, _, J.at_eq.1, rfl⟩

theorem zero_rel {T : TypeId} {cs : List Cell} (h : zeroCells P T = some cs) (N : Nat → Prop) : ∃ i z, P.info? T = some i ∧ i.zero = some z ∧ All2 (CRel j H w N) cs z.cells.toList := by
  unfold zeroCells at h
  rw [Option.bind_eq_some_iff] at h
  obtain ⟨z, hz, hc⟩ := h
  rw [Option.bind_eq_some_iff] at hz
  obtain ⟨i, hi, hz⟩ := hz
  exact ⟨i, z, hi, hz, cells?_rel (v1Of_rel z) hc⟩

theorem alloc_sound (hI : Inv P c j H w) {o : Oper} {T : TypeId} (ho : o.op = .alloc T) (h : opV P o.op env H f = some r) : Out P c j H w f r ((execOp a.eval o).run P w) := by
  rw [ho] at h
  simp only [opV] at h
  split at h
  · rename_i cs hz
    obtain ⟨i, z, hi, hz, hc⟩ := zero_rel (j := j) (H := H) (w := w) hz (NN c j H)
    have := var_sound (T := T) hI hc h
    have e : (execOp a.eval o).run P w = .ok (.value (.pointer (some ⟨w.heap.size, 0, none⟩))) (w.alloc (.cells z.cells T)) := by
      simp [execOp, ho, Instr.alloc, zeroValue, typeInfo, hi, hz, newVar, newRow, newObj, Sem.run, program]
    rw [e]
    exact this
  · cases h

theorem box_sound (hI : Inv P c j H w) (he : ERel c j H w (NN c j H) env a) {o : Oper} {T : TypeId} {x : Operand} (ho : o.op = .box T x) (h : opV P o.op env H f = some r) : Out P c j H w f r ((execOp a.eval o).run P w) := by
  rw [ho] at h
  simp only [opV] at h
  split at h
  · rename_i cs hx
    rw [Option.bind_eq_some_iff] at hx
    obtain ⟨v, hv, hx⟩ := hx
    have hr := evalV_rel he x
    have hv' : evalV env x = .v v := by cases hq : evalV env x <;> simp_all [V1.ofAV]
    rw [hv'] at hr
    have := var_sound (T := T) hI (cells?_rel hr hx) h
    have e : (execOp a.eval o).run P w = .ok (.value (.pointer (some ⟨w.heap.size, 0, none⟩))) (w.alloc (.cells (a.eval x).cells T)) := by
      simp [execOp, ho, Instr.box, newVar, newRow, newObj, Sem.run]
    rw [e]
    exact this
  · cases h

end
end Go.Proofs.YtcdnofemnpafhaaM

/- Reads, writes, addresses, parts of values. Conditions: none. -/
namespace Go.Proofs.YtcdnofemnpafhaaM
set_option linter.unusedVariables false
set_option linter.unusedSimpArgs false
set_option linter.unnecessarySimpa false
set_option linter.unusedSectionVars false
open Go

section
variable {P : Program} {c : Cx} {j : J} {H : List Blk} {w : World}

theorem infoSz_some {T : TypeId} {n : Nat} (h : infoSz P T = some n) : ∃ i, P.info? T = some i ∧ i.size = n := by
  unfold infoSz at h
  rw [Option.map_eq_some_iff] at h
  exact h

theorem asVal_rel {N : Nat → Prop} {T : TypeId} {cs : List Cell} {vs : List Value} {v : V1} (h : asVal P T cs = some v) (hc : All2 (CRel j H w N) cs vs) :
    ∃ V d, P.underlying T = some d ∧ ((d.isRow = true ∧ V = .agg vs.toArray) ∨ (d.isRow = false ∧ vs = [V])) ∧ V1Rel j H w N v V := by
  unfold asVal at h
  split at h
  · rename_i fs hu
    cases h
    exact ⟨.agg vs.toArray, _, hu, .inl ⟨rfl, rfl⟩, vs.toArray, rfl, hc⟩
  · rename_i n e hu
    cases h
    exact ⟨.agg vs.toArray, _, hu, .inl ⟨rfl, rfl⟩, vs.toArray, rfl, hc⟩
  · rename_i d hns hna hu
    cases cs with
    | nil => cases h
    | cons x cs =>
      cases cs with
      | cons _ _ => cases h
      | nil =>
        cases h
        obtain ⟨V, m, rfl, hV, hm⟩ := hc.cons_left
        obtain rfl := hm.nil_left
        refine ⟨V, d, hu, .inr ⟨?_, rfl⟩, .inr hV⟩
        cases d <;> first | rfl | exact absurd rfl (hns _) | exact absurd rfl (hna _ _)
  · cases h

theorem run_load_cell {w : World} {a : Addr} {v : Value} (h : w.cell? a = some v) : (load a).run P w = .ok v w := by
  simp [load, Sem.run, h]

theorem run_loadVar_at {T : TypeId} {a : Addr} {vs : List Value} {V : Value} {d : TypeDesc} (hu : P.underlying T = some d) (hV : (d.isRow = true ∧ V = .agg vs.toArray) ∨ (d.isRow = false ∧ vs = [V]))
    (hi : infoSz P T = some vs.length) (hat : ∀ (q : Nat) (u : Value), vs[q]? = some u → w.cell? (a.add q) = some u) : (loadVar T a).run P w = .ok V w := by
  rcases hV with ⟨hd, rfl⟩ | ⟨hd, rfl⟩
  · have hl : (loadCells a vs.length).run P w = .ok vs.toArray w := run_loadCells_list (P := P) w a _ hat
    obtain ⟨i, hi, hs⟩ := infoSz_some hi
    have hagg : (isAgg T).run P w = .ok true w := by
      unfold isAgg
      rw [Sem.run_bind, run_underlying hu w]
      cases d <;> simp_all [TypeDesc.isRow]
    simp [loadVar, Sem.run_bind, hagg, sizeOf, typeInfo, hi, hs, hl]
  · have hagg : (isAgg T).run P w = .ok false w := by
      unfold isAgg
      rw [Sem.run_bind, run_underlying hu w]
      cases d <;> simp_all [TypeDesc.isRow]
    have h0 := hat 0 V rfl
    have : a.add 0 = a := by simp [Addr.add]
    rw [this] at h0
    simp [loadVar, Sem.run_bind, hagg, h0]
theorem run_loadVar_cells {T : TypeId} {b o : Nat} {vs : List Value} {V : Value} {d : TypeDesc} (hu : P.underlying T = some d) (hV : (d.isRow = true ∧ V = .agg vs.toArray) ∨ (d.isRow = false ∧ vs = [V]))
    (hi : infoSz P T = some vs.length) (hc : w.rangeAt b o vs) : (loadVar T ⟨b, o, none⟩).run P w = .ok V w :=
  run_loadVar_at hu hV hi fun q u h => by rw [Addr.add_mid]; exact hc q u h

theorem All2.len_eq {α β : Type} {R : α → β → Prop} {l : List α} {m : List β} (h : All2 R l m) : l.length = m.length := h.1

theorem enc_len : ∀ (t : Ty) (x : t.den), (enc t x).length = t.sz
  | .int _, _ => rfl
  | .bool, _ => rfl
  | .str, _ => rfl
  | .ro _, _ => rfl
  | .unit, _ => rfl
  | .pair a b, x => by simp [enc, enc_len a, enc_len b, Ty.sz]
theorem enc_rel {N : Nat → Prop} : ∀ {t : Ty} {x : t.den} {vs : List Value}, RoC w N t x vs → All2 (CRel j H w N) (enc t x) vs
  | .int _, _, _, h => by cases h; exact All2.cons ⟨rfl, rfl⟩ All2.nil
  | .bool, _, _, h => by cases h; exact All2.cons ⟨rfl, rfl⟩ All2.nil
  | .str, _, _, h => by cases h; exact All2.cons ⟨rfl, rfl⟩ All2.nil
  | .unit, _, _, h => by cases h; exact All2.nil
  | .ro t, l, vs, h => by
    obtain ⟨A, cap, rfl, h'⟩ := h
    exact All2.cons ⟨rfl, ⟨A, cap, rfl, h'⟩⟩ All2.nil
  | .pair a b, x, vs, h => by
    obtain ⟨c1, c2, rfl, h1, h2⟩ := h
    exact (enc_rel h1).append (enc_rel h2)

theorem intsOf_rel {N : Nat → Prop} {k : IntKind} : ∀ {cs : List Cell} {l : List Int} {vs : List Value}, intsOf k cs = some l → All2 (CRel j H w N) cs vs → cs.length = l.length ∧ ∀ (i : Nat) (n : Int), l[i]? = some n → vs[i]? = some (.int k n)
  | [], l, vs, h, ha => by cases h; exact ⟨rfl, fun i n hn => by simp at hn⟩
  | x :: cs, l, vs, h, ha => by
    obtain ⟨V, m, rfl, hV, hm⟩ := ha.cons_left
    cases x <;> simp only [intsOf] at h <;> (first | (cases h; done) | skip)
    split at h
    · rename_i k' n hk
      subst hk
      rw [Option.map_eq_some_iff] at h
      obtain ⟨l', hl, rfl⟩ := h
      obtain ⟨e, hq⟩ := intsOf_rel hl hm
      refine ⟨by simp [e], fun i y hy => ?_⟩
      cases i with
      | zero => simp at hy; subst hy; rw [hV.2]; rfl
      | succ i => simpa using hq i y (by simpa using hy)
    · cases h

theorem decAll_plain {N : Nat → Prop} {w : World} : ∀ {t : Ty} {cs : List Cell} {x : t.den} {r : List Cell} {H1 : List Blk} {vs : List Value}, t.noRo = true → dec t [] cs = some (x, r, H1) → All2 (CRel j H w N) cs vs → ∃ v1 v2, vs = v1 ++ v2 ∧ v1 = valT t x ∧ All2 (CRel j H w N) r v2
  | .int k, cs, x, r, H1, vs, _, hd, ha => by
    cases cs with
    | nil => simp [dec] at hd
    | cons a cs =>
      cases a <;> simp only [dec] at hd <;> (first | (cases hd; done) | skip)
      split at hd
      · rename_i k' n hk
        subst hk
        simp only [Option.some.injEq, Prod.mk.injEq] at hd
        obtain ⟨rfl, rfl, _⟩ := hd
        obtain ⟨b, m, rfl, hb, hm⟩ := ha.cons_left
        obtain ⟨_, rfl⟩ := hb
        exact ⟨[_], m, rfl, rfl, hm⟩
      · cases hd
  | .bool, cs, x, r, H1, vs, _, hd, ha => by
    cases cs with
    | nil => simp [dec] at hd
    | cons a cs =>
      cases a <;> simp only [dec] at hd <;> (first | (cases hd; done) | skip)
      simp only [Option.some.injEq, Prod.mk.injEq] at hd
      obtain ⟨rfl, rfl, _⟩ := hd
      obtain ⟨b, m, rfl, hb, hm⟩ := ha.cons_left
      obtain ⟨_, rfl⟩ := hb
      exact ⟨[_], m, rfl, rfl, hm⟩
  | .str, cs, x, r, H1, vs, _, hd, ha => by
    cases cs with
    | nil => simp [dec] at hd
    | cons a cs =>
      cases a <;> simp only [dec] at hd <;> (first | (cases hd; done) | skip)
      simp only [Option.some.injEq, Prod.mk.injEq] at hd
      obtain ⟨rfl, rfl, _⟩ := hd
      obtain ⟨b, m, rfl, hb, hm⟩ := ha.cons_left
      obtain ⟨_, rfl⟩ := hb
      exact ⟨[_], m, rfl, rfl, hm⟩
  | .unit, cs, x, r, H1, vs, _, hd, ha => by
    simp only [dec, Option.some.injEq, Prod.mk.injEq] at hd
    obtain ⟨_, rfl, _⟩ := hd
    exact ⟨[], vs, rfl, rfl, ha⟩
  | .ro t, _, _, _, _, _, hn, _, _ => by simp [Ty.noRo] at hn
  | .pair a b, cs, x, r, H1, vs, hn, hd, ha => by
    simp only [Ty.noRo, Bool.and_eq_true] at hn
    simp only [dec] at hd
    split at hd
    · rename_i y r1 H2 h1
      have e2 : H2 = [] := (dec_nil a h1)
      subst e2
      split at hd
      · rename_i z r2 H3 h2
        simp only [Option.some.injEq, Prod.mk.injEq] at hd
        obtain ⟨rfl, rfl, _⟩ := hd
        obtain ⟨v1, v2, rfl, e1, ha1⟩ := decAll_plain hn.1 h1 ha
        obtain ⟨v3, v4, rfl, e3, ha2⟩ := decAll_plain hn.2 h2 ha1
        exact ⟨v1 ++ v3, v4, by simp, by rw [e1, e3]; rfl, ha2⟩
      · cases hd
    · cases hd
where
  dec_nil : ∀ (t : Ty) {cs : List Cell} {x : t.den} {r : List Cell} {H1 : List Blk}, dec t [] cs = some (x, r, H1) → H1 = []
    | .int k, cs, x, r, H1, hd => by
      cases cs with
      | nil => simp [dec] at hd
      | cons a cs =>
        cases a <;> simp only [dec] at hd <;> (first | (cases hd; done) | skip)
        split at hd
        · simp only [Option.some.injEq, Prod.mk.injEq] at hd; exact hd.2.2.symm
        · cases hd
    | .bool, cs, x, r, H1, hd => by
      cases cs with
      | nil => simp [dec] at hd
      | cons a cs =>
        cases a <;> simp only [dec] at hd <;> (first | (cases hd; done) | skip)
        simp only [Option.some.injEq, Prod.mk.injEq] at hd; exact hd.2.2.symm
    | .str, cs, x, r, H1, hd => by
      cases cs with
      | nil => simp [dec] at hd
      | cons a cs =>
        cases a <;> simp only [dec] at hd <;> (first | (cases hd; done) | skip)
        simp only [Option.some.injEq, Prod.mk.injEq] at hd; exact hd.2.2.symm
    | .unit, cs, x, r, H1, hd => by
      simp only [dec, Option.some.injEq, Prod.mk.injEq] at hd; exact hd.2.2.symm
    | .ro t, cs, x, r, H1, hd => by
      cases cs with
      | nil => simp [dec] at hd
      | cons a cs =>
        cases a <;> simp only [dec] at hd <;> (first | (cases hd; done) | skip)
        · split at hd
          · simp only [Option.some.injEq, Prod.mk.injEq] at hd; exact hd.2.2.symm
          · cases hd
        · simp only [Option.some.injEq, Prod.mk.injEq] at hd; exact hd.2.2.symm
    | .pair a b, cs, x, r, H1, hd => by
      simp only [dec] at hd
      split at hd
      · rename_i y r1 H2 h1
        have := dec_nil a h1
        subst this
        split at hd
        · rename_i z r2 H3 h2
          simp only [Option.some.injEq, Prod.mk.injEq] at hd
          rw [← hd.2.2]
          exact dec_nil b h2
        · cases hd
      · cases hd

theorem roc_val {N : Nat → Prop} : ∀ {t : Ty} (x : t.den), t.noRo = true → RoC w N t x (valT t x)
  | .int _, _, _ => rfl
  | .bool, _, _ => rfl
  | .str, _, _ => rfl
  | .unit, _, _ => rfl
  | .pair _ _, x, h => by
    simp only [Ty.noRo, Bool.and_eq_true] at h
    exact ⟨_, _, rfl, roc_val x.1 h.1, roc_val x.2 h.2⟩
  | .ro _, _, h => by simp [Ty.noRo] at h
theorem valT_len {t : Ty} (x : t.den) (h : t.noRo = true) : (valT t x).length = t.sz := (roc_val (w := default) (N := fun _ => False) x h).len

theorem node_at (hI : Inv P c j H w) {b i g : Nat} {T : TypeId} {t : Ty} {l : List t.den} (hb : H[b]? = some (.chn T t l)) (hi : (chOf (j.cv b))[i]? = some g) :
    ∃ x, l[i]? = some x ∧ t.noRo = true ∧ 0 < t.sz ∧ w.heap[g]? = some (.cells ((valT t x ++ [linkV (chOf (j.cv b)) (i + 1)]).toArray) T (0, 0)) := by
  obtain ⟨h1, h2, h3, _, h5⟩ := hI.heap b _ hb
  have hlt : i < l.length := by rw [← h3]; exact get_lt hi
  exact ⟨l[i], List.getElem?_eq_getElem hlt, h1, h2, h5 i g _ hi (List.getElem?_eq_getElem hlt)⟩
theorem node_cell {w : World} {g : Nat} {vs : List Value} {T : TypeId} (h : w.heap[g]? = some (.cells vs.toArray T (0, 0))) (o : Nat) : w.cell? ⟨g, o, none⟩ = vs[o]? := by
  rw [cell_of_row w g _ vs.toArray T (0, 0) h]
  simp
theorem lnk_rel {N : Nat → Prop} {b i : Nat} (h : b < H.length) : CRel j H w N (.lnk b i) (linkV (chOf (j.cv b)) i) := ⟨by unfold linkV; rfl, h, fun _ _ _ _ => rfl⟩

theorem encO_rel {N : Nat → Prop} {b i : Nat} {p : Option Nat} (hb : b < H.length) (hp : (owOf (j.cv b))[i]? = some p) : ∀ {t : Ty} {x : t.den} {c : List Value}, t.own = true → OwC w t x p c → All2 (CRel j H w N) (encO b i t x) c
  | .ro u, l, c, _, h => by
    obtain ⟨A, cap, rfl, h2, h3⟩ := h
    refine All2.cons ⟨rfl, hb, fun T t l' _ => ⟨A, cap, rfl, h2, fun hn => ?_⟩⟩ All2.nil
    obtain ⟨g, arr, U, k1, k2, _⟩ := h3 (by intro e; rw [e] at hn; simp at hn)
    exact ⟨g, by rw [hp, k1], k2⟩
  | .pair a d, x, c, ho, h => by
    simp only [Ty.own, Bool.and_eq_true] at ho
    obtain ⟨c2, rfl, h2⟩ := h
    exact (enc_rel (roc_val (w := w) (N := N) x.1 ho.1)).append (encO_rel hb hp ho.2 h2)
  | .int _, _, _, _, h => h.elim
  | .bool, _, _, _, h => h.elim
  | .str, _, _, _, h => h.elim
  | .unit, _, _, _, h => h.elim
theorem own_at {P : Program} {c : Cx} {j : J} {H : List Blk} {w : World} (hI : Inv P c j H w) {b i g : Nat} {T : TypeId} {t : Ty} {l : List t.den} (hb : H[b]? = some (.own T t l)) (hi : i < l.length) (hg : j.blk b = some g) :
    ∃ cells p, t.own = true ∧ w.heap[g]? = some (.cells cells T (0, 0)) ∧ cells.size = owCap (j.cv b) * t.sz ∧ l.length ≤ owCap (j.cv b) ∧ (owOf (j.cv b))[i]? = some p ∧ OwC w t l[i] p ((cells.toList.drop (i * t.sz)).take t.sz) := by
  obtain ⟨h1, h2, _, h4⟩ := hI.heap b _ hb
  rcases h4 with ⟨h4, _⟩ | ⟨g', cells, k1, k2, k3, k4, k5, k6, k7⟩
  · rw [hg] at h4; cases h4
  · rw [hg] at k1; cases k1
    exact ⟨cells, _, h1, k2, k3, k4, List.getElem?_eq_getElem (by omega), k7 i _ _ (List.getElem?_eq_getElem hi) (List.getElem?_eq_getElem (by omega))⟩

theorem loadC_sound (hI : Inv P c j H w) {T : TypeId} {x : Cell} {v : V1} {X : Value} (h : loadC P H T x = some v) (hx : CRel j H w (NN c j H) x X) :
    ∃ ad V, X = .pointer (some ad) ∧ (loadVar T ad).run P w = .ok V w ∧ V1Rel j H w (NN c j H) v V := by
  obtain ⟨_, hx⟩ := hx
  unfold loadC at h
  split at h
  · rename_i b i o n hn
    obtain ⟨hlt, _, hx⟩ := hx
    split at h
    · rename_i T' cs hb
      split at h
      · rename_i hi0
        split at h
        · rename_i hle
          obtain ⟨_, g, hg, rfl⟩ := hx _ hb
          obtain ⟨g', vs, hg', hh, ha⟩ := hI.heap b _ hb
          rw [hg] at hg'; cases hg'
          have ha' := (ha.drop o).take n
          obtain ⟨V, d, hu, hV, hr⟩ := asVal_rel h ha'
          refine ⟨_, V, rfl, run_loadVar_cells hu hV ?_ (fun q u hu => ?_), hr⟩
          · rw [hn, ← ha'.1]; simp; omega
          · rw [cell_of_row w g _ vs T' (0, 0) hh, ← Array.getElem?_toList]
            rw [List.getElem?_take] at hu
            split at hu
            · rw [List.getElem?_drop] at hu; exact hu
            · cases hu
        · cases h
      · cases h
    · rename_i T' t l hb
      split at h
      · rename_i hle
        obtain ⟨hil, g, hg, rfl⟩ := hx _ hb
        rcases hI.heap b _ hb with ⟨hg', _⟩ | ⟨g', cap, cells, hg', hh, hsz, hz, _, _, hq⟩
        · rw [hg] at hg'; cases hg'
        · rw [hg] at hg'; cases hg'
          obtain ⟨vs, hro, hcell⟩ := hq i _ (List.getElem?_eq_getElem hil)
          have he : l.getD i t.dflt = l[i] := by rw [List.getD_eq_getElem?_getD, List.getElem?_eq_getElem hil]; rfl
          rw [he] at h
          have ha' := ((enc_rel (j := j) (H := H) hro).drop o).take n
          obtain ⟨V, d, hu, hV, hr⟩ := asVal_rel h ha'
          refine ⟨_, V, rfl, run_loadVar_cells hu hV ?_ (fun q u hu => ?_), hr⟩
          · rw [hn, ← ha'.1]; simp [enc_len]; omega
          · rw [hh.cell]
            rw [List.getElem?_take] at hu
            split at hu
            · rw [List.getElem?_drop] at hu
              rw [Nat.add_assoc]
              exact hcell _ u hu
            · cases hu
      · cases h
    · cases h
  · rename_i t x o n hn
    split at h
    · rename_i hle
      obtain ⟨e, vs, rfl, hN, hlt, hro, hcell⟩ := hx
      have ha' := ((enc_rel (j := j) (H := H) hro).drop o).take n
      obtain ⟨V, d, hu, hV, hr⟩ := asVal_rel h ha'
      have hlen : vs.length = t.sz := hro.len
      refine ⟨_, V, rfl, run_loadVar_at hu hV (by rw [hn]; simp; omega) fun q u hu => ?_, hr⟩
      rw [List.getElem?_take] at hu
      split at hu
      · rw [List.getElem?_drop] at hu
        rw [← hcell _ u hu]
        congr 1
        unfold Addr.add
        by_cases h1 : o = 0
        · by_cases h2 : q = 0 <;> simp [h1, h2]
        · by_cases h2 : q = 0 <;> simp [h1, h2, Nat.add_assoc]
      · cases hu
    · cases h
  · rename_i b o m i hn
    split at h
    · rename_i T' cs d0 hb hT hu0
      split at h
      · rename_i k n0 hh
        split at h
        · rename_i hle
          split at h
          · rename_i l hl
            cases h
            obtain ⟨hlt, hx⟩ := hx
            obtain ⟨him, g, hg, rfl⟩ := hx _ _ hb
            obtain ⟨g', vs, hg', hh', ha⟩ := hI.heap b _ hb
            rw [hg] at hg'; cases hg'
            obtain ⟨e1, e2⟩ := intsOf_rel hl ((ha.drop o).take m)
            have hil : i < l.length := by rw [← e1]; simp; omega
            have hv := e2 i _ (List.getElem?_eq_getElem hil)
            rw [List.getElem?_take, if_pos him, List.getElem?_drop] at hv
            refine ⟨_, .int k l[i], rfl, ?_, .inr ?_⟩
            · have hc0 : w.cell? ⟨g, o + i, none⟩ = some (.int k l[i]) := by rw [cell_of_row w g _ vs T' (0, 0) hh', ← Array.getElem?_toList]; exact hv
              have hd : d0.isRow = false := by unfold isAggT at hT; rw [hu0] at hT; cases d0 <;> simp_all [TypeDesc.isRow]
              exact run_loadVar_at hu0 (.inr ⟨hd, rfl⟩) hn fun q u hu => by
                cases q with
                | zero => simp at hu; subst hu; rw [Addr.add_mid]; exact hc0
                | succ q => simp at hu
            · rw [List.getD_eq_getElem?_getD, List.getElem?_eq_getElem hil]; exact ⟨rfl, rfl⟩
          · cases h
        · cases h
      · cases h
    · cases h
  · rename_i b i o n hn
    split at h
    · rename_i T' t l hb
      obtain ⟨hlt, _, hx⟩ := hx
      obtain ⟨g, hg, rfl⟩ := hx _ _ _ hb
      obtain ⟨x, hxl, hnr, hsz, hh⟩ := node_at hI hb hg
      have hgd : l.getD i t.dflt = x := by rw [List.getD_eq_getElem?_getD, hxl]; rfl
      split at h
      · rename_i hle
        rw [hgd] at h
        have ha' := ((enc_rel (j := j) (H := H) (roc_val (w := w) (N := NN c j H) x hnr)).drop o).take n
        obtain ⟨V, d, hu, hV, hr⟩ := asVal_rel h ha'
        refine ⟨_, V, rfl, run_loadVar_cells hu hV ?_ (fun q u hu => ?_), hr⟩
        · rw [hn, ← ha'.1]; simp [enc_len]; omega
        · rw [List.getElem?_take] at hu
          split at hu
          · rw [List.getElem?_drop] at hu
            rw [node_cell hh, List.getElem?_append_left (get_lt hu)]
            exact hu
          · cases hu
      · split at h
        · rename_i ho
          obtain ⟨rfl, rfl⟩ := ho
          obtain ⟨V, d, hu, hV, hr⟩ := asVal_rel (N := NN c j H) h (All2.cons (lnk_rel hlt) All2.nil)
          refine ⟨_, V, rfl, run_loadVar_cells hu hV (by rw [hn]; rfl) (fun q u hu => ?_), hr⟩
          cases q with
          | zero =>
            simp at hu
            subst hu
            rw [Nat.add_zero, node_cell hh, List.getElem?_append_right (Nat.le_of_eq (valT_len x hnr)), valT_len x hnr]
            simp
          | succ q => simp at hu
        · cases h
    · cases h
  · rename_i b o b2 i n hn
    split at h
    · rename_i Tb cs T' t l hb hc
      split at h
      · rename_i c' k ho
        split at h
        · rename_i hck
          obtain ⟨rfl, rfl, rfl⟩ := hck
          obtain ⟨hlb, hlc, _, h0, h1⟩ := hx
          obtain ⟨V, d, hu, hV, hr⟩ := asVal_rel (N := NN c j H) h (All2.cons (lnk_rel hlc) All2.nil)
          cases i with
          | zero =>
            obtain ⟨_, g, hg, rfl⟩ := h0 rfl _ _ hb
            obtain ⟨g', vs, hg', hh, ha⟩ := hI.heap b _ hb
            rw [hg] at hg'; cases hg'
            obtain ⟨u0, hu0, hr0⟩ := ha.get ho
            have he := hr0.2.2 _ _ _ hc
            refine ⟨_, V, rfl, run_loadVar_cells hu hV (by rw [hn]; rfl) (fun q u hu => ?_), hr⟩
            cases q with
            | zero =>
              simp at hu
              subst hu
              rw [Nat.add_zero, cell_of_row w g _ vs Tb (0, 0) hh, ← Array.getElem?_toList, hu0, he]
            | succ q => simp at hu
          | succ k =>
            obtain ⟨g, hg, rfl⟩ := h1 k rfl _ _ _ hc
            obtain ⟨x, hxl, hnr, hsz, hh⟩ := node_at hI hc hg
            refine ⟨_, V, rfl, run_loadVar_cells hu hV (by rw [hn]; rfl) (fun q u hu => ?_), hr⟩
            cases q with
            | zero =>
              simp at hu
              subst hu
              rw [Nat.add_zero, node_cell hh, List.getElem?_append_right (Nat.le_of_eq (valT_len x hnr)), valT_len x hnr]
              simp
            | succ q => simp at hu
        · cases h
      · cases h
    · cases h
  · rename_i b i o n hn
    split at h
    · rename_i T' t l hb
      split at h
      · rename_i hle
        obtain ⟨hlt, _, hx⟩ := hx
        obtain ⟨hil, g, hg, rfl⟩ := hx _ _ _ hb
        obtain ⟨cells, p, h1, h2, h3, h4, h5, h6⟩ := own_at hI hb hil hg
        have hgd : l.getD i t.dflt = l[i] := by rw [List.getD_eq_getElem?_getD, List.getElem?_eq_getElem hil]; rfl
        rw [hgd] at h
        have hr0 := encO_rel (j := j) (H := H) (N := NN c j H) hlt h5 h1 h6
        have ha' := (hr0.drop o).take n
        obtain ⟨V, d, hu, hV, hr⟩ := asVal_rel h ha'
        have hmul : i * t.sz + t.sz ≤ owCap (j.cv b) * t.sz := by rw [← Nat.succ_mul]; exact Nat.mul_le_mul_right _ (by omega)
        refine ⟨_, V, rfl, run_loadVar_cells hu hV ?_ (fun q u hu => ?_), hr⟩
        · rw [hn]; simp; omega
        · rw [cell_of_row w g _ cells T' (0, 0) h2, ← Array.getElem?_toList]
          rw [List.getElem?_take] at hu
          split at hu
          · rw [List.getElem?_drop, List.getElem?_take] at hu
            split at hu
            · rw [List.getElem?_drop] at hu
              rw [Nat.add_assoc]
              exact hu
            · cases hu
          · cases hu
      · cases h
    · cases h
  · cases h
end
end Go.Proofs.YtcdnofemnpafhaaM

/- Chains of nodes: how they are bound anew. Conditions: none. -/
namespace Go.Proofs.YtcdnofemnpafhaaM
set_option linter.unusedVariables false
set_option linter.unusedSimpArgs false
set_option linter.unnecessarySimpa false
set_option linter.unusedSectionVars false
open Go

section
variable {P : Program} {c : Cx} {j : J} {H : List Blk} {w : World}

theorem Inv.chg (h : Inv P c j H w) {H' : List Blk} {B' : Blk} {r : Option Nat} {v : Value} {w' : World}
    (hl : H'.length = H.length + 1) (hnew : H'[H.length]? = some B')
    (hat : ∀ g, NewAt r v B' g → w.heap.size ≤ g ∨ ∃ b0 B0, H[b0]? = some B0 ∧ B0.live ∧ At j b0 B0 g ∧ ∀ B1, H'[b0]? = some B1 → ¬ B1.live)
    (hs : w.heap.size ≤ w'.heap.size) (ho : w'.os = w.os) (ht : w'.tape = w.tape) (hout : w'.output = w.output)
    (hmem : ∀ g, g < w.heap.size → ¬ Own j H g → w'.heap[g]? = w.heap[g]?)
    (hrow : ∀ i T t l g cells, i < H.length → H'[i]? = some (.row T t l) → j.blk i = some g → Cls w g cells T → ∃ cells', Cls w' g cells' T ∧ cells'.size = cells.size)
    (hex : ∀ i, i < H.length → ∃ B, H'[i]? = some B)
    (hold : ∀ i B1, i < H.length → H'[i]? = some B1 → B1.live → ∃ B, H[i]? = some B ∧ B.same B1 ∧
      ((B1 = B ∧ ∀ g, At j i B g → w'.heap[g]? = w.heap[g]?) ∨ (Mov j H w (NN c j H) (j.at H.length r v) H' w' (NN c (j.at H.length r v) H') → BRel P (j.at H.length r v) H' w' (NN c (j.at H.length r v) H') i B1)))
    (hB : Mov j H w (NN c j H) (j.at H.length r v) H' w' (NN c (j.at H.length r v) H') → BRel P (j.at H.length r v) H' w' (NN c (j.at H.length r v) H') H.length B') :
    Inv P c (j.at H.length r v) H' w' ∧ Mov j H w (NN c j H) (j.at H.length r v) H' w' (NN c (j.at H.length r v) H') := by
  have hget : ∀ {i : Nat} {B1 : Blk}, H'[i]? = some B1 → B1.live → (i < H.length ∧ ∃ B, H[i]? = some B ∧ B.same B1 ∧ B.live) ∨ (i = H.length ∧ B1 = B') := by
    intro i B1 hi hlv
    by_cases hlt : i < H.length
    · obtain ⟨B, h1, h2, _⟩ := hold i B1 hlt hi hlv
      exact .inl ⟨hlt, B, h1, h2, (Blk.same_live h2).1⟩
    · have := get_lt hi
      have e : i = H.length := by omega
      subst e
      rw [hnew] at hi
      cases hi
      exact .inr ⟨rfl, rfl⟩
  have hatj : ∀ {i g : Nat} {B B1 : Blk}, i < H.length → B.same B1 → (At (j.at H.length r v) i B1 g ↔ At j i B g) := fun hlt hsm => (At.at_ne (by omega)).trans (At.same hsm)
  have hown : ∀ k, Own (j.at H.length r v) H' k → Own j H k ∨ w.heap.size ≤ k := by
    rintro k ⟨i, B1, hi, h1, h2⟩
    rcases hget hi h1 with ⟨h3, B, h4, h5, h6⟩ | ⟨rfl, rfl⟩
    · exact .inl ⟨i, B, h4, h6, (hatj h3 h5).1 h2⟩
    · rcases hat k (At.at_eq.1 h2) with h3 | ⟨b0, B0, h3, h4, h5, _⟩
      · exact .inr h3
      · exact .inl ⟨b0, B0, h3, h4, h5⟩
  have m : Mov j H w (NN c j H) (j.at H.length r v) H' w' (NN c (j.at H.length r v) H') := by
    refine ⟨by omega, fun i B1 hi => ?_, by omega, fun g hg hn => ⟨fun hn' => ?_, hmem g hg fun hh => hn (.inr hh)⟩, fun i T t l g cells hi hl hj hc => hrow i T t l g cells hi hl hj hc⟩
    · have hlt := get_lt hi
      obtain ⟨B2, h2⟩ := hex i hlt
      refine ⟨B2, h2, fun hlv => ?_⟩
      obtain ⟨B, h3, h4, _⟩ := hold i B2 hlt h2 hlv
      rw [hi] at h3; cases h3
      exact ⟨h4, J.at_ne (by omega)⟩
    · rcases hn' with hA | ho'
      · exact hn (.inl hA)
      · rcases hown g ho' with h1 | h1
        · exact hn (.inr h1)
        · omega
  have hn0 := h.n
  refine ⟨⟨by omega, fun i B1 hi hb1 hlv => ?_, fun i B1 g hi hb1 hlv hg => ?_, fun i B1 g hi hb1 hlv hg => ?_, fun i i' B1 B2 g hb1 hb2 hlv hlv' hg hg' => ?_, fun g hg hn => ?_, Nat.le_trans h.size hs, ho.trans h.os, ht.trans h.tape, hout.trans h.output, h.apart, h.gl, h.same_step m, h.rowsz_step m, fun i B1 hi => ?_⟩, m⟩
  · rcases hget hb1 hlv with ⟨h1, B, h2, h3, h4⟩ | ⟨h1, _⟩
    · obtain ⟨e1, e2⟩ := J.at_ne (j := j) (r := r) (v := v) (show i ≠ H.length by omega)
      obtain ⟨k1, k2⟩ := h.keep i B hi h2 h4
      exact ⟨e1.trans k1, e2.trans k2⟩
    · omega
  · rcases hget hb1 hlv with ⟨h1, B, h2, h3, h4⟩ | ⟨h1, h1'⟩
    · exact h.neu i B g hi h2 h4 ((hatj h1 h3).1 hg)
    · subst h1; subst h1'
      rcases hat g (At.at_eq.1 hg) with h4 | ⟨b0, B0, h4, h5, h6, _⟩
      · exact .inl (Nat.le_trans h.size h4)
      · by_cases hbn : b0 < c.n
        · exact .inr (h.own b0 B0 g hbn h4 h5 h6)
        · exact h.neu b0 B0 g (by omega) h4 h5 h6
  · rcases hget hb1 hlv with ⟨h1, B, h2, h3, h4⟩ | ⟨h1, _⟩
    · exact h.own i B g hi h2 h4 ((hatj h1 h3).1 hg)
    · omega
  · have far : ∀ {i : Nat} {B1 B : Blk}, i < H.length → H'[i]? = some B1 → B1.live → H[i]? = some B → B.live → At j i B g → ¬ NewAt r v B' g := by
      intro i B1 B hlt hi1 hlv1 hi2 hlv2 hg2 hne
      rcases hat g hne with h7 | ⟨b0, B0, h7, h8, h9, h10⟩
      · have := h.own_lt ⟨i, B, hi2, hlv2, hg2⟩; omega
      · have := h.inj i b0 B B0 g hi2 h7 hlv2 h8 hg2 h9
        subst this
        exact h10 B1 hi1 hlv1
    rcases hget hb1 hlv with ⟨h1, B, h2, h3, h4⟩ | ⟨h1, h1'⟩ <;> rcases hget hb2 hlv' with ⟨k1, C, k2, k3, k4⟩ | ⟨k1, k1'⟩
    · exact h.inj i i' B C g h2 k2 h4 k4 ((hatj h1 h3).1 hg) ((hatj k1 k3).1 hg')
    · subst k1; subst k1'
      exact absurd (At.at_eq.1 hg') (far h1 hb1 hlv h2 h4 ((hatj h1 h3).1 hg))
    · subst h1; subst h1'
      exact absurd (At.at_eq.1 hg) (far k1 hb2 hlv' k2 k4 ((hatj k1 k3).1 hg'))
    · omega
  · refine (hmem g (by have := h.size; omega) fun ⟨b, B, hb, hlv, he⟩ => ?_).trans (h.frame g hg hn)
    by_cases hbn : b < c.n
    · exact hn (h.own b B g hbn hb hlv he)
    · rcases h.neu b B g (by omega) hb hlv he with h1 | h1
      · omega
      · exact hn h1
  · by_cases hl1 : B1.live
    · by_cases hlt : i < H.length
      · obtain ⟨B, h1, h2, h3⟩ := hold i B1 hlt hi hl1
        rcases h3 with ⟨rfl, h4⟩ | h4
        · obtain ⟨e1, e2⟩ := J.at_ne (j := j) (r := r) (v := v) (show i ≠ H.length by omega)
          exact (h.heap i B1 h1).mov m e1 e2 h4
        · exact h4 m
      · have := get_lt hi
        have e : i = H.length := by omega
        subst e
        rw [hnew] at hi; cases hi
        exact hB m
    · cases B1 <;> first | exact absurd trivial hl1 | trivial

theorem linkV_left {A B : List Nat} {p : Nat} (h : p < A.length) : linkV (A ++ B) p = linkV A p := by unfold linkV; rw [List.getElem?_append_left h]
theorem linkV_right {A B : List Nat} {p : Nat} (h : A.length ≤ p) : linkV (A ++ B) p = linkV B (p - A.length) := by unfold linkV; rw [List.getElem?_append_right h]
theorem linkV_take {A : List Nat} {p i : Nat} (h : p < i) : linkV (A.take i) p = linkV A p := by unfold linkV; rw [List.getElem?_take, if_pos h]
theorem linkV_drop {A : List Nat} {p k : Nat} : linkV (A.drop k) p = linkV A (k + p) := by unfold linkV; rw [List.getElem?_drop]

theorem nodup_get {l : List Nat} (h : l.Nodup) {i k g : Nat} (hi : l[i]? = some g) (hk : l[k]? = some g) : i = k := by
  obtain ⟨h1, h2⟩ := List.getElem?_eq_some_iff.1 hi
  obtain ⟨h3, h4⟩ := List.getElem?_eq_some_iff.1 hk
  exact (List.getElem_inj h).1 (h2.trans h4.symm)

theorem relink (hI : Inv P c j H w) {b o q i k : Nat} {Tb T : TypeId} {cs : List Cell} {t : Ty} {l : List t.den} (hb : H[b]? = some (.var Tb cs)) (hc : H[q]? = some (.chn T t l)) (hoc : cs[o]? = some (.lnk q 0))
    {H1 : List Blk} (hk1 : ∀ p : Nat, H1[p]? = H[p]? ∨ H1[p]? = some .dead) (hlen : H1.length = H.length) (hc1 : H1[q]? = some .dead)
    {mid : List Nat} {mx : List t.den} (hml : mid.length = mx.length) (hmn : mid.Nodup)
    (hmg : ∀ g ∈ mid, ∃ b0 B0, H[b0]? = some B0 ∧ B0.live ∧ At j b0 B0 g ∧ H1[b0]? = some .dead ∧ b0 ≠ q ∧ b0 ≠ b)
    (hmc : ∀ (p g : Nat) (x : t.den), mid[p]? = some g → mx[p]? = some x → w.heap[g]? = some (.cells ((valT t x ++ [linkV (mid ++ (chOf (j.cv q)).drop k) (p + 1)]).toArray) T (0, 0)))
    (hik : i ≤ k) {G O : Nat} (hG : (i = 0 ∧ j.blk b = some G ∧ O = o) ∨ ∃ m, i = m + 1 ∧ (chOf (j.cv q))[m]? = some G ∧ O = t.sz)
    {y : Value} (hy : y = linkV (mid ++ (chOf (j.cv q)).drop k) 0) :
    (∃ cur T', w.heap[G]? = some (.cells cur T' (0, 0)) ∧ O < cur.size) ∧
    Inv P c (j.at H.length none (chV ((chOf (j.cv q)).take i ++ (mid ++ (chOf (j.cv q)).drop k)))) (H1.set b (.var Tb (cs.set o (.lnk H.length 0))) ++ [.chn T t (l.take i ++ (mx ++ l.drop k))]) (w.setCells G O [y]) ∧
      Mov j H w (NN c j H) (j.at H.length none (chV ((chOf (j.cv q)).take i ++ (mid ++ (chOf (j.cv q)).drop k)))) (H1.set b (.var Tb (cs.set o (.lnk H.length 0))) ++ [.chn T t (l.take i ++ (mx ++ l.drop k))]) (w.setCells G O [y])
        (NN c (j.at H.length none (chV ((chOf (j.cv q)).take i ++ (mid ++ (chOf (j.cv q)).drop k)))) (H1.set b (.var Tb (cs.set o (.lnk H.length 0))) ++ [.chn T t (l.take i ++ (mx ++ l.drop k))])) := by
  obtain ⟨hnr, hsz, hpl, hnd, hcells⟩ := hI.heap q _ hc
  obtain ⟨gb, vs, hgb, hhb, hab⟩ := hI.heap b _ hb
  generalize hps : chOf (j.cv q) = ps at *
  have hbq : b ≠ q := by rintro rfl; rw [hb] at hc; cases hc
  have hblt := get_lt hb
  have hqlt := get_lt hc
  have hatq : ∀ {g : Nat}, g ∈ ps → At j q (.chn T t l) g := fun hg => by show _ ∈ chOf (j.cv q); rw [hps]; exact hg
  have hgbps : gb ∉ ps := fun hm => hbq (hI.inj b q _ _ gb hb hc trivial trivial hgb (hatq hm))
  have hil : i ≤ ps.length := by
    rcases hG with ⟨rfl, _⟩ | ⟨m, rfl, hm, _⟩
    · omega
    · have := get_lt hm; omega
  have hti : (ps.take i).length = i := by simp; omega
  have htl : (l.take i).length = i := by simp; omega
  -- the place that is written
  have hw0 : ∃ cur T', w.heap[G]? = some (.cells cur T' (0, 0)) ∧ O < cur.size := by
    rcases hG with ⟨_, hg, rfl⟩ | ⟨m, _, hm, rfl⟩
    · rw [hgb] at hg; cases hg
      refine ⟨vs, Tb, hhb, ?_⟩
      have := get_lt hoc
      have := hab.1
      simp at this
      omega
    · have hml' : m < l.length := by rw [← hpl]; exact get_lt hm
      refine ⟨_, T, hcells m G _ hm (List.getElem?_eq_getElem hml'), ?_⟩
      have := valT_len l[m] hnr
      simp [this]
  refine ⟨hw0, ?_⟩
  obtain ⟨cur, T', hcur, hO⟩ := hw0
  have hGo : Own j H G := by
    rcases hG with ⟨_, hg, _⟩ | ⟨m, _, hm, _⟩
    · exact ⟨b, _, hb, trivial, hg⟩
    · exact ⟨q, _, hc, trivial, hatq (List.mem_of_getElem? hm)⟩
  have hfar : ∀ g, g ≠ G → (w.setCells G O [y]).heap[g]? = w.heap[g]? := fun g hg => by simp [World.setCells]; exact RowKit.Below.heap_setCell w ⟨G, O, none⟩ y g hg
  have hat' : (w.setCells G O [y]).heap[G]? = some (.cells (cur.setIfInBounds O y) T' (0, 0)) := by
    simp [World.setCells, World.setCell, Array.getElem?_modify, hcur]
  have hsame : (w.setCells G O [y]).os = w.os ∧ (w.setCells G O [y]).tape = w.tape ∧ (w.setCells G O [y]).output = w.output ∧ (w.setCells G O [y]).heap.size = w.heap.size := by
    simp [World.setCells, World.setCell]
  generalize hps' : ps.take i ++ (mid ++ ps.drop k) = ps'
  have hlk : ∀ {p : Nat}, p < i → linkV ps' p = linkV ps p := fun hp => by rw [← hps', linkV_left (by omega), linkV_take hp]
  have hlk2 : ∀ {p : Nat}, linkV ps' (i + p) = linkV (mid ++ ps.drop k) p := fun {p} => by rw [← hps', linkV_right (by omega), hti]; congr 1; omega
  have hH' : ∀ {p : Nat} {B1 : Blk}, p < H.length → (H1.set b (.var Tb (cs.set o (.lnk H.length 0))) ++ [.chn T t (l.take i ++ (mx ++ l.drop k))])[p]? = some B1 → B1.live → (p = b ∧ B1 = .var Tb (cs.set o (.lnk H.length 0))) ∨ (p ≠ b ∧ p ≠ q ∧ H[p]? = some B1 ∧ H1[p]? = some B1) := by
    intro p B1 hp h1 hlv
    rw [List.getElem?_append_left (by simp; omega)] at h1
    rcases get_set h1 with ⟨h2, h3⟩ | ⟨h2, h3, _⟩
    · refine .inr ⟨h2, ?_, ?_, h3⟩
      · rintro rfl; rw [hc1] at h3; cases h3; exact hlv
      · rcases hk1 p with e | e
        · rw [← e]; exact h3
        · rw [e] at h3; cases h3; exact hlv.elim
    · exact .inl ⟨h2, h3⟩
  have hdead : ∀ {b0 : Nat}, H1[b0]? = some .dead → b0 ≠ b → ∀ B1, (H1.set b (.var Tb (cs.set o (.lnk H.length 0))) ++ [.chn T t (l.take i ++ (mx ++ l.drop k))])[b0]? = some B1 → ¬ B1.live := by
    intro b0 h1 hne B1 h2 hlv
    have hlt := get_lt h1
    rw [List.getElem?_append_left (by simp; omega), List.getElem?_set_ne (fun e => hne e.symm), h1] at h2
    cases h2
    exact hlv
  -- nodes that are there are written at most at their link
  have hpsG : ∀ {p g : Nat}, ps[p]? = some g → (∀ m, i = m + 1 → p ≠ m) → g ≠ G := by
    rintro p g hp hne rfl
    rcases hG with ⟨_, hg, _⟩ | ⟨m, hi, hm, _⟩
    · rw [hgb] at hg; cases hg
      exact hgbps (List.mem_of_getElem? hp)
    · exact hne m hi (nodup_get hnd hp hm)
  have hmidG : ∀ {g : Nat}, g ∈ mid → g ≠ G := by
    rintro g hg rfl
    obtain ⟨b0, B0, h1, h2, h3, h4, h5, h6⟩ := hmg g hg
    rcases hG with ⟨_, hg', _⟩ | ⟨m, hi, hm, _⟩
    · exact h6 (hI.inj b0 b B0 _ g h1 hb h2 trivial h3 hg')
    · exact h5 (hI.inj b0 q B0 _ g h1 hc h2 trivial h3 (hatq (List.mem_of_getElem? hm)))
  have hmidps : ∀ {g : Nat}, g ∈ mid → g ∉ ps := by
    intro g hg hp
    obtain ⟨b0, B0, h1, h2, h3, h4, h5, h6⟩ := hmg g hg
    exact h5 (hI.inj b0 q B0 _ g h1 hc h2 trivial h3 (hatq hp))
  refine hI.chg (B' := .chn T t (l.take i ++ (mx ++ l.drop k))) (by simp; omega) (by rw [List.getElem?_append_right (by simp; omega)]; simp [hlen]) (fun g hg => ?_) (Nat.le_of_eq hsame.2.2.2.symm) hsame.1 hsame.2.1 hsame.2.2.1
    (fun g _ hn => hfar g fun e => hn (e ▸ hGo)) (fun _ T1 _ _ g cells _ _ _ hcl => ?_) (fun p hp => ?_) (fun p B1 hp h1 hlv => ?_) (fun m => ?_)
  · right
    have hg : g ∈ ps' := by have := hg; unfold NewAt at this; rwa [chOf_chV] at this
    rw [← hps'] at hg
    rcases List.mem_append.1 hg with hg | hg
    · exact ⟨q, _, hc, trivial, hatq (List.mem_of_mem_take hg), hdead hc1 (Ne.symm hbq)⟩
    · rcases List.mem_append.1 hg with hg | hg
      · obtain ⟨b0, B0, h1, h2, h3, h4, h5, h6⟩ := hmg g hg
        exact ⟨b0, B0, h1, h2, h3, hdead h4 h6⟩
      · exact ⟨q, _, hc, trivial, hatq (List.mem_of_mem_drop hg), hdead hc1 (Ne.symm hbq)⟩
  · by_cases hgG : g = G
    · subst hgG
      obtain ⟨e1, rfl⟩ := Cls.turned hcur hat' (by simp) hcl
      exact ⟨_, e1, by simp⟩
    · exact ⟨cells, Cls.of_eq (hfar g hgG) hcl, rfl⟩
  · exact ⟨_, List.getElem?_eq_getElem (by simp; omega)⟩
  · rcases hH' hp h1 hlv with ⟨rfl, rfl⟩ | ⟨h2, h3, h4, h5⟩
    · refine ⟨_, hb, ⟨rfl, by simp⟩, .inr fun m => ?_⟩
      have hcell : ∀ {u : Value}, u = linkV ps' 0 → CRel (j.at H.length none (chV ps')) (H1.set p (.var Tb (cs.set o (.lnk H.length 0))) ++ [.chn T t (l.take i ++ (mx ++ l.drop k))]) (w.setCells G O [y]) (NN c (j.at H.length none (chV ps')) (H1.set p (.var Tb (cs.set o (.lnk H.length 0))) ++ [.chn T t (l.take i ++ (mx ++ l.drop k))])) (.lnk H.length 0) u := by
        intro u hu
        have := lnk_rel (j := j.at H.length none (chV ps')) (w := w.setCells G O [y]) (N := NN c (j.at H.length none (chV ps')) (H1.set p (.var Tb (cs.set o (.lnk H.length 0))) ++ [.chn T t (l.take i ++ (mx ++ l.drop k))])) (i := 0) (show H.length < (H1.set p (Blk.var Tb (cs.set o (.lnk H.length 0))) ++ [Blk.chn T t (l.take i ++ (mx ++ l.drop k))]).length by simp; omega)
        rw [J.at_eq.2, chOf_chV] at this
        rw [hu]
        exact this
      have ho' : o < vs.size := by have := get_lt hoc; have := hab.1; simp at this; omega
      rcases hG with ⟨hi0, hg, rfl⟩ | ⟨m', hi, hm, rfl⟩
      · rw [hgb] at hg; cases hg
        rw [hhb] at hcur; cases hcur
        refine ⟨_, _, by rw [(J.at_ne (by omega)).1]; exact hgb, hat', ?_⟩
        rw [Array.toList_setIfInBounds]
        refine (hab.imp fun _ _ => CRel.mov m).set (hcell ?_)
        rw [hy, ← hps', hi0]; simp
      · have hne : gb ≠ G := fun e => hgbps (e ▸ List.mem_of_getElem? hm)
        refine ⟨gb, vs, by rw [(J.at_ne (by omega)).1]; exact hgb, (hfar gb hne).trans hhb, ?_⟩
        obtain ⟨u0, hu0, hr0⟩ := hab.get hoc
        have he := hr0.2.2 _ _ _ hc
        rw [hps] at he
        have hset : vs.toList.set o u0 = vs.toList := by
          apply List.ext_getElem?
          intro p'
          rw [List.getElem?_set]
          by_cases e : o = p'
          · subst e; rw [if_pos rfl, if_pos (get_lt hu0)]; exact hu0.symm
          · rw [if_neg e]
        rw [← hset]
        exact (hab.imp fun _ _ => CRel.mov m).set (hcell (by rw [he, hlk (by omega)]))
    · refine ⟨B1, h4, Blk.same_refl hlv, .inl ⟨rfl, fun g hg => hfar g ?_⟩⟩
      rintro rfl
      rcases hG with ⟨_, hg', _⟩ | ⟨m', hi, hm, _⟩
      · exact h2 (hI.inj p b B1 _ g h4 hb hlv trivial hg hg')
      · exact h3 (hI.inj p q B1 _ g h4 hc hlv trivial hg (hatq (List.mem_of_getElem? hm)))
  · have hcv : chOf ((j.at H.length none (chV ps')).cv H.length) = ps' := by rw [J.at_eq.2, chOf_chV]
    refine ⟨hnr, hsz, ?_, ?_, fun p g x hp hx => ?_⟩
    · rw [hcv, ← hps']
      simp only [List.length_append, List.length_take, List.length_drop, hml, hpl]
    · rw [hcv, ← hps']
      refine List.nodup_append.2 ⟨hnd.sublist (List.take_sublist _ _), List.nodup_append.2 ⟨hmn, hnd.sublist (List.drop_sublist _ _), fun a ha b' hb' e => ?_⟩, fun a ha b' hb' e => ?_⟩
      · subst e; exact hmidps ha (List.mem_of_mem_drop hb')
      · subst e
        rcases List.mem_append.1 hb' with h | h
        · exact hmidps h (List.mem_of_mem_take ha)
        · obtain ⟨a1, ha1⟩ := List.getElem?_of_mem ha
          obtain ⟨a2, ha2⟩ := List.getElem?_of_mem h
          rw [List.getElem?_drop] at ha2
          have hlt := get_lt ha1
          rw [hti] at hlt
          rw [List.getElem?_take, if_pos hlt] at ha1
          have := nodup_get hnd ha1 ha2
          omega
    · rw [hcv] at hp ⊢
      by_cases hpi : p < i
      · have hp1 : ps[p]? = some g := by rw [← hps', List.getElem?_append_left (by omega), List.getElem?_take, if_pos hpi] at hp; exact hp
        have hx1 : l[p]? = some x := by rw [List.getElem?_append_left (by omega), List.getElem?_take, if_pos hpi] at hx; exact hx
        have h0 := hcells p g x hp1 hx1
        by_cases hpm : p + 1 = i
        · rcases hG with ⟨hi0, _⟩ | ⟨m', hi, hm, hOs⟩
          · omega
          · have : p = m' := by omega
            subst this
            rw [hp1] at hm; cases hm
            rw [h0] at hcur
            cases hcur
            rw [hat']
            have hln : (valT t x).length = t.sz := valT_len x hnr
            congr 2
            rw [hOs, hpm, show linkV ps' i = y by rw [hy]; have := hlk2 (p := 0); rwa [Nat.add_zero] at this]
            apply Array.ext'
            rw [Array.toList_setIfInBounds]
            show (valT t x ++ [linkV ps i]).set t.sz y = valT t x ++ [y]
            rw [List.set_append_right _ _ (by omega), hln, Nat.sub_self]
            rfl
        · rw [hfar g (hpsG hp1 (fun m' hi => by omega)), h0, hlk (by omega)]
      · by_cases hpm : p < i + mid.length
        · have hp1 : mid[p - i]? = some g := by
            rw [← hps', List.getElem?_append_right (by omega), hti, List.getElem?_append_left (by omega)] at hp; exact hp
          have hx1 : mx[p - i]? = some x := by
            rw [List.getElem?_append_right (by omega), htl, List.getElem?_append_left (by omega)] at hx; exact hx
          rw [hfar g (hmidG (List.mem_of_getElem? hp1)), hmc (p - i) g x hp1 hx1, ← hlk2, show i + (p - i + 1) = p + 1 by omega]
        · have hp1 : ps[k + (p - i - mid.length)]? = some g := by
            rw [← hps', List.getElem?_append_right (by omega), hti, List.getElem?_append_right (by omega), List.getElem?_drop] at hp; exact hp
          have hx1 : l[k + (p - i - mid.length)]? = some x := by
            rw [List.getElem?_append_right (by omega), htl, List.getElem?_append_right (by omega), List.getElem?_drop, ← hml] at hx; exact hx
          rw [hfar g (hpsG hp1 (fun m' hi => by omega)), hcells _ g x hp1 hx1]
          have e : linkV ps' (p + 1) = linkV ps (k + (p - i - mid.length) + 1) := by
            rw [show p + 1 = i + (p + 1 - i) by omega, hlk2, linkV_right (by omega), linkV_drop]
            congr 1
            omega
          rw [e]
end
end Go.Proofs.YtcdnofemnpafhaaM

/- Writes. Conditions: none. -/
namespace Go.Proofs.YtcdnofemnpafhaaM
set_option linter.unusedVariables false
set_option linter.unusedSimpArgs false
set_option linter.unnecessarySimpa false
set_option linter.unusedSectionVars false
open Go

theorem spliceL_get {α : Type} (l n : List α) (o p : Nat) (h : o + n.length ≤ l.length) : (spliceL l o n)[p]? = if p < o then l[p]? else if p < o + n.length then n[p - o]? else l[p]? := by
  unfold spliceL
  have h1 : (l.take o).length = o := by simp; omega
  by_cases hp : p < o
  · rw [if_pos hp, List.append_assoc, List.getElem?_append_left (by omega), List.getElem?_take, if_pos hp]
  · rw [if_neg hp, List.append_assoc, List.getElem?_append_right (by omega), h1]
    by_cases hq : p < o + n.length
    · rw [if_pos hq, List.getElem?_append_left (by omega)]
    · rw [if_neg hq, List.getElem?_append_right (by omega), List.getElem?_drop]
      congr 1
      omega
theorem spliceL_len {α : Type} (l n : List α) (o : Nat) (h : o + n.length ≤ l.length) : (spliceL l o n).length = l.length := by
  unfold spliceL; simp; omega

theorem setCells_far {g : Nat} : ∀ (vs : List Value) (o : Nat) {w : World} (k : Nat), k ≠ g → (w.setCells g o vs).heap[k]? = w.heap[k]?
  | [], _, _, _, _ => rfl
  | v :: r, o, w, k, hk => by
    rw [World.setCells, setCells_far r (o + 1) k hk]
    exact RowKit.Below.heap_setCell w ⟨g, o, none⟩ v k hk
theorem setCells_same (g : Nat) : ∀ (vs : List Value) (o : Nat) (w : World), (w.setCells g o vs).os = w.os ∧ (w.setCells g o vs).tape = w.tape ∧ (w.setCells g o vs).output = w.output ∧ (w.setCells g o vs).heap.size = w.heap.size
  | [], _, _ => ⟨rfl, rfl, rfl, rfl⟩
  | v :: r, o, w => by
    obtain ⟨h1, h2, h3, h4⟩ := setCells_same g r (o + 1) (w.setCell ⟨g, o, none⟩ v)
    rw [World.setCells]
    exact ⟨h1, h2, h3, by rw [h4]; simp [World.setCell]⟩
theorem setCell_at {w : World} {g : Nat} {T : TypeId} {cur : Array Value} {fz : Nat × Nat} (h : w.heap[g]? = some (.cells cur T fz)) (i : Nat) (u : Value) : (w.setCell ⟨g, i, none⟩ u).heap[g]? = some (.cells (cur.setIfInBounds i u) T fz) := by
  simp [World.setCell, Array.getElem?_modify, h]
theorem setCells_at {g : Nat} {T : TypeId} {fz : Nat × Nat} : ∀ (vs : List Value) (o : Nat) (w : World) (cur : Array Value), w.heap[g]? = some (.cells cur T fz) → o + vs.length ≤ cur.size →
    ∃ cur', (w.setCells g o vs).heap[g]? = some (.cells cur' T fz) ∧ cur'.size = cur.size ∧ cur'.toList = spliceL cur.toList o vs
  | [], o, w, cur, h, _ => ⟨cur, h, rfl, by simp [spliceL]⟩
  | v :: r, o, w, cur, h, hl => by
    have h2 := setCell_at h o v
    simp only [List.length_cons] at hl
    obtain ⟨cur', h3, h4, h5⟩ := setCells_at r (o + 1) (w.setCell ⟨g, o, none⟩ v) _ h2 (by simp; omega)
    refine ⟨cur', h3, by rw [h4]; simp, ?_⟩
    rw [h5]
    apply List.ext_getElem?
    intro p
    rw [spliceL_get _ _ _ _ (by simp; omega), spliceL_get _ _ _ _ (by simp; omega), Array.toList_setIfInBounds, List.getElem?_set]
    simp only [List.length_cons]
    by_cases h6 : p < o
    · rw [if_pos (by omega), if_neg (by omega), if_pos h6]
    · by_cases h7 : p = o
      · subst h7
        rw [if_pos (by omega), if_pos rfl, if_pos (by simp; omega), if_neg (by omega), if_pos (by omega), Nat.sub_self]
        rfl
      · rw [if_neg (by omega), if_neg h6]
        by_cases h8 : p < o + 1 + r.length
        · rw [if_pos h8, if_pos (by omega)]
          have : p - o = (p - (o + 1)) + 1 := by omega
          rw [this, List.getElem?_cons_succ]
        · rw [if_neg h8, if_neg (by omega), if_neg (by omega)]

theorem setCells_cls {g : Nat} {T : TypeId} (vs : List Value) (o : Nat) (w : World) (cur : Array Value) (h : Cls w g cur T) (hl : o + vs.length ≤ cur.size) :
    ∃ cur', Cls (w.setCells g o vs) g cur' T ∧ cur'.size = cur.size ∧ cur'.toList = spliceL cur.toList o vs := by
  obtain ⟨T', fz, h, k, k2⟩ := h
  obtain ⟨cur', h1, h2, h3⟩ := setCells_at vs o w cur h hl
  exact ⟨cur', ⟨T', fz, h1, by rw [h2]; exact k, k2⟩, h2, h3⟩

section
variable {P : Program} {c : Cx} {j : J} {H : List Blk} {w : World}

theorem run_storeVar_any {T : TypeId} {g o : Nat} {Y : Value} {cur : Array Value} {T' : TypeId} (hh : Cls w g cur T') (hle : o + Y.cells.size ≤ cur.size)
    (hi : infoSz P T = some Y.cells.size) (h1 : ∀ u ∈ Y.cells.toList, u.oneCell' = true) : (storeVar T ⟨g, o, none⟩ Y).run P w = .ok () (w.setCells g o Y.cells.toList) := by
  have := run_storeCells_cells (P := P) g o Y.cells.toList 0 w (fun q hq => by rw [hh.cell]; simp at hq ⊢; omega)
    (fun q hq => hh.free (by simp at hq; omega)) h1
  obtain ⟨i, hi, hs⟩ := infoSz_some hi
  rw [Nat.add_zero] at this
  simp [storeVar, sizeOf, typeInfo, hi, hs, this]

theorem one_of_all2 {N : Nat → Prop} {cs : List Cell} {vs : List Value} (h : All2 (CRel j H w N) cs vs) : ∀ u ∈ vs, u.oneCell' = true := by
  intro u hu
  obtain ⟨i, hi⟩ := List.getElem?_of_mem hu
  have hl : i < cs.length := by rw [h.1]; exact get_lt hi
  exact (h.2 i _ u (List.getElem?_eq_getElem hl) hi).1

theorem dec_keeps : ∀ (t : Ty) {H : List Blk} {cs : List Cell} {x : t.den} {r : List Cell} {H1 : List Blk}, dec t H cs = some (x, r, H1) → ∀ b : Nat, H1[b]? = H[b]? ∨ H1[b]? = some Blk.dead := by
  intro t
  induction t with
  | int k => intro H cs x r H1 hd b; cases cs with | nil => simp [dec] at hd | cons a cs => cases a <;> simp only [dec] at hd <;> (first | (cases hd; done) | skip); split at hd <;> (first | (cases hd; done) | skip); simp only [Option.some.injEq, Prod.mk.injEq] at hd; rw [hd.2.2]; exact .inl rfl
  | bool => intro H cs x r H1 hd b; cases cs with | nil => simp [dec] at hd | cons a cs => cases a <;> simp only [dec] at hd <;> (first | (cases hd; done) | skip); simp only [Option.some.injEq, Prod.mk.injEq] at hd; rw [hd.2.2]; exact .inl rfl
  | str => intro H cs x r H1 hd b; cases cs with | nil => simp [dec] at hd | cons a cs => cases a <;> simp only [dec] at hd <;> (first | (cases hd; done) | skip); simp only [Option.some.injEq, Prod.mk.injEq] at hd; rw [hd.2.2]; exact .inl rfl
  | unit => intro H cs x r H1 hd b; simp only [dec, Option.some.injEq, Prod.mk.injEq] at hd; rw [hd.2.2]; exact .inl rfl
  | pair p q ihp ihq =>
    intro H cs x r H1 hd b
    simp only [dec] at hd
    split at hd
    · rename_i y r1 H2 h1
      split at hd
      · rename_i z r2 H3 h2
        simp only [Option.some.injEq, Prod.mk.injEq] at hd
        obtain ⟨_, _, rfl⟩ := hd
        rcases ihq h2 b with e | e
        · rw [e]; exact ihp h1 b
        · exact .inr e
      · cases hd
    · cases hd
  | ro t iht =>
    intro H cs x r H1 hd b
    cases cs with
    | nil => simp [dec] at hd
    | cons a cs =>
      cases a <;> simp only [dec] at hd <;> (first | (cases hd; done) | skip)
      case ro t' l =>
        split at hd
        · simp only [Option.some.injEq, Prod.mk.injEq] at hd; rw [hd.2.2]; exact .inl rfl
        · cases hd
      case nils => simp only [Option.some.injEq, Prod.mk.injEq] at hd; rw [hd.2.2]; exact .inl rfl
      case full q =>
        split at hd
        · rename_i T t' l hq
          split at hd
          · simp only [Option.some.injEq, Prod.mk.injEq] at hd
            rw [← hd.2.2, List.getElem?_set]
            by_cases e : q = b
            · subst e; rw [if_pos rfl, if_pos (get_lt hq)]; exact .inr rfl
            · rw [if_neg e]; exact .inl rfl
          · cases hd
        · cases hd

theorem decAll_sound (hI : Inv P c j H w) {t : Ty} {cs : List Cell} {vs : List Value} {x : t.den} {H1 : List Blk} (hd : decAll t H cs = some (x, H1)) (ha : All2 (CRel j H w (NN c j H)) cs vs) :
    Inv P c j H1 w ∧ Mov j H w (NN c j H) j H1 w (NN c j H1) ∧ RoC w (NN c j H1) t x vs ∧ ∀ b : Nat, H1[b]? = H[b]? ∨ H1[b]? = some Blk.dead := by
  unfold decAll at hd
  split at hd
  · rename_i y H' h
    simp only [Option.some.injEq, Prod.mk.injEq] at hd
    obtain ⟨rfl, rfl⟩ := hd
    obtain ⟨v1, v2, rfl, hI1, m, hr, hn⟩ := dec_sound t hI h ha
    obtain rfl := hn.nil_left
    rw [List.append_nil]
    exact ⟨hI1, m, hr, dec_keeps t h⟩
  · cases hd

theorem holeStore_sound (hI : Inv P c j H w) {T : TypeId} {b o q i : Nat} {v : List Cell} {X Y : Value} {i0 k0 : Nat} {H1 : List Blk} (h : holeStore H b o q i v = some (i0, k0, H1)) (hik0 : i0 ≤ k0)
    (h0 : i = 0 → ∀ T cs, H[b]? = some (.var T cs) → o < cs.length ∧ ∃ g, j.blk b = some g ∧ X = .pointer (some ⟨g, o, none⟩))
    (h1 : ∀ k, i = k + 1 → ∀ T t l, H[q]? = some (.chn T t l) → ∃ g, (chOf (j.cv q))[k]? = some g ∧ X = .pointer (some ⟨g, t.sz, none⟩))
    (hv : All2 (CRel j H w (NN c j H)) v Y.cells.toList) (hi : infoSz P T = some v.length) :
    ∃ ad w' j', X = .pointer (some ad) ∧ (storeVar T ad Y).run P w = .ok () w' ∧ Inv P c j' H1 w' ∧ Mov j H w (NN c j H) j' H1 w' (NN c j' H1) := by
  unfold holeStore at h
  split at h
  · rename_i Tb cs T0 t l hb hc
    split at h
    · rename_i c0 k0 hoc
      split at h
      · rename_i hck
        obtain ⟨rfl, rfl⟩ := hck
        have hGX : ∃ G O, X = .pointer (some ⟨G, O, none⟩) ∧ ((i = 0 ∧ j.blk b = some G ∧ O = o) ∨ ∃ m, i = m + 1 ∧ (chOf (j.cv c0))[m]? = some G ∧ O = t.sz) := by
          cases i with
          | zero =>
            obtain ⟨_, g, hg, rfl⟩ := h0 rfl _ _ hb
            exact ⟨g, o, rfl, .inl ⟨rfl, hg, rfl⟩⟩
          | succ k =>
            obtain ⟨g, hg, rfl⟩ := h1 k rfl _ _ _ hc
            exact ⟨g, t.sz, rfl, .inr ⟨k, rfl, hg, rfl⟩⟩
        obtain ⟨G, O, rfl, hG⟩ := hGX
        have hone := one_of_all2 hv
        have hqlt := get_lt hc
        split at h
        · rename_i c' k
          split at h
          · rename_i hcc
            subst hcc
            simp only [Option.some.injEq, Prod.mk.injEq] at h
            obtain ⟨rfl, rfl, rfl⟩ := h
            have hik := hik0
            obtain ⟨y, m, hY, hy, hm⟩ := hv.cons_left
            obtain rfl := hm.nil_left
            have he := hy.2.2 _ _ _ hc
            obtain ⟨⟨cur, T', hcur, hO⟩, r1, r2⟩ := relink (H1 := H.set c' .dead) (mid := []) (mx := []) (y := y) hI hb hc hoc (fun p => by
                rw [List.getElem?_set]
                by_cases e : c' = p
                · subst e; rw [if_pos rfl, if_pos hqlt]; exact .inr rfl
                · rw [if_neg e]; exact .inl rfl) (by simp) (by rw [List.getElem?_set_self hqlt]) rfl List.nodup_nil (fun g hg => by cases hg) (fun p g x hp => by simp at hp) hik hG (by rw [he, List.nil_append, linkV_drop, Nat.add_zero])
            refine ⟨_, _, _, rfl, ?_, r1, r2⟩
            have := run_storeVar_any (P := P) (T := T) (o := O) (Y := Y) (Cls.mk0 hcur) (by have := congrArg List.length hY; simp at this; omega) (by rw [hi]; have := congrArg List.length hY; simp at this; simp [this]) hone
            rw [this, hY]
          · cases h
        · rename_i nb pi po
          split at h
          · rename_i hp0
            obtain ⟨rfl, rfl, hnb⟩ := hp0
            split at h
            · rename_i T' ns hn
              split at h
              · rename_i hTT
                subst hTT
                split at h
                · rename_i c' k x y0 hd1 hd2
                  split at h
                  · rename_i hcc
                    subst hcc
                    simp only [Option.some.injEq, Prod.mk.injEq] at h
                    obtain ⟨rfl, rfl, rfl⟩ := h
                    have hik := hik0
                    obtain ⟨y, m, hY, hy, hm⟩ := hv.cons_left
                    obtain rfl := hm.nil_left
                    obtain ⟨_, gn, hgn, he⟩ := hy.2.2.2 _ hn
                    obtain ⟨gn', vs, hgn', hhn, han⟩ := hI.heap nb _ hn
                    rw [hgn] at hgn'; cases hgn'
                    have hnq : nb ≠ c' := by rintro rfl; rw [hn] at hc; cases hc
                    have hnlt := get_lt hn
                    obtain ⟨hnr, hsz, _⟩ := hI.heap c' _ hc
                    have hvs : vs = (valT t x ++ [linkV (chOf (j.cv c')) k]).toArray := by
                      apply Array.ext'
                      show vs.toList = _
                      have e1 := han.take t.sz
                      have e2 := han.drop t.sz
                      rw [hd1] at e2
                      obtain ⟨u, m2, hu, hu1, hm2⟩ := e2.cons_left
                      obtain rfl := hm2.nil_left
                      have hu2 := hu1.2.2 _ _ _ hc
                      unfold decAll at hd2
                      split at hd2
                      · rename_i x' H' hdec
                        simp only [Option.some.injEq, Prod.mk.injEq] at hd2
                        obtain ⟨rfl, rfl⟩ := hd2
                        obtain ⟨v1, v2, hv12, hv1, hv2⟩ := decAll_plain hnr hdec e1
                        obtain rfl := hv2.nil_left
                        rw [List.append_nil] at hv12
                        rw [← List.take_append_drop t.sz vs.toList, hv12, hv1, hu, hu2]
                      · cases hd2
                    obtain ⟨⟨cur, T', hcur, hO⟩, r1, r2⟩ := relink (H1 := (H.set c' .dead).set nb .dead) (mid := [gn]) (mx := [x]) (y := y) hI hb hc hoc (fun p => by
                        rw [List.getElem?_set]
                        by_cases e : nb = p
                        · subst e; rw [if_pos rfl, if_pos (by simpa using hnlt)]; exact .inr rfl
                        · rw [if_neg e, List.getElem?_set]
                          by_cases e : c' = p
                          · subst e; rw [if_pos rfl, if_pos hqlt]; exact .inr rfl
                          · rw [if_neg e]; exact .inl rfl) (by simp) (by rw [List.getElem?_set_ne hnq, List.getElem?_set_self hqlt]) rfl (by simp)
                      (fun g hg => by
                        simp at hg
                        subst hg
                        exact ⟨nb, _, hn, trivial, hgn, by rw [List.getElem?_set_self (by simpa using hnlt)], hnq, hnb⟩)
                      (fun p g x1 hp hx => by
                        cases p with
                        | succ p => simp at hp
                        | zero =>
                          simp at hp hx
                          subst hp; subst hx
                          rw [hhn, hvs]
                          congr 4
                          rw [linkV_right (by simp), linkV_drop]
                          simp) hik hG (by rw [he]; simp [linkV])
                    refine ⟨_, _, _, rfl, ?_, r1, r2⟩
                    have := run_storeVar_any (P := P) (T := T) (o := O) (Y := Y) (Cls.mk0 hcur) (by have := congrArg List.length hY; simp at this; omega) (by rw [hi]; have := congrArg List.length hY; simp at this; simp [this]) hone
                    rw [this, hY]
                  · cases h
                · cases h
              · cases h
            · cases h
          · cases h
        · cases h
      · cases h
    · cases h
  · cases h

/-! elements with rows of their own -/
theorem sp_eq {α : Type} {cells vs : List α} {i sz : Nat} (hv : vs.length = sz) (hf : i * sz + sz ≤ cells.length) : ((spliceL cells (i * sz) vs).drop (i * sz)).take sz = vs := by
  apply List.ext_getElem?
  intro q
  rw [List.getElem?_take]
  by_cases hq : q < sz
  · rw [if_pos hq, List.getElem?_drop, spliceL_get _ _ _ _ (by omega), if_neg (by omega), if_pos (by omega), show i * sz + q - i * sz = q by omega]
  · rw [if_neg hq, List.getElem?_eq_none (by omega)]
theorem sp_ne {α : Type} {cells vs : List α} {i k sz : Nat} (hv : vs.length = sz) (hf : i * sz + sz ≤ cells.length) (hk : k ≠ i) : ((spliceL cells (i * sz) vs).drop (k * sz)).take sz = (cells.drop (k * sz)).take sz := by
  apply List.ext_getElem?
  intro q
  rw [List.getElem?_take, List.getElem?_take]
  by_cases hq : q < sz
  · rw [if_pos hq, if_pos hq, List.getElem?_drop, List.getElem?_drop, spliceL_get _ _ _ _ (by omega)]
    by_cases hki : k < i
    · have : k * sz + sz ≤ i * sz := by rw [← Nat.succ_mul]; exact Nat.mul_le_mul_right _ (by omega)
      rw [if_pos (by omega)]
    · have : i * sz + sz ≤ k * sz := by rw [← Nat.succ_mul]; exact Nat.mul_le_mul_right _ (by omega)
      rw [if_neg (by omega), if_neg (by omega)]
  · rw [if_neg hq, if_neg hq]
theorem dec_plain1 {N : Nat → Prop} {a : Ty} {cs r : List Cell} {x : a.den} {H1 : List Blk} {vs : List Value} (hn : a.noRo = true) (hd : dec a [] cs = some (x, r, H1)) (h : All2 (CRel j H w N) cs vs) : ∃ v2, vs = valT a x ++ v2 ∧ All2 (CRel j H w N) r v2 := by
  obtain ⟨v1, v2, h1, h2, h3⟩ := decAll_plain hn hd h
  exact ⟨v2, by rw [h1, h2], h3⟩
theorem decN_rel {N : Nat → Prop} (p : Option Nat) : ∀ {t : Ty} {cs : List Cell} {x : t.den} {vs : List Value}, t.own = true → decN t cs = some x → All2 (CRel j H w N) cs vs → OwC w t x p vs
  | .ro u, cs, x, vs, _, hd, h => by
    rcases cs with _ | ⟨a, cs⟩
    · simp [decN] at hd
    · rcases cs with _ | ⟨a2, cs⟩
      · cases a <;> simp only [decN] at hd <;> (first | (cases hd; done) | skip)
        cases hd
        obtain ⟨V, m, rfl, hV, hm⟩ := h.cons_left
        obtain rfl := hm.nil_left
        obtain ⟨_, rfl⟩ := hV
        exact ⟨none, 0, rfl, Nat.le_refl _, fun h => absurd rfl h⟩
      · cases a <;> simp [decN] at hd
  | .pair a d, cs, x, vs, ho, hd, h => by
    simp only [Ty.own, Bool.and_eq_true] at ho
    simp only [decN] at hd
    split at hd
    · rename_i y r H1 hdec
      split at hd
      · rename_i z hz
        cases hd
        obtain ⟨v2, rfl, h2⟩ := dec_plain1 ho.1 hdec h
        exact ⟨v2, rfl, decN_rel p ho.2 hz h2⟩
      · cases hd
    · cases hd
  | .int _, _, _, _, ho, _, _ => by simp [Ty.own] at ho
  | .bool, _, _, _, ho, _, _ => by simp [Ty.own] at ho
  | .str, _, _, _, ho, _, _ => by simp [Ty.own] at ho
  | .unit, _, _, _, ho, _, _ => by simp [Ty.own] at ho
theorem ow_get {k : Nat} {p : Option Nat} : ∀ {t : Ty} {x : t.den} {c : List Value}, t.own = true → OwC w t x p c → k < (getL t x).length → t.inn.noRo = true ∧ 0 < t.inn.sz ∧ ∃ g arr U, p = some g ∧ Cls w g arr U ∧ (getL t x).length * t.inn.sz ≤ arr.size
  | .ro u, l, c, ho, h, hk => by
    simp only [Ty.own, Bool.and_eq_true, decide_eq_true_eq] at ho
    obtain ⟨A, cap, _, _, h3⟩ := h
    obtain ⟨g, arr, U, k1, _, k3, k4, _⟩ := h3 (by rintro rfl; exact (Nat.not_lt_zero _ hk).elim)
    exact ⟨ho.1, ho.2, g, arr, U, k1, k3, k4⟩
  | .pair a d, x, c, ho, h, hk => by
    simp only [Ty.own, Bool.and_eq_true] at ho
    obtain ⟨c2, _, h2⟩ := h
    exact ow_get (t := d) (x := x.2) ho.2 h2 hk
  | .int _, _, _, ho, _, _ => by simp [Ty.own] at ho
  | .bool, _, _, ho, _, _ => by simp [Ty.own] at ho
  | .str, _, _, ho, _, _ => by simp [Ty.own] at ho
  | .unit, _, _, ho, _, _ => by simp [Ty.own] at ho
theorem ow_set0 {w' : World} {k g : Nat} {arr arr' : Array Value} {U : TypeId} {u : Ty} {l : List u.den} {y : u.den} {c : List Value} (ho : u.noRo = true ∧ 0 < u.sz) (h : OwC w (.ro u) l (some g) c) (hk : k < l.length) (ha : Cls w g arr U) (ha' : Cls w' g arr' U) (hs : arr'.size = arr.size)
    (hsp : arr'.toList = spliceL arr.toList (k * u.sz) (valT u y)) : OwC w' (.ro u) (l.set k y) (some g) c := by
  obtain ⟨A, cap, h1, h2, h3⟩ := h
  refine ⟨A, cap, by rw [h1]; simp, by simpa using h2, fun _ => ?_⟩
  obtain ⟨g', arr2, U', k1, k2, k3, k4, k5⟩ := h3 (by rintro rfl; simp at hk)
  cases k1
  obtain rfl := k3.inj ha
  refine ⟨g, arr', U, rfl, k2, ha', by rw [hs]; simpa using k4, fun q z hz r v hv => ?_⟩
  have hvl : (valT u y).length = u.sz := valT_len y ho.1
  have hlq : q < l.length := by simpa using get_lt hz
  have hrz : r < u.sz := by rw [← valT_len z ho.1]; exact get_lt hv
  have hfit : k * u.sz + u.sz ≤ arr2.toList.length := by
    have : k * u.sz + u.sz ≤ l.length * u.sz := by rw [← Nat.succ_mul]; exact Nat.mul_le_mul_right _ (by omega)
    simp; omega
  rw [← Array.getElem?_toList, hsp, spliceL_get _ _ _ _ (by rw [hvl]; exact hfit), hvl]
  rcases get_set hz with ⟨e1, e2⟩ | ⟨e1, e2, _⟩
  · have hold := k5 q z e2 r v hv
    rw [← Array.getElem?_toList] at hold
    by_cases hqk : q < k
    · have : q * u.sz + u.sz ≤ k * u.sz := by rw [← Nat.succ_mul]; exact Nat.mul_le_mul_right _ (by omega)
      rw [if_pos (by omega)]; exact hold
    · have : k * u.sz + u.sz ≤ q * u.sz := by rw [← Nat.succ_mul]; exact Nat.mul_le_mul_right _ (by omega)
      rw [if_neg (by omega), if_neg (by omega)]; exact hold
  · subst e1; subst e2
    rw [if_neg (by omega), if_pos (by omega), show q * u.sz + r - q * u.sz = r by omega]
    exact hv
theorem ow_set {w' : World} {k g : Nat} {arr arr' : Array Value} {U : TypeId} : ∀ {t : Ty} {x : t.den} {y : t.inn.den} {c : List Value}, t.own = true → OwC w t x (some g) c → k < (getL t x).length → Cls w g arr U → Cls w' g arr' U → arr'.size = arr.size →
    arr'.toList = spliceL arr.toList (k * t.inn.sz) (valT t.inn y) → OwC w' t (setL t x ((getL t x).set k y)) (some g) c
  | .ro u, l, y, c, ho, h, hk, ha, ha', hs, hsp => by
    simp only [Ty.own, Bool.and_eq_true, decide_eq_true_eq] at ho
    exact ow_set0 ho h hk ha ha' hs hsp
  | .pair a d, x, y, c, ho, h, hk, ha, ha', hs, hsp => by
    simp only [Ty.own, Bool.and_eq_true] at ho
    obtain ⟨c2, h1, h2⟩ := h
    exact ⟨c2, h1, ow_set (t := d) (x := x.2) ho.2 h2 hk ha ha' hs hsp⟩
  | .int _, _, _, _, ho, _, _, _, _, _, _ => by simp [Ty.own] at ho
  | .bool, _, _, _, ho, _, _, _, _, _, _ => by simp [Ty.own] at ho
  | .str, _, _, _, ho, _, _, _, _, _, _ => by simp [Ty.own] at ho
  | .unit, _, _, _, ho, _, _, _, _, _, _ => by simp [Ty.own] at ho

theorem storeC_sound (hI : Inv P c j H w) {T : TypeId} {x : Cell} {v : List Cell} {X Y : Value} {i0 k0 : Nat} {H1 : List Blk} (h : storeC P H T x v = some (i0, k0, H1)) (hik0 : i0 ≤ k0) (hx : CRel j H w (NN c j H) x X) (hv : All2 (CRel j H w (NN c j H)) v Y.cells.toList) :
    ∃ ad w' j', X = .pointer (some ad) ∧ (storeVar T ad Y).run P w = .ok () w' ∧ Inv P c j' H1 w' ∧ Mov j H w (NN c j H) j' H1 w' (NN c j' H1) := by
  have hone := one_of_all2 hv
  have hlen : v.length = Y.cells.size := by rw [hv.1]; simp
  obtain ⟨_, hx⟩ := hx
  unfold storeC at h
  split at h
  · rename_i b i o n hn
    split at h
    · rename_i hvn
      obtain ⟨hlt, _, hx⟩ := hx
      split at h
      · rename_i T' cs hb
        split at h
        · rename_i hi0
          have plain : (if o + n ≤ cs.length then some (0, 0, H.set b (.var T' (spliceL cs o v))) else none) = some (i0, k0, H1) → ∃ ad w' j', X = .pointer (some ad) ∧ (storeVar T ad Y).run P w = .ok () w' ∧ Inv P c j' H1 w' ∧ Mov j H w (NN c j H) j' H1 w' (NN c j' H1) := by
            intro h
            split at h
            · rename_i hle
              cases h
              obtain ⟨_, g, hg, rfl⟩ := hx _ hb
              obtain ⟨g', vs, hg', hh, ha⟩ := hI.heap b _ hb
              rw [hg] at hg'; cases hg'
              have hsz : o + Y.cells.toList.length ≤ vs.size := by have := ha.1; simp at this ⊢; omega
              obtain ⟨cur', k1, k2, k3⟩ := setCells_at Y.cells.toList o w vs hh hsz
              obtain ⟨s1, s2, s3, s4⟩ := setCells_same g Y.cells.toList o w
              obtain ⟨r1, r2⟩ := hI.upd (B' := .var T' (spliceL cs o v)) (w' := w.setCells g o Y.cells.toList) hb trivial ⟨rfl, by rw [spliceL_len]; omega⟩ trivial hg s4 s1 s2 s3 (fun k hk => setCells_far _ _ k hk)
                (fun T1 cells hc => by obtain ⟨e1, rfl⟩ := Cls.turned hh k1 k2 hc; exact ⟨cur', e1, k2⟩)
                (fun m => ⟨g, cur', hg, k1, by rw [k3]; exact (ha.splice hv o).imp fun _ _ => CRel.mov m⟩)
              exact ⟨_, _, _, rfl, run_storeVar_any (Cls.mk0 hh) (by simpa using hsz) (by rw [hn, ← hlen, hvn]) hone, r1, r2⟩
            · cases h
          split at h
          · rename_i c1 k c2 k2 hcs
            split at h
            · rename_i hcc
              subst hi0
              exact holeStore_sound (i := 0) hI h hik0 (fun _ T1 cs1 hb1 => by obtain ⟨_, g, hg, he⟩ := hx _ hb1; rw [hb] at hb1; cases hb1; exact ⟨get_lt hcs, g, hg, he⟩) (fun k hk => by omega) hv (by rw [hn, hvn])
            · exact plain h
          · exact plain h
        · cases h
      · rename_i T' t l hb
        split at h
        · rename_i hle
          split at h
          · rename_i x' H2 hd
            split at h
            · rename_i T2 t2 l2 hb2
              cases h
              obtain ⟨hil, g, hg, rfl⟩ := hx _ hb
              rcases hI.heap b _ hb with ⟨hg', _⟩ | ⟨g', cap, cells, hg', hh, hsz, hz, hlc, hcm, hq⟩
              · rw [hg] at hg'; cases hg'
              · rw [hg] at hg'; cases hg'
                obtain ⟨vs0, hro, hcell⟩ := hq i _ (List.getElem?_eq_getElem hil)
                have he : l.getD i t.dflt = l[i] := by rw [List.getD_eq_getElem?_getD, List.getElem?_eq_getElem hil]; rfl
                rw [he] at hd
                have ha0 := enc_rel (j := j) (H := H) hro
                obtain ⟨hI2, m2, hro2, hk2⟩ := decAll_sound hI hd (ha0.splice hv o)
                have hb3 : H2[b]? = some (.row T' t l) := by
                  rcases hk2 b with e | e
                  · rw [e]; exact hb
                  · rw [e] at hb2; cases hb2
                have hvs0 : vs0.length = t.sz := hro.len
                have hmul : i * t.sz + t.sz ≤ cap * t.sz := by rw [← Nat.succ_mul]; exact Nat.mul_le_mul_right _ (by omega)
                have hfit : i * t.sz + o + Y.cells.toList.length ≤ cells.size := by rw [hsz]; simp; omega
                obtain ⟨cur', k1, k2, k3⟩ := setCells_cls Y.cells.toList (i * t.sz + o) w cells hh hfit
                obtain ⟨s1, s2, s3, s4⟩ := setCells_same g Y.cells.toList (i * t.sz + o) w
                obtain ⟨r1, r2⟩ := hI2.upd (B' := .row T' t (l.set i x')) (w' := w.setCells g (i * t.sz + o) Y.cells.toList) hb3 trivial ⟨rfl, rfl, by simp⟩ trivial hg s4 s1 s2 s3 (fun k hk => setCells_far _ _ k hk)
                  (fun T1 cells1 hc => by
                    obtain ⟨T2, fz, h8, h9⟩ := hh
                    obtain ⟨cur2, m1, m2, m3⟩ := setCells_at Y.cells.toList (i * t.sz + o) w cells h8 hfit
                    obtain ⟨e1, rfl⟩ := Cls.turned h8 m1 m2 hc
                    exact ⟨cur2, e1, m2⟩)
                  (fun m => .inr ⟨g, cap, cur', hg, k1, by rw [k2, hsz], hz, by simpa using hlc, hcm, fun p y hy => by
                    rcases get_set hy with ⟨e1, e2⟩ | ⟨e1, e2, _⟩
                    · obtain ⟨c1, d1, d2⟩ := hq p y e2
                      refine ⟨c1, RoC.mov m.ro m.size (RoC.mov m2.ro m2.size d1), fun q u hu => ?_⟩
                      have hqs : q < t.sz := by rw [← d1.len]; exact get_lt hu
                      rw [← Array.getElem?_toList, k3, spliceL_get _ _ _ _ (by simpa using hfit)]
                      have hd := d2 q u hu
                      rw [← Array.getElem?_toList] at hd
                      by_cases hpi : p < i
                      · have : p * t.sz + t.sz ≤ i * t.sz := by rw [← Nat.succ_mul]; exact Nat.mul_le_mul_right _ (by omega)
                        rw [if_pos (by omega)]; exact hd
                      · have : i * t.sz + t.sz ≤ p * t.sz := by rw [← Nat.succ_mul]; exact Nat.mul_le_mul_right _ (by omega)
                        have hY : Y.cells.toList.length = n := by rw [← hvn, hv.1]
                        rw [if_neg (by omega), if_neg (by omega)]; exact hd
                    · subst e1; subst e2
                      refine ⟨_, RoC.mov m.ro m.size hro2, fun q u hu => ?_⟩
                      have hqs : q < t.sz := by rw [← hro2.len]; exact get_lt hu
                      have hY : Y.cells.toList.length = n := by rw [← hvn, hv.1]
                      rw [spliceL_get _ _ _ _ (by omega)] at hu
                      rw [← Array.getElem?_toList, k3, spliceL_get _ _ _ _ (by simpa using hfit)]
                      by_cases h1 : q < o
                      · rw [if_pos h1] at hu
                        rw [if_pos (by omega), Array.getElem?_toList]; exact hcell q u hu
                      · rw [if_neg h1] at hu
                        rw [if_neg (by omega)]
                        by_cases h2 : q < o + Y.cells.toList.length
                        · rw [if_pos h2] at hu
                          rw [if_pos (by omega), show p * t.sz + q - (p * t.sz + o) = q - o by omega]; exact hu
                        · rw [if_neg h2] at hu
                          rw [if_neg (by omega), Array.getElem?_toList]; exact hcell q u hu⟩)
                exact ⟨_, _, _, rfl, run_storeVar_any hh (by simpa using hfit) (by rw [hn, ← hlen, hvn]) hone, r1, m2.trans r2⟩
            · cases h
          · cases h
        · cases h
      · cases h
    · cases h
  · rename_i b o m i hn
    split at h
    · rename_i T' cs k x0 hb
      split at h
      · rename_i hle
        split at h
        · rename_i l hl
          cases h
          obtain ⟨hlt, hx⟩ := hx
          obtain ⟨him, g, hg, rfl⟩ := hx _ _ hb
          obtain ⟨g', vs, hg', hh, ha⟩ := hI.heap b _ hb
          rw [hg] at hg'; cases hg'
          obtain ⟨e1, e2⟩ := intsOf_rel hl ((ha.drop o).take m)
          have hlm : l.length = m := by rw [← e1]; simp; omega
          obtain ⟨V0, _, hY, hV0, hnil⟩ := hv.cons_left
          obtain rfl := hnil.nil_left
          obtain ⟨_, rfl⟩ := hV0
          have hsz : o + i + Y.cells.toList.length ≤ vs.size := by have := ha.1; rw [hY]; simp at this ⊢; omega
          obtain ⟨cur', k1, k2, k3⟩ := setCells_at Y.cells.toList (o + i) w vs hh hsz
          obtain ⟨s1, s2, s3, s4⟩ := setCells_same g Y.cells.toList (o + i) w
          have hnew : ((List.range m).map fun q => Cell.int k ((l.set i x0).getD q 0)).length = m := by simp
          obtain ⟨r1, r2⟩ := hI.upd (B' := .var T' (spliceL cs o ((List.range m).map fun q => Cell.int k ((l.set i x0).getD q 0)))) (w' := w.setCells g (o + i) Y.cells.toList) hb trivial ⟨rfl, by rw [spliceL_len]; rw [hnew]; omega⟩ trivial hg s4 s1 s2 s3 (fun k hk => setCells_far _ _ k hk)
            (fun T1 cells hc => by obtain ⟨e1, rfl⟩ := Cls.turned hh k1 k2 hc; exact ⟨cur', e1, k2⟩)
            (fun mm => ⟨g, cur', hg, k1, by
              rw [k3]
              refine ⟨by rw [spliceL_len _ _ _ (by rw [hnew]; omega), spliceL_len _ _ _ (by simpa using hsz)]; exact ha.1, fun p y V hy hV => ?_⟩
              rw [spliceL_get _ _ _ _ (by rw [hnew]; omega), hnew] at hy
              rw [spliceL_get _ _ _ _ (by simpa using hsz)] at hV
              rw [hY] at hV
              simp only [List.length_cons, List.length_nil] at hV
              by_cases h1 : p < o
              · rw [if_pos h1] at hy
                rw [if_pos (by omega)] at hV
                exact CRel.mov mm (ha.2 p y V hy hV)
              · rw [if_neg h1] at hy
                by_cases h2 : p < o + m
                · rw [if_pos h2, List.getElem?_map, List.getElem?_range (by omega), Option.map_some] at hy
                  simp only [Option.some.injEq] at hy
                  subst hy
                  by_cases h3 : p = o + i
                  · subst h3
                    rw [if_neg (by omega), if_pos (by omega), Nat.sub_self] at hV
                    simp at hV
                    subst hV
                    refine ⟨rfl, ?_⟩
                    rw [show o + i - o = i by omega, List.getD_eq_getElem?_getD, List.getElem?_set_self (by omega)]
                    rfl
                  · have hV' : vs.toList[p]? = some V := by
                      by_cases h4 : p < o + i
                      · rw [if_pos h4] at hV; exact hV
                      · rw [if_neg h4, if_neg (by omega)] at hV; exact hV
                    have hq := e2 (p - o) _ (List.getElem?_eq_getElem (by omega : p - o < l.length))
                    rw [List.getElem?_take, if_pos (by omega), List.getElem?_drop, show o + (p - o) = p by omega, hV'] at hq
                    cases hq
                    refine ⟨rfl, ?_⟩
                    rw [List.getD_eq_getElem?_getD, List.getElem?_set_ne (by omega), List.getElem?_eq_getElem (by omega : p - o < l.length)]
                    rfl
                · rw [if_neg h2] at hy
                  rw [if_neg (by omega), if_neg (by omega)] at hV
                  exact CRel.mov mm (ha.2 p y V hy hV)⟩)
          have : Y.cells.size = 1 := by have := congrArg List.length hY; simpa using this
          exact ⟨_, _, _, rfl, run_storeVar_any (Cls.mk0 hh) (by simpa using hsz) (by rw [hn, this]) hone, r1, r2⟩
        · cases h
      · cases h
    · cases h
  · rename_i b i o n hn
    split at h
    · rename_i hvn
      split at h
      · rename_i T' t l hb
        split at h
        · rename_i hle
          split at h
          · rename_i x y0 hd
            cases h
            obtain ⟨hlt, _, hx⟩ := hx
            obtain ⟨g, hg, rfl⟩ := hx _ _ _ hb
            obtain ⟨x0, hx0, hnr, hsz, hh⟩ := node_at hI hb hg
            have hgd : l.getD i t.dflt = x0 := by rw [List.getD_eq_getElem?_getD, hx0]; rfl
            rw [hgd] at hd
            have hY : Y.cells.toList.length = n := by rw [← hvn, hv.1]
            have hln : (valT t x0).length = t.sz := valT_len x0 hnr
            have hnew : valT t x = spliceL (valT t x0) o Y.cells.toList := by
              have e1 := (enc_rel (j := j) (H := H) (roc_val (w := w) (N := NN c j H) x0 hnr)).splice hv o
              unfold decAll at hd
              split at hd
              · rename_i x' H' hdec
                simp only [Option.some.injEq, Prod.mk.injEq] at hd
                obtain ⟨rfl, rfl⟩ := hd
                obtain ⟨v1, v2, hv12, hv1, hv2⟩ := decAll_plain hnr hdec e1
                obtain rfl := hv2.nil_left
                rw [List.append_nil] at hv12
                rw [← hv1, ← hv12]
              · cases hd
            have hfit : o + Y.cells.toList.length ≤ (valT t x0 ++ [linkV (chOf (j.cv b)) (i + 1)]).toArray.size := by simp [hln] at hY ⊢; omega
            obtain ⟨cur', k1, k2, k3⟩ := setCells_at Y.cells.toList o w _ hh hfit
            obtain ⟨s1, s2, s3, s4⟩ := setCells_same g Y.cells.toList o w
            obtain ⟨_, _, hpl, hnd, hcells⟩ := hI.heap b _ hb
            obtain ⟨r1, r2⟩ := hI.upd (B' := .chn T' t (l.set i x)) (w' := w.setCells g o Y.cells.toList) hb trivial ⟨rfl, rfl, by simp⟩ trivial (List.mem_of_getElem? hg) s4 s1 s2 s3 (fun k hk => setCells_far _ _ k hk)
              (fun T1 cells hc => by obtain ⟨e1, rfl⟩ := Cls.turned hh k1 k2 hc; exact ⟨cur', e1, k2⟩)
              (fun m => ⟨hnr, hsz, by simpa using hpl, hnd, fun p g' y hp hy => by
                by_cases e : p = i
                · subst e
                  rw [hg] at hp; cases hp
                  rw [List.getElem?_set_self (get_lt hx0)] at hy
                  cases hy
                  rw [k1]
                  congr 2
                  apply Array.ext'
                  rw [k3, hnew]
                  show spliceL (valT t x0 ++ [linkV (chOf (j.cv b)) (p + 1)]) o Y.cells.toList = spliceL (valT t x0) o Y.cells.toList ++ [linkV (chOf (j.cv b)) (p + 1)]
                  unfold spliceL
                  rw [List.take_append_of_le_length (by omega), List.drop_append_of_le_length (by omega), List.append_assoc, List.append_assoc, List.append_assoc]
                · rw [List.getElem?_set_ne (fun e' => e e'.symm)] at hy
                  rw [setCells_far _ _ g' (fun e' => e (nodup_get hnd hp (e' ▸ hg)))]
                  exact hcells p g' y hp hy⟩)
            exact ⟨_, _, _, rfl, run_storeVar_any (Cls.mk0 hh) hfit (by rw [hn, ← hlen, hvn]) hone, r1, r2⟩
          · cases h
        · cases h
      · cases h
    · cases h
  · rename_i b o q i hn
    obtain ⟨_, _, _, h0, h1⟩ := hx
    have hvl : v.length = 1 := by
      unfold holeStore at h
      split at h
      · split at h
        · split at h
          · split at h
            · rfl
            · rfl
            · cases h
          · cases h
        · cases h
      · cases h
    exact holeStore_sound hI h hik0 h0 h1 hv (by rw [hn, hvl])
  · rename_i b i o n hn
    split at h
    · rename_i T' t l hb
      split at h
      · rename_i hon
        obtain ⟨rfl, rfl, hvn⟩ := hon
        split at h
        · rename_i x hd
          simp only [Option.some.injEq, Prod.mk.injEq] at h
          obtain ⟨_, _, rfl⟩ := h
          obtain ⟨hlt, _, hx⟩ := hx
          obtain ⟨hil, g, hg, rfl⟩ := hx _ _ _ hb
          rcases hI.heap b _ hb with ⟨ho, hol, hinj, h4⟩
          rcases h4 with ⟨h4, _⟩ | ⟨g', cells, k1, k2, k3, k4, k5, k6, k7⟩
          · rw [hg] at h4; cases h4
          · rw [hg] at k1; cases k1
            have hY : Y.cells.toList.length = t.sz := by rw [← hvn, hv.1]
            have hmul : i * t.sz + t.sz ≤ owCap (j.cv b) * t.sz := by rw [← Nat.succ_mul]; exact Nat.mul_le_mul_right _ (by omega)
            have hfit : i * t.sz + Y.cells.toList.length ≤ cells.size := by rw [hY, k3]; exact hmul
            obtain ⟨cur', m1, m2, m3⟩ := setCells_at Y.cells.toList (i * t.sz) w _ k2 hfit
            obtain ⟨s1, s2, s3, s4⟩ := setCells_same g Y.cells.toList (i * t.sz) w
            obtain ⟨r1, r2⟩ := hI.upd (B' := .own T' t (l.set i x)) (w' := w.setCells g (i * t.sz) Y.cells.toList) hb trivial ⟨rfl, rfl, by simp⟩ trivial (.inl hg) s4 s1 s2 s3 (fun k hk => setCells_far _ _ k hk)
              (fun T1 cells1 hc => by obtain ⟨e1, rfl⟩ := Cls.turned k2 m1 m2 hc; exact ⟨cur', e1, m2⟩)
              (fun m => ⟨ho, by simpa using hol, hinj, .inr ⟨g, cur', hg, m1, by rw [m2, k3], by simpa using k4, k5, fun q p hp => ⟨(k6 q p hp).1, (k6 q p hp).2.imp fun _ h => h.imp fun _ h => Cls.of_eq (setCells_far _ _ p (k6 q p hp).1) h⟩, fun q y p hy hp => by
                rw [m3]
                rcases get_set hy with ⟨e1, e2⟩ | ⟨e1, e2, _⟩
                · rw [sp_ne hY (by rw [Array.length_toList, k3]; exact hmul) e1]
                  exact OwC.mov (fun g1 hg1 => setCells_far _ _ g1 (k6 q g1 (by rw [hp, hg1])).1) (k7 q y p e2 hp)
                · subst e1; subst e2
                  rw [sp_eq hY (by rw [Array.length_toList, k3]; exact hmul)]
                  exact OwC.mov (fun g1 hg1 => setCells_far _ _ g1 (k6 q g1 (by rw [hp, hg1])).1) (decN_rel p ho hd hv)⟩⟩)
            refine ⟨_, _, _, rfl, ?_, r1, r2⟩
            have := run_storeVar_any (P := P) (T := T) (o := i * t.sz) (Cls.mk0 k2) (by simpa using hfit) (by rw [hn, ← hlen, hvn]) hone
            simpa using this
        · cases h
      · cases h
    · cases h
  · rename_i b i k o n hn
    split at h
    · rename_i T' t l hb
      split at h
      · rename_i hon
        obtain ⟨rfl, rfl, hvn⟩ := hon
        split at h
        · rename_i y y0 hd
          simp only [Option.some.injEq, Prod.mk.injEq] at h
          obtain ⟨rfl, rfl, rfl⟩ := h
          obtain ⟨hlt, _, hx⟩ := hx
          obtain ⟨p, hp0, rfl⟩ := hx _ _ _ hb
          rcases hI.heap b _ hb with ⟨ho, hol, hinj, h4⟩
          have hil : i < l.length := by rw [← hol]; exact get_lt hp0
          have hgd : l.getD i t.dflt = l[i] := by rw [List.getD_eq_getElem?_getD, List.getElem?_eq_getElem hil]; rfl
          rw [hgd] at hik0 ⊢
          rcases h4 with ⟨_, rfl⟩ | ⟨g, cells, k1, k2, k3, k4, k5, k6, k7⟩
          · simp at hil
          · have hel := k7 i _ _ (List.getElem?_eq_getElem hil) hp0
            obtain ⟨hnr, hpos, p', arr, U, e1, hcl, hsz⟩ := ow_get ho hel hik0
            cases e1
            have hY : Y.cells.toList.length = t.inn.sz := by rw [← hvn, hv.1]
            have hmul : k * t.inn.sz + t.inn.sz ≤ (getL t l[i]).length * t.inn.sz := by rw [← Nat.succ_mul]; exact Nat.mul_le_mul_right _ hik0
            have hfit : k * t.inn.sz + Y.cells.toList.length ≤ arr.size := by rw [hY]; omega
            have hval : Y.cells.toList = valT t.inn y := by
              unfold decAll at hd
              split at hd
              · rename_i x' H' hdec
                simp only [Option.some.injEq, Prod.mk.injEq] at hd
                obtain ⟨rfl, rfl⟩ := hd
                obtain ⟨v1, v2, hv12, hv1, hv2⟩ := decAll_plain hnr hdec hv
                obtain rfl := hv2.nil_left
                rw [List.append_nil] at hv12
                rw [hv12, hv1]
              · cases hd
            obtain ⟨arr', n1, n2, n3⟩ := setCells_cls Y.cells.toList (k * t.inn.sz) w arr hcl hfit
            obtain ⟨s1, s2, s3, s4⟩ := setCells_same p Y.cells.toList (k * t.inn.sz) w
            have hpg := (k6 i p hp0).1
            obtain ⟨r1, r2⟩ := hI.upd (B' := .own T' t (l.set i (setL t l[i] ((getL t l[i]).set k y)))) (w' := w.setCells p (k * t.inn.sz) Y.cells.toList) hb trivial ⟨rfl, rfl, by simp⟩ trivial (.inr ⟨i, hp0⟩) s4 s1 s2 s3 (fun q hq => setCells_far _ _ q hq)
              (fun T1 cells1 hc => by
                obtain ⟨T2, fz, h8, h9⟩ := hcl
                obtain ⟨cur2, m1, m2, m3⟩ := setCells_at Y.cells.toList (k * t.inn.sz) w arr h8 hfit
                obtain ⟨e1, rfl⟩ := Cls.turned h8 m1 m2 hc
                exact ⟨cur2, e1, m2⟩)
              (fun m => ⟨ho, by simpa using hol, hinj, .inr ⟨g, cells, k1, (setCells_far _ _ g (Ne.symm hpg)).trans k2, k3, by simpa using k4, k5, fun q p1 hp1 => ⟨(k6 q p1 hp1).1, by
                by_cases e : p1 = p
                · subst e; exact ⟨_, _, n1⟩
                · exact (k6 q p1 hp1).2.imp fun _ h => h.imp fun _ h => Cls.of_eq (setCells_far _ _ p1 e) h⟩, fun q z p1 hz hp1 => by
                rcases get_set hz with ⟨e1, e2⟩ | ⟨e1, e2, _⟩
                · refine OwC.mov (fun g1 hg1 => setCells_far _ _ g1 fun e => e1 ?_) (k7 q z p1 e2 hp1)
                  exact hinj q i p (by rw [hp1, hg1, e]) hp0
                · subst e1; subst e2
                  rw [hp0] at hp1; cases hp1
                  exact ow_set ho hel hik0 hcl n1 n2 (by rw [n3, hval])⟩⟩)
            refine ⟨_, _, _, rfl, ?_, r1, r2⟩
            have := run_storeVar_any (P := P) (T := T) (o := k * t.inn.sz) hcl (by simpa using hfit) (by rw [hn, ← hlen, hvn]) hone
            simpa using this
        · cases h
      · cases h
    · cases h
  · cases h
end
end Go.Proofs.YtcdnofemnpafhaaM
