/- What Decode tells, and how it answers of written numbers. Conditions: as each theorem states them. -/
import Derived.Test.YtcdnofemnpafhaaXE
namespace Go.Proofs.YtcdnofemnpafhaaC
open Go Go.Proofs.YtcdnofemnpafhaaM Go.Proofs.YtcdnofemnpafhaaX Go.Proofs.YtcdnofemnpafhaaL
set_option linter.unusedVariables false
set_option linter.unusedSimpArgs false

abbrev RS := List Int × Int
/-- The next number. -/
def nx : RS → Int × RS
  | ([], e) => (0, ([], if e = 0 then 8 else e))
  | (x :: t, e) => if e = 0 then (x, (t, 0)) else (0, (x :: t, e))
def mn (most : Int) (st : RS) : Int × RS :=
  let a := nx st
  if a.1 ≤ most then a else (0, (a.2.1, if a.2.2 = 0 then 7 else a.2.2))
def secsD : Nat → RS → List Sec → List Sec × RS
  | 0, st, out => (out, st)
  | m + 1, st, out => secsD m (nx (nx (nx st).2).2).2 (out ++ [((nx st).1, (nx (nx st).2).1, (nx (nx (nx st).2).2).1)])
def taskD (st : RS) : Tk × RS :=
  let a := nx st
  let b := nx a.2
  let c := nx b.2
  let d := mn 4 c.2
  let s := secsD d.1.toNat d.2 []
  ((a.1, b.1, c.1, s.1), s.2)
def tasksD : Nat → RS → List Tk → List Tk × RS
  | 0, st, out => (out, st)
  | k + 1, st, out => tasksD k (taskD st).2 (out ++ [(taskD st).1])
def z0 : Sy := (0, 0, 0, 0, 0, 0, 0, 0, [])
def endE (st : RS) : Int := if st.1.length = 0 then st.2 else if st.2 = 0 then 8 else st.2
def decD (l : List Int) : Sy × Int :=
  let a0 := nx (l, 0)
  if a0.1 = 1 then
    let a1 := nx a0.2
    let a2 := nx a1.2
    let a3 := nx a2.2
    let a4 := nx a3.2
    let a5 := nx a4.2
    let a6 := nx a5.2
    let a7 := nx a6.2
    let a8 := nx a7.2
    let n := mn 24 a8.2
    let T := tasksD n.1.toNat n.2 []
    if endE T.2 = 0 then ((a1.1, a2.1, a3.1, a4.1, a5.1, a6.1, a7.1, a8.1, T.1), 0) else (z0, endE T.2)
  else (z0, 8)
def decB (x : ByteArray) : Sy × Int := if (ReadS x.data.toList).2 = 0 then decD (ReadS x.data.toList).1 else (z0, (ReadS x.data.toList).2)
def rs (y : Sy × Int) : ((Int × (Int × (Int × (Int × (Int × (Int × (Int × (Int × (Unit × Unit))))))))) × (Int × Unit)) × (List Tk × Unit) :=
  (((y.1.1, y.1.2.1, y.1.2.2.1, y.1.2.2.2.1, y.1.2.2.2.2.1, y.1.2.2.2.2.2.1, y.1.2.2.2.2.2.2.1, y.1.2.2.2.2.2.2.2.1, (), ()), y.2, ()), tksOf y.1, ())

theorem fault_eq (N : Nat) (e : Int) (c : List Int) (e0 : Int) : fault_30v1 N (((), e, ()), (c, e0, ()), ()) = some ((0, ()), (c, if e0 = 0 then e else e0, ()), ()) := by
  unfold fault_30v1
  dsimp only
  rw [byB_beq]
  split <;> rfl
theorem next_at (N : Nat) (st : RS) : next_28v1 N (((), ()), (st.1, st.2, ()), ()) = some (((nx st).1, ()), ((nx st).2.1, (nx st).2.2, ()), ()) := by
  obtain ⟨c, e⟩ := st
  unfold next_28v1
  dsimp only
  cases c with
  | nil =>
    rw [byB_eqt (show (([] : List Int).length : Int) = 0 from rfl), fault_eq, bnd]
    rfl
  | cons x t =>
    rw [byB_eqf (by rw [List.length_cons]; omega)]
    by_cases h : e = 0
    · subst h
      rw [byB_nef rfl, if_pos ⟨by omega, by rw [List.length_cons]; omega⟩, if_pos ⟨by omega, by rw [List.length_cons]; omega, by omega⟩, List.take_length]
      rfl
    · rw [byB_net h, fault_eq, bnd, if_neg h]
      simp [nx, h]
theorem many_at (N : Nat) (most : Int) (st : RS) : many_29v1 N (((), most, ()), (st.1, st.2, ()), ()) = some (((mn most st).1, ()), ((mn most st).2.1, (mn most st).2.2, ()), ()) := by
  unfold many_29v1
  dsimp only
  rw [next_at, bnd]
  dsimp only
  rw [byB_not, byB_dec]
  unfold mn
  dsimp only
  split
  · rfl
  · rw [fault_eq, bnd]
theorem mn_le (most : Int) (st : RS) (h : 0 ≤ most) : (mn most st).1 ≤ most := by
  unfold mn
  dsimp only
  split
  · assumption
  · exact h
theorem secsD_len : ∀ (m : Nat) (st : RS) (out : List Sec), (secsD m st out).1.length = out.length + m
  | 0, _, _ => rfl
  | m + 1, st, out => by
    rw [secsD, secsD_len m, List.length_append]
    show out.length + 1 + m = _
    omega

section
variable {N : Nat} {Q : ((Int × (Int × (Int × (Int × (Int × (Int × (Int × (Int × (Unit × Unit))))))))) × (Int × Unit)) × (List Tk × Unit) → Prop}
theorem secs_loop {again18 : _ → Option (((Int × (Int × (Int × (Int × (Int × (Int × (Int × (Int × (Unit × Unit))))))))) × (Int × Unit)) × (List Tk × Unit))} {t44 t45 t46 : Int} {m : Int} (hm : m ≤ 4) (hN : 10 < N) {v : Int × Int × Int × Int × Int × Int × Int × Int × List Tk × Unit} {f0 f1 f2 f3 f4 f5 f6 f7 c68 c69 c70 : Int} {l71 : List Tk} (hl : l71.length ≤ 24) (st : RS)
    (h : Ev (again18 (((), t44, (), (), (), t45, IntKind.wrap .i64 (t46 + 1), ()), v, ((secsD m.toNat st []).2.1, (secsD m.toNat st []).2.2, ()), (((), ()), ()), (f0, f1, f2, f3, f4, f5, f6, f7, (), ()), l71 ++ [(c68, c69, c70, (secsD m.toNat st []).1)], ())) Q) :
    Ev (loopN N (Decode_12_L21 N again18) (((), t44, (), (), (), (), t45, t46, m, 0, ()), v, (st.1, st.2, ()), (((), ()), ()), (f0, f1, f2, f3, f4, f5, f6, f7, (), ()), (c68, c69, c70, (), ()), l71, [], ())) Q := by
  obtain ⟨v0, v1, v2, v3, v4, v5, v6, v7, v8, vu⟩ := v
  refine Ev.loop (k := m.toNat) (fun k s => ∃ (i : Nat) (st' : RS) (out : List Sec), s = (((), t44, (), (), (), (), t45, t46, m, (i : Int), ()), (v0, v1, v2, v3, v4, v5, v6, v7, v8, vu), (st'.1, st'.2, ()), (((), ()), ()), (f0, f1, f2, f3, f4, f5, f6, f7, (), ()), (c68, c69, c70, (), ()), l71, out, ()) ∧ k = m.toNat - i ∧ i ≤ m.toNat ∧ out.length = i ∧ secsD (m.toNat - i) st' out = secsD m.toNat st []) ?_ ⟨0, st, [], rfl, rfl, by omega, rfl, rfl⟩ (by omega)
  rintro k s again ⟨i, st', out, rfl, hk, hi, ho, he⟩ ih
  unfold Decode_12_L21
  refine Ev.dec (fun h1 => ?_) fun h1 => ?_
  · rw [next_at, bnd]
    dsimp only
    rw [next_at N (nx st').2, bnd]
    dsimp only
    rw [next_at N (nx (nx st').2).2, bnd]
    dsimp only
    rw [if_pos (by omega)]
    have e1 : IntKind.wrap .i64 ((i : Int) + 1) = ((i + 1 : Nat) : Int) := by rw [w64 (by omega) (by omega)]; omega
    rw [e1]
    refine ih (m.toNat - (i + 1)) _ (by omega) ⟨i + 1, (nx (nx (nx st').2).2).2, _, rfl, rfl, by omega, by rw [List.length_append, ho]; rfl, ?_⟩
    rw [← he, show m.toNat - i = (m.toNat - (i + 1)) + 1 by omega, secsD]
  · have hz : m.toNat - i = 0 := by omega
    rw [hz] at he
    rw [← he] at h
    rw [if_pos (by omega)]
    exact h
theorem tasks_loop {n : Int} (hn : n ≤ 24) (hN : 100 < N) {v : Int × Int × Int × Int × Int × Int × Int × Int × List Tk × Unit} {t16 f0 f1 f2 f3 f4 f5 f6 f7 : Int} (st : RS)
    (h0 : endE (tasksD n.toNat st []).2 = 0 → Q (rs ((f0, f1, f2, f3, f4, f5, f6, f7, (tasksD n.toNat st []).1), 0))) (hne : endE (tasksD n.toNat st []).2 ≠ 0 → Q (rs (z0, endE (tasksD n.toNat st []).2))) :
    Ev (loopN N (Decode_12_L18 N) (((), t16, (), (), (), n, 0, ()), v, (st.1, st.2, ()), (((), ()), ()), (f0, f1, f2, f3, f4, f5, f6, f7, (), ()), [], ())) Q := by
  obtain ⟨v0, v1, v2, v3, v4, v5, v6, v7, v8, vu⟩ := v
  refine Ev.loop (k := n.toNat) (fun k s => ∃ (i : Nat) (st' : RS) (out : List Tk), s = (((), t16, (), (), (), n, (i : Int), ()), (v0, v1, v2, v3, v4, v5, v6, v7, v8, vu), (st'.1, st'.2, ()), (((), ()), ()), (f0, f1, f2, f3, f4, f5, f6, f7, (), ()), out, ()) ∧ k = n.toNat - i ∧ i ≤ n.toNat ∧ out.length = i ∧ tasksD (n.toNat - i) st' out = tasksD n.toNat st []) ?_ ⟨0, st, [], rfl, rfl, by omega, rfl, rfl⟩ (by omega)
  rintro k s again ⟨i, st', out, rfl, hk, hi, ho, he⟩ ih
  unfold Decode_12_L18
  refine Ev.dec (fun h1 => ?_) fun h1 => ?_
  · rw [next_at, bnd]
    dsimp only
    rw [next_at N (nx st').2, bnd]
    dsimp only
    rw [next_at N (nx (nx st').2).2, bnd]
    dsimp only
    rw [many_at N 4 (nx (nx (nx st').2).2).2, bnd]
    dsimp only
    refine secs_loop (mn_le 4 _ (by decide)) (by omega) (by omega) (mn 4 (nx (nx (nx st').2).2).2).2 ?_
    have e1 : IntKind.wrap .i64 ((i : Int) + 1) = ((i + 1 : Nat) : Int) := by rw [w64 (by omega) (by omega)]; omega
    rw [e1]
    refine ih (n.toNat - (i + 1)) _ (by omega) ⟨i + 1, (taskD st').2, out ++ [(taskD st').1], rfl, rfl, by omega, by rw [List.length_append, ho]; rfl, ?_⟩
    rw [← he, show n.toNat - i = (n.toNat - (i + 1)) + 1 by omega, tasksD]
  · have hz : n.toNat - i = 0 := by omega
    rw [hz] at he
    rw [← he] at h0 hne
    simp only [tasksD] at h0 hne
    rw [byB_not]
    by_cases hc : st'.1.length = 0
    · have he0 : endE st' = st'.2 := by unfold endE; rw [if_pos hc]
      rw [byB_t (by omega)]
      refine Ev.bne (fun h2 => ?_) fun h2 => ?_
      · have := hne (by rw [he0]; exact h2)
        rw [he0] at this
        exact Ev.mk this
      · exact Ev.mk (h0 (by rw [he0]; exact h2))
    · rw [byB_f (by omega), fault_eq, bnd]
      have he0 : endE st' = if st'.2 = 0 then 8 else st'.2 := by unfold endE; rw [if_neg hc]
      rw [← he0]
      dsimp only
      refine Ev.bne (fun h2 => ?_) fun h2 => ?_
      · exact Ev.mk (hne h2)
      · exact Ev.mk (h0 h2)
end
/-- What a text is read as. -/
def decS (b : ByteArray) : Sy × Int := if (openD b).2 = 0 then decB (openD b).1 else (z0, (openD b).2)
/-- What Decode tells. -/
theorem decode_at {N : Nat} {b : ByteArray} (hb : b.size < 140737488355328) (hN : b.size + 200000 < N) : Ev (Decode_12 N ((b, ()), ())) fun y => y = rs (decS b) := by
  unfold Decode_12
  dsimp only
  refine Ev.bind (open_at hb (by omega)) ?_
  rintro y rfl
  have hsz := openD_size b
  unfold decS
  generalize openD b = x at hsz ⊢
  obtain ⟨x, e⟩ := x
  dsimp only at hsz ⊢
  refine Ev.bne (fun h0 => ?_) fun h0 => ?_
  · rw [if_neg h0]
    exact Ev.mk rfl
  · rw [if_pos h0]
    refine Ev.bind (read_at (s := x) (by omega) (by omega)) ?_
    rintro y rfl
    dsimp only
    have fin : ∀ q, q = rs (decB x) → (fun y => y = rs (decB x)) q := fun q hq => hq
    refine Ev.bne (fun h => Ev.mk (fin _ ?_)) fun h => ?_
    · unfold decB
      rw [if_neg h]
      rfl
    · have hd : decB x = decD (ReadS x.data.toList).1 := by unfold decB; rw [if_pos h]
      rw [hd] at fin ⊢
      generalize (ReadS x.data.toList).1 = l at fin ⊢
      rw [next_at N (l, 0), bnd]
      dsimp only
      refine Ev.bne (fun h1 => Ev.mk (fin _ ?_)) fun h1 => ?_
      · unfold decD
        dsimp only
        rw [if_neg h1]
        rfl
      · generalize hA : nx (l, 0) = a0 at h1
        have h1' : a0.1 = 1 := h1
        rw [next_at N a0.2, bnd]
        dsimp only
        rw [next_at N (nx a0.2).2, bnd]
        dsimp only
        rw [next_at N (nx (nx a0.2).2).2, bnd]
        dsimp only
        rw [next_at N (nx (nx (nx a0.2).2).2).2, bnd]
        dsimp only
        rw [next_at N (nx (nx (nx (nx a0.2).2).2).2).2, bnd]
        dsimp only
        rw [next_at N (nx (nx (nx (nx (nx a0.2).2).2).2).2).2, bnd]
        dsimp only
        rw [next_at N (nx (nx (nx (nx (nx (nx a0.2).2).2).2).2).2).2, bnd]
        dsimp only
        rw [next_at N (nx (nx (nx (nx (nx (nx (nx a0.2).2).2).2).2).2).2).2, bnd]
        dsimp only
        rw [many_at N 24 (nx (nx (nx (nx (nx (nx (nx (nx a0.2).2).2).2).2).2).2).2).2, bnd]
        dsimp only
        refine tasks_loop (mn_le 24 _ (by decide)) (by omega) _ (fun h2 => fin _ ?_) (fun h2 => fin _ ?_)
        · unfold decD
          dsimp only
          rw [hA, if_pos h1', if_pos h2]
        · unfold decD
          dsimp only
          rw [hA, if_pos h1', if_neg h2]
end Go.Proofs.YtcdnofemnpafhaaC
