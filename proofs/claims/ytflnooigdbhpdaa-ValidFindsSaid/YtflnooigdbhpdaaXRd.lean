/- How structured arguments (structs, slices of structs, slices of slices) are read: from the reading of the data ('DataW.trod') to the printed words' kinds ('Kd'). Conditions: none. -/
import Derived.Test.YtflnooigdbhpdaaWWords
import Derived.Test.YtflnooigdbhpdaaRows
import Derived.ChangeArms
import Derived.OpenShut
import Derived.DataReads
import Derived.SizedLaws
import Derived.WideShapes
namespace Go.Proofs.YtflnooigdbhpdaaX
open Go.RowKit Go.Proofs.YtflnooigdbhpdaaW.PrintWords Go.WideShapes Go.Proofs.Ytflnooigdbhpdaa.Rows

/-- What is read as data of type t is a value of kind d, meets G, and is of bulk B at least. -/
structure Rdr (P : Program) (t : TypeId) {α : Type} (d : Kd α) (G : α → Prop) (B : α → Nat) : Prop where
  sz : P.cellsOf t = d.sz
  rd : ∀ {H : Type} {enc : TypeId × Value → H} {w : World} {spare : Nat → Bool} {held : Bool} {fuel : Nat} {cs : List Value} {x : DataW H × List MemPlace},
    DataW.trod enc P w 0 spare held fuel t cs = some x → (∀ n ∈ x.1.weights P t, n ≤ reachBytes) → ∃ y, d.K w y cs ∧ G y ∧ B y ≤ uptoBulk x.1

theorem Rdr.int {P : Program} {t : TypeId} {k : IntKind} (hu : P.underlying t = some (.int k)) (hc : P.cellsOf t = 1) : Rdr P t (Kd.int k) (fun n => (Lit.int k n).wf = true) (fun _ => 1) where
  sz := hc
  rd := fun h _ => by
    obtain ⟨n, rfl, hx, hw⟩ := DataW.trod_int hu h
    exact ⟨n, rfl, hw, by rw [hx]; simp [uptoBulk]⟩

theorem Rdr.bool {P : Program} {t : TypeId} (hu : P.underlying t = some .bool) (hc : P.cellsOf t = 1) : Rdr P t Kd.bool (fun _ => True) (fun _ => 1) where
  sz := hc
  rd := fun h _ => by
    obtain ⟨b, rfl, hx⟩ := DataW.trod_bool hu h
    exact ⟨b, rfl, trivial, by rw [hx]; simp [uptoBulk]⟩

theorem Rdr.string {P : Program} {t : TypeId} (hu : P.underlying t = some .string) (hc : P.cellsOf t = 1) : Rdr P t Kd.string (fun s => s.size ≤ 140737488351232) (fun s => s.size + 1) where
  sz := hc
  rd := fun h hw => by
    obtain ⟨s, rfl, rfl, _⟩ := DataW.trod_string hu h
    refine ⟨s, rfl, ?_, by simp [uptoBulk]⟩
    have z := hw s.data.toList.length (by simp [DataW.weights])
    simpa [reachBytes] using z

theorem choose_list {α : Type} (n : Nat) (Q : Nat → α → Prop) (h : ∀ j, j < n → ∃ y, Q j y) : ∃ ys : List α, ys.length = n ∧ ∀ j y, ys[j]? = some y → Q j y := by
  induction n with
  | zero => exact ⟨[], rfl, fun j y hj => by simp at hj⟩
  | succ n ih =>
    obtain ⟨ys, hl, hq⟩ := ih (fun j hj => h j (by omega))
    obtain ⟨y, hy⟩ := h n (by omega)
    refine ⟨ys ++ [y], by simp [hl], fun j z hj => ?_⟩
    by_cases hjn : j < n
    · rw [List.getElem?_append_left (by omega)] at hj
      exact hq j z hj
    · rw [List.getElem?_append_right (by omega)] at hj
      have : j - ys.length = 0 := by
        have := (List.getElem?_eq_some_iff.1 hj).1
        simp at this
        omega
      rw [this] at hj
      simp at hj
      subst hj
      have : j = n := by omega
      subst this
      exact hy

theorem mem_weightsAll {H : Type} {P : Program} {e : TypeId} {n : Nat} : ∀ {l : List (DataW H)} {d : DataW H}, d ∈ l → n ∈ d.weights P e → n ∈ DataW.weightsAll P e l
  | a :: r, d, hd, hn => by
    simp only [DataW.weightsAll, List.mem_append]
    rcases List.mem_cons.1 hd with rfl | hd
    · exact .inl hn
    · exact .inr (mem_weightsAll hd hn)

theorem bulk_sum {α H : Type} {M : α → Nat} : ∀ {ys : List α} {l : List (DataW H)}, ys.length = l.length → (∀ (j : Nat) (y : α) (z : DataW H), ys[j]? = some y → l[j]? = some z → M y ≤ uptoBulk z) → (ys.map M).sum ≤ uptoBulkAll l
  | [], [], _, _ => by simp
  | y :: ys, z :: l, hl, h => by
    have h0 := h 0 y z rfl rfl
    have h1 := bulk_sum (M := M) (ys := ys) (l := l) (by simpa using hl) (fun j a b ha hb => h (j + 1) a b (by simpa using ha) (by simpa using hb))
    simp only [List.map_cons, List.sum_cons, uptoBulkAll]
    omega

theorem Rdr.slice {P : Program} {t e : TypeId} {α : Type} {d : Kd α} {G : α → Prop} {M : α → Nat} {B : Nat} (hu : P.underlying t = some (.slice e)) (hc : P.cellsOf t = 1) (hB : P.bytesOf e = B) (he : Rdr P e d G M) :
    Rdr P t (Kd.slice e d) (fun xs => xs.length * B ≤ 140737488351232 ∧ ∀ x ∈ xs, G x) (fun xs => (xs.map M).sum + 1) where
  sz := hc
  rd := @fun H enc w spare held fuel cs x h hw => by
    rcases DataW.trod_slice hu h with ⟨rfl, rfl⟩ | ⟨a, len, cap, elems, rest, n, _, rfl, rfl, hb, hl, hm, hlen, hel, hsp, hns⟩
    · exact ⟨[], ⟨none, 0, rfl, Nat.le_refl _, rfl, by simp, fun h => by simp at h⟩, by simp, by simp [uptoBulk]⟩
    · have hlit : ∀ j, j < len → ∃ y, (∃ c, c.length = d.sz ∧ d.K w y c ∧ ∀ i u, c[i]? = some u → w.cell? (a.add (j * d.sz + i)) = some u) ∧ G y ∧ ∀ z, elems[j]? = some z → M y ≤ uptoBulk z.1 := by
        intro j hj
        have hj' := hel j hj
        have he' : j < elems.length := by omega
        rw [List.getElem?_eq_getElem he', Option.bind_eq_some_iff] at hj'
        obtain ⟨c, hcs, hy⟩ := hj'
        obtain ⟨_, hcl, hcell⟩ := World.cells?_some hcs
        have hmem : elems[j].1 ∈ elems.map (·.1) := List.mem_map_of_mem (List.getElem_mem he')
        obtain ⟨y, hK, hG, hM⟩ := he.rd hy (fun n hn => hw n (by
          simp only [DataW.weights, hu, List.mem_cons, List.mem_append]
          exact .inr (.inl (mem_weightsAll hmem hn))))
        refine ⟨y, ⟨c, hcl.trans he.sz, hK, fun i u hi => ?_⟩, hG, fun z hz => by rw [List.getElem?_eq_getElem he'] at hz; obtain rfl := Option.some.inj hz; exact hM⟩
        have hi' : i < P.cellsOf e := by
          have := (List.getElem?_eq_some_iff.1 hi).1
          omega
        have hci := hcell i hi'
        rw [he.sz] at hci
        rw [hi] at hci
        rw [← hci]
        congr 1
        unfold Addr.add
        by_cases h1 : j * d.sz = 0
        · simp [h1]
        · by_cases h2 : i = 0
          · simp [h2, h1]
          · rw [if_neg (by omega), if_neg h2, if_neg h1]
            simp [Nat.add_assoc]
      obtain ⟨ys, hyl, hyq⟩ := choose_list len _ hlit
      have hz := hw ((elems.length + rest.length) * P.bytesOf e) (by
        simp only [DataW.weights, hu, List.length_map, List.mem_cons]
        exact .inl trivial)
      rw [hB] at hz
      have hlen2 : ys.length * B ≤ 140737488351232 := by
        have : ys.length * B ≤ (elems.length + rest.length) * B := Nat.mul_le_mul_right _ (by omega)
        simp only [reachBytes] at hz
        omega
      refine ⟨ys, ⟨some a, cap, by rw [hyl], by omega, rfl, ?_, fun _ => ⟨a, rfl, fun j p hp => (hyq j p hp).1⟩⟩, ⟨hlen2, fun x hx => ?_⟩, ?_⟩
      · unfold maxLen at hm
        omega
      · obtain ⟨j, hj⟩ := List.getElem?_of_mem hx
        exact (hyq j x hj).2.1
      · simp only [uptoBulk]
        have := bulk_sum (M := M) (ys := ys) (l := elems.map (·.1)) (by simp [hyl, hlen]) (fun j y z hy hz => by
          rw [List.getElem?_map, Option.map_eq_some_iff] at hz
          obtain ⟨z', hz', rfl⟩ := hz
          exact (hyq j y hy).2.2 z' hz')
        omega

/-- The fields of a struct from a place on. -/
structure Rdrs (P : Program) (fs : List Field) (off : Nat) {α : Type} (d : Kd α) (G : α → Prop) (B : α → Nat) : Prop where
  rd : ∀ {H : Type} {enc : TypeId × Value → H} {w : World} {spare : Nat → Bool} {held : Bool} {fuel : Nat} {cs : List Value} {xs : List (DataW H × List MemPlace)},
    xs.length = fs.length → (∀ (i : Nat) (f : Field), fs[i]? = some f → DataW.trod enc P w 0 spare held fuel f.type ((cs.drop f.offset).take (P.cellsOf f.type)) = xs[i]?) →
    cs.length = off + d.sz → (∀ n ∈ DataW.weightsEach P (fs.map (·.type)) (xs.map (·.1)), n ≤ reachBytes) → ∃ y, d.K w y (cs.drop off) ∧ G y ∧ B y ≤ uptoBulkAll (xs.map (·.1))

theorem Rdrs.one {P : Program} {f : Field} {off : Nat} {t : TypeId} {α : Type} {d : Kd α} {G : α → Prop} {B : α → Nat} (hf : f.type = t) (ho : f.offset = off) (h : Rdr P t d G B) : Rdrs P [f] off d G B where
  rd := @fun H enc w spare held fuel cs xs hl hx hc hw => by
    subst hf
    match xs, hl with
    | [x], _ =>
      have h0 := hx 0 f rfl
      rw [ho, h.sz, List.take_of_length_le (by simp; omega)] at h0
      obtain ⟨y, h1, h2, h3⟩ := h.rd h0 (fun n hn => hw n (by simpa [DataW.weightsEach] using hn))
      exact ⟨y, h1, h2, by simpa [uptoBulkAll] using h3⟩

theorem Rdrs.cons {P : Program} {f : Field} {fs : List Field} {off : Nat} {t : TypeId} {α β : Type} {a : Kd α} {b : Kd β} {Ga : α → Prop} {Gb : β → Prop} {Ba : α → Nat} {Bb : β → Nat} (hf : f.type = t) (ho : f.offset = off) (h : Rdr P t a Ga Ba) (hs : Rdrs P fs (off + a.sz) b Gb Bb) :
    Rdrs P (f :: fs) off (Kd.pair a b) (fun x => Ga x.1 ∧ Gb x.2) (fun x => Ba x.1 + Bb x.2) where
  rd := @fun H enc w spare held fuel cs xs hl hx hc hw => by
    subst hf
    match xs, hl with
    | x :: xs, hl =>
      have h0 := hx 0 f rfl
      rw [ho, h.sz] at h0
      obtain ⟨y, hK, hG, hM⟩ := h.rd h0 (fun n hn => hw n (by
        simp only [List.map_cons, DataW.weightsEach, List.mem_append]
        exact .inl hn))
      have hc' : cs.length = off + (a.sz + b.sz) := hc
      obtain ⟨z, hK2, hG2, hM2⟩ := hs.rd (xs := xs) (by simpa using hl) (fun i g hg => hx (i + 1) g (by simpa using hg)) (cs := cs) (by omega) (fun n hn => hw n (by
        simp only [List.map_cons, DataW.weightsEach, List.mem_append]
        exact .inr hn))
      refine ⟨(y, z), ⟨_, _, ?_, hK, hK2⟩, ⟨hG, hG2⟩, ?_⟩
      case refine_2 =>
        simp only [List.map_cons, uptoBulkAll]
        omega
      rw [← List.drop_drop, List.take_append_drop]

theorem Rdr.struct {P : Program} {t : TypeId} {fs : Array Field} {α β : Type} {d : Kd α} {G : α → Prop} {B : α → Nat} (f : β → α) (g : α → β) (hfg : ∀ x, f (g x) = x) (hu : P.underlying t = some (.struct fs)) (hc : P.cellsOf t = d.sz) (h : Rdrs P fs.toList 0 d G B) :
    Rdr P t (Kd.iso d f) (fun x => G (f x)) (fun x => B (f x) + 1) where
  sz := hc
  rd := @fun H enc w spare held fuel cs x hx hw => by
    obtain ⟨xs, n, _, rfl, hl, hxl, hxs⟩ := DataW.trod_struct hu hx
    obtain ⟨y, hK, hG, hM⟩ := h.rd (xs := xs) (by simpa using hxl) (fun i f hf => hxs i f (by simpa using hf)) (cs := cs) (by omega) (fun n hn => hw n (by
      simp only [DataW.weights, hu]
      exact hn))
    refine ⟨g y, ?_, ?_, ?_⟩
    · show d.K w (f (g y)) cs
      rw [hfg]
      simpa using hK
    · show G (f (g y))
      rw [hfg]
      exact hG
    · rw [hfg]
      simp only [uptoBulk]
      omega

/-- An argument that is a struct by value. -/
theorem Rdr.arg_struct {P : Program} {t : TypeId} {fs : Array Field} {α : Type} {d : Kd α} {G : α → Prop} {B : α → Nat} (h : Rdr P t d G B) (hu : P.underlying t = some (.struct fs)) {w W : World} {r : Reach} {b0 : Nat} {v : Value} (hval : Value.okWide P W r b0 t v)
    {H : Type} {enc : TypeId × Value → H} {spare : Nat → Bool} {held : Bool} {x : DataW H} {ps : List MemPlace} (hd : DataW.Trod enc P w 0 spare held t v x ps) (hw : ∀ n ∈ x.weights P t, n ≤ reachBytes) :
    ∃ cs, v = .agg cs ∧ ∃ y, d.K w y cs.toList ∧ G y ∧ B y ≤ uptoBulk x := by
  obtain ⟨cs, rfl, _⟩ := okWide_struct hu hval
  obtain ⟨fuel, hf⟩ := hd
  exact ⟨cs, rfl, h.rd hf hw⟩

/-- An argument that is a slice. -/
theorem Rdr.arg_slice {P : Program} {t e : TypeId} {α : Type} {d : Kd α} {G : List α → Prop} {B : List α → Nat} (h : Rdr P t (Kd.slice e d) G B) (hu : P.underlying t = some (.slice e)) {w W : World} {r : Reach} {b0 : Nat} {v : Value} (hval : Value.okWide P W r b0 t v)
    {H : Type} {enc : TypeId × Value → H} {spare : Nat → Bool} {held : Bool} {x : DataW H} {ps : List MemPlace} (hd : DataW.Trod enc P w 0 spare held t v x ps) (hw : ∀ n ∈ x.weights P t, n ≤ reachBytes) :
    ∃ A c, ∃ xs : List α, v = .slice A xs.length c ∧ xs.length ≤ c ∧ d.C w A xs.length xs ∧ G xs ∧ B xs ≤ uptoBulk x := by
  obtain ⟨a, len, cap, rfl⟩ := okWide_slice hu hval
  obtain ⟨fuel, hf⟩ := hd
  obtain ⟨xs, ⟨A, c, he, hl, hC⟩, hG⟩ := h.rd hf hw
  have he' : [Value.slice a len cap] = [.slice A xs.length c] := he
  obtain ⟨h1⟩ := List.cons.inj he'
  exact ⟨A, c, xs, h1, hl, hC, hG⟩
theorem weights_of {H : Type} {P : Program} {ts : List TypeId} {ds : List (DataW H)} (h : (DataW.weightsEach P ts ds).all (· ≤ reachBytes) = true) {j : Nat} {t : TypeId} {d : DataW H} (ht : ts[j]? = some t) (hd : ds[j]? = some d) : ∀ n ∈ d.weights P t, n ≤ reachBytes :=
  fun n hn => by simpa using (List.all_eq_true.1 h) n (DataW.weights_mem_each ht hd n hn)
end Go.Proofs.YtflnooigdbhpdaaX
