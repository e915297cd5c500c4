/- How arguments are read: from the reading of the data ('DataW.trod') to the data of M. Conditions: none. -/
import Derived.Test.YtcdnofemnpafhaaM6
import Derived.Test.YtcdnofemnpafhaaRows
import Derived.ChangeArms
import Derived.OpenShut
import Derived.DataReads
import Derived.SizedLaws
import Derived.WideShapes
namespace Go.Proofs.YtcdnofemnpafhaaM
open Go Go.RowKit Go.WideShapes Go.Proofs.Ytcdnofemnpafhaa.Rows

structure Rdr (P : Program) (t : TypeId) (d : Ty) (G : d.den → Prop) (B : d.den → Nat) : Prop where
  sz : P.cellsOf t = d.sz
  rd : ∀ {H : Type} {enc : TypeId × Value → H} {w : World} {spare : Nat → Bool} {held : Bool} {fuel : Nat} {cs : List Value} {x : DataW H × List MemPlace},
    DataW.trod enc P w 0 spare held fuel t cs = some x → (∀ n ∈ x.1.weights P t, n ≤ reachBytes) → ∃ y, RoC w (fun _ => False) d y cs ∧ G y ∧ B y ≤ uptoBulk x.1

theorem Rdr.int {P : Program} {t : TypeId} {k : IntKind} (hu : P.underlying t = some (.int k)) (hc : P.cellsOf t = 1) : Rdr P t (.int k) (fun n => (Lit.int k n).wf = true) (fun _ => 1) where
  sz := hc
  rd := fun h _ => by
    obtain ⟨n, rfl, hx, hw⟩ := DataW.trod_int hu h
    exact ⟨n, rfl, hw, by rw [hx]; simp [uptoBulk]⟩

theorem Rdr.bool {P : Program} {t : TypeId} (hu : P.underlying t = some .bool) (hc : P.cellsOf t = 1) : Rdr P t .bool (fun _ => True) (fun _ => 1) where
  sz := hc
  rd := fun h _ => by
    obtain ⟨b, rfl, hx⟩ := DataW.trod_bool hu h
    exact ⟨b, rfl, trivial, by rw [hx]; simp [uptoBulk]⟩

theorem Rdr.string {P : Program} {t : TypeId} (hu : P.underlying t = some .string) (hc : P.cellsOf t = 1) : Rdr P t .str (fun s => s.size ≤ 140737488351232) (fun s => s.size + 1) where
  sz := hc
  rd := fun h hw => by
    obtain ⟨s, rfl, rfl, _⟩ := DataW.trod_string hu h
    refine ⟨s, rfl, ?_, by simp [uptoBulk]⟩
    have z := hw s.data.toList.length (by simp [DataW.weights])
    simpa [reachBytes] using z

theorem choose_list {α : Type} (n : Nat) (Q : Nat → α → Prop) (h : ∀ j, j < n → ∃ y, Q j y) : ∃ ys : List α, ys.length = n ∧ ∀ j y, ys[j]? = some y → Q j y := by
  induction n with
  | zero => exact ⟨[], rfl, fun j y hj => by simp at hj⟩
  | succ n ih =>
    obtain ⟨ys, hl, hq⟩ := ih (fun j hj => h j (by omega))
    obtain ⟨y, hy⟩ := h n (by omega)
    refine ⟨ys ++ [y], by simp [hl], fun j z hj => ?_⟩
    by_cases hjn : j < n
    · rw [List.getElem?_append_left (by omega)] at hj
      exact hq j z hj
    · rw [List.getElem?_append_right (by omega)] at hj
      have : j - ys.length = 0 := by
        have := (List.getElem?_eq_some_iff.1 hj).1
        simp at this
        omega
      rw [this] at hj
      simp at hj
      subst hj
      have : j = n := by omega
      subst this
      exact hy

theorem mem_weightsAll {H : Type} {P : Program} {e : TypeId} {n : Nat} : ∀ {l : List (DataW H)} {d : DataW H}, d ∈ l → n ∈ d.weights P e → n ∈ DataW.weightsAll P e l
  | a :: r, d, hd, hn => by
    simp only [DataW.weightsAll, List.mem_append]
    rcases List.mem_cons.1 hd with rfl | hd
    · exact .inl hn
    · exact .inr (mem_weightsAll hd hn)

theorem bulk_sum {α H : Type} {M : α → Nat} : ∀ {ys : List α} {l : List (DataW H)}, ys.length = l.length → (∀ (j : Nat) (y : α) (z : DataW H), ys[j]? = some y → l[j]? = some z → M y ≤ uptoBulk z) → (ys.map M).sum ≤ uptoBulkAll l
  | [], [], _, _ => by simp
  | y :: ys, z :: l, hl, h => by
    have h0 := h 0 y z rfl rfl
    have h1 := bulk_sum (M := M) (ys := ys) (l := l) (by simpa using hl) (fun j a b ha hb => h (j + 1) a b (by simpa using ha) (by simpa using hb))
    simp only [List.map_cons, List.sum_cons, uptoBulkAll]
    omega

theorem Rdr.slice {P : Program} {t e : TypeId} {d : Ty} {G : d.den → Prop} {M : d.den → Nat} {B : Nat} (hu : P.underlying t = some (.slice e)) (hc : P.cellsOf t = 1) (hB : P.bytesOf e = B) (hpos : 0 < d.sz) (he : Rdr P e d G M) :
    Rdr P t (.ro d) (fun xs => xs.length * B ≤ 140737488351232 ∧ ∀ x ∈ xs, G x) (fun xs => (xs.map M).sum + 1) where
  sz := hc
  rd := @fun H enc w spare held fuel cs x h hw => by
    rcases DataW.trod_slice hu h with ⟨rfl, rfl⟩ | ⟨a, len, cap, elems, rest, n, _, rfl, rfl, hb, hl, hm, hlen, hel, hsp, hns⟩
    · exact ⟨[], ⟨none, 0, rfl, Nat.le_refl _, fun i x hx => by simp at hx⟩, by simp, by simp [uptoBulk]⟩
    · have hlit : ∀ j, j < len → ∃ y, (∃ c, a.block < w.heap.size ∧ c.length = d.sz ∧ RoC w (fun _ => False) d y c ∧ ∀ i u, c[i]? = some u → w.cell? (a.add (j * d.sz + i)) = some u) ∧ G y ∧ ∀ z, elems[j]? = some z → M y ≤ uptoBulk z.1 := by
        intro j hj
        have hj' := hel j hj
        have he' : j < elems.length := by omega
        rw [List.getElem?_eq_getElem he', Option.bind_eq_some_iff] at hj'
        obtain ⟨c, hcs, hy⟩ := hj'
        obtain ⟨_, hcl, hcell⟩ := World.cells?_some hcs
        have hmem : elems[j].1 ∈ elems.map (·.1) := List.mem_map_of_mem (List.getElem_mem he')
        obtain ⟨y, hK, hG, hM⟩ := he.rd hy (fun n hn => hw n (by
          simp only [DataW.weights, hu, List.mem_cons, List.mem_append]
          exact .inr (.inl (mem_weightsAll hmem hn))))
        have hblk : a.block < w.heap.size := by
          have h0 := hcell 0 (by rw [he.sz]; exact hpos)
          have hc0 : 0 < c.length := by rw [hcl, he.sz]; exact hpos
          rw [List.getElem?_eq_getElem hc0] at h0
          have h1 := block_lt h0
          have e : ∀ (q : Addr) (n : Nat), (q.add n).block = q.block := fun q n => by unfold Addr.add; split <;> rfl
          rw [e, e] at h1
          exact h1
        refine ⟨y, ⟨c, hblk, hcl.trans he.sz, hK, fun i u hi => ?_⟩, hG, fun z hz => by rw [List.getElem?_eq_getElem he'] at hz; obtain rfl := Option.some.inj hz; exact hM⟩
        have hi' : i < P.cellsOf e := by
          have := (List.getElem?_eq_some_iff.1 hi).1
          omega
        have hci := hcell i hi'
        rw [he.sz] at hci
        rw [hi] at hci
        rw [← hci]
        congr 1
        unfold Addr.add
        by_cases h1 : j * d.sz = 0
        · simp [h1]
        · by_cases h2 : i = 0
          · simp [h2, h1]
          · rw [if_neg (by omega), if_neg h2, if_neg h1]
            simp [Nat.add_assoc]
      obtain ⟨ys, hyl, hyq⟩ := choose_list len _ hlit
      have hz := hw ((elems.length + rest.length) * P.bytesOf e) (by
        simp only [DataW.weights, hu, List.length_map, List.mem_cons]
        exact .inl trivial)
      rw [hB] at hz
      have hlen2 : ys.length * B ≤ 140737488351232 := by
        have : ys.length * B ≤ (elems.length + rest.length) * B := Nat.mul_le_mul_right _ (by omega)
        simp only [reachBytes] at hz
        omega
      refine ⟨ys, ⟨some a, cap, by rw [hyl], by omega, fun j p hp => ?_⟩, ⟨hlen2, fun x hx => ?_⟩, ?_⟩
      · obtain ⟨c, k1, _, k2, k3⟩ := (hyq j p hp).1
        exact ⟨a, c, rfl, id, k1, k2, k3⟩
      · obtain ⟨j, hj⟩ := List.getElem?_of_mem hx
        exact (hyq j x hj).2.1
      · simp only [uptoBulk]
        have := bulk_sum (M := M) (ys := ys) (l := elems.map (·.1)) (by simp [hyl, hlen]) (fun j y z hy hz => by
          rw [List.getElem?_map, Option.map_eq_some_iff] at hz
          obtain ⟨z', hz', rfl⟩ := hz
          exact (hyq j y hy).2.2 z' hz')
        omega

/-- The fields of a struct from a place on. -/
structure Rdrs (P : Program) (fs : List Field) (off : Nat) (d : Ty) (G : d.den → Prop) (B : d.den → Nat) : Prop where
  rd : ∀ {H : Type} {enc : TypeId × Value → H} {w : World} {spare : Nat → Bool} {held : Bool} {fuel : Nat} {cs : List Value} {xs : List (DataW H × List MemPlace)},
    xs.length = fs.length → (∀ (i : Nat) (f : Field), fs[i]? = some f → DataW.trod enc P w 0 spare held fuel f.type ((cs.drop f.offset).take (P.cellsOf f.type)) = xs[i]?) →
    cs.length = off + d.sz → (∀ n ∈ DataW.weightsEach P (fs.map (·.type)) (xs.map (·.1)), n ≤ reachBytes) → ∃ y, RoC w (fun _ => False) d y (cs.drop off) ∧ G y ∧ B y ≤ uptoBulkAll (xs.map (·.1))

theorem Rdrs.one {P : Program} {f : Field} {off : Nat} {t : TypeId} {d : Ty} {G : d.den → Prop} {B : d.den → Nat} (hf : f.type = t) (ho : f.offset = off) (h : Rdr P t d G B) : Rdrs P [f] off d G B where
  rd := @fun H enc w spare held fuel cs xs hl hx hc hw => by
    subst hf
    match xs, hl with
    | [x], _ =>
      have h0 := hx 0 f rfl
      rw [ho, h.sz, List.take_of_length_le (by simp; omega)] at h0
      obtain ⟨y, h1, h2, h3⟩ := h.rd h0 (fun n hn => hw n (by simpa [DataW.weightsEach] using hn))
      exact ⟨y, h1, h2, by simpa [uptoBulkAll] using h3⟩

theorem Rdrs.cons {P : Program} {f : Field} {fs : List Field} {off : Nat} {t : TypeId} {a b : Ty} {Ga : a.den → Prop} {Gb : b.den → Prop} {Ba : a.den → Nat} {Bb : b.den → Nat} (hf : f.type = t) (ho : f.offset = off) (h : Rdr P t a Ga Ba) (hs : Rdrs P fs (off + a.sz) b Gb Bb) :
    Rdrs P (f :: fs) off (.pair a b) (fun x => Ga x.1 ∧ Gb x.2) (fun x => Ba x.1 + Bb x.2) where
  rd := @fun H enc w spare held fuel cs xs hl hx hc hw => by
    subst hf
    match xs, hl with
    | x :: xs, hl =>
      have h0 := hx 0 f rfl
      rw [ho, h.sz] at h0
      obtain ⟨y, hK, hG, hM⟩ := h.rd h0 (fun n hn => hw n (by
        simp only [List.map_cons, DataW.weightsEach, List.mem_append]
        exact .inl hn))
      have hc' : cs.length = off + (a.sz + b.sz) := hc
      obtain ⟨z, hK2, hG2, hM2⟩ := hs.rd (xs := xs) (by simpa using hl) (fun i g hg => hx (i + 1) g (by simpa using hg)) (cs := cs) (by omega) (fun n hn => hw n (by
        simp only [List.map_cons, DataW.weightsEach, List.mem_append]
        exact .inr hn))
      refine ⟨(y, z), ⟨_, _, ?_, hK, hK2⟩, ⟨hG, hG2⟩, ?_⟩
      case refine_2 =>
        simp only [List.map_cons, uptoBulkAll]
        omega
      rw [← List.drop_drop, List.take_append_drop]

theorem Rdr.struct {P : Program} {t : TypeId} {fs : Array Field} {d : Ty} {G : d.den → Prop} {B : d.den → Nat} (hu : P.underlying t = some (.struct fs)) (hc : P.cellsOf t = d.sz) (h : Rdrs P fs.toList 0 d G B) :
    Rdr P t d G (fun x => B x + 1) where
  sz := hc
  rd := @fun H enc w spare held fuel cs x hx hw => by
    obtain ⟨xs, n, _, rfl, hl, hxl, hxs⟩ := DataW.trod_struct hu hx
    obtain ⟨y, hK, hG, hM⟩ := h.rd (xs := xs) (by simpa using hxl) (fun i f hf => hxs i f (by simpa using hf)) (cs := cs) (by omega) (fun n hn => hw n (by
      simp only [DataW.weights, hu]
      exact hn))
    refine ⟨y, by simpa using hK, hG, ?_⟩
    simp only [uptoBulk]
    omega

theorem Rdr.arg {P : Program} {t : TypeId} {d : Ty} {G : d.den → Prop} {B : d.den → Nat} (h : Rdr P t d G B) {w : World} {v : Value} {H : Type} {enc : TypeId × Value → H} {spare : Nat → Bool} {held : Bool} {x : DataW H} {ps : List MemPlace} (hd : DataW.Trod enc P w 0 spare held t v x ps) (hw : ∀ n ∈ x.weights P t, n ≤ reachBytes) :
    ∃ y, RoC w (fun _ => False) d y v.cells.toList ∧ G y ∧ B y ≤ uptoBulk x := by
  obtain ⟨fuel, hf⟩ := hd
  exact h.rd hf hw
theorem weights_of {H : Type} {P : Program} {ts : List TypeId} {ds : List (DataW H)} (h : (DataW.weightsEach P ts ds).all (· ≤ reachBytes) = true) {j : Nat} {t : TypeId} {d : DataW H} (ht : ts[j]? = some t) (hd : ds[j]? = some d) : ∀ n ∈ d.weights P t, n ≤ reachBytes :=
  fun n hn => by simpa using (List.all_eq_true.1 h) n (DataW.weights_mem_each ht hd n hn)

/-- Elements of an array from a place on. -/
structure RdrE (P : Program) (e : TypeId) (i n : Nat) (d : Ty) (G : d.den → Prop) (B : d.den → Nat) : Prop where
  rd : ∀ {H : Type} {enc : TypeId × Value → H} {w : World} {spare : Nat → Bool} {held : Bool} {fuel : Nat} {cs : List Value} {xs : List (DataW H × List MemPlace)},
    xs.length = n → (∀ (k : Nat), k < n → DataW.trod enc P w 0 spare held fuel e ((cs.drop ((i + k) * P.cellsOf e)).take (P.cellsOf e)) = xs[k]?) →
    cs.length = i * P.cellsOf e + d.sz → (∀ m ∈ DataW.weightsAll P e (xs.map (·.1)), m ≤ reachBytes) → ∃ y, RoC w (fun _ => False) d y (cs.drop (i * P.cellsOf e)) ∧ G y ∧ B y ≤ uptoBulkAll (xs.map (·.1))

theorem RdrE.one {P : Program} {e : TypeId} {i : Nat} {d : Ty} {G : d.den → Prop} {B : d.den → Nat} (h : Rdr P e d G B) : RdrE P e i 1 d G B where
  rd := @fun H enc w spare held fuel cs xs hl hx hc hw => by
    match xs, hl with
    | [x], _ =>
      have h0 := hx 0 (by omega)
      rw [Nat.add_zero, List.take_of_length_le (by rw [List.length_drop, hc, h.sz]; omega)] at h0
      obtain ⟨y, h1, h2, h3⟩ := h.rd h0 (fun n hn => hw n (by simpa [DataW.weightsAll] using hn))
      exact ⟨y, h1, h2, by simpa [uptoBulkAll] using h3⟩

theorem RdrE.cons {P : Program} {e : TypeId} {i n : Nat} {a b : Ty} {Ga : a.den → Prop} {Gb : b.den → Prop} {Ba : a.den → Nat} {Bb : b.den → Nat} (h : Rdr P e a Ga Ba) (hs : RdrE P e (i + 1) n b Gb Bb) :
    RdrE P e i (n + 1) (.pair a b) (fun x => Ga x.1 ∧ Gb x.2) (fun x => Ba x.1 + Bb x.2) where
  rd := @fun H enc w spare held fuel cs xs hl hx hc hw => by
    match xs, hl with
    | x :: xs, hl =>
      have h0 := hx 0 (by omega)
      rw [Nat.add_zero] at h0
      obtain ⟨y, hK, hG, hM⟩ := h.rd h0 (fun n hn => hw n (by
        simp only [List.map_cons, DataW.weightsAll, List.mem_append]
        exact .inl hn))
      have hc' : cs.length = i * P.cellsOf e + (a.sz + b.sz) := hc
      have e1 : (i + 1) * P.cellsOf e = i * P.cellsOf e + P.cellsOf e := Nat.succ_mul _ _
      have hsz := h.sz
      obtain ⟨z, hK2, hG2, hM2⟩ := hs.rd (xs := xs) (by simpa using hl) (fun k hk => by
        have := hx (k + 1) (by omega)
        rw [show i + (k + 1) = i + 1 + k by omega] at this
        simpa using this) (cs := cs) (by omega) (fun n hn => hw n (by
        simp only [List.map_cons, DataW.weightsAll, List.mem_append]
        exact .inr hn))
      refine ⟨(y, z), ⟨_, _, ?_, hK, hK2⟩, ⟨hG, hG2⟩, ?_⟩
      case refine_2 =>
        simp only [List.map_cons, uptoBulkAll]
        omega
      rw [e1, ← List.drop_drop, List.take_append_drop]

theorem Rdr.array {P : Program} {t e : TypeId} {n : Nat} {d : Ty} {G : d.den → Prop} {B : d.den → Nat} (hu : P.underlying t = some (.array n e)) (hc : P.cellsOf t = d.sz) (h : RdrE P e 0 n d G B) :
    Rdr P t d G (fun x => B x + 1) where
  sz := hc
  rd := @fun H enc w spare held fuel cs x hx hw => by
    obtain ⟨xs, m, _, rfl, hl, hxl, hxs⟩ := DataW.trod_array hu hx
    obtain ⟨y, hK, hG, hM⟩ := h.rd (xs := xs) hxl (fun k hk => by rw [Nat.zero_add]; exact hxs k hk) (cs := cs) (by omega) (fun n hn => hw n (by
      simp only [DataW.weights, hu]
      exact hn))
    refine ⟨y, by simpa using hK, hG, ?_⟩
    simp only [uptoBulk]
    omega

theorem enc_rel0 {j : J} {H : List Blk} {w : World} {N : Nat → Prop} : ∀ {t : Ty} {y : t.den} {cs : List Value}, RoC w N t y cs → All2 (CRel j H w N) (enc t y) cs
  | .int _, _, _, h => by cases h; exact All2.cons ⟨rfl, rfl⟩ All2.nil
  | .bool, _, _, h => by cases h; exact All2.cons ⟨rfl, rfl⟩ All2.nil
  | .str, _, _, h => by cases h; exact All2.cons ⟨rfl, rfl⟩ All2.nil
  | .unit, _, _, h => by cases h; exact All2.nil
  | .pair a b, _, _, h => by
    obtain ⟨c1, c2, rfl, h1, h2⟩ := h
    exact All2.append (enc_rel0 h1) (enc_rel0 h2)
  | .ro t, l, _, h => by
    have h' := h
    obtain ⟨A, cap, rfl, _⟩ := h
    exact All2.cons ⟨rfl, h'⟩ All2.nil

/-- An argument that is one cell. -/
theorem Rdr.arg_one {P : Program} {t : TypeId} {d : Ty} {G : d.den → Prop} {B : d.den → Nat} (h : Rdr P t d G B) {w : World} {v : Value} (hv : v.cells.toList = [v]) {H : Type} {enc : TypeId × Value → H} {spare : Nat → Bool} {held : Bool} {x : DataW H} {ps : List MemPlace} (hd : DataW.Trod enc P w 0 spare held t v x ps) (hw : ∀ n ∈ x.weights P t, n ≤ reachBytes) :
    ∃ y, (∀ c, Go.Proofs.YtcdnofemnpafhaaM.enc d y = [c] → ∀ j, V1Rel j [] w (fun _ => False) (.one c) v) ∧ G y ∧ B y ≤ uptoBulk x := by
  obtain ⟨y, h1, h2, h3⟩ := h.arg hd hw
  rw [hv] at h1
  refine ⟨y, fun c hc j => ?_, h2, h3⟩
  have := enc_rel0 (j := j) (H := []) h1
  rw [hc] at this
  exact .inr this.uncons.1
/-- An argument that is a struct or an array. -/
theorem Rdr.arg_agg {P : Program} {t : TypeId} {d : Ty} {G : d.den → Prop} {B : d.den → Nat} (h : Rdr P t d G B) {w : World} {v : Value} (hv : ∃ cs, v = .agg cs) {H : Type} {enc : TypeId × Value → H} {spare : Nat → Bool} {held : Bool} {x : DataW H} {ps : List MemPlace} (hd : DataW.Trod enc P w 0 spare held t v x ps) (hw : ∀ n ∈ x.weights P t, n ≤ reachBytes) :
    ∃ y, (∀ cl, Go.Proofs.YtcdnofemnpafhaaM.enc d y = cl → ∀ j, V1Rel j [] w (fun _ => False) (.agg cl) v) ∧ G y ∧ B y ≤ uptoBulk x := by
  obtain ⟨y, h1, h2, h3⟩ := h.arg hd hw
  obtain ⟨cs, rfl⟩ := hv
  refine ⟨y, fun cl hc j => ⟨cs, rfl, ?_⟩, h2, h3⟩
  subst hc
  exact enc_rel0 h1
theorem okWide_agg {P : Program} {W : World} {r : Reach} {b0 : Nat} {t : TypeId} {v : Value} (hu : (∃ fs, P.underlying t = some (.struct fs)) ∨ ∃ n e, P.underlying t = some (.array n e)) (h : Value.okWide P W r b0 t v) : ∃ cs, v = .agg cs := by
  rcases hu with ⟨fs, hu⟩ | ⟨n, e, hu⟩
  · obtain ⟨cs, h, _⟩ := okWide_struct hu h
    exact ⟨cs, h⟩
  · simp only [Value.okWide, hu] at h
    obtain ⟨cs, h1, h2, _⟩ := h
    exact ⟨cs, h1⟩
theorem one_int {P : Program} {W : World} {r : Reach} {b0 : Nat} {t : TypeId} {v : Value} {k : IntKind} (hu : P.underlying t = some (.int k)) (h : Value.okWide P W r b0 t v) : v.cells.toList = [v] := by
  obtain ⟨n, rfl⟩ := okWide_int hu h
  rfl
theorem one_bool {P : Program} {W : World} {r : Reach} {b0 : Nat} {t : TypeId} {v : Value} (hu : P.underlying t = some .bool) (h : Value.okWide P W r b0 t v) : v.cells.toList = [v] := by
  obtain ⟨n, rfl⟩ := okWide_bool hu h
  rfl
theorem one_string {P : Program} {W : World} {r : Reach} {b0 : Nat} {t : TypeId} {v : Value} (hu : P.underlying t = some .string) (h : Value.okWide P W r b0 t v) : v.cells.toList = [v] := by
  obtain ⟨n, rfl⟩ := okWide_string hu h
  rfl
theorem one_slice {P : Program} {W : World} {r : Reach} {b0 : Nat} {t e : TypeId} {v : Value} (hu : P.underlying t = some (.slice e)) (h : Value.okWide P W r b0 t v) : v.cells.toList = [v] := by
  obtain ⟨a, n, c, rfl⟩ := okWide_slice hu h
  rfl
/-- A result that is one bool. -/
theorem bool_rel0 {j : J} {H : List Blk} {w : World} {N : Nat → Prop} {b : Bool} {V : Value} (h : AVRel j H w N (.v (.one (.bool b))) V) : V = .bool b := by
  rcases h with h | h
  · cases h
  · exact h.2
end Go.Proofs.YtcdnofemnpafhaaM
