/- The pure statement of PackBack: what is written is read as it was, what was read is written as it stood, a sealed text is opened. Conditions: none beyond the given bounds. -/
import Derived.Test.YtecefkenfpbfkaaPAx7
import Derived.Test.YtecefkenfpbfkaaXBack
import Derived.Test.YtecefkenfpbfkaaXRefRead
namespace Go.Proofs.Ytecefkenfpbfkaa.Pure
open Go.RowKit Go.Proofs.Ytecefkenfpbfkaa.PA Go.Proofs.YtecefkenfpbfkaaW.PrintWords Go.Proofs.YtecefkenfpbfkaaW.PrintLast Go.Proofs.YtecefkenfpbfkaaW.PrintMore Go.Proofs.YtecefkenfpbfkaaX

theorem pb_j1 {s : ByteArray} (hs : s.size ≤ 140737488351232) {k : Nat} (hk : 1 ≤ k) : tourbillonlaw06_PackBack.j1 k s true = some true := by
  obtain ⟨k, rfl⟩ : ∃ k', k = k' + 1 := ⟨k - 1, by omega⟩
  rw [tourbillonlaw06_PackBack.j1, Seal_at (by omega), Option.bind_some]
  unfold SealS
  by_cases c : 100000 < s.size
  · rw [if_pos c, if_neg (by decide), if_pos rfl]
    simp
    omega
  · obtain ⟨h1, h2⟩ := Open_seal (s := s) (by omega)
    rw [if_neg c, if_pos rfl]
    dsimp only
    rw [Open_at (by omega), Option.bind_some, h1, if_pos rfl, if_pos rfl, if_pos rfl, h2, w64 (by omega) (by omega)]
    simp
theorem wf_ok {l : List Int} (h : okL l) : ∀ x ∈ l, (Lit.int .i64 x).wf = true := fun x hx => by
  have := h x hx
  exact wf64_mk (by omega) (by omega)
theorem WriteS_ok {l : List Int} (h : okL l) (hl : l.length ≤ 2000) : WriteS l = (strOfNums (l.flatMap (fun x => encI x.toNat)), 0) := by
  unfold WriteS
  rw [if_neg (by omega), wS_ok l [] h, List.nil_append]
theorem pb_j0 {s : ByteArray} (hs : s.size ≤ 140737488351232) {k : Nat} (hk : 24010 ≤ k) : tourbillonlaw06_PackBack.j0 k s true = some true := by
  obtain ⟨k, rfl⟩ : ∃ k', k = k' + 1 := ⟨k - 1, by omega⟩
  rw [tourbillonlaw06_PackBack.j0, Read_at (by omega), Option.bind_some]
  by_cases c : (ReadS s.data.toList).2 = 0
  · rw [if_pos c]
    obtain ⟨t, e1, e2, e3, e4⟩ := readS_dec (s.data.toList.length + 1) s.data.toList [] (ReadS s.data.toList).1 (by omega) (by simp) (by rw [← c]; rfl)
    rw [List.nil_append] at e1
    rw [e1] at e4 ⊢
    rw [Write_at (wf_ok e3) (by omega), Option.bind_some, WriteS_ok e3 e4, if_pos (by rw [toList_data, toList_data, encL_bytes, ← e2]), if_pos rfl]
    exact pb_j1 hs (by omega)
  · rw [if_neg c]
    exact pb_j1 hs (by omega)
theorem enc_size : ∀ (l : List Int), okL l → (encL l).length ≤ 10 * l.length
  | [], _ => by simp [encL]
  | x :: t, h => by
    have hx := h x List.mem_cons_self
    have h1 := encI_len (n := x.toNat) (by omega)
    have h2 := enc_size t (fun y hy => h y (List.mem_cons_of_mem _ hy))
    have h3 : (encI x.toNat).length = (encB x.toNat).length := by unfold encI encB; simp
    rw [encL, List.flatMap_cons, ← encL, List.length_append, List.length_cons]
    omega
theorem PackBack : tourbillonlaw06_PackBack.Pure := by
  intro l s _ _ hw hs
  refine ⟨30000, ?_⟩
  unfold tourbillonlaw06_PackBack.f
  rw [ex_at (by omega), Option.bind_some, Write_at hw (by omega), Option.bind_some]
  by_cases hl : l.length ≤ 2000
  · by_cases h : okL l
    · have hb := encL_bytes l
      have hz := enc_size l h
      rw [WriteS_ok h hl, if_pos rfl]
      dsimp only
      rw [Read_at (by rw [size_list, hb]; omega), Option.bind_some, hb]
      have e : ReadS (encL l) = (l, 0) := readS_enc l _ [] h (by simp; omega) (by omega)
      rw [e, numbers_same (by omega) (by omega), Option.bind_some, if_pos rfl, if_pos rfl]
      exact pb_j0 hs (by omega)
    · have e : WriteS l = (⟨#[]⟩, 1) := by
        unfold WriteS
        rw [if_neg (by omega), wS_bad l [] h]
      rw [e, if_neg (by decide)]
      exact pb_j0 hs (by omega)
  · have e : WriteS l = (⟨#[]⟩, 7) := by
      unfold WriteS
      rw [if_pos (by omega)]
    rw [e, if_neg (by decide)]
    exact pb_j0 hs (by omega)
end Go.Proofs.Ytecefkenfpbfkaa.Pure
