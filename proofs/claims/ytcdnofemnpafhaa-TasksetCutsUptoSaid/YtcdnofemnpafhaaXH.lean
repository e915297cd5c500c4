/- What Decode makes of a text, once more. Conditions: as each theorem states them. -/
import Derived.Test.YtcdnofemnpafhaaXG
namespace Go.Proofs.YtcdnofemnpafhaaC
open Go Go.Proofs.YtcdnofemnpafhaaM Go.Proofs.YtcdnofemnpafhaaX Go.Proofs.YtcdnofemnpafhaaL
set_option linter.unusedVariables false
set_option linter.unusedSimpArgs false
theorem decD_err {l : List Int} (h : (decD l).2 ≠ 0) : (decD l).1 = z0 := by
  unfold decD at h ⊢
  dsimp only at h ⊢
  split
  · rename_i h1
    rw [if_pos h1] at h
    split
    · rename_i h2
      rw [if_pos h2] at h
      exact absurd rfl h
    · rfl
  · rfl
theorem decB_err {x : ByteArray} (h : (decB x).2 ≠ 0) : (decB x).1 = z0 := by
  unfold decB at h ⊢
  split
  · rename_i h1
    rw [if_pos h1] at h
    exact decD_err h
  · rfl
/-- What was read is written. -/
theorem decB_inv {x : ByteArray} (h : (decB x).2 = 0) : goodS (decB x).1 ∧ okL (nums (decB x).1) ∧ x = bytesL (nums (decB x).1) := by
  unfold decB at h ⊢
  by_cases h1 : (ReadS x.data.toList).2 = 0
  · rw [if_pos h1] at h ⊢
    obtain ⟨t, e1, e2, e3, e4⟩ := readS_dec (x.data.toList.length + 1) x.data.toList [] (ReadS x.data.toList).1 (by omega) (by simp) (by
      show ReadS x.data.toList = _
      rw [← h1])
    rw [List.nil_append] at e1
    rw [e1] at h ⊢
    obtain ⟨h2, h3⟩ := dec_inv h fun y hy => (e3 y hy).1
    rw [← h2]
    exact ⟨h3, e3, ext_list (by rw [bytesL_list]; exact e2)⟩
  · rw [if_neg h1] at h
    exact absurd h h1
theorem read_bytesL {l : List Int} (h : okL l) (hl : l.length ≤ 2000) : ReadS (bytesL l).data.toList = (l, 0) := by
  rw [bytesL_list]
  unfold ReadS
  rw [readS_enc l _ [] h (by simp; omega) (by omega)]
  rfl
theorem decB_bytesL {l : List Int} (h : okL l) (hl : l.length ≤ 2000) : decB (bytesL l) = decD l := by
  unfold decB
  rw [read_bytesL h hl]
  rfl
theorem bytesL_size {l : List Int} (h : okL l) (hl : l.length ≤ 2000) : (bytesL l).size ≤ 20000 := by
  have := encL_le l h
  rw [size_len, bytesL_list]
  omega
/-- A sealed row of numbers. -/
theorem decode_sealed {N : Nat} (hN : 30000 < N) {l : List Int} (h : okL l) (hl : l.length ≤ 2000) : Ev (Decode_12v1 N ((sealB (bytesL l), ()), ())) fun y => y = rs (decD l) := by
  have hsz := bytesL_size h hl
  have hs2 := sealB_size (bytesL l)
  refine Ev.mono (decode_at (N := N) (b := sealB (bytesL l)) (by omega) (by omega)) ?_
  rintro y (⟨e, _, _, hx⟩ | ⟨x, hx, he, rfl⟩)
  · exact absurd ⟨bytesL l, by omega, rfl⟩ hx
  · rw [← sealB_inj he, decB_bytesL h hl]
theorem okL_wf {l : List Int} (h : okL l) : ∀ x ∈ l, (Lit.int .i64 x).wf = true := fun x hx => wf64_mk (by have := h x hx; omega) (by have := h x hx; omega)
end Go.Proofs.YtcdnofemnpafhaaC
