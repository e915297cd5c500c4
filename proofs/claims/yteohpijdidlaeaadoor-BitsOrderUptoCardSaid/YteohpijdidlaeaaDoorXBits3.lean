/- Sets as the laws make them; equal words. Conditions: none. -/
import Derived.Test.YteohpijdidlaeaaDoorXBits2
namespace Go.Proofs.YteohpijdidlaeaaDoorL
open Go Go.Proofs.YteohpijdidlaeaaDoorM Go.Proofs.YteohpijdidlaeaaDoorX
set_option linter.unusedVariables false
theorem words_of (y : Int × Int × Int × Int) (g : (Lit.int .u64 y.1).wf = true ∧ ((Lit.int .u64 y.2.1).wf = true ∧ ((Lit.int .u64 y.2.2.1).wf = true ∧ (Lit.int .u64 y.2.2.2).wf = true))) :
    ∃ s, OK s ∧ (y.1, y.2.1, y.2.2.1, y.2.2.2, ()) = tw s := by
  obtain ⟨a, b, c, d⟩ := y
  obtain ⟨ga, gb, gc, gd⟩ := g
  have ha := wfu64 ga; have hb := wfu64 gb; have hc := wfu64 gc; have hd := wfu64 gd
  dsimp only at ha hb hc hd
  refine ⟨fun k => if k = 0 then a.toNat else if k = 1 then b.toNat else if k = 2 then c.toNat else d.toNat, fun k => ?_, ?_⟩
  · dsimp only
    split
    · omega
    · split
      · omega
      · split <;> omega
  · have e1 : ((a.toNat : Nat) : Int) = a := by omega
    have e2 : ((b.toNat : Nat) : Int) = b := by omega
    have e3 : ((c.toNat : Nat) : Int) = c := by omega
    have e4 : ((d.toNat : Nat) : Int) = d := by omega
    show (a, b, c, d, ()) = ((a.toNat : Int), (b.toNat : Int), (c.toNat : Int), (d.toNat : Int), ())
    rw [e1, e2, e3, e4]
/-- The comparison of words, as it is printed. -/
theorem eq_tw {s t : Nat → Nat} (h : tw s = tw t) : (((s 0 : Int) == (t 0 : Int)) && (((s 1 : Int) == (t 1 : Int)) && (((s 2 : Int) == (t 2 : Int)) && (((s 3 : Int) == (t 3 : Int)) && true)))) = true := by
  unfold tw at h
  simp only [Prod.mk.injEq, and_true] at h
  obtain ⟨h0, h1, h2, h3⟩ := h
  rw [h0, h1, h2, h3]
  simp
theorem eq_tw' {s t : Nat → Nat} (h : tw s = tw t) : ((((s 0 : Int) == (t 0 : Int)) && (((s 1 : Int) == (t 1 : Int)) && (((s 2 : Int) == (t 2 : Int)) && (((s 3 : Int) == (t 3 : Int)) && true)))) && true) = true := by
  rw [eq_tw h]; rfl
theorem eq_zero : ((((zeroW 0 : Int) == 0) && (((zeroW 1 : Int) == 0) && (((zeroW 2 : Int) == 0) && (((zeroW 3 : Int) == 0) && true)))) && true) = true := rfl
end Go.Proofs.YteohpijdidlaeaaDoorL
