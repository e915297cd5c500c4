import Derived.Test.YtflnooigdbhpdaaPAx7
import Derived.Test.YtflnooigdbhpdaaXValidRef
namespace Go.Proofs.Ytflnooigdbhpdaa.Pure
open Go.RowKit Go.Proofs.Ytflnooigdbhpdaa.PA Go.Proofs.YtflnooigdbhpdaaW.PrintWords Go.Proofs.YtflnooigdbhpdaaW.PrintLast

theorem ValidFinds : tourbillonlaw08_ValidFinds.Pure := by
  intro x0 _
  obtain ⟨K1, h1⟩ := check_eq x0.f0 x0.f1 x0.f2 x0.f3 x0.f4 x0.f5 x0.f6 x0.f7 x0.f8
  obtain ⟨K2, h2⟩ := ref_eq x0.f0 x0.f1 x0.f2 x0.f3 x0.f4 x0.f5 x0.f6 x0.f7 x0.f8
  obtain ⟨K3, h3⟩ := right_eq x0.f0 x0.f1 x0.f2 x0.f3 x0.f4 x0.f5 x0.f6 x0.f7 x0.f8
  have h1 := h1 (max K1 (max K2 K3)) (by omega)
  have h2 := h2 (max K1 (max K2 K3)) (by omega)
  have h3 := h3 (max K1 (max K2 K3)) (by omega)
  refine ⟨max K1 (max K2 K3), ?_⟩
  simp only at h1 h2 h3
  simp only [tourbillonlaw08_ValidFinds.f, tourbillonlaw08_examples.f, Option.bind_some, h1, h2, h3]
  cases found x0.f0 x0.f1 x0.f2 x0.f3 x0.f4 x0.f5 x0.f6 x0.f7 x0.f8 <;> simp

end Go.Proofs.Ytflnooigdbhpdaa.Pure
