/- The library's TrailingZeros64, by the kit's contract, told as M tells functions; what the table is known to hold. Conditions: none. -/
import Derived.Test.YteohpijdidlaeaaDoorM6
import Derived.Test.YteohpijdidlaeaaDoorProg
import Derived.Shelf.Spec.TrailingZeros
namespace Go.Proofs.YteohpijdidlaeaaDoorX
open Go Go.Proofs.YteohpijdidlaeaaDoorM
set_option maxRecDepth 100000
def tzR : Go.Shelf.Ren := ⟨fun _ => 24, fun t => if t = 22 then 24 else if t = 25 then 45 else if t = 54 then 48 else if t = 3 then 3 else if t = 4 then 4 else if t = 5 then 5 else 0, fun _ => 0⟩
theorem tzL : Lays7.n29 Tryd.prog tzR where
  mixed := by kernel_rfl
  f29 := by kernel_rfl
  t0 := by kernel_rfl
  a0 := fun w => by kernel_rfl
  z0 := fun w => by kernel_rfl
  v0 := fun w => by kernel_rfl
  i0 := by kernel_rfl
  t3 := by kernel_rfl
  a3 := fun w => by kernel_rfl
  z3 := fun w => by kernel_rfl
  v3 := fun w => by kernel_rfl
  i3 := by kernel_rfl
  t4 := by kernel_rfl
  a4 := fun w => by kernel_rfl
  z4 := fun w => by kernel_rfl
  v4 := fun w => by kernel_rfl
  i4 := by kernel_rfl
  t5 := by kernel_rfl
  a5 := fun w => by kernel_rfl
  z5 := fun w => by kernel_rfl
  v5 := fun w => by kernel_rfl
  i5 := by kernel_rfl
  t22 := by kernel_rfl
  a22 := fun w => by kernel_rfl
  z22 := fun w => by kernel_rfl
  v22 := fun w => by kernel_rfl
  i22 := by kernel_rfl
  t25 := by kernel_rfl
  a25 := fun w => by kernel_rfl
  z25 := fun w => by kernel_rfl
  v25 := fun w => by kernel_rfl
  i25 := by kernel_rfl
  t54 := by kernel_rfl
  a54 := fun w => by kernel_rfl
  z54 := fun w => by kernel_rfl
  g1 := by kernel_rfl
abbrev tzap : Pat := ⟨[.one (.int .u64)], []⟩
abbrev tzrp : List Pat := [⟨[.one (.int .i64)], []⟩]
def tz64 (x : (Int × Unit) × Unit) : Option ((Int × Unit) × Unit) := if 0 ≤ x.1.1 ∧ x.1.1 < 18446744073709551616 then some ((((Lib.ctz 64 x.1.1.toNat : Nat) : Int), ()), ()) else none
theorem tz64_sound {P : Program} {ρ : Go.Shelf.Ren} (L : Lays7.n29 P ρ) : FSound P (ρ.f 29) (specOf tzap tzrp true tz64) := by
  refine ⟨fun _ => ⟨⟨_, L.f29, rfl, rfl⟩, ?_⟩, fun m h => by cases h⟩
  intro A j H w args vals y hx hI ha
  obtain ⟨x, h1, h2⟩ : ∃ x : (Int × Unit) × Unit, tzap.prj (VSs.ron tzap.vs args) H = some x ∧ tz64 x = some y := Option.bind_eq_some_iff.1 hx
  unfold tz64 at h2
  split at h2
  · rename_i hb
    cases h2
    have e := Pat.prj_inj _ h1
    have e1 : [V1.one (.int .u64 x.1.1)] = VSs.ron tzap.vs args := congrArg Prod.fst e
    have e2 : [] = H := congrArg Prod.snd e
    subst e2
    have hr := VSs.ron_rel (l := tzap.vs) ha
    rw [← e1] at hr
    obtain ⟨v, m, hv, hv1, hm⟩ := hr.cons_left
    obtain rfl := hm.nil_left
    obtain rfl : vals = #[v] := by cases vals; simp_all
    obtain rfl : v = .int .u64 x.1.1 := by
      rcases hv1 with h | h
      · cases h
      · exact h.2
    obtain ⟨n, hn⟩ : ∃ n : Nat, x.1.1 = n := ⟨x.1.1.toNat, (Int.toNat_of_nonneg hb.1).symm⟩
    have hT : TabAt (ρ.g 1) Lib.deBruijn64tab w := (hI.gl _ L.g1).2.2
    have c := Any7.bits_TrailingZeros64 L n (by omega) w (fun _ => hT)
    have e3 : (#[Value.int .u64 x.1.1] : Array Value) = #[.int .u64 (n : Int)] := by rw [hn]
    rw [e3]
    refine c.mono fun e w' hp => ?_
    obtain ⟨he, hw⟩ := hp
    subst hw
    exact ⟨_, j, he, hI, .inr ⟨rfl, by
      show Value.int .i64 ((Lib.ctz 64 n : Nat) : Int) = Value.int .i64 ((Lib.ctz 64 (x.1.1.toNat) : Nat) : Int)
      rw [hn]; rfl⟩⟩
  · cases h2
end Go.Proofs.YteohpijdidlaeaaDoorX
