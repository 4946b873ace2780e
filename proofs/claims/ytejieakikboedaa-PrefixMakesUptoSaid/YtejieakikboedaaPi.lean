/- PrefixMakes' walk, at arguments as a row has them. -/
import Derived.Test.YtejieakikboedaaPh
import Derived.Test.YtejieakikboedaaArg
namespace Go.Proofs.Ytejieakikboedaa
open Go.RowKit Go.Proofs.YtejieakikboedaaK
set_option linter.unusedVariables false
theorem makes_all (A : Option Addr) (c : Nat) (l : List Int) (most : Int) (loose : Bool) (A2 : Option Addr) (c2 : Nat) (cs : List Int) (far : Int) (w : World) (ha : ArgRow .i64 w A c l) (hc : c ≤ 1048576) (_h1 : -9223372036854775808 ≤ most ∧ most ≤ 9223372036854775807) (ha2 : ArgRow .i64 w A2 c2 cs) (hc2 : c2 ≤ 1048576) (_h2 : -9223372036854775808 ≤ far ∧ far ≤ 9223372036854775807) :
    Calls Try.prog 3 #[.agg #[.slice A l.length c, .int .i64 most, .bool loose], .slice A2 cs.length c2, .int .i64 far] w fun e w' => e = .returned (.bool true) ∧ Below w.heap.size w w' := by
  obtain ⟨h1, h2, h3, h4, h5⟩ := ha
  obtain ⟨k1, k2, k3, k4, k5⟩ := ha2
  exact makes3 A c l most loose A2 c2 cs far w (Lib.hid ⟨by omega, h3, h4, by omega, k4, fun x hx => (bounds_i64 (k5 x hx)).2⟩)
end Go.Proofs.Ytejieakikboedaa
