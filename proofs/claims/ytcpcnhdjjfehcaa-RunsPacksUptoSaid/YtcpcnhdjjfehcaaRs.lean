/- Runs, plainly: what Unpack and Pack tell, as functions of lists of numbers. No program is named. -/
import Derived.Test.YtcpcnhdjjfehcaaK2
namespace Go.Proofs.YtcpcnhdjjfehcaaK
open Go.RowKit
/-- What has come out, and how many of the last bytes are alike, behind the first i bytes; none: too much. -/
def upStep (most : Int) (l : List Int) : Nat → Option (List Int × Nat)
  | 0 => some ([], 0)
  | i + 1 => (upStep most l i).bind fun p =>
    if p.2 = 4 then (if most - p.1.length < l.getD i 0 then none else some (p.1 ++ List.replicate (l.getD i 0).toNat (l.getD (i - 1) 0), 0))
    else if (p.1.length : Int) = most then none
    else some (p.1 ++ [l.getD i 0], if 0 < p.2 ∧ l.getD i 0 = l.getD (i - 1) 0 then p.2 + 1 else 1)
theorem upStep_none (most : Int) (l : List Int) (i j : Nat) (h : upStep most l i = none) : upStep most l (i + j) = none := by
  induction j with
  | zero => exact h
  | succ j ih => show (upStep most l (i + j)).bind _ = none; rw [ih]; rfl
def upAll (most : Int) (l : List Int) : List Int × Int :=
  if most < 0 then ([], 2) else match upStep most l l.length with
    | none => ([], 3)
    | some p => if p.2 = 4 then ([], 10) else (p.1, 0)
theorem up_out {most : Int} {l : List Int} {i : Nat} (h0 : 0 ≤ most) (hi : i ≤ l.length) (h : upStep most l i = none) : upAll most l = ([], 3) := by
  unfold upAll
  rw [if_neg (by omega)]
  have := upStep_none most l i (l.length - i) h
  rw [show i + (l.length - i) = l.length by omega] at this
  rw [this]
theorem up_succ (most : Int) (l : List Int) (i : Nat) {o : List Int} {k : Nat} (h : upStep most l i = some (o, k)) {x : Int} (hx : l.getD i 0 = x) : upStep most l (i + 1) =
    if k = 4 then (if most - o.length < x then none else some (o ++ List.replicate x.toNat (l.getD (i - 1) 0), 0))
    else if (o.length : Int) = most then none else some (o ++ [x], if 0 < k ∧ x = l.getD (i - 1) 0 then k + 1 else 1) := by
  show (upStep most l i).bind _ = _
  rw [h, hx]
  rfl
theorem up_end {most : Int} {l : List Int} {o : List Int} {k : Nat} (h0 : 0 ≤ most) (h : upStep most l l.length = some (o, k)) : upAll most l = if k = 4 then ([], 10) else (o, 0) := by
  unfold upAll
  rw [if_neg (by omega), h]
end Go.Proofs.YtcpcnhdjjfehcaaK
