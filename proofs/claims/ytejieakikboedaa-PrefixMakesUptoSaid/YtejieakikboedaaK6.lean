/- What a count of symbols costs, plainly. No program is named. -/
import Derived.Test.YtejieakikboedaaK5
namespace Go.Proofs.YtejieakikboedaaK
open Go.RowKit
def lenAt (ws : List (Int × Int)) (k : Nat) : Int := (ws.getD k (0, 0)).2
def costSum (ws : List (Int × Int)) (cs : List Int) : Nat → Int
  | 0 => 0
  | k + 1 => costSum ws cs k + cs.getD k 0 * lenAt ws k
def costBad (ws : List (Int × Int)) (cs : List Int) : Nat → Bool
  | 0 => false
  | k + 1 => costBad ws cs k || (decide (cs.getD k 0 < 0) || (decide (0 < cs.getD k 0) && decide (lenAt ws k = 0)))
def costOver (ws : List (Int × Int)) (cs : List Int) : Nat → Bool
  | 0 => false
  | k + 1 => costOver ws cs k || (decide (0 < lenAt ws k) && decide ((4611686018427387904 - costSum ws cs k).tdiv (lenAt ws k) < cs.getD k 0))
def costOf (ws : List (Int × Int)) (cs : List Int) : Int × Int :=
  if ws.length < cs.length ∨ costBad ws cs cs.length = true then (0, 2) else if costOver ws cs cs.length = true then (0, 3) else (costSum ws cs cs.length, 0)
theorem costBad_mono (ws : List (Int × Int)) (cs : List Int) (k : Nat) : ∀ m, k ≤ m → costBad ws cs k = true → costBad ws cs m = true := by
  intro m
  induction m with
  | zero => intro h hk; rw [Nat.le_zero.1 h] at hk; exact hk
  | succ m ih =>
    intro h hk
    rcases Nat.lt_or_ge m k with h2 | h2
    · obtain rfl : k = m + 1 := by omega
      exact hk
    · simp only [costBad, ih h2 hk, Bool.true_or]
theorem costOver_mono (ws : List (Int × Int)) (cs : List Int) (k : Nat) : ∀ m, k ≤ m → costOver ws cs k = true → costOver ws cs m = true := by
  intro m
  induction m with
  | zero => intro h hk; rw [Nat.le_zero.1 h] at hk; exact hk
  | succ m ih =>
    intro h hk
    rcases Nat.lt_or_ge m k with h2 | h2
    · obtain rfl : k = m + 1 := by omega
      exact hk
    · simp only [costOver, ih h2 hk, Bool.true_or]
theorem costBad_at (ws : List (Int × Int)) (cs : List Int) (k n : Nat) (h : k < n) (hb : costBad ws cs n = false) : 0 ≤ cs.getD k 0 ∧ ¬(0 < cs.getD k 0 ∧ lenAt ws k = 0) := by
  have h1 : costBad ws cs (k + 1) = false := by
    cases hc : costBad ws cs (k + 1) with
    | false => rfl
    | true => rw [costBad_mono ws cs (k + 1) n h hc] at hb; cases hb
  simp only [costBad, Bool.or_eq_false_iff, decide_eq_false_iff_not, Bool.and_eq_false_iff] at h1
  omega
/-- One step of the second loop, where the first found nothing. -/
theorem cost_step (c l s : Int) (hc : 0 ≤ c) (hl : 0 ≤ l) (hs : 0 ≤ s ∧ s ≤ 4611686018427387904) (hz : ¬(0 < c ∧ l = 0)) (ho : ¬(0 < l ∧ (4611686018427387904 - s).tdiv l < c)) : 0 ≤ c * l ∧ s + c * l ≤ 4611686018427387904 := by
  refine ⟨Int.mul_nonneg hc hl, ?_⟩
  rcases Int.lt_or_le 0 l with h | h
  · have h1 : c ≤ (4611686018427387904 - s).tdiv l := Int.not_lt.1 (fun h2 => ho ⟨h, h2⟩)
    rw [Int.tdiv_eq_ediv_of_nonneg (by omega)] at h1
    have h2 := Int.mul_le_mul_of_nonneg_right h1 hl
    have h3 := Int.ediv_mul_le (4611686018427387904 - s) (show l ≠ 0 by omega)
    omega
  · obtain rfl : l = 0 := by omega
    rw [Int.mul_zero]
    omega
/-- A step that stays small, and what the quotient is then. -/
theorem cost_quo (l s : Int) (hl : 0 < l) (hs : 0 ≤ s ∧ s ≤ 4611686018427387904) : 0 ≤ (4611686018427387904 - s).tdiv l ∧ (4611686018427387904 - s).tdiv l ≤ 4611686018427387904 := by
  rw [Int.tdiv_eq_ediv_of_nonneg (by omega)]
  constructor
  · exact Int.ediv_nonneg (by omega) (by omega)
  · have := Int.ediv_le_self (a := 4611686018427387904 - s) l (by omega)
    omega
/-- The words that a code has: none, or of 1 to 20 bits. -/
def Wd (ws : List (Int × Int)) : Prop := ∀ p ∈ ws, p = (0, 0) ∨ (1 ≤ p.2 ∧ p.2 ≤ 20)
theorem Wd.at_ {ws : List (Int × Int)} (h : Wd ws) (k : Nat) : ws.getD k (0, 0) = (0, 0) ∨ 1 ≤ lenAt ws k ∧ lenAt ws k ≤ 20 := by
  unfold lenAt
  rw [List.getD_eq_getElem?_getD]
  cases hk : ws[k]? with
  | none => exact .inl rfl
  | some p => exact h p (List.mem_of_getElem? hk)
theorem Wd.len {ws : List (Int × Int)} (h : Wd ws) (k : Nat) : 0 ≤ lenAt ws k ∧ lenAt ws k ≤ 20 := by
  rcases h.at_ k with h1 | h1
  · unfold lenAt; rw [h1]; decide
  · omega
theorem wd_inn {ls : List Int} {l : Int} (hl : 1 ≤ l ∧ l ≤ 20) (st : Int × List (Int × Int) × List Int) (h : Wd st.2.1) (k : Nat) : Wd (inn ls l k st).2.1 := by
  induction k with
  | zero => exact h
  | succ k ih =>
    simp only [inn]
    split
    · intro p hp
      rcases List.mem_or_eq_of_mem_set hp with h1 | h1
      · exact ih p h1
      · rw [h1]; exact .inr hl
    · exact ih
theorem wd_lev (ls : List Int) (q : Nat) (hq : q ≤ 20) : Wd (lev ls q).2.1 := by
  induction q with
  | zero =>
    intro p hp
    simp only [lev] at hp
    exact .inl (List.eq_of_mem_replicate hp)
  | succ q ih =>
    simp only [lev]
    exact wd_inn (l := (q : Int) + 1) (by omega) (((lev ls q).1 * 2) % 4294967296, (lev ls q).2.1, (lev ls q).2.2) (ih (by omega)) _
end Go.Proofs.YtejieakikboedaaK
