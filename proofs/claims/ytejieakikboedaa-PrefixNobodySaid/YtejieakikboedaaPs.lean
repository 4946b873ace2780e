/- Prefix codes, plainly: the words of lengths, level by level. No program is named. -/
import Derived.Test.YtejieakikboedaaK3
namespace Go.Proofs.YtejieakikboedaaK
open Go.RowKit
/-- Behind the first k symbols of a level l: the next word, the words, the symbols in order. -/
def inn (ls : List Int) (l : Int) : Nat → Int × List (Int × Int) × List Int → Int × List (Int × Int) × List Int
  | 0, st => st
  | k + 1, st => if ls.getD k 0 = l then (((inn ls l k st).1 + 1) % 4294967296, (inn ls l k st).2.1.set k ((inn ls l k st).1, l), (inn ls l k st).2.2 ++ [(k : Int)]) else inn ls l k st
def lev (ls : List Int) : Nat → Int × List (Int × Int) × List Int
  | 0 => (0, List.replicate ls.length (0, 0), [])
  | l + 1 => inn ls ((l : Int) + 1) ls.length (((lev ls l).1 * 2) % 4294967296, (lev ls l).2.1, (lev ls l).2.2)
/-- Does a list make a code? 0, or the error. -/
def sumOf (ls : List Int) : Int := (ls.map (fun l => if 0 < l then (2 : Int) ^ (20 - l).toNat else 0)).sum
def cntOf (ls : List Int) : Int := (ls.map (fun l => if 0 < l then (1 : Int) else 0)).sum
def oneOf (ls : List Int) : Int := (ls.map (fun l => if l = 1 then (1 : Int) else 0)).sum
def oddB (most l : Int) : Bool := decide (l < 0) || decide (most < l)
def badArg (ls : List Int) (most : Int) : Bool := decide (most < 1) || decide (20 < most) || decide ((ls.length : Int) < 1) || decide (65536 < (ls.length : Int)) || ls.any (oddB most)
def fullB (ls : List Int) (loose : Bool) : Bool := decide (sumOf ls = 1048576) || (loose && (decide (cntOf ls = 0) || (decide (cntOf ls = 1) && decide (sumOf ls = 524288))))
def newErr (ls : List Int) (most : Int) (loose : Bool) : Int := if badArg ls most = true then 2 else if fullB ls loose = true then 0 else 13
theorem sumOf_snoc (ls : List Int) (k : Nat) (h : k < ls.length) : sumOf (ls.take (k + 1)) = sumOf (ls.take k) + (if 0 < ls.getD k 0 then (2 : Int) ^ (20 - ls.getD k 0).toNat else 0) := by
  unfold sumOf
  rw [List.take_succ_eq_append_getElem h, List.map_append, List.sum_append]
  simp [List.getD_eq_getElem?_getD, List.getElem?_eq_getElem h]
theorem cntOf_snoc (ls : List Int) (k : Nat) (h : k < ls.length) : cntOf (ls.take (k + 1)) = cntOf (ls.take k) + (if 0 < ls.getD k 0 then 1 else 0) := by
  unfold cntOf
  rw [List.take_succ_eq_append_getElem h, List.map_append, List.sum_append]
  simp [List.getD_eq_getElem?_getD, List.getElem?_eq_getElem h]
theorem oneOf_snoc (ls : List Int) (k : Nat) (h : k < ls.length) : oneOf (ls.take (k + 1)) = oneOf (ls.take k) + (if ls.getD k 0 = 1 then 1 else 0) := by
  unfold oneOf
  rw [List.take_succ_eq_append_getElem h, List.map_append, List.sum_append]
  simp [List.getD_eq_getElem?_getD, List.getElem?_eq_getElem h]
theorem pow_le_20 (x : Int) (h : 0 < x) : 1 ≤ (2 : Int) ^ (20 - x).toNat ∧ (2 : Int) ^ (20 - x).toNat ≤ 524288 := by
  have : (20 - x).toNat ≤ 19 := by omega
  have h1 : (2 : Int) ^ (20 - x).toNat ≤ 2 ^ 19 := by
    have := Nat.pow_le_pow_right (show 0 < 2 by omega) this
    exact_mod_cast this
  have h2 : (1 : Int) ≤ (2 : Int) ^ (20 - x).toNat := by
    have := Nat.one_le_two_pow (n := (20 - x).toNat)
    exact_mod_cast this
  exact ⟨h2, by simpa using h1⟩
theorem sum_bd (ls : List Int) (k : Nat) (h : k ≤ ls.length) : 0 ≤ sumOf (ls.take k) ∧ sumOf (ls.take k) ≤ 524288 * k ∧ 0 ≤ cntOf (ls.take k) ∧ cntOf (ls.take k) ≤ k ∧ 0 ≤ oneOf (ls.take k) ∧ oneOf (ls.take k) ≤ k := by
  induction k with
  | zero => simp [sumOf, cntOf, oneOf]
  | succ k ih =>
    have := ih (by omega)
    rw [sumOf_snoc ls k h, cntOf_snoc ls k h, oneOf_snoc ls k h]
    have hp := pow_le_20 (ls.getD k 0)
    split <;> split <;> (try have := hp ‹_›) <;> omega
/-- What oneOf asks is what the sum asks, where there is one word. -/
theorem one_sum (ls : List Int) (hb : ∀ x ∈ ls, 0 ≤ x ∧ x ≤ 20) : cntOf ls = 0 ∧ oneOf ls = 0 ∧ sumOf ls = 0 ∨ cntOf ls = 1 ∧ (oneOf ls = 1 ∧ sumOf ls = 524288 ∨ oneOf ls = 0 ∧ sumOf ls ≤ 262144) ∨ 2 ≤ cntOf ls := by
  induction ls with
  | nil => simp [cntOf, oneOf, sumOf]
  | cons x r ih =>
    have hr := ih (fun y hy => hb y (List.mem_cons_of_mem _ hy))
    have hx := hb x List.mem_cons_self
    have e1 : cntOf (x :: r) = (if 0 < x then 1 else 0) + cntOf r := by simp [cntOf]
    have e2 : oneOf (x :: r) = (if x = 1 then 1 else 0) + oneOf r := by simp [oneOf]
    have e3 : sumOf (x :: r) = (if 0 < x then (2 : Int) ^ (20 - x).toNat else 0) + sumOf r := by simp [sumOf]
    rw [e1, e2, e3]
    by_cases h0 : 0 < x
    · rw [if_pos h0, if_pos h0]
      by_cases h1 : x = 1
      · subst h1
        simp only [if_true]
        have : (2 : Int) ^ (20 - 1 : Int).toNat = 524288 := by decide
        rw [this]
        omega
      · rw [if_neg h1]
        have h2 : (2 : Int) ^ (20 - x).toNat ≤ 262144 := by
          have : (20 - x).toNat ≤ 18 := by omega
          have := Nat.pow_le_pow_right (show 0 < 2 by omega) this
          have h3 : (2 : Int) ^ (20 - x).toNat ≤ 2 ^ 18 := by exact_mod_cast this
          simpa using h3
        omega
    · rw [if_neg h0, if_neg h0, if_neg (by omega)]
      omega
end Go.Proofs.YtejieakikboedaaK
