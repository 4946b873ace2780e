/- Runs written shorter, plainly. No program is named. -/
import Derived.Test.YtcpcnhdjjfehcaaK2
namespace Go.Proofs.YtcpcnhdjjfehcaaK
open Go.RowKit
/-- How long the run at the beginning is found to be, from n on. -/
def runFrom (l : List Int) : Nat → Nat → Nat
  | 0, n => n
  | f + 1, n => if n < l.length ∧ l.getD n 0 = l.getD 0 0 then runFrom l f (n + 1) else n
def runLen (l : List Int) : Nat := runFrom l 258 1
theorem runFrom_step {l : List Int} {n R : Nat} (h : runFrom l (259 - n) n = R) (hn : n < 259) (h1 : n < l.length) (h2 : l.getD n 0 = l.getD 0 0) : runFrom l (259 - (n + 1)) (n + 1) = R := by
  obtain ⟨f, hf⟩ : ∃ f, 259 - n = f + 1 := ⟨258 - n, by omega⟩
  rw [hf] at h
  rw [show 259 - (n + 1) = f by omega]
  simp only [runFrom] at h
  rwa [if_pos ⟨h1, h2⟩] at h
theorem runFrom_end {l : List Int} {n R : Nat} (h : runFrom l (259 - n) n = R) (h1 : ¬ (n < 259 ∧ n < l.length ∧ l.getD n 0 = l.getD 0 0)) : R = n := by
  rcases Nat.lt_or_ge n 259 with hn | hn
  · obtain ⟨f, hf⟩ : ∃ f, 259 - n = f + 1 := ⟨258 - n, by omega⟩
    rw [hf] at h
    simp only [runFrom] at h
    rw [if_neg (fun h2 => h1 ⟨hn, h2⟩)] at h
    exact h.symm
  · rw [show 259 - n = 0 by omega] at h
    exact h.symm
theorem runFrom_succ (l : List Int) (f n : Nat) : runFrom l (f + 1) n = if n < l.length ∧ l.getD n 0 = l.getD 0 0 then runFrom l f (n + 1) else n := rfl
theorem runFrom_zero {l : List Int} (h : 0 < l.length) : runFrom l (259 - 0) 0 = runLen l := by
  rw [show 259 - 0 = 258 + 1 from rfl, runFrom_succ, if_pos ⟨h, rfl⟩]
  rfl
theorem runFrom_all (l : List Int) : ∀ f n, n ≤ l.length → (∀ i, i < n → l.getD i 0 = l.getD 0 0) → n ≤ runFrom l f n ∧ runFrom l f n ≤ n + f ∧ runFrom l f n ≤ l.length ∧ ∀ i, i < runFrom l f n → l.getD i 0 = l.getD 0 0
  | 0, n, h, ha => ⟨Nat.le_refl _, Nat.le_refl _, h, ha⟩
  | f + 1, n, h, ha => by
    simp only [runFrom]
    by_cases hc : n < l.length ∧ l.getD n 0 = l.getD 0 0
    · rw [if_pos hc]
      have := runFrom_all l f (n + 1) hc.1 (fun i hi => by
        rcases Nat.lt_or_ge i n with h1 | h1
        · exact ha i h1
        · obtain rfl : i = n := by omega
          exact hc.2)
      exact ⟨by omega, by omega, this.2.2⟩
    · rw [if_neg hc]
      exact ⟨Nat.le_refl _, by omega, h, ha⟩
theorem runLen_all {l : List Int} (h : 0 < l.length) : 1 ≤ runLen l ∧ runLen l ≤ 259 ∧ runLen l ≤ l.length ∧ ∀ i, i < runLen l → l.getD i 0 = l.getD 0 0 :=
  runFrom_all l 258 1 h (fun i hi => by have h0 : i = 0 := (by omega); subst h0; rfl)
theorem take_rep {l : List Int} (h : 0 < l.length) (m : Nat) (hm : m ≤ runLen l) : l.take m = List.replicate m (l.getD 0 0) := by
  obtain ⟨_, _, h2, h3⟩ := runLen_all h
  refine List.ext_getElem (by simp; omega) (fun i h4 h5 => ?_)
  simp at h5
  rw [List.getElem_take, List.getElem_replicate]
  have := h3 i (by omega)
  rw [List.getD_eq_getElem?_getD, List.getElem?_eq_getElem (by omega)] at this
  exact this
/-- A run as it is written. -/
def runOut (l : List Int) : List Int := List.replicate (min (runLen l) 4) (l.getD 0 0) ++ (if 4 ≤ runLen l then [(runLen l : Int) - 4] else [])
def pk : Nat → List Int → List Int
  | 0, _ => []
  | f + 1, l => if l.length = 0 then [] else runOut l ++ pk f (l.drop (runLen l))
theorem pk_fuel : ∀ f g (l : List Int), l.length ≤ f → l.length ≤ g → pk f l = pk g l
  | 0, 0, l, _, _ => rfl
  | 0, g + 1, l, h, _ => by simp only [pk]; rw [if_pos (by omega)]
  | f + 1, 0, l, _, h => by simp only [pk]; rw [if_pos (by omega)]
  | f + 1, g + 1, l, h, h' => by
    simp only [pk]
    by_cases h0 : l.length = 0
    · rw [if_pos h0, if_pos h0]
    · rw [if_neg h0, if_neg h0]
      have := runLen_all (l := l) (by omega)
      rw [pk_fuel f g _ (by rw [List.length_drop]; omega) (by rw [List.length_drop]; omega)]
def packAll (l : List Int) : List Int := pk l.length l
theorem pack_step {l : List Int} (h : 0 < l.length) : packAll l = runOut l ++ packAll (l.drop (runLen l)) := by
  unfold packAll
  have := runLen_all h
  obtain ⟨f, hf⟩ : ∃ f, l.length = f + 1 := ⟨l.length - 1, by omega⟩
  rw [hf]
  simp only [pk]
  rw [if_neg (by omega), pk_fuel f (l.drop (runLen l)).length _ (by rw [List.length_drop]; omega) (Nat.le_refl _)]
theorem pack_nil : packAll [] = [] := rfl
theorem runOut_len {l : List Int} (h : 0 < l.length) : (runOut l).length ≤ 2 * runLen l := by
  have := runLen_all h
  unfold runOut
  rw [List.length_append, List.length_replicate]
  split <;> simp <;> omega
theorem pack_close4 {r out l : List Int} {n m : Nat} (h0 : 0 < r.length) (hen : runLen r = n) (hm : m = min n 4) (hp : out ++ packAll r = packAll l) (h4 : 4 ≤ n) : (out ++ r.take m ++ [(n : Int) - 4]) ++ packAll (r.drop n) = packAll l := by
  rw [← hp, pack_step h0, runOut, hen, if_pos h4, take_rep h0 m (by rw [hen]; omega), hm]
  simp only [List.append_assoc]
theorem pack_close0 {r out l : List Int} {n m : Nat} (h0 : 0 < r.length) (hen : runLen r = n) (hm : m = min n 4) (hp : out ++ packAll r = packAll l) (h4 : ¬ 4 ≤ n) : (out ++ r.take m) ++ packAll (r.drop n) = packAll l := by
  rw [← hp, pack_step h0, runOut, hen, if_neg h4, take_rep h0 m (by rw [hen]; omega), hm]
  simp only [List.append_assoc, List.append_nil]
theorem pack_rep {l r out : List Int} {n : Nat} {x : Int} (h0 : 0 < r.length) (hx : r.getD 0 0 = x) (hen : runLen r = n) (hp : out ++ packAll r = packAll l) : (out ++ List.replicate (min n 4) x ++ (if 4 ≤ n then [(n : Int) - 4] else [])) ++ packAll (r.drop n) = packAll l := by
  rw [← hp, pack_step h0, runOut, hen, hx]
  simp only [List.append_assoc]
end Go.Proofs.YtcpcnhdjjfehcaaK
