/- How a slice of numbers that came in lies, and what its bulk says; no function of the program is named. -/
import Derived.Test.YtejieakikboedaaRows
import Derived.Lib.SmallJoins
import Derived.Test.YtejieakikboedaaK3
import Derived.ProofKit
import Derived.OpenShut
namespace Go.Proofs.Ytejieakikboedaa
open Go.ChangeShapes Go.WideShapes Go.ChangeAt Go.RowKit Go.Proofs.YtejieakikboedaaK
theorem bulk_one_le {H : Type} (d : DataW H) : 1 ≤ Rows.uptoBulk d := by
  cases d with
  | lit l => cases l <;> simp [Rows.uptoBulk]
  | nil => simp [Rows.uptoBulk]
  | ptr d => simp [Rows.uptoBulk]
  | slice elems spare => simp [Rows.uptoBulk]
  | agg parts => simp [Rows.uptoBulk]
  | iface t d => simp [Rows.uptoBulk]
  | map entries => simp [Rows.uptoBulk]
  | held h => simp [Rows.uptoBulk]
theorem bulk_length {H : Type} (l : List (DataW H)) : l.length ≤ Rows.uptoBulkAll l := by
  induction l with
  | nil => simp [Rows.uptoBulkAll]
  | cons x r ih => have := bulk_one_le x; simp only [Rows.uptoBulkAll, List.length_cons]; omega
theorem bulk_slice {H : Type} (elems spare : List (DataW H)) : elems.length + spare.length + 1 ≤ Rows.uptoBulk (.slice elems spare) := by
  have h1 := bulk_length elems
  have h2 := bulk_length spare
  simp only [Rows.uptoBulk]
  omega
theorem bulk_bound {H : Type} {l : List (DataW H)} (hk : Rows.uptoSmall H l = true) : Rows.uptoBulkAll l ≤ 1048576 := of_decide_eq_true hk
/-- A slice of numbers as it came in. -/
def ArgRow (k : IntKind) (w : World) (A : Option Addr) (c : Nat) (l : List Int) : Prop :=
  l.length ≤ c ∧ c ≤ 9223372036854775807 ∧ (A = none → c = 0) ∧ Rd w A (l.map (Value.int k)) ∧ ∀ x ∈ l, (Lit.int k x).wf = true
theorem open_argt {H : Type} {enc : TypeId × Value → H} {P : Program} {W : World} {T E : TypeId} {k : IntKind} {cs : List Value} {y : DataW H × List MemPlace} {fuel : Nat} (hT : P.underlying T = some (.slice E)) (hE : P.underlying E = some (.int k)) (hC : P.cellsOf E = 1)
    (hf : DataW.trod enc P W 0 (fun _ => true) true fuel T cs = some y) :
    ∃ A c l, cs = [.slice A l.length c] ∧ ArgRow k W A c l ∧ c + 1 ≤ Rows.uptoBulk y.1 := by
  obtain ⟨a0, len0, cap0, rfl⟩ := Go.Joins.slice_form hT hf
  obtain ⟨d, p⟩ := y
  rcases open_ints hT hE hC hf with ⟨hcs, hx⟩ | ⟨x, len, cap, zs, hcs, _, hl, hm, hz, hx, hcell, hwz⟩
  · simp at hcs
    obtain ⟨rfl, rfl, rfl⟩ := hcs
    refine ⟨none, 0, [], rfl, ⟨Nat.le_refl _, by omega, fun _ => rfl, Rd.nil _ _, fun x hx => by cases hx⟩, ?_⟩
    have := bulk_one_le d
    omega
  · simp at hcs
    obtain ⟨rfl, rfl, rfl⟩ := hcs
    have hz' : zs.length = cap0 := by simpa using hz
    have hlen : (zs.take len0).length = len0 := by simp; omega
    refine ⟨some x, cap0, zs.take len0, by rw [hlen], ⟨by omega, (by unfold maxLen at hm; exact hm), (fun h => by cases h), ?_, (fun y hy => hwz y (List.mem_of_mem_take hy))⟩, ?_⟩
    · intro i u hu
      rw [List.getElem?_map, List.getElem?_take] at hu
      split at hu
      · rename_i hi
        have hi2 : i < zs.length := by omega
        refine ⟨x, rfl, (hcell i hi2).trans ?_⟩
        rw [List.getElem?_eq_getElem hi2] at hu
        simp at hu
        rw [← hu, List.getD_eq_getElem?_getD, List.getElem?_eq_getElem hi2]
        rfl
      · cases hu
    · simp only [Prod.mk.injEq] at hx
      obtain ⟨rfl, _⟩ := hx
      have := bulk_slice (H := H) (lits k (zs.take len0)) (lits k (zs.drop len0))
      have e1 : (lits (H := H) k (zs.take len0)).length = len0 := by unfold lits; rw [List.length_map, hlen]
      have e2 : (lits (H := H) k (zs.drop len0)).length = zs.length - len0 := by unfold lits; rw [List.length_map, List.length_drop]
      rw [e1, e2] at this
      dsimp only
      omega
theorem open_arg {H : Type} {enc : TypeId × Value → H} {P : Program} {W : World} {T E : TypeId} {k : IntKind} {v : Value} {d : DataW H} {p : List MemPlace} (hT : P.underlying T = some (.slice E)) (hE : P.underlying E = some (.int k)) (hC : P.cellsOf E = 1)
    (hv : Value.okWide P W .any 0 T v) (h : DataW.Trod enc P W 0 (fun _ => true) true T v d p) :
    ∃ A c l, v = .slice A l.length c ∧ ArgRow k W A c l ∧ c + 1 ≤ Rows.uptoBulk d := by
  obtain ⟨a0, len0, cap0, rfl⟩ := okWide_slice hT hv
  obtain ⟨fuel, hf⟩ := h
  obtain ⟨A, c, l, hcs, ha, hb⟩ := open_argt hT hE hC (by simpa [Value.cells] using hf)
  injection hcs with hcs _
  exact ⟨A, c, l, hcs, ha, hb⟩
end Go.Proofs.Ytejieakikboedaa
