/- A prefix code's block: its 69 cells. No program is named. -/
import Derived.Test.YtejieakikboedaaK4
namespace Go.Proofs.YtejieakikboedaaK
open Go.RowKit
def upd (F : Nat → Int) (i : Nat) (x : Int) : Nat → Int := fun j => if j = i then x else F j
def col (k : IntKind) (F : Nat → Int) : List Value := (List.range 22).map fun i => .int k (F i)
theorem col_len (k : IntKind) (F : Nat → Int) : (col k F).length = 22 := by simp [col]
theorem col_at (k : IntKind) (F : Nat → Int) (i : Nat) (h : i < 22) : (col k F)[i]? = some (.int k (F i)) := by
  unfold col
  rw [List.getElem?_map, List.getElem?_range h]
  rfl
theorem col_set (k : IntKind) (F : Nat → Int) (i : Nat) (x : Int) : (col k F).set i (.int k x) = col k (upd F i x) := by
  refine List.ext_getElem? fun j => ?_
  rw [List.getElem?_set]
  by_cases hj : j < 22
  · rw [col_at k F j hj, col_at k (upd F i x) j hj]
    by_cases he : i = j
    · subst he
      rw [if_pos rfl, if_pos (by rw [col_len]; exact hj)]
      unfold upd
      rw [if_pos rfl]
    · rw [if_neg he]
      unfold upd
      rw [if_neg (fun h => he h.symm)]
  · have h1 : (col k (upd F i x))[j]? = none := List.getElem?_eq_none (by rw [col_len]; omega)
    have h2 : (col k F)[j]? = none := List.getElem?_eq_none (by rw [col_len]; omega)
    rw [h1, h2]
    split
    · rw [if_neg (by rw [col_len]; omega)]
    · rfl
/-- words · first · count · place · sorted · most -/
def codeC (wsl : Value) (F C P : Nat → Int) (sl : Value) (most : Int) : List Value := wsl :: (col .u32 F ++ (col .i64 C ++ (col .i64 P ++ [sl, .int .i64 most])))
theorem code_len (wsl : Value) (F C P : Nat → Int) (sl : Value) (most : Int) : (codeC wsl F C P sl most).length = 69 := by simp [codeC, col_len]
section
variable (wsl : Value) (F C P : Nat → Int) (sl : Value) (most : Int)
theorem code_0 : (codeC wsl F C P sl most)[0]? = some wsl := rfl
theorem code_first (i : Nat) (h : i < 22) : (codeC wsl F C P sl most)[1 + i]? = some (.int .u32 (F i)) := by
  rw [Nat.add_comm, codeC, List.getElem?_cons_succ, List.getElem?_append_left (by rw [col_len]; exact h), col_at _ _ _ h]
theorem code_count (i : Nat) (h : i < 22) : (codeC wsl F C P sl most)[23 + i]? = some (.int .i64 (C i)) := by
  rw [show 23 + i = (22 + i) + 1 by omega, codeC, List.getElem?_cons_succ, List.getElem?_append_right (by rw [col_len]; omega), col_len, show 22 + i - 22 = i by omega, List.getElem?_append_left (by rw [col_len]; exact h), col_at _ _ _ h]
theorem code_place (i : Nat) (h : i < 22) : (codeC wsl F C P sl most)[45 + i]? = some (.int .i64 (P i)) := by
  rw [show 45 + i = (44 + i) + 1 by omega, codeC, List.getElem?_cons_succ, List.getElem?_append_right (by rw [col_len]; omega), col_len, List.getElem?_append_right (by rw [col_len]; omega), col_len, show 44 + i - 22 - 22 = i by omega, List.getElem?_append_left (by rw [col_len]; exact h), col_at _ _ _ h]
theorem code_67 : (codeC wsl F C P sl most)[67]? = some sl := rfl
theorem code_68 : (codeC wsl F C P sl most)[68]? = some (.int .i64 most) := rfl
theorem code_set_first (i : Nat) (h : i < 22) (x : Int) : (codeC wsl F C P sl most).set (1 + i) (.int .u32 x) = codeC wsl (upd F i x) C P sl most := by
  rw [Nat.add_comm, codeC, List.set_cons_succ, List.set_append_left _ _ (by rw [col_len]; exact h), col_set]
  rfl
theorem code_set_count (i : Nat) (h : i < 22) (x : Int) : (codeC wsl F C P sl most).set (23 + i) (.int .i64 x) = codeC wsl F (upd C i x) P sl most := by
  rw [show 23 + i = (22 + i) + 1 by omega, codeC, List.set_cons_succ, List.set_append_right _ _ (by rw [col_len]; omega), col_len, show 22 + i - 22 = i by omega, List.set_append_left _ _ (by rw [col_len]; exact h), col_set]
  rfl
theorem code_set_place (i : Nat) (h : i < 22) (x : Int) : (codeC wsl F C P sl most).set (45 + i) (.int .i64 x) = codeC wsl F C (upd P i x) sl most := by
  rw [show 45 + i = (44 + i) + 1 by omega, codeC, List.set_cons_succ, List.set_append_right _ _ (by rw [col_len]; omega), col_len, List.set_append_right _ _ (by rw [col_len]; omega), col_len, show 44 + i - 22 - 22 = i by omega, List.set_append_left _ _ (by rw [col_len]; exact h), col_set]
  rfl
theorem code_set_67 (v : Value) : (codeC wsl F C P sl most).set 67 v = codeC wsl F C P v most := rfl
theorem code_zero : codeC (.slice none 0 0) (fun _ => 0) (fun _ => 0) (fun _ => 0) (.slice none 0 0) 0 = .slice none 0 0 :: (List.replicate 22 (.int .u32 0) ++ List.replicate 44 (.int .i64 0) ++ [.slice none 0 0, .int .i64 0]) := rfl
theorem code_set0 (v : Value) : (codeC wsl F C P sl most).set 0 v = codeC v F C P sl most := rfl
theorem code_set68 (m : Int) : (codeC wsl F C P sl most).set 68 (.int .i64 m) = codeC wsl F C P sl m := rfl
theorem code_nil : (codeC wsl F C P sl most = []) = False := by simp [codeC]
end
/-- append of one value, the new box's number spelled otherwise. -/
theorem wpList_app1N {P : Program} {wr : World} {ops : Array Oper} {rest : List Oper} {o : Oper} {a : Act} {Q : Exit → Act → World → Prop} (N : Nat) (hN : Hid (N = wr.heap.size)) (hgd : o.guard = none) (s x : Operand) (t e : TypeId) (z : Value) (bytes : Nat)
    (ho : o.op = .call { callee := .builtin .append, args := #[s, x], argTypes := #[t, t] }) (ht : P.underlying t = some (.slice e))
    (hinfo : (P.info? e).map (fun i => (i.zero, i.size, i.bytes)) = some (some z, 1, bytes)) (hzs : z.cells.size = 1)
    (base B : Nat) (w0 : World) (v : Value) (n : Nat) (xs : List Value) (hs : a.eval s = v) (hown : Hid (wr.ownsRow base e 1 v n xs)) (u : Value) (hu : u.oneCell' = true)
    (hx : a.eval x = .slice (some ⟨N, 0, none⟩) 1 1) (hn : n < 1000000000000) (hbytes : bytes ≤ 128) (hbase : base ≤ wr.heap.size) (hB : B ≤ base) (hb : Hid (Below B w0 wr))
    (h : ∀ v' w', Hid (w'.ownsRow base e 1 v' (n + 1) (xs ++ [u])) → Hid (Below B w0 w') → wr.heap.size ≤ w'.heap.size → wpList P ops Q rest (a.put o.dst v') w') :
    wpList P ops Q (o :: rest) a (wr.alloc (.cells #[u] e)) := by
  rw [hN.out] at hx
  exact wpList_app1 hgd s x t e z bytes ho ht hinfo hzs base B w0 v n xs hs hown u hu hx hn hbytes hbase hB hb h
end Go.Proofs.YtejieakikboedaaK
