/- Codes that nobody made: what each function answers; the makers of Writer and Reader. Over the seat's program. -/
import Derived.Test.YtejieakikboedaaPe
namespace Go.Proofs.Ytejieakikboedaa
open Go.RowKit Go.Proofs.YtejieakikboedaaK
set_option linter.unusedVariables false
set_option linter.unusedSimpArgs false
theorem info5 : (Try.prog.info? 5).map (fun i => (i.zero, i.size, i.bytes)) = some (some (.int .u8 0), 1, 1) := by kernel_rfl
/-- A code that nobody made. -/
def NoneP (w : World) (p : Value) : Prop := p = .pointer none ∨ ∃ g, p = .pointer (some ⟨g, 0, none⟩) ∧ w.cell? ⟨g, 0, none⟩ = some (.slice none 0 0)
theorem none29u (w : World) (p : Value) (h : Hid (NoneP w p)) : Calls Try.prog 29 #[p] w (fun e w' => e = .returned (.bool true) ∧ w' = w) := by
  rcases h.out with rfl | ⟨g, rfl, h0⟩
  · exact none29n w
  · have hnil : ∀ W : World, Sem.run Try.prog (binOp .eql 50 (.slice none 0 0) (.slice none 0 0)) W = .ok (.bool true) W := fun W => by kernel_rfl
    go_enter Try.func29, Try.ntmps29
    go_wp2
    go_ret
    exact ⟨rfl, rfl⟩
theorem sym12u (w : World) (p : Value) (h : Hid (NoneP w p)) : Calls Try.prog 12 #[p] w (fun e w' => e = .returned (.int .i64 0) ∧ w' = w) := by
  go_enter Try.func12, Try.ntmps12
  go_wp2_with fail
  refine (none29u w p h).mono ?_
  rintro e w' ⟨rfl, rfl⟩
  go_wp2
  go_ret
  exact ⟨rfl, rfl⟩
theorem word13u (w : World) (p s : Value) (h : Hid (NoneP w p)) : Calls Try.prog 13 #[p, s] w (fun e w' => e = .returned (.tuple #[.int .u32 0, .int .i64 0, .int .i64 1]) ∧ w' = w) := by
  go_enter Try.func13, Try.ntmps13
  go_wp2_with fail
  refine (none29u w p h).mono ?_
  rintro e w' ⟨rfl, rfl⟩
  go_wp2
  go_ret3
  exact ⟨rfl, rfl⟩
theorem get17u (w : World) (p r : Value) (h : Hid (NoneP w p)) : Calls Try.prog 17 #[p, r] w (fun e w' => e = .returned (.tuple #[.int .i64 0, .int .i64 1]) ∧ w' = w) := by
  go_enter Try.func17, Try.ntmps17
  go_wp2_with fail
  refine (none29u w p h).mono ?_
  rintro e w' ⟨rfl, rfl⟩
  go_wp2
  go_ret2
  exact ⟨rfl, rfl⟩
theorem cost10u (w : World) (p r : Value) (h : Hid (NoneP w p)) : Calls Try.prog 10 #[p, r] w (fun e w' => e = .returned (.tuple #[.int .i64 0, .int .i64 1]) ∧ w' = w) := by
  go_enter Try.func10, Try.ntmps10
  go_wp2_with fail
  refine (none29u w p h).mono ?_
  rintro e w' ⟨rfl, rfl⟩
  go_wp2
  go_ret2
  exact ⟨rfl, rfl⟩
theorem put18u (w : World) (p r s : Value) (h : Hid (NoneP w p)) : Calls Try.prog 18 #[p, r, s] w (fun e w' => e = .returned (.int .i64 1) ∧ w' = w) := by
  go_enter Try.func18, Try.ntmps18
  go_wp2_with fail
  refine (none29u w p h).mono ?_
  rintro e w' ⟨rfl, rfl⟩
  go_wp2
  go_ret
  exact ⟨rfl, rfl⟩
/-- A clone of two bytes or more: its own row. -/
theorem clone30 (w : World) (a : Addr) (c : Nat) (l : List Int) (hl : l.length < 1000000000) (hr : Hid (Rd w (some a) (l.map (Value.int .u8)))) :
    Calls Try.prog 30 #[.slice (some a) l.length c] w fun e w' => ∃ v, e = .returned v ∧ Hid (w'.ownsRow w.heap.size 5 1 v l.length (l.map (Value.int .u8))) ∧ Hid (Below w.heap.size w w') ∧ w.heap.size ≤ w'.heap.size := by
  have b0 : Below w.heap.size w (w.alloc (.cells #[] 5)) := (Below.refl _ _).alloc (Nat.le_refl _) _
  have HB0 := Lib.hid b0
  have HO0 : Hid ((w.alloc (.cells #[] 5)).ownsRow w.heap.size 5 1 (.slice (some ⟨w.heap.size, 0, none⟩) 0 0) 0 []) := Lib.hid (World.ownsRow_lit w _ 0 (Nat.le_refl _) (by decide) rfl)
  have HR0 := Lib.hid (hr.out.below b0)
  have hlen := Lib.hid (show (l.map (Value.int .u8)).length = l.length from List.length_map ..)
  clear b0
  have hnil : ∀ W : World, Sem.run Try.prog (binOp .eql 49 (.slice (some a) l.length c) (.slice none 0 0)) W = .ok (.bool false) W := fun W => by kernel_rfl
  go_enter Try.func30, Try.ntmps30
  go_wp2_with ((with_reducible refine gate_builtin (b := .append) (xs := #[.tmp 5, .tmp 6]) rfl ?_); refine wpList_appRowAt rfl (.tmp 5) (.tmp 6) 49 5 (.int .u8 0) 1 rfl Try.underlying49 info5 rfl w.heap.size w.heap.size w _ _ _ rfl HO0 a _ _ rfl _ hlen HR0 (Lib.hid (ints_one _ _)) (by omega) (by omega) (by simp) (Nat.le_refl _) HB0 ?_; intro v1 w1 HO1 HB1 HBW1 hsz1)
  go_ret
  refine ⟨_, rfl, ?_, HB1, by simp at hsz1; omega⟩
  rw [Nat.zero_add, List.nil_append] at HO1
  exact HO1
theorem new15 (w : World) (b : Bool) : Calls Try.prog 15 #[.bool b] w fun e w' => ∃ cs, e = .returned (.pointer (some ⟨w.heap.size, 0, none⟩)) ∧ w' = w.alloc (.cells cs 74) ∧ cs = #[.bool true, .bool b, .slice none 0 0, .int .i64 0] := by
  go_enter Try.func15, Try.ntmps15
  go_wp2
  go_ret
  exact ⟨_, rfl, rfl, rfl⟩
end Go.Proofs.Ytejieakikboedaa
